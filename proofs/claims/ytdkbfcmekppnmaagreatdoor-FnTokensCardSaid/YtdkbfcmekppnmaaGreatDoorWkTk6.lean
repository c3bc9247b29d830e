import Derived.Test.YtdkbfcmekppnmaaGreatDoorWkTk5
namespace Go.Proofs.YtdkbfcmekppnmaaGreatDoor
open Go.Sx Go.Sy IntKind Tryz
attribute [local irreducible] Go.wpList Go.wpStill Go.wpQuiet Go.Code.wp
set_option maxRecDepth 100000
set_option maxHeartbeats 1000000
set_option linter.unusedVariables false
set_option linter.unusedSimpArgs false
def spec_l1token.l0 (_k : Nat) (x1 : List UInt8) (x6 : Int) (x52 : Int) (x53 : Int) : Option (Token × Int) := (if x6 ≤ (i64.wrap (x6 + x53)) then (if (i64.wrap (x6 + x53)) ≤ (x1.length : Int) then ((spec_l1copy.f ((x1.drop ((x6 : Int).toNat)).take (((i64.wrap (x6 + x53)) : Int).toNat - (x6 : Int).toNat))).bind fun t581 => (if (t581.length : Int) > 100 then some ((⟨0, 0, 0, [], 0⟩ : Token), 3) else some ((⟨x52, x6, x53, t581, 0⟩ : Token), 0))) else none) else none)
def spec_l1token.l1 (k : Nat) (x1 : List UInt8) (x6 : Int) (x161 : Int) : Option (Token × Int) := ((spec_l1text.f k x1 x6).bind fun t171 => (if t171.2 = 0 then some ((⟨0, 0, 0, [], 0⟩ : Token), 2) else (if (t171.1.length : Int) > 100 then some ((⟨0, 0, 0, [], 0⟩ : Token), 3) else some ((⟨x161, x6, t171.2, t171.1, 0⟩ : Token), 0))))
def spec_l1token.l2 (k : Nat) (x1 : List UInt8) (x6 : Int) (x383 : Int) : Option (Token × Int) := ((spec_l1text.f k x1 x6).bind fun t393 => (if t393.2 = 0 then some ((⟨0, 0, 0, [], 0⟩ : Token), 2) else (if (t393.1.length : Int) > 100 then some ((⟨0, 0, 0, [], 0⟩ : Token), 3) else some ((⟨x383, x6, t393.2, t393.1, 0⟩ : Token), 0))))
def spec_l1token.f (k : Nat) (x1 : List UInt8) (x6 : Int) (x7 : Bool) : Option (Token × Int) := (if 0 ≤ x6 then (if x6 < (x1.length : Int) then ((spec_l1digit.f (x1.getD ((x6).toNat) (0 : UInt8))).bind fun t30 => (if t30 = true then ((spec_l1number.f k x1 x6).bind fun t37 => some ((⟨3, x6, t37.2.1, [], t37.1⟩ : Token), t37.2.2)) else ((spec_l1alnum.f (x1.getD ((x6).toNat) (0 : UInt8))).bind fun t58 => (if t58 = true then ((spec_l1run.f k x1 x6 false).bind fun t65 => ((spec_l1small.f (x1.getD ((x6).toNat) (0 : UInt8))).bind fun t75 => (if ¬ (t75 = true) then (spec_l1token.l0 0 x1 x6 2 t65) else (spec_l1token.l0 0 x1 x6 1 t65)))) else (if ((x1.getD ((x6).toNat) (0 : UInt8)).toNat : Int) = 46 then (if (i64.wrap (x6 + 1)) = (x1.length : Int) then some ((⟨7, x6, 1, [], 0⟩ : Token), 0) else (if 0 ≤ (i64.wrap (x6 + 1)) then (if (i64.wrap (x6 + 1)) < (x1.length : Int) then ((spec_l1blank.f (x1.getD (((i64.wrap (x6 + 1))).toNat) (0 : UInt8))).bind fun t103 => (if t103 = true then some ((⟨7, x6, 1, [], 0⟩ : Token), 0) else (if ((x1.getD (((i64.wrap (x6 + 1))).toNat) (0 : UInt8)).toNat : Int) = 37 then some ((⟨7, x6, 1, [], 0⟩ : Token), 0) else ((spec_l1symbol.f k (x1.getD ((x6).toNat) (0 : UInt8))).bind fun t131 => (if t131 = true then ((spec_l1run.f k x1 x6 true).bind fun t138 => (spec_l1token.l0 0 x1 x6 1 t138)) else (if ((x1.getD ((x6).toNat) (0 : UInt8)).toNat : Int) = 33 then (spec_l1token.l0 0 x1 x6 1 1) else (if ((x1.getD ((x6).toNat) (0 : UInt8)).toNat : Int) = 59 then (spec_l1token.l0 0 x1 x6 1 1) else (if ((x1.getD ((x6).toNat) (0 : UInt8)).toNat : Int) = 39 then (if ((x1.getD ((x6).toNat) (0 : UInt8)).toNat : Int) = 34 then (spec_l1token.l1 k x1 x6 4) else (spec_l1token.l1 k x1 x6 1)) else (if ((x1.getD ((x6).toNat) (0 : UInt8)).toNat : Int) = 34 then ((spec_l1text.f k x1 x6).bind fun t221 => (if t221.2 = 0 then some ((⟨0, 0, 0, [], 0⟩ : Token), 2) else (if (t221.1.length : Int) > 100 then some ((⟨0, 0, 0, [], 0⟩ : Token), 3) else some ((⟨4, x6, t221.2, t221.1, 0⟩ : Token), 0)))) else (if ((x1.getD ((x6).toNat) (0 : UInt8)).toNat : Int) = 40 then (if x7 = true then (spec_l1token.l0 0 x1 x6 6 1) else (spec_l1token.l0 0 x1 x6 5 1)) else (if ((x1.getD ((x6).toNat) (0 : UInt8)).toNat : Int) = 41 then (spec_l1token.l0 0 x1 x6 5 1) else (if ((x1.getD ((x6).toNat) (0 : UInt8)).toNat : Int) = 91 then (spec_l1token.l0 0 x1 x6 5 1) else (if ((x1.getD ((x6).toNat) (0 : UInt8)).toNat : Int) = 93 then (spec_l1token.l0 0 x1 x6 5 1) else (if ((x1.getD ((x6).toNat) (0 : UInt8)).toNat : Int) = 123 then (spec_l1token.l0 0 x1 x6 5 1) else (if ((x1.getD ((x6).toNat) (0 : UInt8)).toNat : Int) = 125 then (spec_l1token.l0 0 x1 x6 5 1) else (if ((x1.getD ((x6).toNat) (0 : UInt8)).toNat : Int) = 44 then (spec_l1token.l0 0 x1 x6 5 1) else (if ((x1.getD ((x6).toNat) (0 : UInt8)).toNat : Int) = 124 then (spec_l1token.l0 0 x1 x6 5 1) else some ((⟨0, 0, 0, [], 0⟩ : Token), 2)))))))))))))))))) else none) else none)) else ((spec_l1symbol.f k (x1.getD ((x6).toNat) (0 : UInt8))).bind fun t353 => (if t353 = true then ((spec_l1run.f k x1 x6 true).bind fun t360 => (spec_l1token.l0 0 x1 x6 1 t360)) else (if ((x1.getD ((x6).toNat) (0 : UInt8)).toNat : Int) = 33 then (spec_l1token.l0 0 x1 x6 1 1) else (if ((x1.getD ((x6).toNat) (0 : UInt8)).toNat : Int) = 59 then (spec_l1token.l0 0 x1 x6 1 1) else (if ((x1.getD ((x6).toNat) (0 : UInt8)).toNat : Int) = 39 then (if ((x1.getD ((x6).toNat) (0 : UInt8)).toNat : Int) = 34 then (spec_l1token.l2 k x1 x6 4) else (spec_l1token.l2 k x1 x6 1)) else (if ((x1.getD ((x6).toNat) (0 : UInt8)).toNat : Int) = 34 then ((spec_l1text.f k x1 x6).bind fun t443 => (if t443.2 = 0 then some ((⟨0, 0, 0, [], 0⟩ : Token), 2) else (if (t443.1.length : Int) > 100 then some ((⟨0, 0, 0, [], 0⟩ : Token), 3) else some ((⟨4, x6, t443.2, t443.1, 0⟩ : Token), 0)))) else (if ((x1.getD ((x6).toNat) (0 : UInt8)).toNat : Int) = 40 then (if x7 = true then (spec_l1token.l0 0 x1 x6 6 1) else (spec_l1token.l0 0 x1 x6 5 1)) else (if ((x1.getD ((x6).toNat) (0 : UInt8)).toNat : Int) = 41 then (spec_l1token.l0 0 x1 x6 5 1) else (if ((x1.getD ((x6).toNat) (0 : UInt8)).toNat : Int) = 91 then (spec_l1token.l0 0 x1 x6 5 1) else (if ((x1.getD ((x6).toNat) (0 : UInt8)).toNat : Int) = 93 then (spec_l1token.l0 0 x1 x6 5 1) else (if ((x1.getD ((x6).toNat) (0 : UInt8)).toNat : Int) = 123 then (spec_l1token.l0 0 x1 x6 5 1) else (if ((x1.getD ((x6).toNat) (0 : UInt8)).toNat : Int) = 125 then (spec_l1token.l0 0 x1 x6 5 1) else (if ((x1.getD ((x6).toNat) (0 : UInt8)).toNat : Int) = 44 then (spec_l1token.l0 0 x1 x6 5 1) else (if ((x1.getD ((x6).toNat) (0 : UInt8)).toNat : Int) = 124 then (spec_l1token.l0 0 x1 x6 5 1) else some ((⟨0, 0, 0, [], 0⟩ : Token), 2)))))))))))))))))))) else none) else none)
theorem spec_l1token.calls {k : Nat} {w : World} {H : Hp} {x1 : List UInt8} {A2 : Option Addr} {c3 : Nat} {x6 : Int} {x7 : Bool} (h4 : Rd tByte H A2 x1) (l5 : x1.length ≤ c3) (S : Own [] H w) {r : Token × Int} (M : spec_l1token.f k x1 x6 x7 = some r) :
  Calls Tryz.prog 13 #[.slice A2 x1.length c3, .int .i64 x6, .bool x7] w (fun e e_w => ∃ (A_1 : Option Addr) (c_1 : Nat) (F_1 : Foot) (H_ : Hp), e = .returned (.tuple #[.agg #[.int .i64 r.1.kind, .int .i64 r.1.place, .int .i64 r.1.size, .slice A_1 r.1.text.length c_1, .int .i64 r.1.n], .int .i64 r.2]) ∧ Row tByte 5 H_ (hp e_w) F_1 A_1 c_1 r.1.text ∧ St (anyOf []) H w [F_1] H_ e_w) := by
 rw [spec_l1token.f] at M
 refine enter (l := [.slice A2 x1.length c3, .int .i64 x6, .bool x7]) 166 func13 rfl rfl rfl ?_
 have S0_ := S.st
 refine wQ (wR ?_)
 refine lW 6 (nB #[.int .i64 0, .int .i64 0, .int .i64 0, .slice none 0 0, .int .i64 0] 28 S0_) ?_
 rintro _ w8 ⟨g9, rfl, b10, S11, K12⟩
 refine lP 1 (wN (tN (wQ (wR (lP 2 ?_)))))
 refine lW 8 (nB #[.int .i64 0, .int .i64 0, .int .i64 0, .slice none 0 0, .int .i64 0] 28 S11) ?_
 rintro _ w13 ⟨g14, rfl, b15, S16, K17⟩
 replace b10 := K17.b 0 b10
 refine lE (eSa g14 0 [.int .i64 1, .int .i64 x6, .int .i64 0, .slice none 0 0, .int .i64 0] S16 b15) ?_
 rintro w18 ⟨b19, S20, K21⟩
 replace b10 := K21.b 0 b10
 clear b15
 refine wN (tN (wQ (wR (lP 2 ?_))))
 obtain ⟨q22, M⟩ := chk M
 obtain ⟨q23, M⟩ := chk M
 obtain ⟨b24, o25, e26⟩ := Rd.addr h4 (show (x6).toNat < x1.length by omega)
 obtain ⟨y27, r28, k29⟩ := Rd.at h4 e26 (getD_some (0 : UInt8) (show (x6).toNat < x1.length by omega))
 obtain rfl := r28
 refine lV 19 (eJ underlying22 e26 q22 q23) (lV 20 (eK underlying5 (hpx (S20.inv.cell (k29 0 _ rfl)))) (lP 1 (wN (tN (wQ (wQ (wR (lP 1 ?_))))))))
 obtain ⟨t30, u31, M⟩ := bnd M
 refine lC 22 (eE func28) (spec_l1digit.calls  S20.own0 u31) ?_
 rintro _ w32 ⟨rfl, C33⟩
 refine ⟨_, rfl, ?_⟩
 obtain ⟨S34, K35⟩ := S20.still C33
 replace b19 := K35.b 0 b19
 replace b10 := K35.b 1 b10
 refine wN (tN ?_)
 obtain ⟨q36, M⟩ | ⟨q36, M⟩ := ifc M
 ·refine cT (bvt q36 kr) (wQ (wR (lP 2 ?_)))
  obtain ⟨t37, u38, M⟩ := bnd M
  refine lC 26 (eE func29) (spec_l1number.calls h4 l5 S34.own0 u38) ?_
  rintro _ w39 ⟨rfl, C40⟩
  refine ⟨_, rfl, ?_⟩
  obtain ⟨S41, K42⟩ := S34.still C40
  replace b10 := K42.b 1 b10
  refine lP 7 (wN (tN (wQ (wR (lP 5 ?_)))))
  have S43 := S41.pulls [(is g9), (is g14)] [1] rfl
  refine lE (eSa g9 0 [.int .i64 3, .int .i64 x6, .int .i64 t37.2.1, .slice none 0 0, .int .i64 t37.1] S43 b10) ?_
  rintro w44 ⟨b45, S46, K47⟩
  clear b10
  refine lP 1 (wN (tN (wT (tR ?_))))
  obtain rfl := sj M
  have S48 := S46.unit
  have S49 := St.first (Fa := [no]) (Fr := [(is g9), (is g14)]) S48
  exact retST (ty := 28) (cur := #[.int .i64 3, .int .i64 x6, .int .i64 t37.2.1, .slice none 0 0, .int .i64 t37.1]) rfl rfl rfl kr b45 underlying28 rfl kr (show _ = .int .i64 t37.2.2 from kr) ⟨none, 0, no, H, rfl, (Row.nil _ _ _ _ no), S49⟩
 refine cF (bvf q36 kr) (wK (tN ?_))
 refine wp_seq_cut (fun a57 w50 => ∃ (f51 : Nat → Value) (x52 : Int) (x53 : Int), a57 = mk 166 (upd (upd (upd (upd f51 0 (.slice A2 x1.length c3)) 1 (.int .i64 x6)) 6 (.pointer (some ⟨g9, 0, none⟩))) 8 (.pointer (some ⟨g14, 0, none⟩))) ∧ w50.heap[g14]? = some (.cells #[.int .i64 x52, .int .i64 x6, .int .i64 x53, .slice none 0 0, .int .i64 0] 28 (0, 0)) ∧ w50.heap[g9]? = some (.cells #[.int .i64 0, .int .i64 0, .int .i64 0, .slice none 0 0, .int .i64 0] 28 (0, 0)) ∧ St (anyOf []) H w [(is g14), (is g9)] H w50 ∧ spec_l1token.l0 0 x1 x6 x52 x53 = some r) ?_ ?_
 ·refine wQ (wR (lP 1 ?_))
  obtain ⟨t58, u59, M⟩ := bnd M
  refine lC 36 (eE func30) (spec_l1alnum.calls  S34.own0 u59) ?_
  rintro _ w60 ⟨rfl, C61⟩
  refine ⟨_, rfl, ?_⟩
  obtain ⟨S62, K63⟩ := S34.still C61
  replace b19 := K63.b 0 b19
  replace b10 := K63.b 1 b10
  refine wN (tN ?_)
  obtain ⟨q64, M⟩ | ⟨q64, M⟩ := ifc M
  ·refine cT (bvt q64 kr) (wQ (wR (lP 2 ?_)))
   obtain ⟨t65, u66, M⟩ := bnd M
   refine lC 39 (eE func31) (spec_l1run.calls h4 l5 S62.own0 u66) ?_
   rintro _ w67 ⟨rfl, C68⟩
   refine ⟨_, rfl, ?_⟩
   obtain ⟨S69, K70⟩ := S62.still C68
   replace b19 := K70.b 0 b19
   replace b10 := K70.b 1 b10
   refine lP 1 ?_
   refine lE (eS g14 (0 + 2) (.int .i64 t65) #[.int .i64 1, .int .i64 x6, .int .i64 t65, .slice none 0 0, .int .i64 0] [.int .i64 t65] S69 b19) ?_
   rintro w71 ⟨b72, S73, K74⟩
   replace b10 := K74.b 0 b10
   clear b19
   refine wN (tN (wQ (wR (lP 1 ?_))))
   obtain ⟨t75, u76, M⟩ := bnd M
   refine lC 42 (eE func32) (spec_l1small.calls  S73.own0 u76) ?_
   rintro _ w77 ⟨rfl, C78⟩
   refine ⟨_, rfl, ?_⟩
   obtain ⟨S79, K80⟩ := S73.still C78
   replace b72 := K80.b 0 b72
   replace b10 := K80.b 1 b10
   refine lV 43 (e_notv (c := t75) kr) (wN (tN ?_))
   obtain ⟨q81, M⟩ | ⟨q81, M⟩ := ifd M
   ·refine cF (bF q81) (wK (tN ?_))
    exact ⟨_, 1, t65, (hdw (hdc (hdc (hdc (hdc rfl kr) kr) kr) kr)), b72, b10, S79, M⟩
   refine cT (bT q81) (wR (lP 1 ?_))
   refine lE (eS g14 (0 + 0) (.int .i64 2) #[.int .i64 2, .int .i64 x6, .int .i64 t65, .slice none 0 0, .int .i64 0] [.int .i64 2] S79 b72) ?_
   rintro w82 ⟨b83, S84, K85⟩
   replace b10 := K85.b 0 b10
   clear b72
   refine wN (tN ?_)
   exact ⟨_, 2, t65, (hdw (hdc (hdc (hdc (hdc rfl kr) kr) kr) kr)), b83, b10, S84, M⟩
  refine cF (bvf q64 kr) (wQ (wR (lP 3 ?_)))
  obtain ⟨q86, M⟩ | ⟨q86, M⟩ := ifd M
  ·refine lP1 22 47 (bF q86) (wN (tN (cond_f rfl kr (wQ (wR (lP 1 ?_))))))
   obtain ⟨t353, u354, M⟩ := bnd M
   refine lC 73 (eE func33) (spec_l1symbol.calls  S62.own0 u354) ?_
   rintro _ w355 ⟨rfl, C356⟩
   refine ⟨_, rfl, ?_⟩
   obtain ⟨S357, K358⟩ := S62.still C356
   replace b19 := K358.b 0 b19
   replace b10 := K358.b 1 b10
   refine wN (tN ?_)
   obtain ⟨q359, M⟩ | ⟨q359, M⟩ := ifc M
   ·refine cT (bvt q359 kr) (wR (lP 2 ?_))
    obtain ⟨t360, u361, M⟩ := bnd M
    refine lC 76 (eE func31) (spec_l1run.calls h4 l5 S357.own0 u361) ?_
    rintro _ w362 ⟨rfl, C363⟩
    refine ⟨_, rfl, ?_⟩
    obtain ⟨S364, K365⟩ := S357.still C363
    replace b19 := K365.b 0 b19
    replace b10 := K365.b 1 b10
    refine lP 1 ?_
    refine lE (eS g14 (0 + 2) (.int .i64 t360) #[.int .i64 1, .int .i64 x6, .int .i64 t360, .slice none 0 0, .int .i64 0] [.int .i64 t360] S364 b19) ?_
    rintro w366 ⟨b367, S368, K369⟩
    replace b10 := K369.b 0 b10
    clear b19
    refine wN (tN ?_)
    exact ⟨_, 1, t360, (hdw (hdc (hdc (hdc (hdc rfl kr) kr) kr) kr)), b367, b10, S368, M⟩
   refine cF (bvf q359 kr) (wQ (wR (lP 3 ?_)))
   obtain ⟨q370, M⟩ | ⟨q370, M⟩ := ifc M
   ·refine lP1 3 80 (bT q370) (wN (tN (cond_t rfl kr (wR (lP 1 ?_)))))
    refine lE (eS g14 (0 + 2) (.int .i64 1) #[.int .i64 1, .int .i64 x6, .int .i64 1, .slice none 0 0, .int .i64 0] [.int .i64 1] S357 b19) ?_
    rintro w371 ⟨b372, S373, K374⟩
    replace b10 := K374.b 0 b10
    clear b19
    refine wN (tN ?_)
    exact ⟨_, 1, 1, (hdw (hdc (hdc (hdc (hdc rfl kr) kr) kr) kr)), b372, b10, S373, M⟩
   refine lP1 3 80 (bF q370) (wN (tN ?_))
   obtain ⟨q375, M⟩ | ⟨q375, M⟩ := ifc M
   ·refine cT (bT q375) (wR (lP 1 ?_))
    refine lE (eS g14 (0 + 2) (.int .i64 1) #[.int .i64 1, .int .i64 x6, .int .i64 1, .slice none 0 0, .int .i64 0] [.int .i64 1] S357 b19) ?_
    rintro w376 ⟨b377, S378, K379⟩
    replace b10 := K379.b 0 b10
    clear b19
    refine wN (tN ?_)
    exact ⟨_, 1, 1, (hdw (hdc (hdc (hdc (hdc rfl kr) kr) kr) kr)), b377, b10, S378, M⟩
   refine cF (bF q375) (wQ (wR (lP 3 ?_)))
   obtain ⟨q380, M⟩ | ⟨q380, M⟩ := ifc M
   ·refine lP1 3 87 (bT q380) (wN (tN (cond_t rfl kr ?_)))
    refine wp_seq_cut (fun a387 w381 => ∃ (f382 : Nat → Value) (x383 : Int), a387 = mk 166 (upd (upd (upd (upd f382 0 (.slice A2 x1.length c3)) 1 (.int .i64 x6)) 6 (.pointer (some ⟨g9, 0, none⟩))) 8 (.pointer (some ⟨g14, 0, none⟩))) ∧ w381.heap[g14]? = some (.cells #[.int .i64 x383, .int .i64 x6, .int .i64 0, .slice none 0 0, .int .i64 0] 28 (0, 0)) ∧ w381.heap[g9]? = some (.cells #[.int .i64 0, .int .i64 0, .int .i64 0, .slice none 0 0, .int .i64 0] 28 (0, 0)) ∧ St (anyOf []) H w [(is g14), (is g9)] H w381 ∧ spec_l1token.l2 k x1 x6 x383 = some r) ?_ ?_
    ·refine wQ (wR (lP 2 (wN (tN ?_))))
     obtain ⟨q388, M⟩ | ⟨q388, M⟩ := ifd M
     ·refine cF (bF q388) (wK (tN ?_))
      exact ⟨_, 1, (hdw (hdc (hdc (hdc (hdc rfl kr) kr) kr) kr)), b19, b10, S357, M⟩
     refine cT (bT q388) (wR (lP 1 ?_))
     refine lE (eS g14 (0 + 0) (.int .i64 4) #[.int .i64 4, .int .i64 x6, .int .i64 0, .slice none 0 0, .int .i64 0] [.int .i64 4] S357 b19) ?_
     rintro w389 ⟨b390, S391, K392⟩
     replace b10 := K392.b 0 b10
     clear b19
     refine wN (tN ?_)
     exact ⟨_, 4, (hdw (hdc (hdc (hdc (hdc rfl kr) kr) kr) kr)), b390, b10, S391, M⟩
    clear M
    rintro a387 w381 ⟨f382, x383, rfl, b19, b10, S384, M⟩
    rw [spec_l1token.l2] at M
    refine wQ (wR (lP 2 ?_))
    obtain ⟨t393, u394, M⟩ := bnd M
    refine lC 97 (eE func34) (spec_l1text.calls h4 l5 (St.own' (Fa := []) (Fr := [(is g14), (is g9)]) S384) u394) ?_
    rintro _ w395 ⟨A398, c399, F401, H396, rfl, h400, T397⟩
    refine ⟨_, rfl, ?_⟩
    obtain ⟨S402, K403⟩ := St.call (Fa := []) (Fr := [(is g14), (is g9)]) S384 T397
    replace b19 := K403.b 0 b19
    replace b10 := K403.b 1 b10
    have E404 := T397.ext
    refine lP 5 (wN (tN (wQ (wQ (wR (lP 2 (wN (tN ?_))))))))
    obtain ⟨q405, M⟩ | ⟨q405, M⟩ := ifc M
    ·refine cT (bT q405) (wQ (wR (lP 1 ?_)))
     have S406 := S402.pulls [(is g9), F401, (is g14)] [2] rfl
     refine lE (eSa g9 0 [.int .i64 0, .int .i64 0, .int .i64 0, .slice none 0 0, .int .i64 0] S406 b10) ?_
     rintro w407 ⟨b408, S409, K410⟩
     clear b10
     refine lP 1 (wN (tN (wT (tR (tR ?_)))))
     obtain rfl := sj M
     have S411 := S409.unit
     have S412 := St.first (Fa := [no]) (Fr := [(is g9), F401, (is g14)]) S411
     exact retST (ty := 28) (cur := #[.int .i64 0, .int .i64 0, .int .i64 0, .slice none 0 0, .int .i64 0]) rfl rfl rfl kr b408 underlying28 rfl kr (show _ = .int .i64 2 from kr) ⟨none, 0, no, H396, rfl, (Row.nil _ _ _ _ no), S412⟩
    refine cF (bF q405) (wK (tN (wQ (wR (lP 2 ?_)))))
    have S413 := S402.pulls [(is g14), F401, (is g9)] [1] rfl
    refine lE (eS g14 (0 + 3) (.slice A398 t393.1.length c399) #[.int .i64 x383, .int .i64 x6, .int .i64 0, .slice A398 t393.1.length c399, .int .i64 0] [.slice A398 t393.1.length c399] S413 b19) ?_
    rintro w414 ⟨b415, S416, K417⟩
    replace h400 := h400.move (K417.a 0)
    replace b10 := K417.b 1 b10
    clear b19
    refine wN (tN (wQ (wR (lP 2 ?_))))
    refine lE (eS g14 (0 + 2) (.int .i64 t393.2) #[.int .i64 x383, .int .i64 x6, .int .i64 t393.2, .slice A398 t393.1.length c399, .int .i64 0] [.int .i64 t393.2] S416 b415) ?_
    rintro w418 ⟨b419, S420, K421⟩
    replace h400 := h400.move (K421.a 0)
    replace b10 := K421.b 1 b10
    clear b415
    refine wN (tN (wQ (wQ (wR (lP 3 (wN (tN ?_)))))))
    obtain ⟨q422, M⟩ | ⟨q422, M⟩ := ifc M
    ·refine cT (bT q422) (wQ (wR (lP 1 ?_)))
     have S423 := S420.pulls [(is g9), (is g14), F401] [2] rfl
     refine lE (eSa g9 0 [.int .i64 0, .int .i64 0, .int .i64 0, .slice none 0 0, .int .i64 0] S423 b10) ?_
     rintro w424 ⟨b425, S426, K427⟩
     clear b10
     refine lP 1 (wN (tN (wT (tR (tR ?_)))))
     obtain rfl := sj M
     have S428 := S426.unit
     have S429 := St.first (Fa := [no]) (Fr := [(is g9), (is g14), F401]) S428
     exact retST (ty := 28) (cur := #[.int .i64 0, .int .i64 0, .int .i64 0, .slice none 0 0, .int .i64 0]) rfl rfl rfl kr b425 underlying28 rfl kr (show _ = .int .i64 3 from kr) ⟨none, 0, no, H396, rfl, (Row.nil _ _ _ _ no), S429⟩
    refine cF (bF q422) (wK (tN (wQ (wR (lV 111 (e_loadS (b := g14) (off := 0) (cs := [.int .i64 x383, .int .i64 x6, .int .i64 t393.2, .slice A398 t393.1.length c399, .int .i64 0]) underlying28 rfl kr kr (blk_cells b419 rfl)) ?_)))))
    have S430 := S420.pulls [(is g9), (is g14), F401] [2] rfl
    refine lE (eSa g9 0 [.int .i64 x383, .int .i64 x6, .int .i64 t393.2, .slice A398 t393.1.length c399, .int .i64 0] S430 b10) ?_
    rintro w431 ⟨b432, S433, K434⟩
    replace h400 := h400.move (K434.a 1)
    clear b10
    refine lP 1 (wN (tN (wT (tR ?_))))
    obtain rfl := sj M
    have S435 := S433.pulls [F401, (is g9), (is g14)] [2] rfl
    have S436 := St.first (Fa := [F401]) (Fr := [(is g9), (is g14)]) S435
    exact retST (ty := 28) (cur := #[.int .i64 x383, .int .i64 x6, .int .i64 t393.2, .slice A398 t393.1.length c399, .int .i64 0]) rfl rfl rfl kr b432 underlying28 rfl kr (show _ = .int .i64 0 from kr) ⟨A398, c399, F401, H396, rfl, h400, S436⟩
   refine lP1 3 87 (bF q380) (wN (tN ?_))
   obtain ⟨q438, M⟩ | ⟨q438, M⟩ := ifc M
   ·refine cT (bT q438) (wQ (wQ (wR (lP 2 (wN (tN ?_))))))
    refine cT (bT q438) (wR (lP 1 ?_))
    refine lE (eS g14 (0 + 0) (.int .i64 4) #[.int .i64 4, .int .i64 x6, .int .i64 0, .slice none 0 0, .int .i64 0] [.int .i64 4] S357 b19) ?_
    rintro w439 ⟨b440, S441, K442⟩
    replace b10 := K442.b 0 b10
    clear b19
    refine wN (tN (wQ (wR (lP 2 ?_))))
    obtain ⟨t443, u444, M⟩ := bnd M
    refine lC 97 (eE func34) (spec_l1text.calls h4 l5 (St.own' (Fa := []) (Fr := [(is g14), (is g9)]) S441) u444) ?_
    rintro _ w445 ⟨A448, c449, F451, H446, rfl, h450, T447⟩
    refine ⟨_, rfl, ?_⟩
    obtain ⟨S452, K453⟩ := St.call (Fa := []) (Fr := [(is g14), (is g9)]) S441 T447
    replace b440 := K453.b 0 b440
    replace b10 := K453.b 1 b10
    have E454 := T447.ext
    refine lP 5 (wN (tN (wQ (wQ (wR (lP 2 (wN (tN ?_))))))))
    obtain ⟨q455, M⟩ | ⟨q455, M⟩ := ifc M
    ·refine cT (bT q455) (wQ (wR (lP 1 ?_)))
     have S456 := S452.pulls [(is g9), F451, (is g14)] [2] rfl
     refine lE (eSa g9 0 [.int .i64 0, .int .i64 0, .int .i64 0, .slice none 0 0, .int .i64 0] S456 b10) ?_
     rintro w457 ⟨b458, S459, K460⟩
     clear b10
     refine lP 1 (wN (tN (wT (tR (tR ?_)))))
     obtain rfl := sj M
     have S461 := S459.unit
     have S462 := St.first (Fa := [no]) (Fr := [(is g9), F451, (is g14)]) S461
     exact retST (ty := 28) (cur := #[.int .i64 0, .int .i64 0, .int .i64 0, .slice none 0 0, .int .i64 0]) rfl rfl rfl kr b458 underlying28 rfl kr (show _ = .int .i64 2 from kr) ⟨none, 0, no, H446, rfl, (Row.nil _ _ _ _ no), S462⟩
    refine cF (bF q455) (wK (tN (wQ (wR (lP 2 ?_)))))
    have S463 := S452.pulls [(is g14), F451, (is g9)] [1] rfl
    refine lE (eS g14 (0 + 3) (.slice A448 t443.1.length c449) #[.int .i64 4, .int .i64 x6, .int .i64 0, .slice A448 t443.1.length c449, .int .i64 0] [.slice A448 t443.1.length c449] S463 b440) ?_
    rintro w464 ⟨b465, S466, K467⟩
    replace h450 := h450.move (K467.a 0)
    replace b10 := K467.b 1 b10
    clear b440
    refine wN (tN (wQ (wR (lP 2 ?_))))
    refine lE (eS g14 (0 + 2) (.int .i64 t443.2) #[.int .i64 4, .int .i64 x6, .int .i64 t443.2, .slice A448 t443.1.length c449, .int .i64 0] [.int .i64 t443.2] S466 b465) ?_
    rintro w468 ⟨b469, S470, K471⟩
    replace h450 := h450.move (K471.a 0)
    replace b10 := K471.b 1 b10
    clear b465
    refine wN (tN (wQ (wQ (wR (lP 3 (wN (tN ?_)))))))
    obtain ⟨q472, M⟩ | ⟨q472, M⟩ := ifc M
    ·refine cT (bT q472) (wQ (wR (lP 1 ?_)))
     have S473 := S470.pulls [(is g9), (is g14), F451] [2] rfl
     refine lE (eSa g9 0 [.int .i64 0, .int .i64 0, .int .i64 0, .slice none 0 0, .int .i64 0] S473 b10) ?_
     rintro w474 ⟨b475, S476, K477⟩
     clear b10
     refine lP 1 (wN (tN (wT (tR (tR ?_)))))
     obtain rfl := sj M
     have S478 := S476.unit
     have S479 := St.first (Fa := [no]) (Fr := [(is g9), (is g14), F451]) S478
     exact retST (ty := 28) (cur := #[.int .i64 0, .int .i64 0, .int .i64 0, .slice none 0 0, .int .i64 0]) rfl rfl rfl kr b475 underlying28 rfl kr (show _ = .int .i64 3 from kr) ⟨none, 0, no, H446, rfl, (Row.nil _ _ _ _ no), S479⟩
    refine cF (bF q472) (wK (tN (wQ (wR (lV 111 (e_loadS (b := g14) (off := 0) (cs := [.int .i64 4, .int .i64 x6, .int .i64 t443.2, .slice A448 t443.1.length c449, .int .i64 0]) underlying28 rfl kr kr (blk_cells b469 rfl)) ?_)))))
    have S480 := S470.pulls [(is g9), (is g14), F451] [2] rfl
    refine lE (eSa g9 0 [.int .i64 4, .int .i64 x6, .int .i64 t443.2, .slice A448 t443.1.length c449, .int .i64 0] S480 b10) ?_
    rintro w481 ⟨b482, S483, K484⟩
    replace h450 := h450.move (K484.a 1)
    clear b10
    refine lP 1 (wN (tN (wT (tR ?_))))
    obtain rfl := sj M
    have S485 := S483.pulls [F451, (is g9), (is g14)] [2] rfl
    have S486 := St.first (Fa := [F451]) (Fr := [(is g9), (is g14)]) S485
    exact retST (ty := 28) (cur := #[.int .i64 4, .int .i64 x6, .int .i64 t443.2, .slice A448 t443.1.length c449, .int .i64 0]) rfl rfl rfl kr b482 underlying28 rfl kr (show _ = .int .i64 0 from kr) ⟨A448, c449, F451, H446, rfl, h450, S486⟩
   refine cF (bF q438) (wQ (wR (lP 3 ?_)))
   obtain ⟨q487, M⟩ | ⟨q487, M⟩ := ifc M
   ·refine lP1 27 114 (bT q487) (wN (tN (cond_t rfl kr (wQ (wR (lP 1 ?_))))))
    refine lE (eS g14 (0 + 0) (.int .i64 5) #[.int .i64 5, .int .i64 x6, .int .i64 0, .slice none 0 0, .int .i64 0] [.int .i64 5] S357 b19) ?_
    rintro w488 ⟨b489, S490, K491⟩
    replace b10 := K491.b 0 b10
    clear b19
    refine wN (tN (wQ (wQ (wR (lP 3 (lP1 2 145 (bT q487) (wN (tN ?_))))))))
    obtain ⟨q492, M⟩ | ⟨q492, M⟩ := ifd M
    ·refine cF (bvf q492 kr) (wK (tN (wR (lP 1 ?_))))
     refine lE (eS g14 (0 + 2) (.int .i64 1) #[.int .i64 5, .int .i64 x6, .int .i64 1, .slice none 0 0, .int .i64 0] [.int .i64 1] S490 b489) ?_
     rintro w501 ⟨b502, S503, K504⟩
     replace b10 := K504.b 0 b10
     clear b489
     refine wN (tN ?_)
     exact ⟨_, 5, 1, (hdw (hdc (hdc (hdc (hdc rfl kr) kr) kr) kr)), b502, b10, S503, M⟩
    refine cT (bvt q492 kr) (wR (lP 1 ?_))
    refine lE (eS g14 (0 + 0) (.int .i64 6) #[.int .i64 6, .int .i64 x6, .int .i64 0, .slice none 0 0, .int .i64 0] [.int .i64 6] S490 b489) ?_
    rintro w493 ⟨b494, S495, K496⟩
    replace b10 := K496.b 0 b10
    clear b489
    refine wN (tN (wR (lP 1 ?_)))
    refine lE (eS g14 (0 + 2) (.int .i64 1) #[.int .i64 6, .int .i64 x6, .int .i64 1, .slice none 0 0, .int .i64 0] [.int .i64 1] S495 b494) ?_
    rintro w497 ⟨b498, S499, K500⟩
    replace b10 := K500.b 0 b10
    clear b494
    refine wN (tN ?_)
    exact ⟨_, 6, 1, (hdw (hdc (hdc (hdc (hdc rfl kr) kr) kr) kr)), b498, b10, S499, M⟩
   refine lP1 4 114 (bF q487) ?_
   obtain ⟨q505, M⟩ | ⟨q505, M⟩ := ifc M
   ·refine lP1 23 118 (bT q505) (wN (tN (cond_t rfl kr (wQ (wR (lP 1 ?_))))))
    refine lE (eS g14 (0 + 0) (.int .i64 5) #[.int .i64 5, .int .i64 x6, .int .i64 0, .slice none 0 0, .int .i64 0] [.int .i64 5] S357 b19) ?_
    rintro w506 ⟨b507, S508, K509⟩
    replace b10 := K509.b 0 b10
    clear b19
    refine wN (tN (wQ (wQ (wR (lP 3 (lP1 2 145 (bF q487) (wN (tN (cond_f rfl kr (wK (tN (wR (lP 1 ?_)))))))))))))
    refine lE (eS g14 (0 + 2) (.int .i64 1) #[.int .i64 5, .int .i64 x6, .int .i64 1, .slice none 0 0, .int .i64 0] [.int .i64 1] S508 b507) ?_
    rintro w510 ⟨b511, S512, K513⟩
    replace b10 := K513.b 0 b10
    clear b507
    refine wN (tN ?_)
    exact ⟨_, 5, 1, (hdw (hdc (hdc (hdc (hdc rfl kr) kr) kr) kr)), b511, b10, S512, M⟩
   refine lP1 4 118 (bF q505) ?_
   obtain ⟨q514, M⟩ | ⟨q514, M⟩ := ifc M
   ·refine lP1 19 122 (bT q514) (wN (tN (cond_t rfl kr (wQ (wR (lP 1 ?_))))))
    refine lE (eS g14 (0 + 0) (.int .i64 5) #[.int .i64 5, .int .i64 x6, .int .i64 0, .slice none 0 0, .int .i64 0] [.int .i64 5] S357 b19) ?_
    rintro w515 ⟨b516, S517, K518⟩
    replace b10 := K518.b 0 b10
    clear b19
    refine wN (tN (wQ (wQ (wR (lP 3 (lP1 2 145 (bF q487) (wN (tN (cond_f rfl kr (wK (tN (wR (lP 1 ?_)))))))))))))
    refine lE (eS g14 (0 + 2) (.int .i64 1) #[.int .i64 5, .int .i64 x6, .int .i64 1, .slice none 0 0, .int .i64 0] [.int .i64 1] S517 b516) ?_
    rintro w519 ⟨b520, S521, K522⟩
    replace b10 := K522.b 0 b10
    clear b516
    refine wN (tN ?_)
    exact ⟨_, 5, 1, (hdw (hdc (hdc (hdc (hdc rfl kr) kr) kr) kr)), b520, b10, S521, M⟩
   refine lP1 4 122 (bF q514) ?_
   obtain ⟨q523, M⟩ | ⟨q523, M⟩ := ifc M
   ·refine lP1 15 126 (bT q523) (wN (tN (cond_t rfl kr (wQ (wR (lP 1 ?_))))))
    refine lE (eS g14 (0 + 0) (.int .i64 5) #[.int .i64 5, .int .i64 x6, .int .i64 0, .slice none 0 0, .int .i64 0] [.int .i64 5] S357 b19) ?_
    rintro w524 ⟨b525, S526, K527⟩
    replace b10 := K527.b 0 b10
    clear b19
    refine wN (tN (wQ (wQ (wR (lP 3 (lP1 2 145 (bF q487) (wN (tN (cond_f rfl kr (wK (tN (wR (lP 1 ?_)))))))))))))
    refine lE (eS g14 (0 + 2) (.int .i64 1) #[.int .i64 5, .int .i64 x6, .int .i64 1, .slice none 0 0, .int .i64 0] [.int .i64 1] S526 b525) ?_
    rintro w528 ⟨b529, S530, K531⟩
    replace b10 := K531.b 0 b10
    clear b525
    refine wN (tN ?_)
    exact ⟨_, 5, 1, (hdw (hdc (hdc (hdc (hdc rfl kr) kr) kr) kr)), b529, b10, S530, M⟩
   refine lP1 4 126 (bF q523) ?_
   obtain ⟨q532, M⟩ | ⟨q532, M⟩ := ifc M
   ·refine lP1 11 130 (bT q532) (wN (tN (cond_t rfl kr (wQ (wR (lP 1 ?_))))))
    refine lE (eS g14 (0 + 0) (.int .i64 5) #[.int .i64 5, .int .i64 x6, .int .i64 0, .slice none 0 0, .int .i64 0] [.int .i64 5] S357 b19) ?_
    rintro w533 ⟨b534, S535, K536⟩
    replace b10 := K536.b 0 b10
    clear b19
    refine wN (tN (wQ (wQ (wR (lP 3 (lP1 2 145 (bF q487) (wN (tN (cond_f rfl kr (wK (tN (wR (lP 1 ?_)))))))))))))
    refine lE (eS g14 (0 + 2) (.int .i64 1) #[.int .i64 5, .int .i64 x6, .int .i64 1, .slice none 0 0, .int .i64 0] [.int .i64 1] S535 b534) ?_
    rintro w537 ⟨b538, S539, K540⟩
    replace b10 := K540.b 0 b10
    clear b534
    refine wN (tN ?_)
    exact ⟨_, 5, 1, (hdw (hdc (hdc (hdc (hdc rfl kr) kr) kr) kr)), b538, b10, S539, M⟩
   refine lP1 4 130 (bF q532) ?_
   obtain ⟨q541, M⟩ | ⟨q541, M⟩ := ifc M
   ·refine lP1 7 134 (bT q541) (wN (tN (cond_t rfl kr (wQ (wR (lP 1 ?_))))))
    refine lE (eS g14 (0 + 0) (.int .i64 5) #[.int .i64 5, .int .i64 x6, .int .i64 0, .slice none 0 0, .int .i64 0] [.int .i64 5] S357 b19) ?_
    rintro w542 ⟨b543, S544, K545⟩
    replace b10 := K545.b 0 b10
    clear b19
    refine wN (tN (wQ (wQ (wR (lP 3 (lP1 2 145 (bF q487) (wN (tN (cond_f rfl kr (wK (tN (wR (lP 1 ?_)))))))))))))
    refine lE (eS g14 (0 + 2) (.int .i64 1) #[.int .i64 5, .int .i64 x6, .int .i64 1, .slice none 0 0, .int .i64 0] [.int .i64 1] S544 b543) ?_
    rintro w546 ⟨b547, S548, K549⟩
    replace b10 := K549.b 0 b10
    clear b543
    refine wN (tN ?_)
    exact ⟨_, 5, 1, (hdw (hdc (hdc (hdc (hdc rfl kr) kr) kr) kr)), b547, b10, S548, M⟩
   refine lP1 4 134 (bF q541) ?_
   obtain ⟨q550, M⟩ | ⟨q550, M⟩ := ifc M
   ·refine lP1 3 138 (bT q550) (wN (tN (cond_t rfl kr (wQ (wR (lP 1 ?_))))))
    refine lE (eS g14 (0 + 0) (.int .i64 5) #[.int .i64 5, .int .i64 x6, .int .i64 0, .slice none 0 0, .int .i64 0] [.int .i64 5] S357 b19) ?_
    rintro w551 ⟨b552, S553, K554⟩
    replace b10 := K554.b 0 b10
    clear b19
    refine wN (tN (wQ (wQ (wR (lP 3 (lP1 2 145 (bF q487) (wN (tN (cond_f rfl kr (wK (tN (wR (lP 1 ?_)))))))))))))
    refine lE (eS g14 (0 + 2) (.int .i64 1) #[.int .i64 5, .int .i64 x6, .int .i64 1, .slice none 0 0, .int .i64 0] [.int .i64 1] S553 b552) ?_
    rintro w555 ⟨b556, S557, K558⟩
    replace b10 := K558.b 0 b10
    clear b552
    refine wN (tN ?_)
    exact ⟨_, 5, 1, (hdw (hdc (hdc (hdc (hdc rfl kr) kr) kr) kr)), b556, b10, S557, M⟩
   refine lP1 3 138 (bF q550) (wN (tN ?_))
   obtain ⟨q559, M⟩ | ⟨q559, M⟩ := ifd M
   ·refine cF (bF q559) (wQ (wR (lP 1 ?_)))
    have S568 := S357.pulls [(is g9), (is g14)] [1] rfl
    refine lE (eSa g9 0 [.int .i64 0, .int .i64 0, .int .i64 0, .slice none 0 0, .int .i64 0] S568 b10) ?_
    rintro w569 ⟨b570, S571, K572⟩
    clear b10
    refine lP 1 (wN (tN (wT (tR ?_))))
    obtain rfl := sj M
    have S573 := S571.unit
    have S574 := St.first (Fa := [no]) (Fr := [(is g9), (is g14)]) S573
    exact retST (ty := 28) (cur := #[.int .i64 0, .int .i64 0, .int .i64 0, .slice none 0 0, .int .i64 0]) rfl rfl rfl kr b570 underlying28 rfl kr (show _ = .int .i64 2 from kr) ⟨none, 0, no, H, rfl, (Row.nil _ _ _ _ no), S574⟩
   refine cT (bT q559) (wQ (wR (lP 1 ?_)))
   refine lE (eS g14 (0 + 0) (.int .i64 5) #[.int .i64 5, .int .i64 x6, .int .i64 0, .slice none 0 0, .int .i64 0] [.int .i64 5] S357 b19) ?_
   rintro w560 ⟨b561, S562, K563⟩
   replace b10 := K563.b 0 b10
   clear b19
   refine wN (tN (wQ (wQ (wR (lP 3 (lP1 2 145 (bF q487) (wN (tN (cond_f rfl kr (wK (tN (wR (lP 1 ?_)))))))))))))
   refine lE (eS g14 (0 + 2) (.int .i64 1) #[.int .i64 5, .int .i64 x6, .int .i64 1, .slice none 0 0, .int .i64 0] [.int .i64 1] S562 b561) ?_
   rintro w564 ⟨b565, S566, K567⟩
   replace b10 := K567.b 0 b10
   clear b561
   refine wN (tN ?_)
   exact ⟨_, 5, 1, (hdw (hdc (hdc (hdc (hdc rfl kr) kr) kr) kr)), b565, b10, S566, M⟩
  refine lP1 6 47 (bT q86) ?_
  obtain ⟨q87, M⟩ | ⟨q87, M⟩ := ifc M
  ·refine lP2 16 53 (bT q87) 47 (bT q86) (wN (tN (cond_t rfl kr (wQ (wR (lP 2 ?_))))))
   have S88 := S62.pulls [(is g9), (is g14)] [1] rfl
   refine lE (eSa g9 0 [.int .i64 7, .int .i64 x6, .int .i64 1, .slice none 0 0, .int .i64 0] S88 b10) ?_
   rintro w89 ⟨b90, S91, K92⟩
   clear b10
   refine lP 1 (wN (tN (wT (tR ?_))))
   obtain rfl := sj M
   have S93 := S91.unit
   have S94 := St.first (Fa := [no]) (Fr := [(is g9), (is g14)]) S93
   exact retST (ty := 28) (cur := #[.int .i64 7, .int .i64 x6, .int .i64 1, .slice none 0 0, .int .i64 0]) rfl rfl rfl kr b90 underlying28 rfl kr (show _ = .int .i64 0 from kr) ⟨none, 0, no, H, rfl, (Row.nil _ _ _ _ no), S94⟩
  refine lP1 3 53 (bF q87) ?_
  obtain ⟨q95, M⟩ := chk M
  obtain ⟨q96, M⟩ := chk M
  obtain ⟨b97, o98, e99⟩ := Rd.addr h4 (show ((i64.wrap (x6 + 1))).toNat < x1.length by omega)
  obtain ⟨y100, r101, k102⟩ := Rd.at h4 e99 (getD_some (0 : UInt8) (show ((i64.wrap (x6 + 1))).toNat < x1.length by omega))
  obtain rfl := r101
  refine lG 57 53 (bF q87) (eJ underlying22 e99 q95 q96) (lG 58 53 (bF q87) (eK underlying5 (hpx (S62.inv.cell (k102 0 _ rfl)))) ?_)
  obtain ⟨t103, u104, M⟩ := bnd M
  refine lcallg (d := 59) (t := 53) rfl kr rfl (bF q87) rfl kr (eE func27) (spec_l1blank.calls  S62.own0 u104) ?_
  rintro _ w105 ⟨rfl, C106⟩
  refine ⟨_, rfl, ?_⟩
  obtain ⟨S107, K108⟩ := S62.still C106
  replace b19 := K108.b 0 b19
  replace b10 := K108.b 1 b10
  refine lP2 2 47 (bT q86) 53 (bF q87) ?_
  obtain ⟨q109, M⟩ | ⟨q109, M⟩ := ifc M
  ·refine lP2 8 61 (bvt q109 kr) 47 (bT q86) (wN (tN (cond_t rfl kr (wQ (wR (lP 2 ?_))))))
   have S110 := S107.pulls [(is g9), (is g14)] [1] rfl
   refine lE (eSa g9 0 [.int .i64 7, .int .i64 x6, .int .i64 1, .slice none 0 0, .int .i64 0] S110 b10) ?_
   rintro w111 ⟨b112, S113, K114⟩
   clear b10
   refine lP 1 (wN (tN (wT (tR ?_))))
   obtain rfl := sj M
   have S115 := S113.unit
   have S116 := St.first (Fa := [no]) (Fr := [(is g9), (is g14)]) S115
   exact retST (ty := 28) (cur := #[.int .i64 7, .int .i64 x6, .int .i64 1, .slice none 0 0, .int .i64 0]) rfl rfl rfl kr b112 underlying28 rfl kr (show _ = .int .i64 0 from kr) ⟨none, 0, no, H, rfl, (Row.nil _ _ _ _ no), S116⟩
  refine lP1 3 61 (bvf q109 kr) ?_
  obtain ⟨b117, o118, e119⟩ := Rd.addr h4 (show ((i64.wrap (x6 + 1))).toNat < x1.length by omega)
  obtain ⟨y120, r121, k122⟩ := Rd.at h4 e119 (getD_some (0 : UInt8) (show ((i64.wrap (x6 + 1))).toNat < x1.length by omega))
  obtain rfl := r121
  refine lG 65 61 (bvf q109 kr) (eJ underlying22 e119 q95 q96) (lG 66 61 (bvf q109 kr) (eK underlying5 (hpx (S107.inv.cell (k122 0 _ rfl)))) (lP2 3 61 (bvf q109 kr) 47 (bT q86) (wN (tN ?_))))
  obtain ⟨q123, M⟩ | ⟨q123, M⟩ := ifc M
  ·refine cT (bT q123) (wQ (wR (lP 2 ?_)))
   have S124 := S107.pulls [(is g9), (is g14)] [1] rfl
   refine lE (eSa g9 0 [.int .i64 7, .int .i64 x6, .int .i64 1, .slice none 0 0, .int .i64 0] S124 b10) ?_
   rintro w125 ⟨b126, S127, K128⟩
   clear b10
   refine lP 1 (wN (tN (wT (tR ?_))))
   obtain rfl := sj M
   have S129 := S127.unit
   have S130 := St.first (Fa := [no]) (Fr := [(is g9), (is g14)]) S129
   exact retST (ty := 28) (cur := #[.int .i64 7, .int .i64 x6, .int .i64 1, .slice none 0 0, .int .i64 0]) rfl rfl rfl kr b126 underlying28 rfl kr (show _ = .int .i64 0 from kr) ⟨none, 0, no, H, rfl, (Row.nil _ _ _ _ no), S130⟩
  refine cF (bF q123) (wQ (wR (lP 1 ?_)))
  obtain ⟨t131, u132, M⟩ := bnd M
  refine lC 73 (eE func33) (spec_l1symbol.calls  S107.own0 u132) ?_
  rintro _ w133 ⟨rfl, C134⟩
  refine ⟨_, rfl, ?_⟩
  obtain ⟨S135, K136⟩ := S107.still C134
  replace b19 := K136.b 0 b19
  replace b10 := K136.b 1 b10
  refine wN (tN ?_)
  obtain ⟨q137, M⟩ | ⟨q137, M⟩ := ifc M
  ·refine cT (bvt q137 kr) (wR (lP 2 ?_))
   obtain ⟨t138, u139, M⟩ := bnd M
   refine lC 76 (eE func31) (spec_l1run.calls h4 l5 S135.own0 u139) ?_
   rintro _ w140 ⟨rfl, C141⟩
   refine ⟨_, rfl, ?_⟩
   obtain ⟨S142, K143⟩ := S135.still C141
   replace b19 := K143.b 0 b19
   replace b10 := K143.b 1 b10
   refine lP 1 ?_
   refine lE (eS g14 (0 + 2) (.int .i64 t138) #[.int .i64 1, .int .i64 x6, .int .i64 t138, .slice none 0 0, .int .i64 0] [.int .i64 t138] S142 b19) ?_
   rintro w144 ⟨b145, S146, K147⟩
   replace b10 := K147.b 0 b10
   clear b19
   refine wN (tN ?_)
   exact ⟨_, 1, t138, (hdw (hdc (hdc (hdc (hdc rfl kr) kr) kr) kr)), b145, b10, S146, M⟩
  refine cF (bvf q137 kr) (wQ (wR (lP 3 ?_)))
  obtain ⟨q148, M⟩ | ⟨q148, M⟩ := ifc M
  ·refine lP1 3 80 (bT q148) (wN (tN (cond_t rfl kr (wR (lP 1 ?_)))))
   refine lE (eS g14 (0 + 2) (.int .i64 1) #[.int .i64 1, .int .i64 x6, .int .i64 1, .slice none 0 0, .int .i64 0] [.int .i64 1] S135 b19) ?_
   rintro w149 ⟨b150, S151, K152⟩
   replace b10 := K152.b 0 b10
   clear b19
   refine wN (tN ?_)
   exact ⟨_, 1, 1, (hdw (hdc (hdc (hdc (hdc rfl kr) kr) kr) kr)), b150, b10, S151, M⟩
  refine lP1 3 80 (bF q148) (wN (tN ?_))
  obtain ⟨q153, M⟩ | ⟨q153, M⟩ := ifc M
  ·refine cT (bT q153) (wR (lP 1 ?_))
   refine lE (eS g14 (0 + 2) (.int .i64 1) #[.int .i64 1, .int .i64 x6, .int .i64 1, .slice none 0 0, .int .i64 0] [.int .i64 1] S135 b19) ?_
   rintro w154 ⟨b155, S156, K157⟩
   replace b10 := K157.b 0 b10
   clear b19
   refine wN (tN ?_)
   exact ⟨_, 1, 1, (hdw (hdc (hdc (hdc (hdc rfl kr) kr) kr) kr)), b155, b10, S156, M⟩
  refine cF (bF q153) (wQ (wR (lP 3 ?_)))
  obtain ⟨q158, M⟩ | ⟨q158, M⟩ := ifc M
  ·refine lP1 3 87 (bT q158) (wN (tN (cond_t rfl kr ?_)))
   refine wp_seq_cut (fun a165 w159 => ∃ (f160 : Nat → Value) (x161 : Int), a165 = mk 166 (upd (upd (upd (upd f160 0 (.slice A2 x1.length c3)) 1 (.int .i64 x6)) 6 (.pointer (some ⟨g9, 0, none⟩))) 8 (.pointer (some ⟨g14, 0, none⟩))) ∧ w159.heap[g14]? = some (.cells #[.int .i64 x161, .int .i64 x6, .int .i64 0, .slice none 0 0, .int .i64 0] 28 (0, 0)) ∧ w159.heap[g9]? = some (.cells #[.int .i64 0, .int .i64 0, .int .i64 0, .slice none 0 0, .int .i64 0] 28 (0, 0)) ∧ St (anyOf []) H w [(is g14), (is g9)] H w159 ∧ spec_l1token.l1 k x1 x6 x161 = some r) ?_ ?_
   ·refine wQ (wR (lP 2 (wN (tN ?_))))
    obtain ⟨q166, M⟩ | ⟨q166, M⟩ := ifd M
    ·refine cF (bF q166) (wK (tN ?_))
     exact ⟨_, 1, (hdw (hdc (hdc (hdc (hdc rfl kr) kr) kr) kr)), b19, b10, S135, M⟩
    refine cT (bT q166) (wR (lP 1 ?_))
    refine lE (eS g14 (0 + 0) (.int .i64 4) #[.int .i64 4, .int .i64 x6, .int .i64 0, .slice none 0 0, .int .i64 0] [.int .i64 4] S135 b19) ?_
    rintro w167 ⟨b168, S169, K170⟩
    replace b10 := K170.b 0 b10
    clear b19
    refine wN (tN ?_)
    exact ⟨_, 4, (hdw (hdc (hdc (hdc (hdc rfl kr) kr) kr) kr)), b168, b10, S169, M⟩
   clear M
   rintro a165 w159 ⟨f160, x161, rfl, b19, b10, S162, M⟩
   rw [spec_l1token.l1] at M
   refine wQ (wR (lP 2 ?_))
   obtain ⟨t171, u172, M⟩ := bnd M
   refine lC 97 (eE func34) (spec_l1text.calls h4 l5 (St.own' (Fa := []) (Fr := [(is g14), (is g9)]) S162) u172) ?_
   rintro _ w173 ⟨A176, c177, F179, H174, rfl, h178, T175⟩
   refine ⟨_, rfl, ?_⟩
   obtain ⟨S180, K181⟩ := St.call (Fa := []) (Fr := [(is g14), (is g9)]) S162 T175
   replace b19 := K181.b 0 b19
   replace b10 := K181.b 1 b10
   have E182 := T175.ext
   refine lP 5 (wN (tN (wQ (wQ (wR (lP 2 (wN (tN ?_))))))))
   obtain ⟨q183, M⟩ | ⟨q183, M⟩ := ifc M
   ·refine cT (bT q183) (wQ (wR (lP 1 ?_)))
    have S184 := S180.pulls [(is g9), F179, (is g14)] [2] rfl
    refine lE (eSa g9 0 [.int .i64 0, .int .i64 0, .int .i64 0, .slice none 0 0, .int .i64 0] S184 b10) ?_
    rintro w185 ⟨b186, S187, K188⟩
    clear b10
    refine lP 1 (wN (tN (wT (tR (tR ?_)))))
    obtain rfl := sj M
    have S189 := S187.unit
    have S190 := St.first (Fa := [no]) (Fr := [(is g9), F179, (is g14)]) S189
    exact retST (ty := 28) (cur := #[.int .i64 0, .int .i64 0, .int .i64 0, .slice none 0 0, .int .i64 0]) rfl rfl rfl kr b186 underlying28 rfl kr (show _ = .int .i64 2 from kr) ⟨none, 0, no, H174, rfl, (Row.nil _ _ _ _ no), S190⟩
   refine cF (bF q183) (wK (tN (wQ (wR (lP 2 ?_)))))
   have S191 := S180.pulls [(is g14), F179, (is g9)] [1] rfl
   refine lE (eS g14 (0 + 3) (.slice A176 t171.1.length c177) #[.int .i64 x161, .int .i64 x6, .int .i64 0, .slice A176 t171.1.length c177, .int .i64 0] [.slice A176 t171.1.length c177] S191 b19) ?_
   rintro w192 ⟨b193, S194, K195⟩
   replace h178 := h178.move (K195.a 0)
   replace b10 := K195.b 1 b10
   clear b19
   refine wN (tN (wQ (wR (lP 2 ?_))))
   refine lE (eS g14 (0 + 2) (.int .i64 t171.2) #[.int .i64 x161, .int .i64 x6, .int .i64 t171.2, .slice A176 t171.1.length c177, .int .i64 0] [.int .i64 t171.2] S194 b193) ?_
   rintro w196 ⟨b197, S198, K199⟩
   replace h178 := h178.move (K199.a 0)
   replace b10 := K199.b 1 b10
   clear b193
   refine wN (tN (wQ (wQ (wR (lP 3 (wN (tN ?_)))))))
   obtain ⟨q200, M⟩ | ⟨q200, M⟩ := ifc M
   ·refine cT (bT q200) (wQ (wR (lP 1 ?_)))
    have S201 := S198.pulls [(is g9), (is g14), F179] [2] rfl
    refine lE (eSa g9 0 [.int .i64 0, .int .i64 0, .int .i64 0, .slice none 0 0, .int .i64 0] S201 b10) ?_
    rintro w202 ⟨b203, S204, K205⟩
    clear b10
    refine lP 1 (wN (tN (wT (tR (tR ?_)))))
    obtain rfl := sj M
    have S206 := S204.unit
    have S207 := St.first (Fa := [no]) (Fr := [(is g9), (is g14), F179]) S206
    exact retST (ty := 28) (cur := #[.int .i64 0, .int .i64 0, .int .i64 0, .slice none 0 0, .int .i64 0]) rfl rfl rfl kr b203 underlying28 rfl kr (show _ = .int .i64 3 from kr) ⟨none, 0, no, H174, rfl, (Row.nil _ _ _ _ no), S207⟩
   refine cF (bF q200) (wK (tN (wQ (wR (lV 111 (e_loadS (b := g14) (off := 0) (cs := [.int .i64 x161, .int .i64 x6, .int .i64 t171.2, .slice A176 t171.1.length c177, .int .i64 0]) underlying28 rfl kr kr (blk_cells b197 rfl)) ?_)))))
   have S208 := S198.pulls [(is g9), (is g14), F179] [2] rfl
   refine lE (eSa g9 0 [.int .i64 x161, .int .i64 x6, .int .i64 t171.2, .slice A176 t171.1.length c177, .int .i64 0] S208 b10) ?_
   rintro w209 ⟨b210, S211, K212⟩
   replace h178 := h178.move (K212.a 1)
   clear b10
   refine lP 1 (wN (tN (wT (tR ?_))))
   obtain rfl := sj M
   have S213 := S211.pulls [F179, (is g9), (is g14)] [2] rfl
   have S214 := St.first (Fa := [F179]) (Fr := [(is g9), (is g14)]) S213
   exact retST (ty := 28) (cur := #[.int .i64 x161, .int .i64 x6, .int .i64 t171.2, .slice A176 t171.1.length c177, .int .i64 0]) rfl rfl rfl kr b210 underlying28 rfl kr (show _ = .int .i64 0 from kr) ⟨A176, c177, F179, H174, rfl, h178, S214⟩
  refine lP1 3 87 (bF q158) (wN (tN ?_))
  obtain ⟨q216, M⟩ | ⟨q216, M⟩ := ifc M
  ·refine cT (bT q216) (wQ (wQ (wR (lP 2 (wN (tN ?_))))))
   refine cT (bT q216) (wR (lP 1 ?_))
   refine lE (eS g14 (0 + 0) (.int .i64 4) #[.int .i64 4, .int .i64 x6, .int .i64 0, .slice none 0 0, .int .i64 0] [.int .i64 4] S135 b19) ?_
   rintro w217 ⟨b218, S219, K220⟩
   replace b10 := K220.b 0 b10
   clear b19
   refine wN (tN (wQ (wR (lP 2 ?_))))
   obtain ⟨t221, u222, M⟩ := bnd M
   refine lC 97 (eE func34) (spec_l1text.calls h4 l5 (St.own' (Fa := []) (Fr := [(is g14), (is g9)]) S219) u222) ?_
   rintro _ w223 ⟨A226, c227, F229, H224, rfl, h228, T225⟩
   refine ⟨_, rfl, ?_⟩
   obtain ⟨S230, K231⟩ := St.call (Fa := []) (Fr := [(is g14), (is g9)]) S219 T225
   replace b218 := K231.b 0 b218
   replace b10 := K231.b 1 b10
   have E232 := T225.ext
   refine lP 5 (wN (tN (wQ (wQ (wR (lP 2 (wN (tN ?_))))))))
   obtain ⟨q233, M⟩ | ⟨q233, M⟩ := ifc M
   ·refine cT (bT q233) (wQ (wR (lP 1 ?_)))
    have S234 := S230.pulls [(is g9), F229, (is g14)] [2] rfl
    refine lE (eSa g9 0 [.int .i64 0, .int .i64 0, .int .i64 0, .slice none 0 0, .int .i64 0] S234 b10) ?_
    rintro w235 ⟨b236, S237, K238⟩
    clear b10
    refine lP 1 (wN (tN (wT (tR (tR ?_)))))
    obtain rfl := sj M
    have S239 := S237.unit
    have S240 := St.first (Fa := [no]) (Fr := [(is g9), F229, (is g14)]) S239
    exact retST (ty := 28) (cur := #[.int .i64 0, .int .i64 0, .int .i64 0, .slice none 0 0, .int .i64 0]) rfl rfl rfl kr b236 underlying28 rfl kr (show _ = .int .i64 2 from kr) ⟨none, 0, no, H224, rfl, (Row.nil _ _ _ _ no), S240⟩
   refine cF (bF q233) (wK (tN (wQ (wR (lP 2 ?_)))))
   have S241 := S230.pulls [(is g14), F229, (is g9)] [1] rfl
   refine lE (eS g14 (0 + 3) (.slice A226 t221.1.length c227) #[.int .i64 4, .int .i64 x6, .int .i64 0, .slice A226 t221.1.length c227, .int .i64 0] [.slice A226 t221.1.length c227] S241 b218) ?_
   rintro w242 ⟨b243, S244, K245⟩
   replace h228 := h228.move (K245.a 0)
   replace b10 := K245.b 1 b10
   clear b218
   refine wN (tN (wQ (wR (lP 2 ?_))))
   refine lE (eS g14 (0 + 2) (.int .i64 t221.2) #[.int .i64 4, .int .i64 x6, .int .i64 t221.2, .slice A226 t221.1.length c227, .int .i64 0] [.int .i64 t221.2] S244 b243) ?_
   rintro w246 ⟨b247, S248, K249⟩
   replace h228 := h228.move (K249.a 0)
   replace b10 := K249.b 1 b10
   clear b243
   refine wN (tN (wQ (wQ (wR (lP 3 (wN (tN ?_)))))))
   obtain ⟨q250, M⟩ | ⟨q250, M⟩ := ifc M
   ·refine cT (bT q250) (wQ (wR (lP 1 ?_)))
    have S251 := S248.pulls [(is g9), (is g14), F229] [2] rfl
    refine lE (eSa g9 0 [.int .i64 0, .int .i64 0, .int .i64 0, .slice none 0 0, .int .i64 0] S251 b10) ?_
    rintro w252 ⟨b253, S254, K255⟩
    clear b10
    refine lP 1 (wN (tN (wT (tR (tR ?_)))))
    obtain rfl := sj M
    have S256 := S254.unit
    have S257 := St.first (Fa := [no]) (Fr := [(is g9), (is g14), F229]) S256
    exact retST (ty := 28) (cur := #[.int .i64 0, .int .i64 0, .int .i64 0, .slice none 0 0, .int .i64 0]) rfl rfl rfl kr b253 underlying28 rfl kr (show _ = .int .i64 3 from kr) ⟨none, 0, no, H224, rfl, (Row.nil _ _ _ _ no), S257⟩
   refine cF (bF q250) (wK (tN (wQ (wR (lV 111 (e_loadS (b := g14) (off := 0) (cs := [.int .i64 4, .int .i64 x6, .int .i64 t221.2, .slice A226 t221.1.length c227, .int .i64 0]) underlying28 rfl kr kr (blk_cells b247 rfl)) ?_)))))
   have S258 := S248.pulls [(is g9), (is g14), F229] [2] rfl
   refine lE (eSa g9 0 [.int .i64 4, .int .i64 x6, .int .i64 t221.2, .slice A226 t221.1.length c227, .int .i64 0] S258 b10) ?_
   rintro w259 ⟨b260, S261, K262⟩
   replace h228 := h228.move (K262.a 1)
   clear b10
   refine lP 1 (wN (tN (wT (tR ?_))))
   obtain rfl := sj M
   have S263 := S261.pulls [F229, (is g9), (is g14)] [2] rfl
   have S264 := St.first (Fa := [F229]) (Fr := [(is g9), (is g14)]) S263
   exact retST (ty := 28) (cur := #[.int .i64 4, .int .i64 x6, .int .i64 t221.2, .slice A226 t221.1.length c227, .int .i64 0]) rfl rfl rfl kr b260 underlying28 rfl kr (show _ = .int .i64 0 from kr) ⟨A226, c227, F229, H224, rfl, h228, S264⟩
  refine cF (bF q216) (wQ (wR (lP 3 ?_)))
  obtain ⟨q265, M⟩ | ⟨q265, M⟩ := ifc M
  ·refine lP1 27 114 (bT q265) (wN (tN (cond_t rfl kr (wQ (wR (lP 1 ?_))))))
   refine lE (eS g14 (0 + 0) (.int .i64 5) #[.int .i64 5, .int .i64 x6, .int .i64 0, .slice none 0 0, .int .i64 0] [.int .i64 5] S135 b19) ?_
   rintro w266 ⟨b267, S268, K269⟩
   replace b10 := K269.b 0 b10
   clear b19
   refine wN (tN (wQ (wQ (wR (lP 3 (lP1 2 145 (bT q265) (wN (tN ?_))))))))
   obtain ⟨q270, M⟩ | ⟨q270, M⟩ := ifd M
   ·refine cF (bvf q270 kr) (wK (tN (wR (lP 1 ?_))))
    refine lE (eS g14 (0 + 2) (.int .i64 1) #[.int .i64 5, .int .i64 x6, .int .i64 1, .slice none 0 0, .int .i64 0] [.int .i64 1] S268 b267) ?_
    rintro w279 ⟨b280, S281, K282⟩
    replace b10 := K282.b 0 b10
    clear b267
    refine wN (tN ?_)
    exact ⟨_, 5, 1, (hdw (hdc (hdc (hdc (hdc rfl kr) kr) kr) kr)), b280, b10, S281, M⟩
   refine cT (bvt q270 kr) (wR (lP 1 ?_))
   refine lE (eS g14 (0 + 0) (.int .i64 6) #[.int .i64 6, .int .i64 x6, .int .i64 0, .slice none 0 0, .int .i64 0] [.int .i64 6] S268 b267) ?_
   rintro w271 ⟨b272, S273, K274⟩
   replace b10 := K274.b 0 b10
   clear b267
   refine wN (tN (wR (lP 1 ?_)))
   refine lE (eS g14 (0 + 2) (.int .i64 1) #[.int .i64 6, .int .i64 x6, .int .i64 1, .slice none 0 0, .int .i64 0] [.int .i64 1] S273 b272) ?_
   rintro w275 ⟨b276, S277, K278⟩
   replace b10 := K278.b 0 b10
   clear b272
   refine wN (tN ?_)
   exact ⟨_, 6, 1, (hdw (hdc (hdc (hdc (hdc rfl kr) kr) kr) kr)), b276, b10, S277, M⟩
  refine lP1 4 114 (bF q265) ?_
  obtain ⟨q283, M⟩ | ⟨q283, M⟩ := ifc M
  ·refine lP1 23 118 (bT q283) (wN (tN (cond_t rfl kr (wQ (wR (lP 1 ?_))))))
   refine lE (eS g14 (0 + 0) (.int .i64 5) #[.int .i64 5, .int .i64 x6, .int .i64 0, .slice none 0 0, .int .i64 0] [.int .i64 5] S135 b19) ?_
   rintro w284 ⟨b285, S286, K287⟩
   replace b10 := K287.b 0 b10
   clear b19
   refine wN (tN (wQ (wQ (wR (lP 3 (lP1 2 145 (bF q265) (wN (tN (cond_f rfl kr (wK (tN (wR (lP 1 ?_)))))))))))))
   refine lE (eS g14 (0 + 2) (.int .i64 1) #[.int .i64 5, .int .i64 x6, .int .i64 1, .slice none 0 0, .int .i64 0] [.int .i64 1] S286 b285) ?_
   rintro w288 ⟨b289, S290, K291⟩
   replace b10 := K291.b 0 b10
   clear b285
   refine wN (tN ?_)
   exact ⟨_, 5, 1, (hdw (hdc (hdc (hdc (hdc rfl kr) kr) kr) kr)), b289, b10, S290, M⟩
  refine lP1 4 118 (bF q283) ?_
  obtain ⟨q292, M⟩ | ⟨q292, M⟩ := ifc M
  ·refine lP1 19 122 (bT q292) (wN (tN (cond_t rfl kr (wQ (wR (lP 1 ?_))))))
   refine lE (eS g14 (0 + 0) (.int .i64 5) #[.int .i64 5, .int .i64 x6, .int .i64 0, .slice none 0 0, .int .i64 0] [.int .i64 5] S135 b19) ?_
   rintro w293 ⟨b294, S295, K296⟩
   replace b10 := K296.b 0 b10
   clear b19
   refine wN (tN (wQ (wQ (wR (lP 3 (lP1 2 145 (bF q265) (wN (tN (cond_f rfl kr (wK (tN (wR (lP 1 ?_)))))))))))))
   refine lE (eS g14 (0 + 2) (.int .i64 1) #[.int .i64 5, .int .i64 x6, .int .i64 1, .slice none 0 0, .int .i64 0] [.int .i64 1] S295 b294) ?_
   rintro w297 ⟨b298, S299, K300⟩
   replace b10 := K300.b 0 b10
   clear b294
   refine wN (tN ?_)
   exact ⟨_, 5, 1, (hdw (hdc (hdc (hdc (hdc rfl kr) kr) kr) kr)), b298, b10, S299, M⟩
  refine lP1 4 122 (bF q292) ?_
  obtain ⟨q301, M⟩ | ⟨q301, M⟩ := ifc M
  ·refine lP1 15 126 (bT q301) (wN (tN (cond_t rfl kr (wQ (wR (lP 1 ?_))))))
   refine lE (eS g14 (0 + 0) (.int .i64 5) #[.int .i64 5, .int .i64 x6, .int .i64 0, .slice none 0 0, .int .i64 0] [.int .i64 5] S135 b19) ?_
   rintro w302 ⟨b303, S304, K305⟩
   replace b10 := K305.b 0 b10
   clear b19
   refine wN (tN (wQ (wQ (wR (lP 3 (lP1 2 145 (bF q265) (wN (tN (cond_f rfl kr (wK (tN (wR (lP 1 ?_)))))))))))))
   refine lE (eS g14 (0 + 2) (.int .i64 1) #[.int .i64 5, .int .i64 x6, .int .i64 1, .slice none 0 0, .int .i64 0] [.int .i64 1] S304 b303) ?_
   rintro w306 ⟨b307, S308, K309⟩
   replace b10 := K309.b 0 b10
   clear b303
   refine wN (tN ?_)
   exact ⟨_, 5, 1, (hdw (hdc (hdc (hdc (hdc rfl kr) kr) kr) kr)), b307, b10, S308, M⟩
  refine lP1 4 126 (bF q301) ?_
  obtain ⟨q310, M⟩ | ⟨q310, M⟩ := ifc M
  ·refine lP1 11 130 (bT q310) (wN (tN (cond_t rfl kr (wQ (wR (lP 1 ?_))))))
   refine lE (eS g14 (0 + 0) (.int .i64 5) #[.int .i64 5, .int .i64 x6, .int .i64 0, .slice none 0 0, .int .i64 0] [.int .i64 5] S135 b19) ?_
   rintro w311 ⟨b312, S313, K314⟩
   replace b10 := K314.b 0 b10
   clear b19
   refine wN (tN (wQ (wQ (wR (lP 3 (lP1 2 145 (bF q265) (wN (tN (cond_f rfl kr (wK (tN (wR (lP 1 ?_)))))))))))))
   refine lE (eS g14 (0 + 2) (.int .i64 1) #[.int .i64 5, .int .i64 x6, .int .i64 1, .slice none 0 0, .int .i64 0] [.int .i64 1] S313 b312) ?_
   rintro w315 ⟨b316, S317, K318⟩
   replace b10 := K318.b 0 b10
   clear b312
   refine wN (tN ?_)
   exact ⟨_, 5, 1, (hdw (hdc (hdc (hdc (hdc rfl kr) kr) kr) kr)), b316, b10, S317, M⟩
  refine lP1 4 130 (bF q310) ?_
  obtain ⟨q319, M⟩ | ⟨q319, M⟩ := ifc M
  ·refine lP1 7 134 (bT q319) (wN (tN (cond_t rfl kr (wQ (wR (lP 1 ?_))))))
   refine lE (eS g14 (0 + 0) (.int .i64 5) #[.int .i64 5, .int .i64 x6, .int .i64 0, .slice none 0 0, .int .i64 0] [.int .i64 5] S135 b19) ?_
   rintro w320 ⟨b321, S322, K323⟩
   replace b10 := K323.b 0 b10
   clear b19
   refine wN (tN (wQ (wQ (wR (lP 3 (lP1 2 145 (bF q265) (wN (tN (cond_f rfl kr (wK (tN (wR (lP 1 ?_)))))))))))))
   refine lE (eS g14 (0 + 2) (.int .i64 1) #[.int .i64 5, .int .i64 x6, .int .i64 1, .slice none 0 0, .int .i64 0] [.int .i64 1] S322 b321) ?_
   rintro w324 ⟨b325, S326, K327⟩
   replace b10 := K327.b 0 b10
   clear b321
   refine wN (tN ?_)
   exact ⟨_, 5, 1, (hdw (hdc (hdc (hdc (hdc rfl kr) kr) kr) kr)), b325, b10, S326, M⟩
  refine lP1 4 134 (bF q319) ?_
  obtain ⟨q328, M⟩ | ⟨q328, M⟩ := ifc M
  ·refine lP1 3 138 (bT q328) (wN (tN (cond_t rfl kr (wQ (wR (lP 1 ?_))))))
   refine lE (eS g14 (0 + 0) (.int .i64 5) #[.int .i64 5, .int .i64 x6, .int .i64 0, .slice none 0 0, .int .i64 0] [.int .i64 5] S135 b19) ?_
   rintro w329 ⟨b330, S331, K332⟩
   replace b10 := K332.b 0 b10
   clear b19
   refine wN (tN (wQ (wQ (wR (lP 3 (lP1 2 145 (bF q265) (wN (tN (cond_f rfl kr (wK (tN (wR (lP 1 ?_)))))))))))))
   refine lE (eS g14 (0 + 2) (.int .i64 1) #[.int .i64 5, .int .i64 x6, .int .i64 1, .slice none 0 0, .int .i64 0] [.int .i64 1] S331 b330) ?_
   rintro w333 ⟨b334, S335, K336⟩
   replace b10 := K336.b 0 b10
   clear b330
   refine wN (tN ?_)
   exact ⟨_, 5, 1, (hdw (hdc (hdc (hdc (hdc rfl kr) kr) kr) kr)), b334, b10, S335, M⟩
  refine lP1 3 138 (bF q328) (wN (tN ?_))
  obtain ⟨q337, M⟩ | ⟨q337, M⟩ := ifd M
  ·refine cF (bF q337) (wQ (wR (lP 1 ?_)))
   have S346 := S135.pulls [(is g9), (is g14)] [1] rfl
   refine lE (eSa g9 0 [.int .i64 0, .int .i64 0, .int .i64 0, .slice none 0 0, .int .i64 0] S346 b10) ?_
   rintro w347 ⟨b348, S349, K350⟩
   clear b10
   refine lP 1 (wN (tN (wT (tR ?_))))
   obtain rfl := sj M
   have S351 := S349.unit
   have S352 := St.first (Fa := [no]) (Fr := [(is g9), (is g14)]) S351
   exact retST (ty := 28) (cur := #[.int .i64 0, .int .i64 0, .int .i64 0, .slice none 0 0, .int .i64 0]) rfl rfl rfl kr b348 underlying28 rfl kr (show _ = .int .i64 2 from kr) ⟨none, 0, no, H, rfl, (Row.nil _ _ _ _ no), S352⟩
  refine cT (bT q337) (wQ (wR (lP 1 ?_)))
  refine lE (eS g14 (0 + 0) (.int .i64 5) #[.int .i64 5, .int .i64 x6, .int .i64 0, .slice none 0 0, .int .i64 0] [.int .i64 5] S135 b19) ?_
  rintro w338 ⟨b339, S340, K341⟩
  replace b10 := K341.b 0 b10
  clear b19
  refine wN (tN (wQ (wQ (wR (lP 3 (lP1 2 145 (bF q265) (wN (tN (cond_f rfl kr (wK (tN (wR (lP 1 ?_)))))))))))))
  refine lE (eS g14 (0 + 2) (.int .i64 1) #[.int .i64 5, .int .i64 x6, .int .i64 1, .slice none 0 0, .int .i64 0] [.int .i64 1] S340 b339) ?_
  rintro w342 ⟨b343, S344, K345⟩
  replace b10 := K345.b 0 b10
  clear b339
  refine wN (tN ?_)
  exact ⟨_, 5, 1, (hdw (hdc (hdc (hdc (hdc rfl kr) kr) kr) kr)), b343, b10, S344, M⟩
 clear M
 rintro a57 w50 ⟨f51, x52, x53, rfl, b19, b10, S54, M⟩
 rw [spec_l1token.l0] at M
 refine wQ (wR (lP 4 (lV 155 (eB 2 b19) (lP 1 ?_))))
 obtain ⟨q575, M⟩ := chk M
 obtain ⟨q576, M⟩ := chk M
 obtain ⟨A577, h580, l579, h578⟩ := Rd.sub2 (d := tByte) (n := x1.length) (m := 1) (cap := c3) (a := x6) (b := (i64.wrap (x6 + x53))) rfl h4 q22 q575 q576 rfl l5
 refine lV 157 (e_slice_lh (n := x1.length) (m := 1) (cap := c3) (A := A2) (a := x6) (b := (i64.wrap (x6 + x53))) (k := .i64) (k2 := .i64) underlying22 kr kr kr kr q22 q575 q576 l5 h580) ?_
 obtain ⟨t581, u582, M⟩ := bnd M
 refine lC 158 (eE func35) (spec_l1copy.calls h578 l579 (St.own' (Fa := []) (Fr := [(is g14), (is g9)]) S54) u582) ?_
 rintro _ w583 ⟨A586, c587, F589, H584, rfl, h588, T585⟩
 refine ⟨_, rfl, ?_⟩
 obtain ⟨S590, K591⟩ := St.call (Fa := []) (Fr := [(is g14), (is g9)]) S54 T585
 replace b19 := K591.b 0 b19
 replace b10 := K591.b 1 b10
 have E592 := T585.ext
 refine lP 1 ?_
 have S593 := S590.pulls [(is g14), F589, (is g9)] [1] rfl
 refine lE (eS g14 (0 + 3) (.slice A586 t581.length c587) #[.int .i64 x52, .int .i64 x6, .int .i64 x53, .slice A586 t581.length c587, .int .i64 0] [.slice A586 t581.length c587] S593 b19) ?_
 rintro w594 ⟨b595, S596, K597⟩
 replace h588 := h588.move (K597.a 0)
 replace b10 := K597.b 1 b10
 clear b19
 refine wN (tN (wQ (wQ (wR (lP 1 (lV 161 (eB 3 b595) (lP 2 (wN (tN ?_)))))))))
 obtain ⟨q598, M⟩ | ⟨q598, M⟩ := ifc M
 ·refine cT (bT q598) (wQ (wR (lP 1 ?_)))
  have S599 := S596.pulls [(is g9), (is g14), F589] [2] rfl
  refine lE (eSa g9 0 [.int .i64 0, .int .i64 0, .int .i64 0, .slice none 0 0, .int .i64 0] S599 b10) ?_
  rintro w600 ⟨b601, S602, K603⟩
  clear b10
  refine lP 1 (wN (tN (wT (tR ?_))))
  obtain rfl := sj M
  have S604 := S602.unit
  have S605 := St.first (Fa := [no]) (Fr := [(is g9), (is g14), F589]) S604
  exact retST (ty := 28) (cur := #[.int .i64 0, .int .i64 0, .int .i64 0, .slice none 0 0, .int .i64 0]) rfl rfl rfl kr b601 underlying28 rfl kr (show _ = .int .i64 3 from kr) ⟨none, 0, no, H584, rfl, (Row.nil _ _ _ _ no), S605⟩
 refine cF (bF q598) (wK (tN (wQ (wR (lV 165 (e_loadS (b := g14) (off := 0) (cs := [.int .i64 x52, .int .i64 x6, .int .i64 x53, .slice A586 t581.length c587, .int .i64 0]) underlying28 rfl kr kr (blk_cells b595 rfl)) ?_)))))
 have S606 := S596.pulls [(is g9), (is g14), F589] [2] rfl
 refine lE (eSa g9 0 [.int .i64 x52, .int .i64 x6, .int .i64 x53, .slice A586 t581.length c587, .int .i64 0] S606 b10) ?_
 rintro w607 ⟨b608, S609, K610⟩
 replace h588 := h588.move (K610.a 1)
 clear b10
 refine lP 1 (wN (tN (wT ?_)))
 obtain rfl := sj M
 have S611 := S609.pulls [F589, (is g9), (is g14)] [2] rfl
 have S612 := St.first (Fa := [F589]) (Fr := [(is g9), (is g14)]) S611
 exact retST (ty := 28) (cur := #[.int .i64 x52, .int .i64 x6, .int .i64 x53, .slice A586 t581.length c587, .int .i64 0]) rfl rfl rfl kr b608 underlying28 rfl kr (show _ = .int .i64 0 from kr) ⟨A586, c587, F589, H584, rfl, h588, S612⟩
def st28 : Ty Token := iso (pair tInt (pair tInt (pair tInt (pair sl5 tInt)))) (fun x => (x.kind, x.place, x.size, x.text, x.n))
theorem st28_open {H : Hp} {x : Token} {cs : List Value} (h : st28.R H x cs) : ∃ (A3 : Option Addr) (c3 : Nat), cs = [.int .i64 x.kind, .int .i64 x.place, .int .i64 x.size, .slice A3 x.text.length c3, .int .i64 x.n] ∧ x.text.length ≤ c3 ∧ Rd tByte H A3 x.text := by
 obtain ⟨_, _, rfl, rfl, ⟨_, _, rfl, rfl, ⟨_, _, rfl, rfl, ⟨_, _, rfl, ⟨A3, c3, rfl, l3, h3⟩, rfl⟩⟩⟩⟩ := h
 exact ⟨A3, c3, rfl, l3, h3⟩
theorem st28_mkO {H X : Hp} {F3 : Foot} {x : Token} {A3 : Option Addr} {c3 : Nat} (h3 : Row tByte 5 H X F3 A3 c3 x.text) : st28.O H X F3 x [.int .i64 x.kind, .int .i64 x.place, .int .i64 x.size, .slice A3 x.text.length c3, .int .i64 x.n] := (pairO0 (a := tInt) (b := (pair tInt (pair tInt (pair sl5 tInt)))) (x := (x.kind, (x.place, (x.size, (x.text, x.n))))) (c0 := [.int .i64 x.kind]) (c1 := [.int .i64 x.place, .int .i64 x.size, .slice A3 x.text.length c3, .int .i64 x.n]) rfl (pairO0 (a := tInt) (b := (pair tInt (pair sl5 tInt))) (x := (x.place, (x.size, (x.text, x.n)))) (c0 := [.int .i64 x.place]) (c1 := [.int .i64 x.size, .slice A3 x.text.length c3, .int .i64 x.n]) rfl (pairO0 (a := tInt) (b := (pair sl5 tInt)) (x := (x.size, (x.text, x.n))) (c0 := [.int .i64 x.size]) (c1 := [.slice A3 x.text.length c3, .int .i64 x.n]) rfl (pairO1 (a := sl5) (b := tInt) (x := (x.text, x.n)) (c0 := [.slice A3 x.text.length c3]) (c1 := [.int .i64 x.n]) ⟨A3, c3, rfl, h3⟩ rfl))))
theorem st28_openO {H X : Hp} {F : Foot} {x : Token} {cs : List Value} (h : st28.O H X F x cs) : ∃ (A3 : Option Addr) (c3 : Nat) (F3 : Foot), cs = [.int .i64 x.kind, .int .i64 x.place, .int .i64 x.size, .slice A3 x.text.length c3, .int .i64 x.n] ∧ Row tByte 5 H X F3 A3 c3 x.text ∧ (∀ b, F3 b → F b) := by
 obtain ⟨_, _, K3, L3, rfl, rfl, ⟨_, _, K2, L2, rfl, rfl, ⟨_, _, K1, L1, rfl, rfl, ⟨_, _, K0, L0, rfl, ⟨A3, c3, rfl, h3⟩, rfl, d0, s0⟩, d1, s1⟩, d2, s2⟩, d3, s3⟩ := h
 exact ⟨A3, c3, _, rfl, h3, fun b hb => s3 b (.inr (s2 b (.inr (s1 b (.inr (s0 b (.inl (hb))))))))⟩
theorem st28_c0 {H X : Hp} {F : Foot} {x : Token} {cs : List Value} (h : st28.O H X F x cs) : cs[0]? = some (.int .i64 x.kind) := by obtain ⟨_, _, _, rfl, _, _⟩ := st28_openO h; rfl
theorem st28_c1 {H X : Hp} {F : Foot} {x : Token} {cs : List Value} (h : st28.O H X F x cs) : cs[1]? = some (.int .i64 x.place) := by obtain ⟨_, _, _, rfl, _, _⟩ := st28_openO h; rfl
theorem st28_c2 {H X : Hp} {F : Foot} {x : Token} {cs : List Value} (h : st28.O H X F x cs) : cs[2]? = some (.int .i64 x.size) := by obtain ⟨_, _, _, rfl, _, _⟩ := st28_openO h; rfl
theorem st28_r2 {H : Hp} {x : Token} {cs : List Value} (h : st28.R H x cs) : cs[2]? = some (.int .i64 x.size) := by obtain ⟨_, _, rfl, _, _⟩ := st28_open h; rfl
def z28 : Token := ⟨(0 : Int), (0 : Int), (0 : Int), ([] : List UInt8), (0 : Int)⟩
def spec_Lex.l0 : Nat → (List UInt8) → (List Token) → Int → Int → Option ((List Token) × Int × Int)
 | 0, _, _, _, _ => none
 | k24 + 1, x1, x12, x17, x18 => (if x17 < (x1.length : Int) then ((spec_l1skip.f k24 x1 x17).bind fun t27 => (if t27 > 0 then (spec_Lex.l0 k24 x1 x12 (i64.wrap (x17 + t27)) x18) else (if t27 < 0 then some ([], 2, x17) else ((spec_l1token.f k24 x1 x17 (decide (x18 = x17))).bind fun t37 => (if t37.2 ≠ 0 then some ([], t37.2, x17) else (if x12.length + 1 ≤ 2513169434916 then (if t37.1.kind = 1 then (spec_Lex.l0 k24 x1 (x12 ++ [t37.1]) (i64.wrap (x17 + t37.1.size)) (i64.wrap (x17 + t37.1.size))) else (spec_Lex.l0 k24 x1 (x12 ++ [t37.1]) (i64.wrap (x17 + t37.1.size)) (-1))) else none)))))) else some (x12, 0, 0))
def spec_Lex.f (k : Nat) (x1 : List UInt8) : Option ((List Token) × Int × Int) := (if (x1.length : Int) > 10000 then some ([], 3, 10000) else (spec_Lex.l0 k x1 [] 0 (-1)))
theorem spec_Lex.calls {k : Nat} {w : World} {H : Hp} {x1 : List UInt8} {A2 : Option Addr} {c3 : Nat} (h4 : Rd tByte H A2 x1) (l5 : x1.length ≤ c3) (S : Own [] H w) {r : (List Token) × Int × Int} (M : spec_Lex.f k x1 = some r) :
  Calls Tryz.prog 5 #[.slice A2 x1.length c3] w (fun e e_w => ∃ (A_1 : Option Addr) (c_1 : Nat) (F_1 : Foot) (H_ : Hp), e = .returned (.tuple #[.slice A_1 r.1.length c_1, .int .i64 r.2.1, .int .i64 r.2.2]) ∧ Row st28 28 H_ (hp e_w) F_1 A_1 c_1 r.1 ∧ St (anyOf []) H w [F_1] H_ e_w) := by
 rw [spec_Lex.f] at M
 refine enter (l := [.slice A2 x1.length c3]) 55 func5 rfl rfl rfl ?_
 have S0_ := S.st
 refine wQ (wR (lP 3 (wN (tN (wQ (wQ (wR (lP 3 (wN (tN ?_))))))))))
 obtain ⟨q6, M⟩ | ⟨q6, M⟩ := ifc M
 ·refine cT (bT q6) (wQ (wR (lP 3 (wN (tN (wT (tR ?_)))))))
  obtain rfl := sj M
  have S7 := S0_.unit
  exact ret3 rfl rfl rfl rfl kr kr kr ⟨none, 0, no, H, rfl, (Row.nil _ _ _ _ no), S7⟩
 refine cF (bF q6) (wK (tN (wQ (wR (lP 1 (wN (tN (wQ (wR (lP 1 (wN (tN (wQ (wR (lP 1 (wN (tN (wQ (wp_block ?_)))))))))))))))))))
 have S25 := S0_.unit
 refine wp_loop_g (fun k22 a23 w8 => ∃ (f9 : Nat → Value) (H10 : Hp) (x12 : List Token) (A13 : Option Addr) (c14 : Nat) (F15 : Foot) (x17 : Int) (x18 : Int), a23 = mk 55 (upd (upd (upd (upd f9 0 (.slice A2 x1.length c3)) 5 (.slice A13 x12.length c14)) 6 (.int .i64 x17)) 7 (.int .i64 x18)) ∧ Row st28 28 H10 (hp w8) F15 A13 c14 x12 ∧ Ext H H10 ∧ St (anyOf []) H w [F15] H10 w8 ∧ spec_Lex.l0 k22 x1 x12 x17 x18 = some r) k ⟨_, H, [], none, 0, no, 0, (-1), (hdw (hdc (hdc (hdc (hdc rfl kr) kr) kr) kr)), (Row.nil _ _ _ _ _), (Ext.refl _), S25, M⟩ ?_
 clear M
 rintro k22 a23 w8 ⟨f9, H10, x12, A13, c14, F15, x17, x18, rfl, h16, Y11, S19, M⟩
 rcases k22 with _ | k24
 ·rw [spec_Lex.l0] at M
  cases M
 rw [spec_Lex.l0] at M
 refine wQ (wQ (wR (lP 4 (wN (tN ?_)))))
 obtain ⟨q26, M⟩ | ⟨q26, M⟩ := ifd M
 ·refine cF (bF q26) (wp_exit (tE (tE (inb_hit (tN (wQ (wR (lP 4 (wN (tN (wT ?_)))))))))))
  obtain rfl := sj M
  exact ret3 rfl rfl rfl rfl kr kr kr ⟨A13, c14, F15, H10, rfl, h16, S19⟩
 refine cT (bT q26) (wK (tN (wp_block (wQ (wR (lP 2 ?_))))))
 obtain ⟨t27, u28, M⟩ := bnd M
 refine lC 20 (eE func12) (spec_l1skip.calls (h4.ext Y11) l5 S19.own0 u28) ?_
 rintro _ w29 ⟨rfl, C30⟩
 refine ⟨_, rfl, ?_⟩
 obtain ⟨S31, K32⟩ := S19.still C30
 replace h16 := h16.move (K32.a 0)
 refine lP 1 (wN (tN (wQ (wQ (wR (lP 2 (wN (tN ?_))))))))
 obtain ⟨q33, M⟩ | ⟨q33, M⟩ := ifc M
 ·refine cT (bT q33) (wQ (wR (lP 4 (wN (tN (wp_exit (tE (inb_hit (tN ?_)))))))))
  exact ⟨k24, (by omega), _, H10, x12, A13, c14, F15, (i64.wrap (x17 + t27)), x18, (hdw (hdc (hdc (hdc (hdc rfl kr) kr) kr) kr)), h16, Y11, S31, M⟩
 refine cF (bF q33) (wK (tN (wQ (wQ (wR (lP 2 (wN (tN ?_))))))))
 obtain ⟨q34, M⟩ | ⟨q34, M⟩ := ifc M
 ·refine cT (bT q34) (wQ (wR (lP 4 (wN (tN (wT (tR (inb_r (tR (inb_r (tR ?_)))))))))))
  obtain rfl := sj M
  have S35 := S31.unit
  have S36 := St.first (Fa := [no]) (Fr := [F15]) S35
  exact ret3 rfl rfl rfl rfl kr kr kr ⟨none, 0, no, H10, rfl, (Row.nil _ _ _ _ no), S36⟩
 refine cF (bF q34) (wK (tN (wQ (wR (lP 5 ?_)))))
 obtain ⟨t37, u38, M⟩ := bnd M
 refine lC 35 (eE func13) (spec_l1token.calls (h4.ext Y11) l5 (St.own' (Fa := []) (Fr := [F15]) S31) u38) ?_
 rintro _ w39 ⟨A42, c43, F45, H40, rfl, h44, T41⟩
 refine ⟨_, rfl, ?_⟩
 obtain ⟨S46, K47⟩ := St.call (Fa := []) (Fr := [F15]) S31 T41
 replace h16 := h16.move (K47.a 0)
 have E48 := T41.ext
 replace h16 := h16.ext E48
 refine lP 3 ?_
 refine lW 9 (nB #[.int .i64 0, .int .i64 0, .int .i64 0, .slice none 0 0, .int .i64 0] 28 S46) ?_
 rintro _ w49 ⟨g50, rfl, b51, S52, K53⟩
 replace h44 := h44.move (K53.a 0)
 replace h16 := h16.move (K53.a 1)
 refine lE (eSa g50 0 [.int .i64 t37.1.kind, .int .i64 t37.1.place, .int .i64 t37.1.size, .slice A42 t37.1.text.length c43, .int .i64 t37.1.n] S52 b51) ?_
 rintro w54 ⟨b55, S56, K57⟩
 replace h44 := h44.move (K57.a 0)
 replace h16 := h16.move (K57.a 1)
 clear b51
 refine lP 1 (wN (tN (wQ (wQ (wR (lP 1 (lV 39 (eNe .i64 t37.2 0) (wN (tN ?_)))))))))
 obtain ⟨q58, M⟩ | ⟨q58, M⟩ := ifc M
 ·refine cT (bT q58) (wQ (wR (lP 5 (wN (tN (wT (tR (inb_r (tR (inb_r (tR ?_)))))))))))
  obtain rfl := sj M
  have S59 := S56.unit
  have S60 := St.first (Fa := [no]) (Fr := [(is g50), F45, F15]) S59
  exact ret3 rfl rfl rfl rfl kr kr kr ⟨none, 0, no, H40, rfl, (Row.nil _ _ _ _ no), S60⟩
 refine cF (bF q58) (wK (tN (wQ (wR (lP 1 (lV 43 (e_loadS (b := g50) (off := 0) (cs := [.int .i64 t37.1.kind, .int .i64 t37.1.place, .int .i64 t37.1.size, .slice A42 t37.1.text.length c43, .int .i64 t37.1.n]) underlying28 rfl kr kr (blk_cells b55 rfl)) ?_))))))
 refine lW 44 (new_blk (v := fun g_ => .slice (some ⟨g_, 0, none⟩) 1 1) (cs := #[.int .i64 t37.1.kind, .int .i64 t37.1.place, .int .i64 t37.1.size, .slice A42 t37.1.text.length c43, .int .i64 t37.1.n]) (t := 28) S56 kr) ?_
 rintro _ w61 ⟨g62, rfl, b63, S64, K65⟩
 replace b55 := K65.b 0 b55
 replace h44 := h44.move (K65.a 1)
 replace h16 := h16.move (K65.a 2)
 obtain ⟨q66, M⟩ := chk M
 have S68 := S64.pulls [F15, F45, (is g62), (is g50)] [2, 3] rfl
 refine lW 45 (e_append (d := st28) (n := x12.length) (xs := x12) (cap := c14) (A := A13) (ys := [t37.1]) (A2 := (some ⟨g62, 0, none⟩)) (c2 := 1) (z := .agg #[.int .i64 0, .int .i64 0, .int .i64 0, .slice none 0 0, .int .i64 0]) (bytes := 56) S68 underlying24 kr rfl (by decide) kr rfl kr h16 (elsO_one1 (st28_mkO (x := t37.1) h44)) (.inr (blk_news b63 rfl)) (show (x12.length + [t37.1].length) * 56 ≤ _ by first | omega | (simp only [List.length_cons, List.length_nil]; omega)) (by decide)) ?_
 rintro _ w69 ⟨A70, c71, F72, rfl, h73, S74, K75⟩
 replace b55 := K75.b 1 b55
 refine lP 1 (wN (tN (wQ (wR (lP 2 (lV 48 (eB 2 b55) (lP 2 (wN (tN (wQ (wR (lP 1 (wN (tN (wQ (wR (lP 1 (lV 51 (eB 0 b55) (lP 1 (wN (tN ?_)))))))))))))))))))))
 obtain ⟨q76, M⟩ | ⟨q76, M⟩ := ifd M
 ·refine cF (bF q76) (wK (inb_n (tN ?_)))
  have S78 := St.first (Fa := [F72]) (Fr := [(is g62), (is g50)]) S74
  exact ⟨k24, (by omega), _, H40, (x12 ++ [t37.1]), A70, c71, F72, (i64.wrap (x17 + t37.1.size)), (-1), (hdw (hdc (hdc (hdc (hdc rfl kr) kr) kr) kr)), h73, (Y11.trans E48), S78, M⟩
 refine cT (bT q76) (wR (lP 2 (wN (inb_n (tN ?_)))))
 have S77 := St.first (Fa := [F72]) (Fr := [(is g62), (is g50)]) S74
 exact ⟨k24, (by omega), _, H40, (x12 ++ [t37.1]), A70, c71, F72, (i64.wrap (x17 + t37.1.size)), (i64.wrap (x17 + t37.1.size)), (hdw (hdc (hdc (hdc (hdc rfl kr) kr) kr) kr)), h73, (Y11.trans E48), S77, M⟩
structure GLexer where
 s_ : List UInt8
 at_ : Int
 tokens_ : List Token
 code_ : Int
 place_ : Int
 deriving Inhabited
def impl_isBlank.f (x1 : UInt8) : Option Bool := (if (x1.toNat : Int) = 32 then some true else (if (x1.toNat : Int) = 9 then some true else (if (x1.toNat : Int) = 10 then some true else some (decide ((x1.toNat : Int) = 13)))))
theorem impl_isBlank.calls {w : World} {H : Hp} {x1 : UInt8} (S : Own [] H w) {r : Bool} (M : impl_isBlank.f x1 = some r) :
  Calls Tryz.prog 36 #[.int .u8 (x1.toNat : Int)] w (fun e e_w => e = .returned (.bool r) ∧ Chg no w e_w) := by
 rw [impl_isBlank.f] at M
 refine enter (l := [.int .u8 (x1.toNat : Int)]) 17 func36 rfl rfl rfl ?_
 have S0_ := S.st
 refine wQ (wR (lP 1 (wN (tN (wQ (wR (lP 3 ?_)))))))
 obtain ⟨q2, M⟩ | ⟨q2, M⟩ := ifc M
 ·refine lP1 12 5 (bT q2) (wN (tN (wT ?_)))
  obtain rfl := sj M
  exact ret1 rfl rfl  kr ⟨rfl, S0_.chg⟩
 refine lP1 4 5 (bF q2) ?_
 obtain ⟨q3, M⟩ | ⟨q3, M⟩ := ifc M
 ·refine lP1 8 9 (bT q3) (wN (tN (wT ?_)))
  obtain rfl := sj M
  exact ret1 rfl rfl  kr ⟨rfl, S0_.chg⟩
 refine lP1 4 9 (bF q3) ?_
 obtain ⟨q4, M⟩ | ⟨q4, M⟩ := ifc M
 ·refine lP1 4 13 (bT q4) (wN (tN (wT ?_)))
  obtain rfl := sj M
  exact ret1 rfl rfl  kr ⟨rfl, S0_.chg⟩
 refine lP1 4 13 (bF q4) (wN (tN (wT ?_)))
 obtain rfl := sj M
 exact ret1 rfl rfl  kr ⟨rfl, S0_.chg⟩
def impl_lexer_peek.f (x1 : GLexer) (x8 : Int) : Option UInt8 := (if (i64.wrap (x1.at_ + x8)) < (x1.s_.length : Int) then (if 0 ≤ (i64.wrap (x1.at_ + x8)) then some (x1.s_.getD ((i64.wrap (x1.at_ + x8)) : Int).toNat (0 : UInt8)) else none) else some (0 : UInt8))
theorem impl_lexer_peek.calls {w : World} {H : Hp} (x1 : GLexer) {g2 : Nat} {A4 : Option Addr} {c5 : Nat} {x8 : Int} (h6 : Rd st28 H A4 x1.tokens_) (l7 : x1.tokens_.length ≤ c5) (b3 : H g2 = some (.cells #[str x1.s_, .int .i64 x1.at_, .slice A4 x1.tokens_.length c5, .int .i64 x1.code_, .int .i64 x1.place_] 39 (0, 0))) (S : Own [] H w) {r : UInt8} (M : impl_lexer_peek.f x1 x8 = some r) :
  Calls Tryz.prog 37 #[.pointer (some ⟨g2, 0, none⟩), .int .i64 x8] w (fun e e_w => e = .returned (.int .u8 (r.toNat : Int)) ∧ Chg no w e_w) := by
 rw [impl_lexer_peek.f] at M
 refine enter (l := [.pointer (some ⟨g2, 0, none⟩), .int .i64 x8]) 28 func37 rfl rfl rfl ?_
 have S0_ := S.st
 refine wQ (wR (lP 1 (wN (tN (wQ (wQ ?_))))))
 refine region_still kr kr S0_ ?_
 intro w9 S10 K11
 refine sP 3 (sV 8 (eB 1 (S10.inv _ _ b3)) (sP 5 (sV 14 (eB 0 (S10.inv _ _ b3)) (sV 15 (e_slen (p := x1.s_) underlying9 kr) (sP 1 (wpStill_nil (tN ?_)))))))
 obtain ⟨q12, M⟩ | ⟨q12, M⟩ := ifd M
 ·refine cF (bF q12) (wK (tN (wQ (wR (lP 1 (wN (tN (wT ?_))))))))
  obtain rfl := sj M
  exact ret1 rfl rfl  kr ⟨rfl, S10.chg⟩
 refine cT (bT q12) (wQ ?_)
 refine region_still kr kr S10 ?_
 intro w13 S14 K15
 refine sP 3 (sV 20 (eB 0 (S14.inv _ _ b3)) (sP 3 (sV 24 (eB 1 (S14.inv _ _ b3)) (sP 2 ?_))))
 obtain ⟨q16, M⟩ := chk M
 refine sV 27 (e_sindex (p := x1.s_) (i := (i64.wrap (x1.at_ + x8))) (k := .i64) underlying9 kr kr q16 q12) (sP 1 (wpStill_nil (tN (wT (tR ?_)))))
 obtain rfl := sj M
 exact ret1 rfl rfl  kr ⟨rfl, S14.chg⟩
def impl_lexer_fault.f (x1 : GLexer) (x8 : Int) (x9 : Int) : Option GLexer := some (⟨x1.s_, x1.at_, x1.tokens_, x8, x9⟩ : GLexer)
theorem impl_lexer_fault.calls {w : World} {H : Hp} (x1 : GLexer) {g2 : Nat} {A4 : Option Addr} {c5 : Nat} {F7 : Foot} {x8 : Int} {x9 : Int} (h6 : Row st28 28 H (hp w) F7 A4 c5 x1.tokens_) (b3 : w.heap[g2]? = some (.cells #[str x1.s_, .int .i64 x1.at_, .slice A4 x1.tokens_.length c5, .int .i64 x1.code_, .int .i64 x1.place_] 39 (0, 0))) (S : Own [F7, (is g2)] H w) {r : GLexer} (M : impl_lexer_fault.f x1 x8 x9 = some r) :
  Calls Tryz.prog 38 #[.pointer (some ⟨g2, 0, none⟩), .int .i64 x8, .int .i64 x9] w (fun e e_w => ∃ (A_1 : Option Addr) (c_1 : Nat) (F_1 : Foot) (H_ : Hp), e = .returned (.tuple #[]) ∧ Row st28 28 H_ (hp e_w) F_1 A_1 c_1 r.tokens_ ∧ e_w.heap[g2]? = some (.cells #[str r.s_, .int .i64 r.at_, .slice A_1 r.tokens_.length c_1, .int .i64 r.code_, .int .i64 r.place_] 39 (0, 0)) ∧ St (anyOf [F7, (is g2)]) H w [(is g2), F_1] H_ e_w) := by
 rw [impl_lexer_fault.f] at M
 refine enter (l := [.pointer (some ⟨g2, 0, none⟩), .int .i64 x8, .int .i64 x9]) 14 func38 rfl rfl rfl ?_
 have S0_ := S.st
 refine wR (lP 6 ?_)
 have S10 := S0_.pulls [(is g2), F7] [1] rfl
 refine lE (eS g2 (0 + 3) (.int .i64 x8) #[str x1.s_, .int .i64 x1.at_, .slice A4 x1.tokens_.length c5, .int .i64 x8, .int .i64 x1.place_] [.int .i64 x8] S10 b3) ?_
 rintro w11 ⟨b12, S13, K14⟩
 replace h6 := h6.move (K14.a 0)
 clear b3
 refine lP 2 ?_
 refine lE (eS g2 (0 + 4) (.int .i64 x9) #[str x1.s_, .int .i64 x1.at_, .slice A4 x1.tokens_.length c5, .int .i64 x8, .int .i64 x9] [.int .i64 x9] S13 b12) ?_
 rintro w15 ⟨b16, S17, K18⟩
 replace h6 := h6.move (K18.a 0)
 clear b12
 refine wN ?_
 obtain rfl := sj M
 exact end0 rfl ⟨A4, c5, F7, H, rfl, h6, b16, S17⟩
mutual
def impl_lexer_blanks.l0 : Nat → GLexer → Int → Option GLexer
 | 0, _, _ => none
 | k16 + 1, x1, x10 => (if x10 < (x1.s_.length : Int) then (if x1.code_ = 0 then (if 0 ≤ x10 then ((impl_isBlank.f (x1.s_.getD (x10 : Int).toNat (0 : UInt8))).bind fun t26 => (if t26 = true then (impl_lexer_blanks.l0 k16 x1 (i64.wrap (x10 + 1))) else (if ((x1.s_.getD (x10 : Int).toNat (0 : UInt8)).toNat : Int) = 37 then (impl_lexer_blanks.l1 k16 x1 x10) else (if ((x1.s_.getD (x10 : Int).toNat (0 : UInt8)).toNat : Int) = 47 then ((impl_lexer_peek.f (⟨x1.s_, x10, x1.tokens_, x1.code_, x1.place_⟩ : GLexer) 1).bind fun t62 => (if (t62.toNat : Int) = 42 then (impl_lexer_blanks.l2 k16 x1 x10 (i64.wrap (x10 + 2))) else some (⟨x1.s_, x10, x1.tokens_, x1.code_, x1.place_⟩ : GLexer))) else some (⟨x1.s_, x10, x1.tokens_, x1.code_, x1.place_⟩ : GLexer))))) else none) else some (⟨x1.s_, x10, x1.tokens_, x1.code_, x1.place_⟩ : GLexer)) else some (⟨x1.s_, x10, x1.tokens_, x1.code_, x1.place_⟩ : GLexer))
def impl_lexer_blanks.l1 : Nat → GLexer → Int → Option GLexer
 | 0, _, _ => none
 | k48 + 1, x1, x42 => (if x42 < (x1.s_.length : Int) then (if 0 ≤ x42 then (if ((x1.s_.getD (x42 : Int).toNat (0 : UInt8)).toNat : Int) ≠ 10 then (impl_lexer_blanks.l1 k48 x1 (i64.wrap (x42 + 1))) else (impl_lexer_blanks.l0 k48 x1 x42)) else none) else (impl_lexer_blanks.l0 k48 x1 x42))
def impl_lexer_blanks.l2 : Nat → GLexer → Int → Int → Option GLexer
 | 0, _, _, _ => none
 | k88 + 1, x1, x10, x82 => (if (i64.wrap (x82 + 1)) < (x1.s_.length : Int) then (if 0 ≤ x82 then (if x82 ≤ (i64.wrap (x82 + 2)) then (if (i64.wrap (x82 + 2)) ≤ (x1.s_.length : Int) then (if ((x1.s_.drop (x82 : Int).toNat).take (((i64.wrap (x82 + 2)) : Int).toNat - (x82 : Int).toNat)) ≠ ([42, 47] : List UInt8) then (impl_lexer_blanks.l2 k88 x1 x10 (i64.wrap (x82 + 1))) else (if (i64.wrap (x82 + 1)) ≥ (x1.s_.length : Int) then ((impl_lexer_fault.f (⟨x1.s_, x10, x1.tokens_, x1.code_, x1.place_⟩ : GLexer) 2 x10).bind fun t97 => some t97) else (impl_lexer_blanks.l0 k88 x1 (i64.wrap (x82 + 2))))) else none) else none) else none) else (if (i64.wrap (x82 + 1)) ≥ (x1.s_.length : Int) then ((impl_lexer_fault.f (⟨x1.s_, x10, x1.tokens_, x1.code_, x1.place_⟩ : GLexer) 2 x10).bind fun t119 => some t119) else (impl_lexer_blanks.l0 k88 x1 (i64.wrap (x82 + 2)))))
end
def impl_lexer_blanks.f (k : Nat) (x1 : GLexer) : Option GLexer := (impl_lexer_blanks.l0 k x1 x1.at_)
theorem impl_lexer_blanks.calls {k : Nat} {w : World} {H : Hp} (x1 : GLexer) {g2 : Nat} {A4 : Option Addr} {c5 : Nat} {F7 : Foot} (h6 : Row st28 28 H (hp w) F7 A4 c5 x1.tokens_) (b3 : w.heap[g2]? = some (.cells #[str x1.s_, .int .i64 x1.at_, .slice A4 x1.tokens_.length c5, .int .i64 x1.code_, .int .i64 x1.place_] 39 (0, 0))) (S : Own [F7, (is g2)] H w) {r : GLexer} (M : impl_lexer_blanks.f k x1 = some r) :
  Calls Tryz.prog 14 #[.pointer (some ⟨g2, 0, none⟩)] w (fun e e_w => ∃ (A_1 : Option Addr) (c_1 : Nat) (F_1 : Foot) (H_ : Hp), e = .returned (.tuple #[]) ∧ Row st28 28 H_ (hp e_w) F_1 A_1 c_1 r.tokens_ ∧ e_w.heap[g2]? = some (.cells #[str r.s_, .int .i64 r.at_, .slice A_1 r.tokens_.length c_1, .int .i64 r.code_, .int .i64 r.place_] 39 (0, 0)) ∧ St (anyOf [F7, (is g2)]) H w [(is g2), F_1] H_ e_w) := by
 rw [impl_lexer_blanks.f] at M
 refine enter (l := [.pointer (some ⟨g2, 0, none⟩)]) 125 func14 rfl rfl rfl ?_
 have S0_ := S.st
 refine wp_block ?_
 refine wp_loop_g (fun k14 a15 w8 => ∃ (f9 : Nat → Value) (x10 : Int), a15 = mk 125 (upd f9 0 (.pointer (some ⟨g2, 0, none⟩))) ∧ Row st28 28 H (hp w8) F7 A4 c5 x1.tokens_ ∧ w8.heap[g2]? = some (.cells #[str x1.s_, .int .i64 x10, .slice A4 x1.tokens_.length c5, .int .i64 x1.code_, .int .i64 x1.place_] 39 (0, 0)) ∧ St (anyOf [F7, (is g2)]) H w [F7, (is g2)] H w8 ∧ impl_lexer_blanks.l0 k14 x1 x10 = some r) k ⟨_, x1.at_, (hdw (hdc rfl kr)), h6, b3, S0_, M⟩ ?_
 clear M
 rintro k14 a15 w8 ⟨f9, x10, rfl, h6, b3, S11, M⟩
 rcases k14 with _ | k16
 ·rw [impl_lexer_blanks.l0] at M
  cases M
 rw [impl_lexer_blanks.l0] at M
 refine wQ (wQ ?_)
 refine region_still kr kr S11 ?_
 intro w17 S18 K19
 replace h6 := h6.move (K19.a 0)
 replace b3 := K19.b 1 b3
 refine sP 3 (sV 7 (eB 1 b3) (sP 3 (sV 11 (eB 0 b3) (sV 12 (e_slen (p := x1.s_) underlying9 kr) (sP 2 ?_)))))
 obtain ⟨q20, M⟩ | ⟨q20, M⟩ := ifd M
 ·refine sP1 6 14 (bF q20) (wpStill_nil (tN (cond_f rfl kr (wp_exit (tE (tE (inb_hit ?_)))))))
  obtain rfl := sj M
  have S141 := S18.pulls [(is g2), F7] [1] rfl
  exact end0 rfl ⟨A4, c5, F7, H, rfl, h6, b3, S141⟩
 refine sP1 3 14 (bT q20) (sG 18 14 (bT q20) (eB 3 b3) (sP1 2 14 (bT q20) (wpStill_nil (tN ?_))))
 obtain ⟨q21, M⟩ | ⟨q21, M⟩ := ifd M
 ·refine cF (bF q21) (wp_exit (tE (tE (inb_hit ?_))))
  obtain rfl := sj M
  have S140 := S18.pulls [(is g2), F7] [1] rfl
  exact end0 rfl ⟨A4, c5, F7, H, rfl, h6, b3, S140⟩
 refine cT (bT q21) (wK (tN (wp_block (wQ ?_))))
 refine region_still kr kr S18 ?_
 intro w22 S23 K24
 replace h6 := h6.move (K24.a 0)
 replace b3 := K24.b 1 b3
 refine sP 3 (sV 24 (eB 0 b3) (sP 3 (sV 28 (eB 1 b3) ?_)))
 obtain ⟨q25, M⟩ := chk M
 refine sV 29 (e_sindex (p := x1.s_) (i := x10) (k := .i64) underlying9 kr kr q25 q20) (sP 1 (wpStill_nil (tN (wp_block (wQ (wR (lP 1 ?_)))))))
 obtain ⟨t26, u27, M⟩ := bnd M
 refine lC 32 (eE func36) (impl_isBlank.calls  S23.own0 u27) ?_
 rintro _ w28 ⟨rfl, C29⟩
 refine ⟨_, rfl, ?_⟩
 obtain ⟨S30, K31⟩ := S23.still C29
 replace h6 := h6.move (K31.a 0)
 replace b3 := K31.b 1 b3
 refine lP 1 (wN (tN ?_))
 obtain ⟨q32, M⟩ | ⟨q32, M⟩ := ifc M
 ·refine cT (bvt q32 kr) (wR (lP 3 (lV 36 (eB 1 b3) (lP 3 ?_))))
  have S33 := S30.pulls [(is g2), F7] [1] rfl
  refine lE (eS g2 (0 + 1) (.int .i64 (i64.wrap (x10 + 1))) #[str x1.s_, .int .i64 (i64.wrap (x10 + 1)), .slice A4 x1.tokens_.length c5, .int .i64 x1.code_, .int .i64 x1.place_] [.int .i64 (i64.wrap (x10 + 1))] S33 b3) ?_
  rintro w34 ⟨b35, S36, K37⟩
  replace h6 := h6.move (K37.a 0)
  clear b3
  refine wN (inb_n (inb_n (tN ?_)))
  have S38 := S36.pulls [F7, (is g2)] [1] rfl
  exact ⟨k16, (by omega), _, (i64.wrap (x10 + 1)), (hdw (hdc rfl kr)), h6, b35, S38, M⟩
 refine cF (bvf q32 kr) (wQ (wR (lP 3 (wN (tN ?_)))))
 obtain ⟨q39, M⟩ | ⟨q39, M⟩ := ifc M
 ·refine cT (bT q39) (wp_block ?_)
  refine wp_loop_g (fun k46 a47 w40 => ∃ (f41 : Nat → Value) (x42 : Int), k46 ≤ k16 ∧ a47 = mk 125 (upd f41 0 (.pointer (some ⟨g2, 0, none⟩))) ∧ Row st28 28 H (hp w40) F7 A4 c5 x1.tokens_ ∧ w40.heap[g2]? = some (.cells #[str x1.s_, .int .i64 x42, .slice A4 x1.tokens_.length c5, .int .i64 x1.code_, .int .i64 x1.place_] 39 (0, 0)) ∧ St (anyOf [F7, (is g2)]) H w [F7, (is g2)] H w40 ∧ impl_lexer_blanks.l1 k46 x1 x42 = some r) k16 ⟨_, x10, (by omega), (hdw (hdc rfl kr)), h6, b3, S30, M⟩ ?_
  clear M
  rintro k46 a47 w40 ⟨f41, x42, z45, rfl, h6, b3, S43, M⟩
  rcases k46 with _ | k48
  ·rw [impl_lexer_blanks.l1] at M
   cases M
  rw [impl_lexer_blanks.l1] at M
  refine wQ (wQ ?_)
  refine region_still kr kr S43 ?_
  intro w49 S50 K51
  replace h6 := h6.move (K51.a 0)
  replace b3 := K51.b 1 b3
  refine sP 3 (sV 46 (eB 1 b3) (sP 3 (sV 50 (eB 0 b3) (sV 51 (e_slen (p := x1.s_) underlying9 kr) (sP 2 ?_)))))
  obtain ⟨q52, M⟩ | ⟨q52, M⟩ := ifd M
  ·refine sP1 11 53 (bF q52) (wpStill_nil (tN (cond_f rfl kr (wp_exit (tE (tE (inb_hit ?_)))))))
   refine inb_n (inb_n (tN ?_))
   exact ⟨k48, (by omega), _, x42, (hdw (hdc rfl kr)), h6, b3, S50, M⟩
  refine sP1 3 53 (bT q52) (sG 57 53 (bT q52) (eB 0 b3) (sP1 3 53 (bT q52) (sG 61 53 (bT q52) (eB 1 b3) ?_)))
  obtain ⟨q53, M⟩ := chk M
  refine sG 62 53 (bT q52) (e_sindex (p := x1.s_) (i := x42) (k := .i64) underlying9 kr kr q53 q52) (sG 63 53 (bT q52) (eNe .u8 ((x1.s_.getD (x42 : Int).toNat (0 : UInt8)).toNat : Int) 10) (sP1 1 53 (bT q52) (wpStill_nil (tN ?_))))
  obtain ⟨q54, M⟩ | ⟨q54, M⟩ := ifd M
  ·refine cF (bF q54) (wp_exit (tE (tE (inb_hit (inb_n (inb_n (tN ?_)))))))
   exact ⟨k48, (by omega), _, x42, (hdw (hdc rfl kr)), h6, b3, S50, M⟩
  refine cT (bT q54) (wK (tN (wp_block (wR (lP 3 (lV 68 (eB 1 b3) (lP 3 ?_)))))))
  have S55 := S50.pulls [(is g2), F7] [1] rfl
  refine lE (eS g2 (0 + 1) (.int .i64 (i64.wrap (x42 + 1))) #[str x1.s_, .int .i64 (i64.wrap (x42 + 1)), .slice A4 x1.tokens_.length c5, .int .i64 x1.code_, .int .i64 x1.place_] [.int .i64 (i64.wrap (x42 + 1))] S55 b3) ?_
  rintro w56 ⟨b57, S58, K59⟩
  replace h6 := h6.move (K59.a 0)
  clear b3
  refine wN (inb_n (tN ?_))
  have S60 := S58.pulls [F7, (is g2)] [1] rfl
  exact ⟨k48, (by omega), _, (i64.wrap (x42 + 1)), (by omega), (hdw (hdc rfl kr)), h6, b57, S60, M⟩
 refine cF (bF q39) (wQ (wR (lP 3 ?_)))
 obtain ⟨q61, M⟩ | ⟨q61, M⟩ := ifd M
 ·refine lP1 5 75 (bF q61) (wN (tN (cond_f rfl kr (wT (inb_r (inb_r (tR (inb_r ?_))))))))
  obtain rfl := sj M
  have S139 := S30.pulls [(is g2), F7] [1] rfl
  exact Go.Sy.ret0 rfl ⟨A4, c5, F7, H, rfl, h6, b3, S139⟩
 refine lP1 1 75 (bT q61) ?_
 obtain ⟨t62, u63, M⟩ := bnd M
 refine lcallg (d := 77) (t := 75) rfl kr rfl (bT q61) rfl kr (eE func37) (by have l64 := h6.le; obtain ⟨H65, S66, E67, h68, z69⟩ := S30.frzRow h6; obtain ⟨H70, S71, E72, h73, z74⟩ := S66.frzBlk b3; exact (impl_lexer_peek.calls (⟨x1.s_, x10, x1.tokens_, x1.code_, x1.place_⟩ : GLexer) (h68.ext E72) l64 h73 S71.own0 u63)) ?_
 rintro _ w75 ⟨rfl, C76⟩
 refine ⟨_, rfl, ?_⟩
 obtain ⟨S77, K78⟩ := S30.still C76
 replace h6 := h6.move (K78.a 0)
 replace b3 := K78.b 1 b3
 refine lP1 3 75 (bT q61) (wN (tN ?_))
 obtain ⟨q79, M⟩ | ⟨q79, M⟩ := ifd M
 ·refine cF (bF q79) (wT (inb_r (inb_r (tR (inb_r ?_)))))
  obtain rfl := sj M
  have S138 := S77.pulls [(is g2), F7] [1] rfl
  exact Go.Sy.ret0 rfl ⟨A4, c5, F7, H, rfl, h6, b3, S138⟩
 refine cT (bT q79) (wQ (wR (lP 3 (lV 83 (eB 1 b3) (lP 2 (wN (tN (wQ (wp_block ?_)))))))))
 refine wp_loop_g (fun k86 a87 w80 => ∃ (f81 : Nat → Value) (x82 : Int), k86 ≤ k16 ∧ a87 = mk 125 (upd (upd f81 0 (.pointer (some ⟨g2, 0, none⟩))) 3 (.int .i64 x82)) ∧ Row st28 28 H (hp w80) F7 A4 c5 x1.tokens_ ∧ w80.heap[g2]? = some (.cells #[str x1.s_, .int .i64 x10, .slice A4 x1.tokens_.length c5, .int .i64 x1.code_, .int .i64 x1.place_] 39 (0, 0)) ∧ St (anyOf [F7, (is g2)]) H w [F7, (is g2)] H w80 ∧ impl_lexer_blanks.l2 k86 x1 x10 x82 = some r) k16 ⟨_, (i64.wrap (x10 + 2)), (by omega), (hdw (hdc (hdc rfl kr) kr)), h6, b3, S77, M⟩ ?_
 clear M
 rintro k86 a87 w80 ⟨f81, x82, z85, rfl, h6, b3, S83, M⟩
 rcases k86 with _ | k88
 ·rw [impl_lexer_blanks.l2] at M
  cases M
 rw [impl_lexer_blanks.l2] at M
 refine wQ (wQ (wR (lP 5 (lV 90 (eB 0 b3) (lV 91 (e_slen (p := x1.s_) underlying9 kr) (lP 2 ?_))))))
 obtain ⟨q89, M⟩ | ⟨q89, M⟩ := ifd M
 ·refine lP1 10 93 (bF q89) (wN (tN (cond_f rfl kr (wp_exit (tE (tE (inb_hit (tN (wQ (wQ (wR (lP 5 (lV 111 (eB 0 b3) (lV 112 (e_slen (p := x1.s_) underlying9 kr) (lP 1 (wN (tN ?_)))))))))))))))))
  obtain ⟨q116, M⟩ | ⟨q116, M⟩ := ifd M
  ·refine cF (bF q116) (wK (tN (wR (lP 5 ?_))))
   have S132 := S83.pulls [(is g2), F7] [1] rfl
   refine lE (eS g2 (0 + 1) (.int .i64 (i64.wrap (x82 + 2))) #[str x1.s_, .int .i64 (i64.wrap (x82 + 2)), .slice A4 x1.tokens_.length c5, .int .i64 x1.code_, .int .i64 x1.place_] [.int .i64 (i64.wrap (x82 + 2))] S132 b3) ?_
   rintro w133 ⟨b134, S135, K136⟩
   replace h6 := h6.move (K136.a 0)
   clear b3
   refine wN (inb_n (inb_n (tN ?_)))
   have S137 := S135.pulls [F7, (is g2)] [1] rfl
   exact ⟨k88, (by omega), _, (i64.wrap (x82 + 2)), (hdw (hdc rfl kr)), h6, b134, S137, M⟩
  refine cT (bT q116) (wQ (wR (lP 4 (lV 118 (eB 1 b3) ?_))))
  have S118 := S83.pulls [F7, (is g2)] [1, 1] rfl
  obtain ⟨t119, u120, M⟩ := bnd M
  refine lC 119 (eE func38) (impl_lexer_fault.calls (⟨x1.s_, x10, x1.tokens_, x1.code_, x1.place_⟩ : GLexer) h6 b3 (St.own' (Fa := [F7, (is g2)]) (Fr := []) S118) u120) ?_
  rintro _ w121 ⟨A124, c125, F127, H122, rfl, h126, b128, T123⟩
  refine ⟨_, rfl, ?_⟩
  obtain ⟨S129, K130⟩ := St.call (Fa := [F7, (is g2)]) (Fr := []) S118 T123
  have E131 := T123.ext
  refine wN (tN (wT (tR (inb_r (inb_r (tR (inb_r ?_)))))))
  obtain rfl := sj M
  exact Go.Sy.ret0 rfl ⟨A124, c125, F127, H122, rfl, h126, b128, S129⟩
 refine lP1 3 93 (bT q89) (lG 97 93 (bT q89) (eB 0 b3) (lP1 3 93 (bT q89) ?_))
 obtain ⟨q90, M⟩ := chk M
 obtain ⟨q91, M⟩ := chk M
 obtain ⟨q92, M⟩ := chk M
 refine lG 101 93 (bT q89) (e_sslice_lh (p := x1.s_) (a := x82) (b := (i64.wrap (x82 + 2))) (k := .i64) (k2 := .i64) underlying9 kr kr kr q90 q91 q92) (lG 102 93 (bT q89) (e_sneq (p := ((x1.s_.drop (x82 : Int).toNat).take (((i64.wrap (x82 + 2)) : Int).toNat - (x82 : Int).toNat))) (q := ([42, 47] : List UInt8)) kr rfl) (lP1 1 93 (bT q89) (wN (tN ?_))))
 obtain ⟨q93, M⟩ | ⟨q93, M⟩ := ifc M
 ·refine cT (bT q93) (wK (tN (wp_block (wR (lP 3 (wN (inb_n (tN ?_))))))))
  exact ⟨k88, (by omega), _, (i64.wrap (x82 + 1)), (by omega), (hdw (hdc (hdc rfl kr) kr)), h6, b3, S83, M⟩
 refine cF (bF q93) (wp_exit (tE (tE (inb_hit (tN (wQ (wQ (wR (lP 5 (lV 111 (eB 0 b3) (lV 112 (e_slen (p := x1.s_) underlying9 kr) (lP 1 (wN (tN ?_))))))))))))))
 obtain ⟨q94, M⟩ | ⟨q94, M⟩ := ifd M
 ·refine cF (bF q94) (wK (tN (wR (lP 5 ?_))))
  have S110 := S83.pulls [(is g2), F7] [1] rfl
  refine lE (eS g2 (0 + 1) (.int .i64 (i64.wrap (x82 + 2))) #[str x1.s_, .int .i64 (i64.wrap (x82 + 2)), .slice A4 x1.tokens_.length c5, .int .i64 x1.code_, .int .i64 x1.place_] [.int .i64 (i64.wrap (x82 + 2))] S110 b3) ?_
  rintro w111 ⟨b112, S113, K114⟩
  replace h6 := h6.move (K114.a 0)
  clear b3
  refine wN (inb_n (inb_n (tN ?_)))
  have S115 := S113.pulls [F7, (is g2)] [1] rfl
  exact ⟨k88, (by omega), _, (i64.wrap (x82 + 2)), (hdw (hdc rfl kr)), h6, b112, S115, M⟩
 refine cT (bT q94) (wQ (wR (lP 4 (lV 118 (eB 1 b3) ?_))))
 have S96 := S83.pulls [F7, (is g2)] [1, 1] rfl
 obtain ⟨t97, u98, M⟩ := bnd M
 refine lC 119 (eE func38) (impl_lexer_fault.calls (⟨x1.s_, x10, x1.tokens_, x1.code_, x1.place_⟩ : GLexer) h6 b3 (St.own' (Fa := [F7, (is g2)]) (Fr := []) S96) u98) ?_
 rintro _ w99 ⟨A102, c103, F105, H100, rfl, h104, b106, T101⟩
 refine ⟨_, rfl, ?_⟩
 obtain ⟨S107, K108⟩ := St.call (Fa := [F7, (is g2)]) (Fr := []) S96 T101
 have E109 := T101.ext
 refine wN (tN (wT (tR (inb_r (inb_r (tR (inb_r ?_)))))))
 obtain rfl := sj M
 exact Go.Sy.ret0 rfl ⟨A102, c103, F105, H100, rfl, h104, b106, S107⟩
def impl_isSmall.f (x1 : UInt8) : Option Bool := (if (x1.toNat : Int) ≥ 97 then some (decide ((x1.toNat : Int) ≤ 122)) else some false)
theorem impl_isSmall.calls {w : World} {H : Hp} {x1 : UInt8} (S : Own [] H w) {r : Bool} (M : impl_isSmall.f x1 = some r) :
  Calls Tryz.prog 39 #[.int .u8 (x1.toNat : Int)] w (fun e e_w => e = .returned (.bool r) ∧ Chg no w e_w) := by
 rw [impl_isSmall.f] at M
 refine enter (l := [.int .u8 (x1.toNat : Int)]) 9 func39 rfl rfl rfl ?_
 have S0_ := S.st
 refine wQ (wR (lP 1 (wN (tN (wQ (wR (lP 3 ?_)))))))
 obtain ⟨q2, M⟩ | ⟨q2, M⟩ := ifd M
 ·refine lP1 4 5 (bF q2) (wN (tN (wT ?_)))
  obtain rfl := sj M
  exact ret1 rfl rfl  kr ⟨rfl, S0_.chg⟩
 refine lP1 4 5 (bT q2) (wN (tN (wT ?_)))
 obtain rfl := sj M
 exact ret1 rfl rfl  kr ⟨rfl, S0_.chg⟩
def impl_isLetter.f (x1 : UInt8) : Option Bool := ((impl_isSmall.f x1).bind fun t2 => (if t2 = true then some true else (if (x1.toNat : Int) ≥ 65 then (if (x1.toNat : Int) ≤ 90 then some true else some (decide ((x1.toNat : Int) = 95))) else some (decide ((x1.toNat : Int) = 95)))))
theorem impl_isLetter.calls {w : World} {H : Hp} {x1 : UInt8} (S : Own [] H w) {r : Bool} (M : impl_isLetter.f x1 = some r) :
  Calls Tryz.prog 42 #[.int .u8 (x1.toNat : Int)] w (fun e e_w => e = .returned (.bool r) ∧ Chg no w e_w) := by
 rw [impl_isLetter.f] at M
 refine enter (l := [.int .u8 (x1.toNat : Int)]) 17 func42 rfl rfl rfl ?_
 have S0_ := S.st
 refine wQ (wR (lP 1 (wN (tN (wQ (wR (lP 1 ?_)))))))
 obtain ⟨t2, u3, M⟩ := bnd M
 refine lC 4 (eE func39) (impl_isSmall.calls  S0_.own0 u3) ?_
 rintro _ w4 ⟨rfl, C5⟩
 refine ⟨_, rfl, ?_⟩
 obtain ⟨S6, K7⟩ := S0_.still C5
 refine lP 1 ?_
 obtain ⟨q8, M⟩ | ⟨q8, M⟩ := ifc M
 ·refine lP1 12 5 (bvt q8 kr) (wN (tN (wT ?_)))
  obtain rfl := sj M
  exact ret1 rfl rfl  kr ⟨rfl, S6.chg⟩
 refine lP1 3 5 (bvf q8 kr) ?_
 obtain ⟨q9, M⟩ | ⟨q9, M⟩ := ifd M
 ·refine lP2 9 8 (bF q9) 5 (bvf q8 kr) (wN (tN (wT ?_)))
  obtain rfl := sj M
  exact ret1 rfl rfl  kr ⟨rfl, S6.chg⟩
 refine lP2 5 8 (bT q9) 5 (bvf q8 kr) ?_
 obtain ⟨q10, M⟩ | ⟨q10, M⟩ := ifc M
 ·refine lP1 4 13 (bT q10) (wN (tN (wT ?_)))
  obtain rfl := sj M
  exact ret1 rfl rfl  kr ⟨rfl, S6.chg⟩
 refine lP1 4 13 (bF q10) (wN (tN (wT ?_)))
 obtain rfl := sj M
 exact ret1 rfl rfl  kr ⟨rfl, S6.chg⟩
def impl_isDigit.f (x1 : UInt8) : Option Bool := (if (x1.toNat : Int) ≥ 48 then some (decide ((x1.toNat : Int) ≤ 57)) else some false)
theorem impl_isDigit.calls {w : World} {H : Hp} {x1 : UInt8} (S : Own [] H w) {r : Bool} (M : impl_isDigit.f x1 = some r) :
  Calls Tryz.prog 43 #[.int .u8 (x1.toNat : Int)] w (fun e e_w => e = .returned (.bool r) ∧ Chg no w e_w) := by
 rw [impl_isDigit.f] at M
 refine enter (l := [.int .u8 (x1.toNat : Int)]) 9 func43 rfl rfl rfl ?_
 have S0_ := S.st
 refine wQ (wR (lP 1 (wN (tN (wQ (wR (lP 3 ?_)))))))
 obtain ⟨q2, M⟩ | ⟨q2, M⟩ := ifd M
 ·refine lP1 4 5 (bF q2) (wN (tN (wT ?_)))
  obtain rfl := sj M
  exact ret1 rfl rfl  kr ⟨rfl, S0_.chg⟩
 refine lP1 4 5 (bT q2) (wN (tN (wT ?_)))
 obtain rfl := sj M
 exact ret1 rfl rfl  kr ⟨rfl, S0_.chg⟩
def impl_isAlnum.f (x1 : UInt8) : Option Bool := ((impl_isLetter.f x1).bind fun t2 => (if t2 = true then some true else ((impl_isDigit.f x1).bind fun t9 => some t9)))
theorem impl_isAlnum.calls {w : World} {H : Hp} {x1 : UInt8} (S : Own [] H w) {r : Bool} (M : impl_isAlnum.f x1 = some r) :
  Calls Tryz.prog 41 #[.int .u8 (x1.toNat : Int)] w (fun e e_w => e = .returned (.bool r) ∧ Chg no w e_w) := by
 rw [impl_isAlnum.f] at M
 refine enter (l := [.int .u8 (x1.toNat : Int)]) 9 func41 rfl rfl rfl ?_
 have S0_ := S.st
 refine wQ (wR (lP 1 (wN (tN (wQ (wR (lP 1 ?_)))))))
 obtain ⟨t2, u3, M⟩ := bnd M
 refine lC 4 (eE func42) (impl_isLetter.calls  S0_.own0 u3) ?_
 rintro _ w4 ⟨rfl, C5⟩
 refine ⟨_, rfl, ?_⟩
 obtain ⟨S6, K7⟩ := S0_.still C5
 refine lP 1 ?_
 obtain ⟨q8, M⟩ | ⟨q8, M⟩ := ifc M
 ·refine lP1 4 5 (bvt q8 kr) (wN (tN (wT ?_)))
  obtain rfl := sj M
  exact ret1 rfl rfl  kr ⟨rfl, S6.chg⟩
 refine lP1 1 5 (bvf q8 kr) ?_
 obtain ⟨t9, u10, M⟩ := bnd M
 refine lcallg (d := 7) (t := 5) rfl kr rfl (bvf q8 kr) rfl kr (eE func43) (impl_isDigit.calls  S6.own0 u10) ?_
 rintro _ w11 ⟨rfl, C12⟩
 refine ⟨_, rfl, ?_⟩
 obtain ⟨S13, K14⟩ := S6.still C12
 refine lP1 2 5 (bvf q8 kr) (wN (tN (wT ?_)))
 obtain rfl := sj M
 exact ret1 rfl rfl  kr ⟨rfl, S13.chg⟩
end Go.Proofs.YtdkbfcmekppnmaaGreatDoor
