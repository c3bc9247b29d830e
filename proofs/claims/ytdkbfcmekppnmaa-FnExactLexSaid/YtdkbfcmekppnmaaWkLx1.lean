import Derived.Test.YtdkbfcmekppnmaaProg
import Derived.Test.YtdkbfcmekppnmaaY15
namespace Go.Proofs.Ytdkbfcmekppnmaa
open Go.Sx Go.Sy
attribute [local irreducible] Go.wpList Go.wpStill Go.wpQuiet Go.Code.wp
set_option maxRecDepth 100000
set_option maxHeartbeats 1000000
set_option linter.unusedVariables false
set_option linter.unusedSimpArgs false

/-! laws_toByteS -/
def laws_toByteS.l0 : Nat → (List UInt8) → Int → (List UInt8) → Option (List UInt8)
  | 0, _, _, _ => none
  | k29 + 1, x1, x17, x19 => (if x17 < (x1.length : Int) then (if 0 ≤ x17 then (if x17 < (((x1.length : Int)).toNat : Int) then (laws_toByteS.l0 k29 x1 (IntKind.i64.wrap (x17 + 1)) (x19.set ((x17).toNat) (x1.getD ((x17).toNat) (0 : UInt8)))) else none) else none) else some x19)
def laws_toByteS.f (k : Nat) (x1 : List UInt8) : Option (List UInt8) := (if 0 ≤ (x1.length : Int) then (if ((x1.length : Int)).toNat ≤ 281474976710656 then (laws_toByteS.l0 k x1 0 (List.replicate ((x1.length : Int)).toNat (0 : UInt8))) else none) else none)
theorem laws_toByteS.calls (k : Nat) (w : World) (H : Hp) (x1 : List UInt8) (A2 : Option Addr) (c3 : Nat) (h4 : Rd tByte H A2 x1) (l5 : x1.length ≤ c3) (S : Own [] H w) (r : List UInt8) (M : laws_toByteS.f k x1 = some r) :
    Calls Try.prog 7 #[.slice A2 x1.length c3] w (fun e e_w => ∃ (A_1 : Option Addr) (c_1 : Nat) (F_1 : Foot) (H_ : Hp), e = .returned (.slice A_1 r.length c_1) ∧ Row tByte 5 H_ (hp e_w) F_1 A_1 c_1 r ∧ St (anyOf []) H w [F_1] H_ e_w) := by
  rw [laws_toByteS.f] at M
  refine enter (l := [.slice A2 x1.length c3]) 22 Try.func7 rfl rfl rfl ?_
  have S0_ := S.st
  refine wp_seq (wp_region_lit (lV 2 (eA (.slice none 0 0)) (wpList_nil (then_n (wp_seq (wp_region_lit (lV 5 (eM (.slice A2 x1.length c3)) ?_)))))))
  refine lV 6 (e_len (A := A2) (n := x1.length) (c := c3) Try.underlying23 (by kernel_rfl)) ?_
  obtain ⟨q6, M⟩ := chk M
  obtain ⟨q7, M⟩ := chk M
  refine lve (d := 7) rfl rfl (by kernel_rfl) (e_make (d := tByte) (k := .i64) (k2 := .i64) (n := (x1.length : Int)) (z := .int .u8 0) (zx := (0 : UInt8)) (bytes := 1) S0_ Try.underlying23 (by kernel_rfl) rfl (by decide) (fun _ => rfl) (by kernel_rfl) (by kernel_rfl) q6 (by omega) (by omega)) ?_
  rintro _ w8 ⟨A9, c10, F11, rfl, h12, S13, K14⟩
  refine lV 3 (eA (.slice A9 (((x1.length : Int)).toNat) c10)) (wpList_nil (then_n (wp_seq (wp_seq (wp_region_lit (lV 4 (eA (.int .i64 0)) (wpList_nil ?_)))))))
  refine then_n (wp_block ?_)
  refine wp_loop_g (fun k27 a28 w15 => ∃ (f16 : Nat → Value) (x17 : Int) (F18 : Foot) (x19 : List UInt8), a28 = mk 22 f16 ∧ f16 0 = .slice A2 x1.length c3 ∧ f16 3 = .slice A9 (((x1.length : Int)).toNat) c10 ∧ f16 4 = .int .i64 x17 ∧ Row tByte 5 H (hp w15) F18 A9 c10 x19 ∧ x19.length = ((x1.length : Int)).toNat ∧ St (anyOf []) H w [F18] H w15 ∧ laws_toByteS.l0 k27 x1 x17 x19 = some r) k ⟨_, 0, F11, (List.replicate ((x1.length : Int)).toNat (0 : UInt8)), rfl, (by kernel_rfl), (by kernel_rfl), (by kernel_rfl), h12, List.length_replicate, S13, M⟩ ?_
  clear M
  rintro k27 a28 w15 ⟨f16, x17, F18, x19, rfl, e21, e22, e23, h12, n20, S24, M⟩
  rcases k27 with _ | k29
  · rw [laws_toByteS.l0] at M
    cases M
  rw [laws_toByteS.l0] at M
  refine wp_seq (wp_seq (wp_region_lit (lV 8 (eM (.int .i64 x17) (by exact e23)) (lV 9 (eM (.slice A2 x1.length c3) (by exact e21)) (lV 10 (e_len (A := A2) (n := x1.length) (c := c3) Try.underlying23 (by kernel_rfl)) (lV 11 (eLt .i64 x17 (x1.length : Int)) (wpList_nil ?_)))))))
  refine then_n ?_
  by_cases q30 : x17 < (x1.length : Int)
  · replace M := ifp q30 M
    refine cT (bT q30) (wp_skip (then_n (wp_seq (wp_block (wp_region_lit (lV 14 (eM (.slice A9 (((x1.length : Int)).toNat) c10) (by exact e22)) (lV 15 (eM (.int .i64 x17) (by exact e23)) ?_)))))))
    refine lV 16 (eM (.slice A2 x1.length c3) (by exact e21)) (lV 17 (eM (.int .i64 x17) (by exact e23)) ?_)
    obtain ⟨q31, M⟩ := chk M
    obtain ⟨b32, o33, e34⟩ := Rd.addr h4 (show (x17).toNat < x1.length by omega)
    obtain ⟨y35, r36, k37⟩ := Rd.at h4 e34 (getD_some (0 : UInt8) (show (x17).toNat < x1.length by omega))
    obtain rfl := r36
    refine lV 18 (eI b32 o33 x1.length c3 1 x17 .i64 Try.underlying23 e34 q31 q30) (lV 19 (eL ⟨b32, o33 + (x17 : Int).toNat * 1, none⟩ (.int .u8 ((x1.getD ((x17).toNat) (0 : UInt8)).toNat : Int)) Try.underlying5 (hpx (S24.inv.cell (k37 0 _ rfl)))) ?_)
    obtain ⟨q38, M⟩ := chk M
    obtain ⟨b39, e41⟩ := Row.addr h12 (show (x17).toNat < x19.length by have : x19.length = ((x1.length : Int)).toNat := n20; omega)
    refine lV 20 (eI b39 0 ((x1.length : Int)).toNat c10 1 x17 .i64 Try.underlying23 e41 q31 q38) ?_
    have S42 := S24.unit
    have S43 := S42.pull (F := F18) (Fr := [no]) 1 rfl rfl
    refine lE (e_setel (d := tByte) (b := b39) (i := (x17).toNat) (v := .int .u8 ((x1.getD ((x17).toNat) (0 : UInt8)).toNat : Int)) (vs := [.int .u8 ((x1.getD ((x17).toNat) (0 : UInt8)).toNat : Int)]) (yv := (x1.getD ((x17).toNat) (0 : UInt8))) S43 (by kernel_rfl) e41 (by kernel_rfl) rfl (by kernel_rfl) h12 (show (x17).toNat < x19.length by have : x19.length = ((x1.length : Int)).toNat := n20; omega) rfl) ?_
    rintro w44 ⟨F46, h45, S47, K48⟩
    clear h12
    refine wpList_nil (inb_n (then_n (wp_region_lit (lV 12 (eM (.int .i64 x17) (by exact e23)) (lV 13 (eAdd .i64 x17 1) (lV 4 (eA (.int .i64 (IntKind.i64.wrap (x17 + 1)))) (wpList_nil ?_)))))))
    refine then_n ?_
    exact ⟨k29, (by omega), _, (IntKind.i64.wrap (x17 + 1)), F46, (x19.set ((x17).toNat) (x1.getD ((x17).toNat) (0 : UInt8))), rfl, (by exact e21), (by exact e22), (by kernel_rfl), h45, (List.length_set.trans n20), S47, M⟩
  replace M := ifn q30 M
  refine cF (bF q30) (wp_exit (then_e (then_e (inb_hit (then_n (wp_seq (wp_region_lit ?_)))))))
  refine lV 21 (eM (.slice A9 (((x1.length : Int)).toNat) c10) (by exact e22)) (lV 2 (eA (.slice A9 (((x1.length : Int)).toNat) c10)) (wpList_nil (then_n (wp_ret ?_))))
  obtain rfl := Option.some.inj M
  exact ret1 rfl rfl  (show _ = .slice A9 (((x1.length : Int)).toNat) c10 from (by kernel_rfl)) ⟨A9, c10, F18, H, (by rw [(show x19.length = ((x1.length : Int)).toNat from n20)]), h12, S24⟩

/-! spec_l1blank -/
def spec_l1blank.f (x1 : UInt8) : Option Bool := (if (x1.toNat : Int) = 32 then some true else (if (x1.toNat : Int) = 9 then some true else (if (x1.toNat : Int) = 10 then some true else some (decide ((x1.toNat : Int) = 13)))))
theorem spec_l1blank.calls (w : World) (H : Hp) (x1 : UInt8) (S : Own [] H w) (r : Bool) (M : spec_l1blank.f x1 = some r) :
    Calls Try.prog 30 #[.int .u8 (x1.toNat : Int)] w (fun e e_w => e = .returned (.bool r) ∧ Chg no w e_w) := by
  rw [spec_l1blank.f] at M
  refine enter (l := [.int .u8 (x1.toNat : Int)]) 17 Try.func30 rfl rfl rfl ?_
  have S0_ := S.st
  refine wp_seq (wp_region_lit (lV 2 (eA (.bool false)) (wpList_nil (then_n (wp_seq (wp_region_lit (lV 3 (eM (.int .u8 (x1.toNat : Int))) ?_)))))))
  refine lV 4 (eEq .u8 (x1.toNat : Int) 32) (lV 5 (eM (.bool (decide ((x1.toNat : Int) = 32)))) ?_)
  by_cases q2 : (x1.toNat : Int) = 32
  · replace M := ifp q2 M
    refine lK 5 true (bT q2) ?_
    refine lK 5 true (bT q2) ?_
    refine lV 8 (eT (.bool true) (bT q2)) (lV 9 (eM (.bool true)) ?_)
    refine lJ 9 true ?_
    refine lJ 9 true ?_
    refine lV 12 (eT (.bool true)) (lV 13 (eM (.bool true)) ?_)
    refine lJ 13 true ?_
    refine lJ 13 true ?_
    refine lV 16 (eT (.bool true)) (lV 2 (eA (.bool true)) (wpList_nil (then_n (wp_ret ?_))))
    obtain rfl := Option.some.inj M
    exact ret1 rfl rfl  (show _ = .bool true from (by kernel_rfl)) ⟨rfl, S0_.chg⟩
  replace M := ifn q2 M
  refine lG 6 5 (bF q2) (eM (.int .u8 (x1.toNat : Int))) (lG 7 5 (bF q2) (eEq .u8 (x1.toNat : Int) 9) (lV 8 (eF (.bool (decide ((x1.toNat : Int) = 9))) (bF q2)) (lV 9 (eM (.bool (decide ((x1.toNat : Int) = 9)))) ?_)))
  by_cases q3 : (x1.toNat : Int) = 9
  · replace M := ifp q3 M
    refine lK 9 true (bT q3) ?_
    refine lK 9 true (bT q3) ?_
    refine lV 12 (eT (.bool true) (bT q3)) (lV 13 (eM (.bool true)) ?_)
    refine lJ 13 true ?_
    refine lJ 13 true ?_
    refine lV 16 (eT (.bool true)) (lV 2 (eA (.bool true)) (wpList_nil (then_n (wp_ret ?_))))
    obtain rfl := Option.some.inj M
    exact ret1 rfl rfl  (show _ = .bool true from (by kernel_rfl)) ⟨rfl, S0_.chg⟩
  replace M := ifn q3 M
  refine lG 10 9 (bF q3) (eM (.int .u8 (x1.toNat : Int))) (lG 11 9 (bF q3) (eEq .u8 (x1.toNat : Int) 10) (lV 12 (eF (.bool (decide ((x1.toNat : Int) = 10))) (bF q3)) (lV 13 (eM (.bool (decide ((x1.toNat : Int) = 10)))) ?_)))
  by_cases q4 : (x1.toNat : Int) = 10
  · replace M := ifp q4 M
    refine lK 13 true (bT q4) ?_
    refine lK 13 true (bT q4) ?_
    refine lV 16 (eT (.bool true) (bT q4)) (lV 2 (eA (.bool true)) (wpList_nil (then_n (wp_ret ?_))))
    obtain rfl := Option.some.inj M
    exact ret1 rfl rfl  (show _ = .bool true from (by kernel_rfl)) ⟨rfl, S0_.chg⟩
  replace M := ifn q4 M
  refine lG 14 13 (bF q4) (eM (.int .u8 (x1.toNat : Int))) (lG 15 13 (bF q4) (eEq .u8 (x1.toNat : Int) 13) (lV 16 (eF (.bool (decide ((x1.toNat : Int) = 13))) (bF q4)) (lV 2 (eA (.bool (decide ((x1.toNat : Int) = 13)))) (wpList_nil (then_n (wp_ret ?_))))))
  obtain rfl := Option.some.inj M
  exact ret1 rfl rfl  (show _ = .bool (decide ((x1.toNat : Int) = 13)) from (by kernel_rfl)) ⟨rfl, S0_.chg⟩

/-! spec_l1skip -/
def spec_l1skip.l0 : Nat → (List UInt8) → Int → Int → Option Int
  | 0, _, _, _ => none
  | k40 + 1, x1, x6, x31 => (if (IntKind.i64.wrap (x6 + x31)) < (x1.length : Int) then (if 0 ≤ (IntKind.i64.wrap (x6 + x31)) then (if ((x1.getD (((IntKind.i64.wrap (x6 + x31))).toNat) (0 : UInt8)).toNat : Int) ≠ 10 then (spec_l1skip.l0 k40 x1 x6 (IntKind.i64.wrap (x31 + 1))) else some x31) else none) else some x31)
def spec_l1skip.l1 : Nat → (List UInt8) → Int → Int → Option Int
  | 0, _, _, _ => none
  | k78 + 1, x1, x6, x69 => (if (IntKind.i64.wrap ((IntKind.i64.wrap (x6 + x69)) + 1)) < (x1.length : Int) then (if 0 ≤ (IntKind.i64.wrap (x6 + x69)) then (if (IntKind.i64.wrap (x6 + x69)) < (x1.length : Int) then (if ((x1.getD (((IntKind.i64.wrap (x6 + x69))).toNat) (0 : UInt8)).toNat : Int) = 42 then (if 0 ≤ (IntKind.i64.wrap ((IntKind.i64.wrap (x6 + x69)) + 1)) then (if ((x1.getD (((IntKind.i64.wrap ((IntKind.i64.wrap (x6 + x69)) + 1))).toNat) (0 : UInt8)).toNat : Int) = 47 then some (IntKind.i64.wrap (x69 + 2)) else (spec_l1skip.l1 k78 x1 x6 (IntKind.i64.wrap (x69 + 1)))) else none) else (spec_l1skip.l1 k78 x1 x6 (IntKind.i64.wrap (x69 + 1)))) else none) else none) else some (-1))
def spec_l1skip.f (k : Nat) (x1 : List UInt8) (x6 : Int) : Option Int := (if 0 ≤ x6 then (if x6 < (x1.length : Int) then ((spec_l1blank.f (x1.getD ((x6).toNat) (0 : UInt8))).bind fun t15 => (if t15 = true then some 1 else (if ((x1.getD ((x6).toNat) (0 : UInt8)).toNat : Int) = 37 then (spec_l1skip.l0 k x1 x6 0) else (if ((x1.getD ((x6).toNat) (0 : UInt8)).toNat : Int) ≠ 47 then some 0 else (if (IntKind.i64.wrap (x6 + 1)) ≥ (x1.length : Int) then some 0 else (if 0 ≤ (IntKind.i64.wrap (x6 + 1)) then (if (IntKind.i64.wrap (x6 + 1)) < (x1.length : Int) then (if ((x1.getD (((IntKind.i64.wrap (x6 + 1))).toNat) (0 : UInt8)).toNat : Int) ≠ 42 then some 0 else (spec_l1skip.l1 k x1 x6 2)) else none) else none)))))) else none) else none)
theorem spec_l1skip.calls (k : Nat) (w : World) (H : Hp) (x1 : List UInt8) (A2 : Option Addr) (c3 : Nat) (x6 : Int) (h4 : Rd tByte H A2 x1) (l5 : x1.length ≤ c3) (S : Own [] H w) (r : Int) (M : spec_l1skip.f k x1 x6 = some r) :
    Calls Try.prog 19 #[.slice A2 x1.length c3, .int .i64 x6] w (fun e e_w => e = .returned (.int .i64 r) ∧ Chg no w e_w) := by
  rw [spec_l1skip.f] at M
  refine enter (l := [.slice A2 x1.length c3, .int .i64 x6]) 82 Try.func19 rfl rfl rfl ?_
  have S0_ := S.st
  refine wp_seq (wp_region_lit (lV 4 (eA (.int .i64 0)) (wpList_nil (then_n (wp_seq (wp_seq (wp_region_lit ?_)))))))
  refine lV 6 (eM (.slice A2 x1.length c3)) (lV 7 (eM (.int .i64 x6)) ?_)
  obtain ⟨q7, M⟩ := chk M
  obtain ⟨q8, M⟩ := chk M
  obtain ⟨b9, o10, e11⟩ := Rd.addr h4 (show (x6).toNat < x1.length by omega)
  obtain ⟨y12, r13, k14⟩ := Rd.at h4 e11 (getD_some (0 : UInt8) (show (x6).toNat < x1.length by omega))
  obtain rfl := r13
  refine lV 8 (eI b9 o10 x1.length c3 1 x6 .i64 Try.underlying23 e11 q7 q8) (lV 9 (eL ⟨b9, o10 + (x6 : Int).toNat * 1, none⟩ (.int .u8 ((x1.getD ((x6).toNat) (0 : UInt8)).toNat : Int)) Try.underlying5 (hpx (S0_.inv.cell (k14 0 _ rfl)))) ?_)
  obtain ⟨t15, u16, M⟩ := bnd M
  refine lC 10 (eC [.tmp 9] [.int .u8 ((x1.getD ((x6).toNat) (0 : UInt8)).toNat : Int)] Try.func30) (spec_l1blank.calls w H (x1.getD ((x6).toNat) (0 : UInt8))  S0_.own0 t15 u16) ?_
  rintro _ w17 ⟨rfl, C18⟩
  refine ⟨_, rfl, ?_⟩
  obtain ⟨S19, K20⟩ := S0_.still C18
  refine wpList_nil (then_n ?_)
  by_cases q21 : t15 = true
  · replace M := ifp q21 M
    refine cT (bvt q21 (by kernel_rfl)) (wp_seq (wp_region_lit (lV 4 (eA (.int .i64 1)) (wpList_nil (then_n (wp_ret (then_r ?_)))))))
    obtain rfl := Option.some.inj M
    exact ret1 rfl rfl  (show _ = .int .i64 1 from (by kernel_rfl)) ⟨rfl, S19.chg⟩
  replace M := ifn q21 M
  refine cF (bvf q21 (by kernel_rfl)) (wp_skip (then_n (wp_seq (wp_region_lit (lV 5 (eA (.int .i64 0)) (wpList_nil (then_n ?_)))))))
  refine wp_seq (wp_seq (wp_region_lit (lV 11 (eM (.slice A2 x1.length c3)) (lV 12 (eM (.int .i64 x6)) ?_))))
  obtain ⟨b22, o23, e24⟩ := Rd.addr h4 (show (x6).toNat < x1.length by omega)
  obtain ⟨y25, r26, k27⟩ := Rd.at h4 e24 (getD_some (0 : UInt8) (show (x6).toNat < x1.length by omega))
  obtain rfl := r26
  refine lV 13 (eI b22 o23 x1.length c3 1 x6 .i64 Try.underlying23 e24 q7 q8) (lV 14 (eL ⟨b22, o23 + (x6 : Int).toNat * 1, none⟩ (.int .u8 ((x1.getD ((x6).toNat) (0 : UInt8)).toNat : Int)) Try.underlying5 (hpx (S19.inv.cell (k27 0 _ rfl)))) (lV 15 (eEq .u8 ((x1.getD ((x6).toNat) (0 : UInt8)).toNat : Int) 37) (wpList_nil (then_n ?_))))
  by_cases q28 : ((x1.getD ((x6).toNat) (0 : UInt8)).toNat : Int) = 37
  · replace M := ifp q28 M
    refine cT (bT q28) (wp_seq (wp_block ?_))
    refine wp_loop_g (fun k38 a39 w29 => ∃ (f30 : Nat → Value) (x31 : Int), a39 = mk 82 f30 ∧ f30 0 = .slice A2 x1.length c3 ∧ f30 1 = .int .i64 x6 ∧ f30 5 = .int .i64 x31 ∧ St (anyOf []) H w [] H w29 ∧ spec_l1skip.l0 k38 x1 x6 x31 = some r) k ⟨_, 0, rfl, (by kernel_rfl), (by kernel_rfl), (by kernel_rfl), S19, M⟩ ?_
    clear M
    rintro k38 a39 w29 ⟨f30, x31, rfl, e32, e33, e34, S35, M⟩
    rcases k38 with _ | k40
    · rw [spec_l1skip.l0] at M
      cases M
    rw [spec_l1skip.l0] at M
    refine wp_seq (wp_seq (wp_region_lit (lV 16 (eM (.int .i64 x6) (by exact e33)) (lV 17 (eM (.int .i64 x31) (by exact e34)) (lV 18 (eAdd .i64 x6 x31) (lV 19 (eM (.slice A2 x1.length c3) (by exact e32)) (lV 20 (e_len (A := A2) (n := x1.length) (c := c3) Try.underlying23 (by kernel_rfl)) ?_)))))))
    refine lV 21 (eLt .i64 (IntKind.i64.wrap (x6 + x31)) (x1.length : Int)) (lV 22 (eM (.bool (decide ((IntKind.i64.wrap (x6 + x31)) < (x1.length : Int))))) ?_)
    by_cases q41 : (IntKind.i64.wrap (x6 + x31)) < (x1.length : Int)
    · replace M := ifp q41 M
      refine lG 23 22 (bT q41) (eM (.slice A2 x1.length c3) (by exact e32)) (lG 24 22 (bT q41) (eM (.int .i64 x6) (by exact e33)) (lG 25 22 (bT q41) (eM (.int .i64 x31) (by exact e34)) (lG 26 22 (bT q41) (eAdd .i64 x6 x31) ?_)))
      obtain ⟨q42, M⟩ := chk M
      obtain ⟨b43, o44, e45⟩ := Rd.addr h4 (show ((IntKind.i64.wrap (x6 + x31))).toNat < x1.length by omega)
      obtain ⟨y46, r47, k48⟩ := Rd.at h4 e45 (getD_some (0 : UInt8) (show ((IntKind.i64.wrap (x6 + x31))).toNat < x1.length by omega))
      obtain rfl := r47
      refine lG 27 22 (bT q41) (eI b43 o44 x1.length c3 1 (IntKind.i64.wrap (x6 + x31)) .i64 Try.underlying23 e45 q42 q41) (lG 28 22 (bT q41) (eL ⟨b43, o44 + ((IntKind.i64.wrap (x6 + x31)) : Int).toNat * 1, none⟩ (.int .u8 ((x1.getD (((IntKind.i64.wrap (x6 + x31))).toNat) (0 : UInt8)).toNat : Int)) Try.underlying5 (hpx (S35.inv.cell (k48 0 _ rfl)))) (lG 29 22 (bT q41) (eNe .u8 ((x1.getD (((IntKind.i64.wrap (x6 + x31))).toNat) (0 : UInt8)).toNat : Int) 10) (lV 30 (eT (.bool (decide (((x1.getD (((IntKind.i64.wrap (x6 + x31))).toNat) (0 : UInt8)).toNat : Int) ≠ 10))) (bT q41)) (wpList_nil (then_n ?_)))))
      by_cases q49 : ((x1.getD (((IntKind.i64.wrap (x6 + x31))).toNat) (0 : UInt8)).toNat : Int) ≠ 10
      · replace M := ifp q49 M
        refine cT (bT q49) (wp_skip (then_n (wp_block (wp_region_lit (lV 31 (eM (.int .i64 x31) (by exact e34)) (lV 32 (eAdd .i64 x31 1) (lV 5 (eA (.int .i64 (IntKind.i64.wrap (x31 + 1)))) ?_)))))))
        refine wpList_nil (inb_n (then_n ?_))
        exact ⟨k40, (by omega), _, (IntKind.i64.wrap (x31 + 1)), rfl, (by exact e32), (by exact e33), (by kernel_rfl), S35, M⟩
      replace M := ifn q49 M
      refine cF (bF q49) (wp_exit (then_e (then_e (inb_hit (then_n (wp_seq (wp_region_lit ?_)))))))
      refine lV 33 (eM (.int .i64 x31) (by exact e34)) (lV 4 (eA (.int .i64 x31)) (wpList_nil (then_n (wp_ret (then_r ?_)))))
      obtain rfl := Option.some.inj M
      exact ret1 rfl rfl  (show _ = .int .i64 x31 from (by kernel_rfl)) ⟨rfl, S35.chg⟩
    replace M := ifn q41 M
    refine lK 22 false (bF q41) ?_
    refine lK 22 false (bF q41) ?_
    refine lK 22 false (bF q41) ?_
    refine lK 22 false (bF q41) ?_
    refine lK 22 false (bF q41) ?_
    refine lK 22 false (bF q41) ?_
    refine lK 22 false (bF q41) ?_
    refine lV 30 (eF (.bool false) (bF q41)) (wpList_nil (then_n (cond_f rfl (by kernel_rfl) (wp_exit (then_e (then_e (inb_hit ?_)))))))
    refine then_n (wp_seq (wp_region_lit (lV 33 (eM (.int .i64 x31) (by exact e34)) (lV 4 (eA (.int .i64 x31)) (wpList_nil (then_n (wp_ret ?_)))))))
    refine then_r ?_
    obtain rfl := Option.some.inj M
    exact ret1 rfl rfl  (show _ = .int .i64 x31 from (by kernel_rfl)) ⟨rfl, S35.chg⟩
  replace M := ifn q28 M
  refine cF (bF q28) (wp_skip (then_n (wp_seq (wp_seq (wp_region_lit (lV 34 (eM (.slice A2 x1.length c3)) (lV 35 (eM (.int .i64 x6)) ?_)))))))
  obtain ⟨b50, o51, e52⟩ := Rd.addr h4 (show (x6).toNat < x1.length by omega)
  obtain ⟨y53, r54, k55⟩ := Rd.at h4 e52 (getD_some (0 : UInt8) (show (x6).toNat < x1.length by omega))
  obtain rfl := r54
  refine lV 36 (eI b50 o51 x1.length c3 1 x6 .i64 Try.underlying23 e52 q7 q8) (lV 37 (eL ⟨b50, o51 + (x6 : Int).toNat * 1, none⟩ (.int .u8 ((x1.getD ((x6).toNat) (0 : UInt8)).toNat : Int)) Try.underlying5 (hpx (S19.inv.cell (k55 0 _ rfl)))) (lV 38 (eNe .u8 ((x1.getD ((x6).toNat) (0 : UInt8)).toNat : Int) 47) (lV 39 (eM (.bool (decide (((x1.getD ((x6).toNat) (0 : UInt8)).toNat : Int) ≠ 47)))) ?_)))
  by_cases q56 : ((x1.getD ((x6).toNat) (0 : UInt8)).toNat : Int) ≠ 47
  · replace M := ifp q56 M
    refine lK 39 true (bT q56) ?_
    refine lK 39 true (bT q56) ?_
    refine lK 39 true (bT q56) ?_
    refine lK 39 true (bT q56) ?_
    refine lK 39 true (bT q56) ?_
    refine lV 45 (eT (.bool true) (bT q56)) (lV 46 (eM (.bool true)) ?_)
    refine lJ 46 true ?_
    refine lJ 46 true ?_
    refine lJ 46 true ?_
    refine lJ 46 true ?_
    refine lJ 46 true ?_
    refine lJ 46 true ?_
    refine lV 53 (eT (.bool true)) (wpList_nil (then_n (cond_t rfl (by kernel_rfl) (wp_seq (wp_region_lit (lV 4 (eA (.int .i64 0)) (wpList_nil ?_)))))))
    refine then_n (wp_ret (then_r ?_))
    obtain rfl := Option.some.inj M
    exact ret1 rfl rfl  (show _ = .int .i64 0 from (by kernel_rfl)) ⟨rfl, S19.chg⟩
  replace M := ifn q56 M
  refine lG 40 39 (bF q56) (eM (.int .i64 x6)) (lG 41 39 (bF q56) (eAdd .i64 x6 1) (lG 42 39 (bF q56) (eM (.slice A2 x1.length c3)) (lG 43 39 (bF q56) (e_len (A := A2) (n := x1.length) (c := c3) Try.underlying23 (by kernel_rfl)) (lG 44 39 (bF q56) (e_geq (k := .i64) (a := (IntKind.i64.wrap (x6 + 1))) (b := (x1.length : Int)) (by kernel_rfl) (by kernel_rfl)) (lV 45 (eF (.bool (decide ((IntKind.i64.wrap (x6 + 1)) ≥ (x1.length : Int)))) (bF q56)) (lV 46 (eM (.bool (decide ((IntKind.i64.wrap (x6 + 1)) ≥ (x1.length : Int))))) ?_))))))
  by_cases q57 : (IntKind.i64.wrap (x6 + 1)) ≥ (x1.length : Int)
  · replace M := ifp q57 M
    refine lK 46 true (bT q57) ?_
    refine lK 46 true (bT q57) ?_
    refine lK 46 true (bT q57) ?_
    refine lK 46 true (bT q57) ?_
    refine lK 46 true (bT q57) ?_
    refine lK 46 true (bT q57) ?_
    refine lV 53 (eT (.bool true) (bT q57)) (wpList_nil (then_n (cond_t rfl (by kernel_rfl) (wp_seq (wp_region_lit (lV 4 (eA (.int .i64 0)) (wpList_nil ?_)))))))
    refine then_n (wp_ret (then_r ?_))
    obtain rfl := Option.some.inj M
    exact ret1 rfl rfl  (show _ = .int .i64 0 from (by kernel_rfl)) ⟨rfl, S19.chg⟩
  replace M := ifn q57 M
  refine lG 47 46 (bF q57) (eM (.slice A2 x1.length c3)) (lG 48 46 (bF q57) (eM (.int .i64 x6)) (lG 49 46 (bF q57) (eAdd .i64 x6 1) ?_))
  obtain ⟨q58, M⟩ := chk M
  obtain ⟨q59, M⟩ := chk M
  obtain ⟨b60, o61, e62⟩ := Rd.addr h4 (show ((IntKind.i64.wrap (x6 + 1))).toNat < x1.length by omega)
  obtain ⟨y63, r64, k65⟩ := Rd.at h4 e62 (getD_some (0 : UInt8) (show ((IntKind.i64.wrap (x6 + 1))).toNat < x1.length by omega))
  obtain rfl := r64
  refine lG 50 46 (bF q57) (eI b60 o61 x1.length c3 1 (IntKind.i64.wrap (x6 + 1)) .i64 Try.underlying23 e62 q58 q59) (lG 51 46 (bF q57) (eL ⟨b60, o61 + ((IntKind.i64.wrap (x6 + 1)) : Int).toNat * 1, none⟩ (.int .u8 ((x1.getD (((IntKind.i64.wrap (x6 + 1))).toNat) (0 : UInt8)).toNat : Int)) Try.underlying5 (hpx (S19.inv.cell (k65 0 _ rfl)))) (lG 52 46 (bF q57) (eNe .u8 ((x1.getD (((IntKind.i64.wrap (x6 + 1))).toNat) (0 : UInt8)).toNat : Int) 42) (lV 53 (eF (.bool (decide (((x1.getD (((IntKind.i64.wrap (x6 + 1))).toNat) (0 : UInt8)).toNat : Int) ≠ 42))) (bF q57)) (wpList_nil (then_n ?_)))))
  by_cases q66 : ((x1.getD (((IntKind.i64.wrap (x6 + 1))).toNat) (0 : UInt8)).toNat : Int) ≠ 42
  · replace M := ifp q66 M
    refine cT (bT q66) (wp_seq (wp_region_lit (lV 4 (eA (.int .i64 0)) (wpList_nil (then_n (wp_ret (then_r ?_)))))))
    obtain rfl := Option.some.inj M
    exact ret1 rfl rfl  (show _ = .int .i64 0 from (by kernel_rfl)) ⟨rfl, S19.chg⟩
  replace M := ifn q66 M
  refine cF (bF q66) (wp_skip (then_n (wp_seq (wp_region_lit (lV 5 (eA (.int .i64 2)) (wpList_nil (then_n ?_)))))))
  refine wp_seq (wp_block ?_)
  refine wp_loop_g (fun k76 a77 w67 => ∃ (f68 : Nat → Value) (x69 : Int), a77 = mk 82 f68 ∧ f68 0 = .slice A2 x1.length c3 ∧ f68 1 = .int .i64 x6 ∧ f68 5 = .int .i64 x69 ∧ St (anyOf []) H w [] H w67 ∧ spec_l1skip.l1 k76 x1 x6 x69 = some r) k ⟨_, 2, rfl, (by kernel_rfl), (by kernel_rfl), (by kernel_rfl), S19, M⟩ ?_
  clear M
  rintro k76 a77 w67 ⟨f68, x69, rfl, e70, e71, e72, S73, M⟩
  rcases k76 with _ | k78
  · rw [spec_l1skip.l1] at M
    cases M
  rw [spec_l1skip.l1] at M
  refine wp_seq (wp_seq (wp_region_lit (lV 54 (eM (.int .i64 x6) (by exact e71)) (lV 55 (eM (.int .i64 x69) (by exact e72)) (lV 56 (eAdd .i64 x6 x69) (lV 57 (eAdd .i64 (IntKind.i64.wrap (x6 + x69)) 1) (lV 58 (eM (.slice A2 x1.length c3) (by exact e70)) ?_)))))))
  refine lV 59 (e_len (A := A2) (n := x1.length) (c := c3) Try.underlying23 (by kernel_rfl)) (lV 60 (eLt .i64 (IntKind.i64.wrap ((IntKind.i64.wrap (x6 + x69)) + 1)) (x1.length : Int)) (wpList_nil (then_n ?_)))
  by_cases q79 : (IntKind.i64.wrap ((IntKind.i64.wrap (x6 + x69)) + 1)) < (x1.length : Int)
  · replace M := ifp q79 M
    refine cT (bT q79) (wp_skip (then_n (wp_block (wp_seq (wp_seq (wp_region_lit (lV 61 (eM (.slice A2 x1.length c3) (by exact e70)) ?_)))))))
    refine lV 62 (eM (.int .i64 x6) (by exact e71)) (lV 63 (eM (.int .i64 x69) (by exact e72)) (lV 64 (eAdd .i64 x6 x69) ?_))
    obtain ⟨q80, M⟩ := chk M
    obtain ⟨q81, M⟩ := chk M
    obtain ⟨b82, o83, e84⟩ := Rd.addr h4 (show ((IntKind.i64.wrap (x6 + x69))).toNat < x1.length by omega)
    obtain ⟨y85, r86, k87⟩ := Rd.at h4 e84 (getD_some (0 : UInt8) (show ((IntKind.i64.wrap (x6 + x69))).toNat < x1.length by omega))
    obtain rfl := r86
    refine lV 65 (eI b82 o83 x1.length c3 1 (IntKind.i64.wrap (x6 + x69)) .i64 Try.underlying23 e84 q80 q81) (lV 66 (eL ⟨b82, o83 + ((IntKind.i64.wrap (x6 + x69)) : Int).toNat * 1, none⟩ (.int .u8 ((x1.getD (((IntKind.i64.wrap (x6 + x69))).toNat) (0 : UInt8)).toNat : Int)) Try.underlying5 (hpx (S73.inv.cell (k87 0 _ rfl)))) (lV 67 (eEq .u8 ((x1.getD (((IntKind.i64.wrap (x6 + x69))).toNat) (0 : UInt8)).toNat : Int) 42) (lV 68 (eM (.bool (decide (((x1.getD (((IntKind.i64.wrap (x6 + x69))).toNat) (0 : UInt8)).toNat : Int) = 42)))) ?_)))
    by_cases q88 : ((x1.getD (((IntKind.i64.wrap (x6 + x69))).toNat) (0 : UInt8)).toNat : Int) = 42
    · replace M := ifp q88 M
      refine lG 69 68 (bT q88) (eM (.slice A2 x1.length c3) (by exact e70)) (lG 70 68 (bT q88) (eM (.int .i64 x6) (by exact e71)) (lG 71 68 (bT q88) (eM (.int .i64 x69) (by exact e72)) (lG 72 68 (bT q88) (eAdd .i64 x6 x69) (lG 73 68 (bT q88) (eAdd .i64 (IntKind.i64.wrap (x6 + x69)) 1) ?_))))
      obtain ⟨q89, M⟩ := chk M
      obtain ⟨b90, o91, e92⟩ := Rd.addr h4 (show ((IntKind.i64.wrap ((IntKind.i64.wrap (x6 + x69)) + 1))).toNat < x1.length by omega)
      obtain ⟨y93, r94, k95⟩ := Rd.at h4 e92 (getD_some (0 : UInt8) (show ((IntKind.i64.wrap ((IntKind.i64.wrap (x6 + x69)) + 1))).toNat < x1.length by omega))
      obtain rfl := r94
      refine lG 74 68 (bT q88) (eI b90 o91 x1.length c3 1 (IntKind.i64.wrap ((IntKind.i64.wrap (x6 + x69)) + 1)) .i64 Try.underlying23 e92 q89 q79) (lG 75 68 (bT q88) (eL ⟨b90, o91 + ((IntKind.i64.wrap ((IntKind.i64.wrap (x6 + x69)) + 1)) : Int).toNat * 1, none⟩ (.int .u8 ((x1.getD (((IntKind.i64.wrap ((IntKind.i64.wrap (x6 + x69)) + 1))).toNat) (0 : UInt8)).toNat : Int)) Try.underlying5 (hpx (S73.inv.cell (k95 0 _ rfl)))) (lG 76 68 (bT q88) (eEq .u8 ((x1.getD (((IntKind.i64.wrap ((IntKind.i64.wrap (x6 + x69)) + 1))).toNat) (0 : UInt8)).toNat : Int) 47) (lV 77 (eT (.bool (decide (((x1.getD (((IntKind.i64.wrap ((IntKind.i64.wrap (x6 + x69)) + 1))).toNat) (0 : UInt8)).toNat : Int) = 47))) (bT q88)) (wpList_nil (then_n ?_)))))
      by_cases q96 : ((x1.getD (((IntKind.i64.wrap ((IntKind.i64.wrap (x6 + x69)) + 1))).toNat) (0 : UInt8)).toNat : Int) = 47
      · replace M := ifp q96 M
        refine cT (bT q96) (wp_seq (wp_region_lit (lV 78 (eM (.int .i64 x69) (by exact e72)) (lV 79 (eAdd .i64 x69 2) (lV 4 (eA (.int .i64 (IntKind.i64.wrap (x69 + 2)))) (wpList_nil (then_n ?_)))))))
        refine wp_ret (then_r (inb_r (then_r (inb_r (then_r ?_)))))
        obtain rfl := Option.some.inj M
        exact ret1 rfl rfl  (show _ = .int .i64 (IntKind.i64.wrap (x69 + 2)) from (by kernel_rfl)) ⟨rfl, S73.chg⟩
      replace M := ifn q96 M
      refine cF (bF q96) (wp_skip (then_n (wp_region_lit (lV 80 (eM (.int .i64 x69) (by exact e72)) (lV 81 (eAdd .i64 x69 1) (lV 5 (eA (.int .i64 (IntKind.i64.wrap (x69 + 1)))) (wpList_nil ?_)))))))
      refine inb_n (then_n ?_)
      exact ⟨k78, (by omega), _, (IntKind.i64.wrap (x69 + 1)), rfl, (by exact e70), (by exact e71), (by kernel_rfl), S73, M⟩
    replace M := ifn q88 M
    refine lK 68 false (bF q88) ?_
    refine lK 68 false (bF q88) ?_
    refine lK 68 false (bF q88) ?_
    refine lK 68 false (bF q88) ?_
    refine lK 68 false (bF q88) ?_
    refine lK 68 false (bF q88) ?_
    refine lK 68 false (bF q88) ?_
    refine lK 68 false (bF q88) ?_
    refine lV 77 (eF (.bool false) (bF q88)) (wpList_nil (then_n (cond_f rfl (by kernel_rfl) (wp_skip (then_n (wp_region_lit (lV 80 (eM (.int .i64 x69) (by exact e72)) ?_)))))))
    refine lV 81 (eAdd .i64 x69 1) (lV 5 (eA (.int .i64 (IntKind.i64.wrap (x69 + 1)))) (wpList_nil (inb_n (then_n ?_))))
    exact ⟨k78, (by omega), _, (IntKind.i64.wrap (x69 + 1)), rfl, (by exact e70), (by exact e71), (by kernel_rfl), S73, M⟩
  replace M := ifn q79 M
  refine cF (bF q79) (wp_exit (then_e (then_e (inb_hit (then_n (wp_seq (wp_region_lit ?_)))))))
  refine lV 4 (eA (.int .i64 (-1))) (wpList_nil (then_n (wp_ret ?_)))
  obtain rfl := Option.some.inj M
  exact ret1 rfl rfl  (show _ = .int .i64 (-1) from (by kernel_rfl)) ⟨rfl, S73.chg⟩

/-! spec_l1digit -/
def spec_l1digit.f (x1 : UInt8) : Option Bool := (if (x1.toNat : Int) ≥ 48 then some (decide ((x1.toNat : Int) ≤ 57)) else some false)
theorem spec_l1digit.calls (w : World) (H : Hp) (x1 : UInt8) (S : Own [] H w) (r : Bool) (M : spec_l1digit.f x1 = some r) :
    Calls Try.prog 31 #[.int .u8 (x1.toNat : Int)] w (fun e e_w => e = .returned (.bool r) ∧ Chg no w e_w) := by
  rw [spec_l1digit.f] at M
  refine enter (l := [.int .u8 (x1.toNat : Int)]) 9 Try.func31 rfl rfl rfl ?_
  have S0_ := S.st
  refine wp_seq (wp_region_lit (lV 2 (eA (.bool false)) (wpList_nil (then_n (wp_seq (wp_region_lit (lV 3 (eM (.int .u8 (x1.toNat : Int))) ?_)))))))
  refine lV 4 (e_geq (k := .u8) (a := (x1.toNat : Int)) (b := 48) (by kernel_rfl) rfl) (lV 5 (eM (.bool (decide ((x1.toNat : Int) ≥ 48)))) ?_)
  by_cases q2 : (x1.toNat : Int) ≥ 48
  · replace M := ifp q2 M
    refine lG 6 5 (bT q2) (eM (.int .u8 (x1.toNat : Int))) (lG 7 5 (bT q2) (e_leq (k := .u8) (a := (x1.toNat : Int)) (b := 57) (by kernel_rfl) rfl) (lV 8 (eT (.bool (decide ((x1.toNat : Int) ≤ 57))) (bT q2)) (lV 2 (eA (.bool (decide ((x1.toNat : Int) ≤ 57)))) (wpList_nil (then_n (wp_ret ?_))))))
    obtain rfl := Option.some.inj M
    exact ret1 rfl rfl  (show _ = .bool (decide ((x1.toNat : Int) ≤ 57)) from (by kernel_rfl)) ⟨rfl, S0_.chg⟩
  replace M := ifn q2 M
  refine lK 5 false (bF q2) ?_
  refine lK 5 false (bF q2) ?_
  refine lV 8 (eF (.bool false) (bF q2)) (lV 2 (eA (.bool false)) (wpList_nil (then_n (wp_ret ?_))))
  obtain rfl := Option.some.inj M
  exact ret1 rfl rfl  (show _ = .bool false from (by kernel_rfl)) ⟨rfl, S0_.chg⟩

/-! spec_l1hex -/
def spec_l1hex.f (x1 : UInt8) : Option Int := ((spec_l1digit.f x1).bind fun t2 => (if t2 = true then some ((b8 ((x1.toNat : Int) - 48)).toNat : Int) else (if (x1.toNat : Int) ≥ 97 then (if (x1.toNat : Int) ≤ 102 then some (IntKind.i64.wrap (((b8 ((x1.toNat : Int) - 97)).toNat : Int) + 10)) else (if (x1.toNat : Int) ≥ 65 then (if (x1.toNat : Int) ≤ 70 then some (IntKind.i64.wrap (((b8 ((x1.toNat : Int) - 65)).toNat : Int) + 10)) else some 99) else some 99)) else (if (x1.toNat : Int) ≥ 65 then (if (x1.toNat : Int) ≤ 70 then some (IntKind.i64.wrap (((b8 ((x1.toNat : Int) - 65)).toNat : Int) + 10)) else some 99) else some 99))))
theorem spec_l1hex.calls (w : World) (H : Hp) (x1 : UInt8) (S : Own [] H w) (r : Int) (M : spec_l1hex.f x1 = some r) :
    Calls Try.prog 45 #[.int .u8 (x1.toNat : Int)] w (fun e e_w => e = .returned (.int .i64 r) ∧ Chg no w e_w) := by
  rw [spec_l1hex.f] at M
  refine enter (l := [.int .u8 (x1.toNat : Int)]) 28 Try.func45 rfl rfl rfl ?_
  have S0_ := S.st
  refine wp_seq (wp_region_lit (lV 2 (eA (.int .i64 0)) (wpList_nil (then_n (wp_seq (wp_seq (wp_region_lit ?_)))))))
  refine lV 3 (eM (.int .u8 (x1.toNat : Int))) ?_
  obtain ⟨t2, u3, M⟩ := bnd M
  refine lC 4 (eC [.tmp 3] [.int .u8 (x1.toNat : Int)] Try.func31) (spec_l1digit.calls w H x1  S0_.own0 t2 u3) ?_
  rintro _ w4 ⟨rfl, C5⟩
  refine ⟨_, rfl, ?_⟩
  obtain ⟨S6, K7⟩ := S0_.still C5
  refine wpList_nil (then_n ?_)
  by_cases q8 : t2 = true
  · replace M := ifp q8 M
    refine cT (bvt q8 (by kernel_rfl)) (wp_seq (wp_region_lit (lV 5 (eM (.int .u8 (x1.toNat : Int))) (lV 6 (e_sub8 (a := (x1.toNat : Int)) (b := 48) (by kernel_rfl) rfl) (lV 7 (e_conv_8i (a := (b8 ((x1.toNat : Int) - 48))) (by kernel_rfl) Try.underlying3 (by kernel_rfl)) (lV 2 (eA (.int .i64 ((b8 ((x1.toNat : Int) - 48)).toNat : Int))) (wpList_nil ?_)))))))
    refine then_n (wp_ret (then_r ?_))
    obtain rfl := Option.some.inj M
    exact ret1 rfl rfl  (show _ = .int .i64 ((b8 ((x1.toNat : Int) - 48)).toNat : Int) from (by kernel_rfl)) ⟨rfl, S6.chg⟩
  replace M := ifn q8 M
  refine cF (bvf q8 (by kernel_rfl)) (wp_skip (then_n (wp_seq (wp_seq (wp_region_lit (lV 8 (eM (.int .u8 (x1.toNat : Int))) (lV 9 (e_geq (k := .u8) (a := (x1.toNat : Int)) (b := 97) (by kernel_rfl) rfl) ?_)))))))
  refine lV 10 (eM (.bool (decide ((x1.toNat : Int) ≥ 97)))) ?_
  by_cases q9 : (x1.toNat : Int) ≥ 97
  · replace M := ifp q9 M
    refine lG 11 10 (bT q9) (eM (.int .u8 (x1.toNat : Int))) (lG 12 10 (bT q9) (e_leq (k := .u8) (a := (x1.toNat : Int)) (b := 102) (by kernel_rfl) rfl) (lV 13 (eT (.bool (decide ((x1.toNat : Int) ≤ 102))) (bT q9)) (wpList_nil (then_n ?_))))
    by_cases q10 : (x1.toNat : Int) ≤ 102
    · replace M := ifp q10 M
      refine cT (bT q10) (wp_seq (wp_region_lit (lV 14 (eM (.int .u8 (x1.toNat : Int))) (lV 15 (e_sub8 (a := (x1.toNat : Int)) (b := 97) (by kernel_rfl) rfl) (lV 16 (e_conv_8i (a := (b8 ((x1.toNat : Int) - 97))) (by kernel_rfl) Try.underlying3 (by kernel_rfl)) (lV 17 (eAdd .i64 ((b8 ((x1.toNat : Int) - 97)).toNat : Int) 10) (lV 2 (eA (.int .i64 (IntKind.i64.wrap (((b8 ((x1.toNat : Int) - 97)).toNat : Int) + 10)))) ?_)))))))
      refine wpList_nil (then_n (wp_ret (then_r ?_)))
      obtain rfl := Option.some.inj M
      exact ret1 rfl rfl  (show _ = .int .i64 (IntKind.i64.wrap (((b8 ((x1.toNat : Int) - 97)).toNat : Int) + 10)) from (by kernel_rfl)) ⟨rfl, S6.chg⟩
    replace M := ifn q10 M
    refine cF (bF q10) (wp_skip (then_n (wp_seq (wp_seq (wp_region_lit (lV 18 (eM (.int .u8 (x1.toNat : Int))) (lV 19 (e_geq (k := .u8) (a := (x1.toNat : Int)) (b := 65) (by kernel_rfl) rfl) ?_)))))))
    refine lV 20 (eM (.bool (decide ((x1.toNat : Int) ≥ 65)))) ?_
    by_cases q11 : (x1.toNat : Int) ≥ 65
    · replace M := ifp q11 M
      refine lG 21 20 (bT q11) (eM (.int .u8 (x1.toNat : Int))) (lG 22 20 (bT q11) (e_leq (k := .u8) (a := (x1.toNat : Int)) (b := 70) (by kernel_rfl) rfl) (lV 23 (eT (.bool (decide ((x1.toNat : Int) ≤ 70))) (bT q11)) (wpList_nil (then_n ?_))))
      by_cases q12 : (x1.toNat : Int) ≤ 70
      · replace M := ifp q12 M
        refine cT (bT q12) (wp_seq (wp_region_lit (lV 24 (eM (.int .u8 (x1.toNat : Int))) (lV 25 (e_sub8 (a := (x1.toNat : Int)) (b := 65) (by kernel_rfl) rfl) (lV 26 (e_conv_8i (a := (b8 ((x1.toNat : Int) - 65))) (by kernel_rfl) Try.underlying3 (by kernel_rfl)) (lV 27 (eAdd .i64 ((b8 ((x1.toNat : Int) - 65)).toNat : Int) 10) (lV 2 (eA (.int .i64 (IntKind.i64.wrap (((b8 ((x1.toNat : Int) - 65)).toNat : Int) + 10)))) ?_)))))))
        refine wpList_nil (then_n (wp_ret (then_r ?_)))
        obtain rfl := Option.some.inj M
        exact ret1 rfl rfl  (show _ = .int .i64 (IntKind.i64.wrap (((b8 ((x1.toNat : Int) - 65)).toNat : Int) + 10)) from (by kernel_rfl)) ⟨rfl, S6.chg⟩
      replace M := ifn q12 M
      refine cF (bF q12) (wp_skip (then_n (wp_seq (wp_region_lit (lV 2 (eA (.int .i64 99)) (wpList_nil (then_n ?_)))))))
      refine wp_ret ?_
      obtain rfl := Option.some.inj M
      exact ret1 rfl rfl  (show _ = .int .i64 99 from (by kernel_rfl)) ⟨rfl, S6.chg⟩
    replace M := ifn q11 M
    refine lK 20 false (bF q11) ?_
    refine lK 20 false (bF q11) ?_
    refine lV 23 (eF (.bool false) (bF q11)) (wpList_nil (then_n (cond_f rfl (by kernel_rfl) (wp_skip (then_n (wp_seq (wp_region_lit ?_)))))))
    refine lV 2 (eA (.int .i64 99)) (wpList_nil (then_n (wp_ret ?_)))
    obtain rfl := Option.some.inj M
    exact ret1 rfl rfl  (show _ = .int .i64 99 from (by kernel_rfl)) ⟨rfl, S6.chg⟩
  replace M := ifn q9 M
  refine lK 10 false (bF q9) ?_
  refine lK 10 false (bF q9) ?_
  refine lV 13 (eF (.bool false) (bF q9)) (wpList_nil (then_n (cond_f rfl (by kernel_rfl) (wp_skip (then_n (wp_seq (wp_seq ?_)))))))
  refine wp_region_lit (lV 18 (eM (.int .u8 (x1.toNat : Int))) (lV 19 (e_geq (k := .u8) (a := (x1.toNat : Int)) (b := 65) (by kernel_rfl) rfl) (lV 20 (eM (.bool (decide ((x1.toNat : Int) ≥ 65)))) ?_)))
  by_cases q13 : (x1.toNat : Int) ≥ 65
  · replace M := ifp q13 M
    refine lG 21 20 (bT q13) (eM (.int .u8 (x1.toNat : Int))) (lG 22 20 (bT q13) (e_leq (k := .u8) (a := (x1.toNat : Int)) (b := 70) (by kernel_rfl) rfl) (lV 23 (eT (.bool (decide ((x1.toNat : Int) ≤ 70))) (bT q13)) (wpList_nil (then_n ?_))))
    by_cases q14 : (x1.toNat : Int) ≤ 70
    · replace M := ifp q14 M
      refine cT (bT q14) (wp_seq (wp_region_lit (lV 24 (eM (.int .u8 (x1.toNat : Int))) (lV 25 (e_sub8 (a := (x1.toNat : Int)) (b := 65) (by kernel_rfl) rfl) (lV 26 (e_conv_8i (a := (b8 ((x1.toNat : Int) - 65))) (by kernel_rfl) Try.underlying3 (by kernel_rfl)) (lV 27 (eAdd .i64 ((b8 ((x1.toNat : Int) - 65)).toNat : Int) 10) (lV 2 (eA (.int .i64 (IntKind.i64.wrap (((b8 ((x1.toNat : Int) - 65)).toNat : Int) + 10)))) ?_)))))))
      refine wpList_nil (then_n (wp_ret (then_r ?_)))
      obtain rfl := Option.some.inj M
      exact ret1 rfl rfl  (show _ = .int .i64 (IntKind.i64.wrap (((b8 ((x1.toNat : Int) - 65)).toNat : Int) + 10)) from (by kernel_rfl)) ⟨rfl, S6.chg⟩
    replace M := ifn q14 M
    refine cF (bF q14) (wp_skip (then_n (wp_seq (wp_region_lit (lV 2 (eA (.int .i64 99)) (wpList_nil (then_n ?_)))))))
    refine wp_ret ?_
    obtain rfl := Option.some.inj M
    exact ret1 rfl rfl  (show _ = .int .i64 99 from (by kernel_rfl)) ⟨rfl, S6.chg⟩
  replace M := ifn q13 M
  refine lK 20 false (bF q13) ?_
  refine lK 20 false (bF q13) ?_
  refine lV 23 (eF (.bool false) (bF q13)) (wpList_nil (then_n (cond_f rfl (by kernel_rfl) (wp_skip (then_n (wp_seq (wp_region_lit ?_)))))))
  refine lV 2 (eA (.int .i64 99)) (wpList_nil (then_n (wp_ret ?_)))
  obtain rfl := Option.some.inj M
  exact ret1 rfl rfl  (show _ = .int .i64 99 from (by kernel_rfl)) ⟨rfl, S6.chg⟩

/-! spec_l1escape -/
def spec_l1escape.l0 : Nat → (List UInt8) → Int → Int → Int → Option ((List UInt8) × Int)
  | 0, _, _, _, _ => none
  | k94 + 1, x1, x6, x83, x84 => (if (IntKind.i64.wrap ((IntKind.i64.wrap (x6 + 1)) + x84)) < (x1.length : Int) then (if x84 < 2 then (if 0 ≤ (IntKind.i64.wrap ((IntKind.i64.wrap (x6 + 1)) + x84)) then ((spec_l1hex.f (x1.getD (((IntKind.i64.wrap ((IntKind.i64.wrap (x6 + 1)) + x84))).toNat) (0 : UInt8))).bind fun t104 => (if t104 < 16 then ((spec_l1hex.f (x1.getD (((IntKind.i64.wrap ((IntKind.i64.wrap (x6 + 1)) + x84))).toNat) (0 : UInt8))).bind fun t117 => (spec_l1escape.l0 k94 x1 x6 (IntKind.i64.wrap ((IntKind.i64.wrap (x83 * 16)) + t117)) (IntKind.i64.wrap (x84 + 1)))) else (if x84 = 0 then some ([], 0) else (if (IntKind.i64.wrap ((IntKind.i64.wrap (x6 + 1)) + x84)) ≥ (x1.length : Int) then some ([], 0) else (if ((x1.getD (((IntKind.i64.wrap ((IntKind.i64.wrap (x6 + 1)) + x84))).toNat) (0 : UInt8)).toNat : Int) ≠ 92 then some ([], 0) else some ([(b8 (x83))], (IntKind.i64.wrap (x84 + 2)))))))) else none) else (if x84 = 0 then some ([], 0) else (if (IntKind.i64.wrap ((IntKind.i64.wrap (x6 + 1)) + x84)) ≥ (x1.length : Int) then some ([], 0) else (if 0 ≤ (IntKind.i64.wrap ((IntKind.i64.wrap (x6 + 1)) + x84)) then (if ((x1.getD (((IntKind.i64.wrap ((IntKind.i64.wrap (x6 + 1)) + x84))).toNat) (0 : UInt8)).toNat : Int) ≠ 92 then some ([], 0) else some ([(b8 (x83))], (IntKind.i64.wrap (x84 + 2)))) else none)))) else (if x84 = 0 then some ([], 0) else (if (IntKind.i64.wrap ((IntKind.i64.wrap (x6 + 1)) + x84)) ≥ (x1.length : Int) then some ([], 0) else (if 0 ≤ (IntKind.i64.wrap ((IntKind.i64.wrap (x6 + 1)) + x84)) then (if (IntKind.i64.wrap ((IntKind.i64.wrap (x6 + 1)) + x84)) < (x1.length : Int) then (if ((x1.getD (((IntKind.i64.wrap ((IntKind.i64.wrap (x6 + 1)) + x84))).toNat) (0 : UInt8)).toNat : Int) ≠ 92 then some ([], 0) else some ([(b8 (x83))], (IntKind.i64.wrap (x84 + 2)))) else none) else none))))
def spec_l1escape.f (k : Nat) (x1 : List UInt8) (x6 : Int) : Option ((List UInt8) × Int) := (if x6 ≥ (x1.length : Int) then some ([], 0) else (if 0 ≤ x6 then (if x6 < (x1.length : Int) then (if ((x1.getD ((x6).toNat) (0 : UInt8)).toNat : Int) = 92 then some ([(x1.getD ((x6).toNat) (0 : UInt8))], 1) else (if ((x1.getD ((x6).toNat) (0 : UInt8)).toNat : Int) = 39 then some ([(x1.getD ((x6).toNat) (0 : UInt8))], 1) else (if ((x1.getD ((x6).toNat) (0 : UInt8)).toNat : Int) = 34 then some ([(x1.getD ((x6).toNat) (0 : UInt8))], 1) else (if ((x1.getD ((x6).toNat) (0 : UInt8)).toNat : Int) = 110 then some ([(10 : UInt8)], 1) else (if ((x1.getD ((x6).toNat) (0 : UInt8)).toNat : Int) = 116 then some ([(9 : UInt8)], 1) else (if ((x1.getD ((x6).toNat) (0 : UInt8)).toNat : Int) = 114 then some ([(13 : UInt8)], 1) else (if ((x1.getD ((x6).toNat) (0 : UInt8)).toNat : Int) = 10 then some ([], 1) else (if ((x1.getD ((x6).toNat) (0 : UInt8)).toNat : Int) ≠ 120 then some ([], 0) else (spec_l1escape.l0 k x1 x6 0 0))))))))) else none) else none))
theorem spec_l1escape.calls (k : Nat) (w : World) (H : Hp) (x1 : List UInt8) (A2 : Option Addr) (c3 : Nat) (x6 : Int) (h4 : Rd tByte H A2 x1) (l5 : x1.length ≤ c3) (S : Own [] H w) (r : (List UInt8) × Int) (M : spec_l1escape.f k x1 x6 = some r) :
    Calls Try.prog 46 #[.slice A2 x1.length c3, .int .i64 x6] w (fun e e_w => ∃ (A_1 : Option Addr) (c_1 : Nat) (F_1 : Foot) (H_ : Hp), e = .returned (.tuple #[.slice A_1 r.1.length c_1, .int .i64 r.2]) ∧ Row tByte 5 H_ (hp e_w) F_1 A_1 c_1 r.1 ∧ St (anyOf []) H w [F_1] H_ e_w) := by
  rw [spec_l1escape.f] at M
  refine enter (l := [.slice A2 x1.length c3, .int .i64 x6]) 103 Try.func46 rfl rfl rfl ?_
  have S0_ := S.st
  refine wp_seq (wp_region_lit (lV 4 (eA (.slice none 0 0)) (lV 5 (eA (.int .i64 0)) (wpList_nil (then_n (wp_seq (wp_seq ?_)))))))
  refine wp_region_lit (lV 9 (eM (.int .i64 x6)) (lV 10 (eM (.slice A2 x1.length c3)) (lV 11 (e_len (A := A2) (n := x1.length) (c := c3) Try.underlying23 (by kernel_rfl)) (lV 12 (e_geq (k := .i64) (a := x6) (b := (x1.length : Int)) (by kernel_rfl) (by kernel_rfl)) (wpList_nil (then_n ?_))))))
  by_cases q7 : x6 ≥ (x1.length : Int)
  · replace M := ifp q7 M
    refine cT (bT q7) (wp_seq (wp_region_lit (lV 4 (eA (.slice none 0 0)) (lV 5 (eA (.int .i64 0)) (wpList_nil (then_n (wp_ret ?_)))))))
    refine then_r ?_
    obtain rfl := Option.some.inj M
    have S8 := S0_.unit
    exact ret2 rfl rfl rfl (show _ = .slice none 0 0 from (by kernel_rfl)) (show _ = .int .i64 0 from (by kernel_rfl)) ⟨none, 0, no, H, rfl, (Row.nil _ _ _ _ no), S8⟩
  replace M := ifn q7 M
  refine cF (bF q7) (wp_skip (then_n (wp_seq (wp_region_lit (lV 13 (eM (.slice A2 x1.length c3)) (lV 14 (eM (.int .i64 x6)) ?_))))))
  obtain ⟨q9, M⟩ := chk M
  obtain ⟨q10, M⟩ := chk M
  obtain ⟨b11, o12, e13⟩ := Rd.addr h4 (show (x6).toNat < x1.length by omega)
  obtain ⟨y14, r15, k16⟩ := Rd.at h4 e13 (getD_some (0 : UInt8) (show (x6).toNat < x1.length by omega))
  obtain rfl := r15
  refine lV 15 (eI b11 o12 x1.length c3 1 x6 .i64 Try.underlying23 e13 q9 q10) (lV 16 (eL ⟨b11, o12 + (x6 : Int).toNat * 1, none⟩ (.int .u8 ((x1.getD ((x6).toNat) (0 : UInt8)).toNat : Int)) Try.underlying5 (hpx (S0_.inv.cell (k16 0 _ rfl)))) (lV 6 (eA (.int .u8 ((x1.getD ((x6).toNat) (0 : UInt8)).toNat : Int))) (wpList_nil (then_n (wp_seq (wp_seq (wp_region_lit ?_)))))))
  refine lV 17 (eM (.int .u8 ((x1.getD ((x6).toNat) (0 : UInt8)).toNat : Int))) (lV 18 (eEq .u8 ((x1.getD ((x6).toNat) (0 : UInt8)).toNat : Int) 92) (lV 19 (eM (.bool (decide (((x1.getD ((x6).toNat) (0 : UInt8)).toNat : Int) = 92)))) ?_))
  by_cases q17 : ((x1.getD ((x6).toNat) (0 : UInt8)).toNat : Int) = 92
  · replace M := ifp q17 M
    refine lK 19 true (bT q17) ?_
    refine lK 19 true (bT q17) ?_
    refine lV 22 (eT (.bool true) (bT q17)) (lV 23 (eM (.bool true)) ?_)
    refine lJ 23 true ?_
    refine lJ 23 true ?_
    refine lV 26 (eT (.bool true)) (wpList_nil (then_n (cond_t rfl (by kernel_rfl) (wp_seq (wp_region_lit (lV 27 (eM (.int .u8 ((x1.getD ((x6).toNat) (0 : UInt8)).toNat : Int))) ?_))))))
    refine lve (d := 28) rfl rfl (by kernel_rfl) (new_blk (v := fun g_ => .slice (some ⟨g_, 0, none⟩) 1 1) (cs := #[.int .u8 ((x1.getD ((x6).toNat) (0 : UInt8)).toNat : Int)]) (t := 5) S0_ (by kernel_rfl)) ?_
    rintro _ w18 ⟨g19, rfl, b20, S21, K22⟩
    have S23 := S21.unit
    have S24 := S23.pull (F := (is g19)) (Fr := [no]) 1 rfl rfl
    obtain ⟨h25, S26⟩ := row_lit (d := tByte) (xs := [(x1.getD ((x6).toNat) (0 : UInt8))]) S24 b20 rfl (elsO_one1 rfl) (Nat.le_of_ble_eq_true rfl)
    refine lV 4 (eA (.slice (some ⟨g19, 0, none⟩) 1 1)) (lV 5 (eA (.int .i64 1)) (wpList_nil (then_n (wp_ret (then_r ?_)))))
    obtain rfl := Option.some.inj M
    exact ret2 rfl rfl rfl (show _ = .slice (some ⟨g19, 0, none⟩) 1 1 from (by kernel_rfl)) (show _ = .int .i64 1 from (by kernel_rfl)) ⟨(some ⟨g19, 0, none⟩), 1, (or2 (is g19) no), H, rfl, h25, S26⟩
  replace M := ifn q17 M
  refine lG 20 19 (bF q17) (eM (.int .u8 ((x1.getD ((x6).toNat) (0 : UInt8)).toNat : Int))) (lG 21 19 (bF q17) (eEq .u8 ((x1.getD ((x6).toNat) (0 : UInt8)).toNat : Int) 39) (lV 22 (eF (.bool (decide (((x1.getD ((x6).toNat) (0 : UInt8)).toNat : Int) = 39))) (bF q17)) (lV 23 (eM (.bool (decide (((x1.getD ((x6).toNat) (0 : UInt8)).toNat : Int) = 39)))) ?_)))
  by_cases q27 : ((x1.getD ((x6).toNat) (0 : UInt8)).toNat : Int) = 39
  · replace M := ifp q27 M
    refine lK 23 true (bT q27) ?_
    refine lK 23 true (bT q27) ?_
    refine lV 26 (eT (.bool true) (bT q27)) (wpList_nil (then_n (cond_t rfl (by kernel_rfl) (wp_seq (wp_region_lit (lV 27 (eM (.int .u8 ((x1.getD ((x6).toNat) (0 : UInt8)).toNat : Int))) ?_))))))
    refine lve (d := 28) rfl rfl (by kernel_rfl) (new_blk (v := fun g_ => .slice (some ⟨g_, 0, none⟩) 1 1) (cs := #[.int .u8 ((x1.getD ((x6).toNat) (0 : UInt8)).toNat : Int)]) (t := 5) S0_ (by kernel_rfl)) ?_
    rintro _ w28 ⟨g29, rfl, b30, S31, K32⟩
    have S33 := S31.unit
    have S34 := S33.pull (F := (is g29)) (Fr := [no]) 1 rfl rfl
    obtain ⟨h35, S36⟩ := row_lit (d := tByte) (xs := [(x1.getD ((x6).toNat) (0 : UInt8))]) S34 b30 rfl (elsO_one1 rfl) (Nat.le_of_ble_eq_true rfl)
    refine lV 4 (eA (.slice (some ⟨g29, 0, none⟩) 1 1)) (lV 5 (eA (.int .i64 1)) (wpList_nil (then_n (wp_ret (then_r ?_)))))
    obtain rfl := Option.some.inj M
    exact ret2 rfl rfl rfl (show _ = .slice (some ⟨g29, 0, none⟩) 1 1 from (by kernel_rfl)) (show _ = .int .i64 1 from (by kernel_rfl)) ⟨(some ⟨g29, 0, none⟩), 1, (or2 (is g29) no), H, rfl, h35, S36⟩
  replace M := ifn q27 M
  refine lG 24 23 (bF q27) (eM (.int .u8 ((x1.getD ((x6).toNat) (0 : UInt8)).toNat : Int))) (lG 25 23 (bF q27) (eEq .u8 ((x1.getD ((x6).toNat) (0 : UInt8)).toNat : Int) 34) (lV 26 (eF (.bool (decide (((x1.getD ((x6).toNat) (0 : UInt8)).toNat : Int) = 34))) (bF q27)) (wpList_nil (then_n ?_))))
  by_cases q37 : ((x1.getD ((x6).toNat) (0 : UInt8)).toNat : Int) = 34
  · replace M := ifp q37 M
    refine cT (bT q37) (wp_seq (wp_region_lit (lV 27 (eM (.int .u8 ((x1.getD ((x6).toNat) (0 : UInt8)).toNat : Int))) ?_)))
    refine lve (d := 28) rfl rfl (by kernel_rfl) (new_blk (v := fun g_ => .slice (some ⟨g_, 0, none⟩) 1 1) (cs := #[.int .u8 ((x1.getD ((x6).toNat) (0 : UInt8)).toNat : Int)]) (t := 5) S0_ (by kernel_rfl)) ?_
    rintro _ w38 ⟨g39, rfl, b40, S41, K42⟩
    have S43 := S41.unit
    have S44 := S43.pull (F := (is g39)) (Fr := [no]) 1 rfl rfl
    obtain ⟨h45, S46⟩ := row_lit (d := tByte) (xs := [(x1.getD ((x6).toNat) (0 : UInt8))]) S44 b40 rfl (elsO_one1 rfl) (Nat.le_of_ble_eq_true rfl)
    refine lV 4 (eA (.slice (some ⟨g39, 0, none⟩) 1 1)) (lV 5 (eA (.int .i64 1)) (wpList_nil (then_n (wp_ret (then_r ?_)))))
    obtain rfl := Option.some.inj M
    exact ret2 rfl rfl rfl (show _ = .slice (some ⟨g39, 0, none⟩) 1 1 from (by kernel_rfl)) (show _ = .int .i64 1 from (by kernel_rfl)) ⟨(some ⟨g39, 0, none⟩), 1, (or2 (is g39) no), H, rfl, h45, S46⟩
  replace M := ifn q37 M
  refine cF (bF q37) (wp_skip (then_n (wp_seq (wp_seq (wp_region_lit (lV 29 (eM (.int .u8 ((x1.getD ((x6).toNat) (0 : UInt8)).toNat : Int))) (lV 30 (eEq .u8 ((x1.getD ((x6).toNat) (0 : UInt8)).toNat : Int) 110) ?_)))))))
  refine wpList_nil (then_n ?_)
  by_cases q47 : ((x1.getD ((x6).toNat) (0 : UInt8)).toNat : Int) = 110
  · replace M := ifp q47 M
    refine cT (bT q47) (wp_seq (wp_region_lit ?_))
    refine lve (d := 31) rfl rfl (by kernel_rfl) (new_blk (v := fun g_ => .slice (some ⟨g_, 0, none⟩) 1 1) (cs := #[.int .u8 10]) (t := 5) S0_ (by kernel_rfl)) ?_
    rintro _ w48 ⟨g49, rfl, b50, S51, K52⟩
    have S53 := S51.unit
    have S54 := S53.pull (F := (is g49)) (Fr := [no]) 1 rfl rfl
    obtain ⟨h55, S56⟩ := row_lit (d := tByte) (xs := [(10 : UInt8)]) S54 b50 rfl (elsO_one1 rfl) (Nat.le_of_ble_eq_true rfl)
    refine lV 4 (eA (.slice (some ⟨g49, 0, none⟩) 1 1)) (lV 5 (eA (.int .i64 1)) (wpList_nil (then_n (wp_ret (then_r ?_)))))
    obtain rfl := Option.some.inj M
    exact ret2 rfl rfl rfl (show _ = .slice (some ⟨g49, 0, none⟩) 1 1 from (by kernel_rfl)) (show _ = .int .i64 1 from (by kernel_rfl)) ⟨(some ⟨g49, 0, none⟩), 1, (or2 (is g49) no), H, rfl, h55, S56⟩
  replace M := ifn q47 M
  refine cF (bF q47) (wp_skip (then_n (wp_seq (wp_seq (wp_region_lit (lV 32 (eM (.int .u8 ((x1.getD ((x6).toNat) (0 : UInt8)).toNat : Int))) (lV 33 (eEq .u8 ((x1.getD ((x6).toNat) (0 : UInt8)).toNat : Int) 116) ?_)))))))
  refine wpList_nil (then_n ?_)
  by_cases q57 : ((x1.getD ((x6).toNat) (0 : UInt8)).toNat : Int) = 116
  · replace M := ifp q57 M
    refine cT (bT q57) (wp_seq (wp_region_lit ?_))
    refine lve (d := 34) rfl rfl (by kernel_rfl) (new_blk (v := fun g_ => .slice (some ⟨g_, 0, none⟩) 1 1) (cs := #[.int .u8 9]) (t := 5) S0_ (by kernel_rfl)) ?_
    rintro _ w58 ⟨g59, rfl, b60, S61, K62⟩
    have S63 := S61.unit
    have S64 := S63.pull (F := (is g59)) (Fr := [no]) 1 rfl rfl
    obtain ⟨h65, S66⟩ := row_lit (d := tByte) (xs := [(9 : UInt8)]) S64 b60 rfl (elsO_one1 rfl) (Nat.le_of_ble_eq_true rfl)
    refine lV 4 (eA (.slice (some ⟨g59, 0, none⟩) 1 1)) (lV 5 (eA (.int .i64 1)) (wpList_nil (then_n (wp_ret (then_r ?_)))))
    obtain rfl := Option.some.inj M
    exact ret2 rfl rfl rfl (show _ = .slice (some ⟨g59, 0, none⟩) 1 1 from (by kernel_rfl)) (show _ = .int .i64 1 from (by kernel_rfl)) ⟨(some ⟨g59, 0, none⟩), 1, (or2 (is g59) no), H, rfl, h65, S66⟩
  replace M := ifn q57 M
  refine cF (bF q57) (wp_skip (then_n (wp_seq (wp_seq (wp_region_lit (lV 35 (eM (.int .u8 ((x1.getD ((x6).toNat) (0 : UInt8)).toNat : Int))) (lV 36 (eEq .u8 ((x1.getD ((x6).toNat) (0 : UInt8)).toNat : Int) 114) ?_)))))))
  refine wpList_nil (then_n ?_)
  by_cases q67 : ((x1.getD ((x6).toNat) (0 : UInt8)).toNat : Int) = 114
  · replace M := ifp q67 M
    refine cT (bT q67) (wp_seq (wp_region_lit ?_))
    refine lve (d := 37) rfl rfl (by kernel_rfl) (new_blk (v := fun g_ => .slice (some ⟨g_, 0, none⟩) 1 1) (cs := #[.int .u8 13]) (t := 5) S0_ (by kernel_rfl)) ?_
    rintro _ w68 ⟨g69, rfl, b70, S71, K72⟩
    have S73 := S71.unit
    have S74 := S73.pull (F := (is g69)) (Fr := [no]) 1 rfl rfl
    obtain ⟨h75, S76⟩ := row_lit (d := tByte) (xs := [(13 : UInt8)]) S74 b70 rfl (elsO_one1 rfl) (Nat.le_of_ble_eq_true rfl)
    refine lV 4 (eA (.slice (some ⟨g69, 0, none⟩) 1 1)) (lV 5 (eA (.int .i64 1)) (wpList_nil (then_n (wp_ret (then_r ?_)))))
    obtain rfl := Option.some.inj M
    exact ret2 rfl rfl rfl (show _ = .slice (some ⟨g69, 0, none⟩) 1 1 from (by kernel_rfl)) (show _ = .int .i64 1 from (by kernel_rfl)) ⟨(some ⟨g69, 0, none⟩), 1, (or2 (is g69) no), H, rfl, h75, S76⟩
  replace M := ifn q67 M
  refine cF (bF q67) (wp_skip (then_n (wp_seq (wp_seq (wp_region_lit (lV 38 (eM (.int .u8 ((x1.getD ((x6).toNat) (0 : UInt8)).toNat : Int))) (lV 39 (eEq .u8 ((x1.getD ((x6).toNat) (0 : UInt8)).toNat : Int) 10) ?_)))))))
  refine wpList_nil (then_n ?_)
  by_cases q77 : ((x1.getD ((x6).toNat) (0 : UInt8)).toNat : Int) = 10
  · replace M := ifp q77 M
    refine cT (bT q77) (wp_seq (wp_region_lit (lV 4 (eA (.slice none 0 0)) (lV 5 (eA (.int .i64 1)) (wpList_nil (then_n (wp_ret ?_)))))))
    refine then_r ?_
    obtain rfl := Option.some.inj M
    have S78 := S0_.unit
    exact ret2 rfl rfl rfl (show _ = .slice none 0 0 from (by kernel_rfl)) (show _ = .int .i64 1 from (by kernel_rfl)) ⟨none, 0, no, H, rfl, (Row.nil _ _ _ _ no), S78⟩
  replace M := ifn q77 M
  refine cF (bF q77) (wp_skip (then_n (wp_seq (wp_seq (wp_region_lit (lV 40 (eM (.int .u8 ((x1.getD ((x6).toNat) (0 : UInt8)).toNat : Int))) (lV 41 (eNe .u8 ((x1.getD ((x6).toNat) (0 : UInt8)).toNat : Int) 120) ?_)))))))
  refine wpList_nil (then_n ?_)
  by_cases q79 : ((x1.getD ((x6).toNat) (0 : UInt8)).toNat : Int) ≠ 120
  · replace M := ifp q79 M
    refine cT (bT q79) (wp_seq (wp_region_lit (lV 4 (eA (.slice none 0 0)) (lV 5 (eA (.int .i64 0)) (wpList_nil (then_n (wp_ret ?_)))))))
    refine then_r ?_
    obtain rfl := Option.some.inj M
    have S80 := S0_.unit
    exact ret2 rfl rfl rfl (show _ = .slice none 0 0 from (by kernel_rfl)) (show _ = .int .i64 0 from (by kernel_rfl)) ⟨none, 0, no, H, rfl, (Row.nil _ _ _ _ no), S80⟩
  replace M := ifn q79 M
  refine cF (bF q79) (wp_skip (then_n (wp_seq (wp_region_lit (lV 7 (eA (.int .i64 0)) (wpList_nil (then_n ?_)))))))
  refine wp_seq (wp_region_lit (lV 8 (eA (.int .i64 0)) (wpList_nil (then_n (wp_seq (wp_block ?_))))))
  refine wp_loop_g (fun k92 a93 w81 => ∃ (f82 : Nat → Value) (x83 : Int) (x84 : Int), a93 = mk 103 f82 ∧ f82 0 = .slice A2 x1.length c3 ∧ f82 1 = .int .i64 x6 ∧ f82 7 = .int .i64 x83 ∧ f82 8 = .int .i64 x84 ∧ St (anyOf []) H w [] H w81 ∧ spec_l1escape.l0 k92 x1 x6 x83 x84 = some r) k ⟨_, 0, 0, rfl, (by kernel_rfl), (by kernel_rfl), (by kernel_rfl), (by kernel_rfl), S0_, M⟩ ?_
  clear M
  rintro k92 a93 w81 ⟨f82, x83, x84, rfl, e85, e86, e87, e88, S89, M⟩
  rcases k92 with _ | k94
  · rw [spec_l1escape.l0] at M
    cases M
  rw [spec_l1escape.l0] at M
  refine wp_seq (wp_seq (wp_region_lit (lV 42 (eM (.int .i64 x6) (by exact e86)) (lV 43 (eAdd .i64 x6 1) (lV 44 (eM (.int .i64 x84) (by exact e88)) (lV 45 (eAdd .i64 (IntKind.i64.wrap (x6 + 1)) x84) (lV 46 (eM (.slice A2 x1.length c3) (by exact e85)) ?_)))))))
  refine lV 47 (e_len (A := A2) (n := x1.length) (c := c3) Try.underlying23 (by kernel_rfl)) (lV 48 (eLt .i64 (IntKind.i64.wrap ((IntKind.i64.wrap (x6 + 1)) + x84)) (x1.length : Int)) (lV 49 (eM (.bool (decide ((IntKind.i64.wrap ((IntKind.i64.wrap (x6 + 1)) + x84)) < (x1.length : Int))))) ?_))
  by_cases q95 : (IntKind.i64.wrap ((IntKind.i64.wrap (x6 + 1)) + x84)) < (x1.length : Int)
  · replace M := ifp q95 M
    refine lG 50 49 (bT q95) (eM (.int .i64 x84) (by exact e88)) (lG 51 49 (bT q95) (eLt .i64 x84 2) (lV 52 (eT (.bool (decide (x84 < 2))) (bT q95)) (lV 53 (eM (.bool (decide (x84 < 2)))) ?_)))
    by_cases q96 : x84 < 2
    · replace M := ifp q96 M
      refine lG 54 53 (bT q96) (eM (.slice A2 x1.length c3) (by exact e85)) (lG 55 53 (bT q96) (eM (.int .i64 x6) (by exact e86)) (lG 56 53 (bT q96) (eAdd .i64 x6 1) (lG 57 53 (bT q96) (eM (.int .i64 x84) (by exact e88)) (lG 58 53 (bT q96) (eAdd .i64 (IntKind.i64.wrap (x6 + 1)) x84) ?_))))
      obtain ⟨q97, M⟩ := chk M
      obtain ⟨b98, o99, e100⟩ := Rd.addr h4 (show ((IntKind.i64.wrap ((IntKind.i64.wrap (x6 + 1)) + x84))).toNat < x1.length by omega)
      obtain ⟨y101, r102, k103⟩ := Rd.at h4 e100 (getD_some (0 : UInt8) (show ((IntKind.i64.wrap ((IntKind.i64.wrap (x6 + 1)) + x84))).toNat < x1.length by omega))
      obtain rfl := r102
      refine lG 59 53 (bT q96) (eI b98 o99 x1.length c3 1 (IntKind.i64.wrap ((IntKind.i64.wrap (x6 + 1)) + x84)) .i64 Try.underlying23 e100 q97 q95) (lG 60 53 (bT q96) (eL ⟨b98, o99 + ((IntKind.i64.wrap ((IntKind.i64.wrap (x6 + 1)) + x84)) : Int).toNat * 1, none⟩ (.int .u8 ((x1.getD (((IntKind.i64.wrap ((IntKind.i64.wrap (x6 + 1)) + x84))).toNat) (0 : UInt8)).toNat : Int)) Try.underlying5 (hpx (S89.inv.cell (k103 0 _ rfl)))) ?_)
      obtain ⟨t104, u105, M⟩ := bnd M
      refine lcallg (d := 61) (t := 53) rfl (by kernel_rfl) rfl (bT q96) rfl (by kernel_rfl) (eC [.tmp 60] [.int .u8 ((x1.getD (((IntKind.i64.wrap ((IntKind.i64.wrap (x6 + 1)) + x84))).toNat) (0 : UInt8)).toNat : Int)] Try.func45) (spec_l1hex.calls w81 H (x1.getD (((IntKind.i64.wrap ((IntKind.i64.wrap (x6 + 1)) + x84))).toNat) (0 : UInt8))  S89.own0 t104 u105) ?_
      rintro _ w106 ⟨rfl, C107⟩
      refine ⟨_, rfl, ?_⟩
      obtain ⟨S108, K109⟩ := S89.still C107
      refine lG 62 53 (bT q96) (eLt .i64 t104 16) (lV 63 (eT (.bool (decide (t104 < 16))) (bT q96)) (wpList_nil (then_n ?_)))
      by_cases q110 : t104 < 16
      · replace M := ifp q110 M
        refine cT (bT q110) (wp_skip (then_n (wp_block (wp_seq (wp_region_lit (lV 64 (eM (.int .i64 x83) (by exact e87)) (lV 65 (e_mul (k := .i64) (a := x83) (b := 16) (by kernel_rfl) rfl) ?_)))))))
        refine lV 66 (eM (.slice A2 x1.length c3) (by exact e85)) (lV 67 (eM (.int .i64 x6) (by exact e86)) (lV 68 (eAdd .i64 x6 1) (lV 69 (eM (.int .i64 x84) (by exact e88)) (lV 70 (eAdd .i64 (IntKind.i64.wrap (x6 + 1)) x84) ?_))))
        obtain ⟨b111, o112, e113⟩ := Rd.addr h4 (show ((IntKind.i64.wrap ((IntKind.i64.wrap (x6 + 1)) + x84))).toNat < x1.length by omega)
        obtain ⟨y114, r115, k116⟩ := Rd.at h4 e113 (getD_some (0 : UInt8) (show ((IntKind.i64.wrap ((IntKind.i64.wrap (x6 + 1)) + x84))).toNat < x1.length by omega))
        obtain rfl := r115
        refine lV 71 (eI b111 o112 x1.length c3 1 (IntKind.i64.wrap ((IntKind.i64.wrap (x6 + 1)) + x84)) .i64 Try.underlying23 e113 q97 q95) (lV 72 (eL ⟨b111, o112 + ((IntKind.i64.wrap ((IntKind.i64.wrap (x6 + 1)) + x84)) : Int).toNat * 1, none⟩ (.int .u8 ((x1.getD (((IntKind.i64.wrap ((IntKind.i64.wrap (x6 + 1)) + x84))).toNat) (0 : UInt8)).toNat : Int)) Try.underlying5 (hpx (S108.inv.cell (k116 0 _ rfl)))) ?_)
        obtain ⟨t117, u118, M⟩ := bnd M
        refine lC 73 (eC [.tmp 72] [.int .u8 ((x1.getD (((IntKind.i64.wrap ((IntKind.i64.wrap (x6 + 1)) + x84))).toNat) (0 : UInt8)).toNat : Int)] Try.func45) (spec_l1hex.calls w106 H (x1.getD (((IntKind.i64.wrap ((IntKind.i64.wrap (x6 + 1)) + x84))).toNat) (0 : UInt8))  S108.own0 t117 u118) ?_
        rintro _ w119 ⟨rfl, C120⟩
        refine ⟨_, rfl, ?_⟩
        obtain ⟨S121, K122⟩ := S108.still C120
        refine lV 74 (eAdd .i64 (IntKind.i64.wrap (x83 * 16)) t117) (lV 7 (eA (.int .i64 (IntKind.i64.wrap ((IntKind.i64.wrap (x83 * 16)) + t117)))) (wpList_nil (then_n (wp_region_lit (lV 75 (eM (.int .i64 x84) (by exact e88)) (lV 76 (eAdd .i64 x84 1) (lV 8 (eA (.int .i64 (IntKind.i64.wrap (x84 + 1)))) ?_)))))))
        refine wpList_nil (inb_n (then_n ?_))
        exact ⟨k94, (by omega), _, (IntKind.i64.wrap ((IntKind.i64.wrap (x83 * 16)) + t117)), (IntKind.i64.wrap (x84 + 1)), rfl, (by exact e85), (by exact e86), (by kernel_rfl), (by kernel_rfl), S121, M⟩
      replace M := ifn q110 M
      refine cF (bF q110) (wp_exit (then_e (then_e (inb_hit (then_n (wp_seq (wp_seq ?_)))))))
      refine wp_region_lit (lV 77 (eM (.int .i64 x84) (by exact e88)) (lV 78 (eEq .i64 x84 0) (lV 79 (eM (.bool (decide (x84 = 0)))) ?_)))
      by_cases q123 : x84 = 0
      · replace M := ifp q123 M
        refine lK 79 true (bT q123) ?_
        refine lK 79 true (bT q123) ?_
        refine lK 79 true (bT q123) ?_
        refine lK 79 true (bT q123) ?_
        refine lK 79 true (bT q123) ?_
        refine lK 79 true (bT q123) ?_
        refine lK 79 true (bT q123) ?_
        refine lV 87 (eT (.bool true) (bT q123)) (lV 88 (eM (.bool true)) ?_)
        refine lJ 88 true ?_
        refine lJ 88 true ?_
        refine lJ 88 true ?_
        refine lJ 88 true ?_
        refine lJ 88 true ?_
        refine lJ 88 true ?_
        refine lJ 88 true ?_
        refine lJ 88 true ?_
        refine lV 97 (eT (.bool true)) (wpList_nil (then_n (cond_t rfl (by kernel_rfl) (wp_seq (wp_region_lit (lV 4 (eA (.slice none 0 0)) (lV 5 (eA (.int .i64 0)) ?_)))))))
        refine wpList_nil (then_n (wp_ret (then_r ?_)))
        obtain rfl := Option.some.inj M
        have S124 := S108.unit
        exact ret2 rfl rfl rfl (show _ = .slice none 0 0 from (by kernel_rfl)) (show _ = .int .i64 0 from (by kernel_rfl)) ⟨none, 0, no, H, rfl, (Row.nil _ _ _ _ no), S124⟩
      replace M := ifn q123 M
      refine lG 80 79 (bF q123) (eM (.int .i64 x6) (by exact e86)) (lG 81 79 (bF q123) (eAdd .i64 x6 1) (lG 82 79 (bF q123) (eM (.int .i64 x84) (by exact e88)) (lG 83 79 (bF q123) (eAdd .i64 (IntKind.i64.wrap (x6 + 1)) x84) (lG 84 79 (bF q123) (eM (.slice A2 x1.length c3) (by exact e85)) (lG 85 79 (bF q123) (e_len (A := A2) (n := x1.length) (c := c3) Try.underlying23 (by kernel_rfl)) (lG 86 79 (bF q123) (e_geq (k := .i64) (a := (IntKind.i64.wrap ((IntKind.i64.wrap (x6 + 1)) + x84))) (b := (x1.length : Int)) (by kernel_rfl) (by kernel_rfl)) (lV 87 (eF (.bool (decide ((IntKind.i64.wrap ((IntKind.i64.wrap (x6 + 1)) + x84)) ≥ (x1.length : Int)))) (bF q123)) ?_)))))))
      refine lV 88 (eM (.bool (decide ((IntKind.i64.wrap ((IntKind.i64.wrap (x6 + 1)) + x84)) ≥ (x1.length : Int))))) ?_
      by_cases q125 : (IntKind.i64.wrap ((IntKind.i64.wrap (x6 + 1)) + x84)) ≥ (x1.length : Int)
      · replace M := ifp q125 M
        refine lK 88 true (bT q125) ?_
        refine lK 88 true (bT q125) ?_
        refine lK 88 true (bT q125) ?_
        refine lK 88 true (bT q125) ?_
        refine lK 88 true (bT q125) ?_
        refine lK 88 true (bT q125) ?_
        refine lK 88 true (bT q125) ?_
        refine lK 88 true (bT q125) ?_
        refine lV 97 (eT (.bool true) (bT q125)) (wpList_nil (then_n (cond_t rfl (by kernel_rfl) (wp_seq (wp_region_lit (lV 4 (eA (.slice none 0 0)) (lV 5 (eA (.int .i64 0)) ?_)))))))
        refine wpList_nil (then_n (wp_ret (then_r ?_)))
        obtain rfl := Option.some.inj M
        have S126 := S108.unit
        exact ret2 rfl rfl rfl (show _ = .slice none 0 0 from (by kernel_rfl)) (show _ = .int .i64 0 from (by kernel_rfl)) ⟨none, 0, no, H, rfl, (Row.nil _ _ _ _ no), S126⟩
      replace M := ifn q125 M
      refine lG 89 88 (bF q125) (eM (.slice A2 x1.length c3) (by exact e85)) (lG 90 88 (bF q125) (eM (.int .i64 x6) (by exact e86)) (lG 91 88 (bF q125) (eAdd .i64 x6 1) (lG 92 88 (bF q125) (eM (.int .i64 x84) (by exact e88)) (lG 93 88 (bF q125) (eAdd .i64 (IntKind.i64.wrap (x6 + 1)) x84) ?_))))
      obtain ⟨b127, o128, e129⟩ := Rd.addr h4 (show ((IntKind.i64.wrap ((IntKind.i64.wrap (x6 + 1)) + x84))).toNat < x1.length by omega)
      obtain ⟨y130, r131, k132⟩ := Rd.at h4 e129 (getD_some (0 : UInt8) (show ((IntKind.i64.wrap ((IntKind.i64.wrap (x6 + 1)) + x84))).toNat < x1.length by omega))
      obtain rfl := r131
      refine lG 94 88 (bF q125) (eI b127 o128 x1.length c3 1 (IntKind.i64.wrap ((IntKind.i64.wrap (x6 + 1)) + x84)) .i64 Try.underlying23 e129 q97 q95) (lG 95 88 (bF q125) (eL ⟨b127, o128 + ((IntKind.i64.wrap ((IntKind.i64.wrap (x6 + 1)) + x84)) : Int).toNat * 1, none⟩ (.int .u8 ((x1.getD (((IntKind.i64.wrap ((IntKind.i64.wrap (x6 + 1)) + x84))).toNat) (0 : UInt8)).toNat : Int)) Try.underlying5 (hpx (S108.inv.cell (k132 0 _ rfl)))) (lG 96 88 (bF q125) (eNe .u8 ((x1.getD (((IntKind.i64.wrap ((IntKind.i64.wrap (x6 + 1)) + x84))).toNat) (0 : UInt8)).toNat : Int) 92) (lV 97 (eF (.bool (decide (((x1.getD (((IntKind.i64.wrap ((IntKind.i64.wrap (x6 + 1)) + x84))).toNat) (0 : UInt8)).toNat : Int) ≠ 92))) (bF q125)) (wpList_nil (then_n ?_)))))
      by_cases q133 : ((x1.getD (((IntKind.i64.wrap ((IntKind.i64.wrap (x6 + 1)) + x84))).toNat) (0 : UInt8)).toNat : Int) ≠ 92
      · replace M := ifp q133 M
        refine cT (bT q133) (wp_seq (wp_region_lit (lV 4 (eA (.slice none 0 0)) (lV 5 (eA (.int .i64 0)) (wpList_nil (then_n (wp_ret ?_)))))))
        refine then_r ?_
        obtain rfl := Option.some.inj M
        have S134 := S108.unit
        exact ret2 rfl rfl rfl (show _ = .slice none 0 0 from (by kernel_rfl)) (show _ = .int .i64 0 from (by kernel_rfl)) ⟨none, 0, no, H, rfl, (Row.nil _ _ _ _ no), S134⟩
      replace M := ifn q133 M
      refine cF (bF q133) (wp_skip (then_n (wp_seq (wp_region_lit (lV 98 (eM (.int .i64 x83) (by exact e87)) (lV 99 (e_conv_i8 (k := .i64) (a := x83) (by kernel_rfl) Try.underlying5 (by kernel_rfl)) ?_))))))
      refine lve (d := 100) rfl rfl (by kernel_rfl) (new_blk (v := fun g_ => .slice (some ⟨g_, 0, none⟩) 1 1) (cs := #[.int .u8 ((b8 (x83)).toNat : Int)]) (t := 5) S108 (by kernel_rfl)) ?_
      rintro _ w135 ⟨g136, rfl, b137, S138, K139⟩
      have S140 := S138.unit
      have S141 := S140.pull (F := (is g136)) (Fr := [no]) 1 rfl rfl
      obtain ⟨h142, S143⟩ := row_lit (d := tByte) (xs := [(b8 (x83))]) S141 b137 rfl (elsO_one1 rfl) (Nat.le_of_ble_eq_true rfl)
      refine lV 101 (eM (.int .i64 x84) (by exact e88)) (lV 102 (eAdd .i64 x84 2) (lV 4 (eA (.slice (some ⟨g136, 0, none⟩) 1 1)) (lV 5 (eA (.int .i64 (IntKind.i64.wrap (x84 + 2)))) (wpList_nil (then_n (wp_ret ?_))))))
      obtain rfl := Option.some.inj M
      exact ret2 rfl rfl rfl (show _ = .slice (some ⟨g136, 0, none⟩) 1 1 from (by kernel_rfl)) (show _ = .int .i64 (IntKind.i64.wrap (x84 + 2)) from (by kernel_rfl)) ⟨(some ⟨g136, 0, none⟩), 1, (or2 (is g136) no), H, rfl, h142, S143⟩
    replace M := ifn q96 M
    refine lK 53 false (bF q96) ?_
    refine lK 53 false (bF q96) ?_
    refine lK 53 false (bF q96) ?_
    refine lK 53 false (bF q96) ?_
    refine lK 53 false (bF q96) ?_
    refine lK 53 false (bF q96) ?_
    refine lK 53 false (bF q96) ?_
    refine lK 53 false (bF q96) ?_
    refine lK 53 false (bF q96) ?_
    refine lV 63 (eF (.bool false) (bF q96)) (wpList_nil (then_n (cond_f rfl (by kernel_rfl) (wp_exit (then_e (then_e (inb_hit ?_)))))))
    refine then_n (wp_seq (wp_seq (wp_region_lit (lV 77 (eM (.int .i64 x84) (by exact e88)) (lV 78 (eEq .i64 x84 0) (lV 79 (eM (.bool (decide (x84 = 0)))) ?_))))))
    by_cases q144 : x84 = 0
    · replace M := ifp q144 M
      refine lK 79 true (bT q144) ?_
      refine lK 79 true (bT q144) ?_
      refine lK 79 true (bT q144) ?_
      refine lK 79 true (bT q144) ?_
      refine lK 79 true (bT q144) ?_
      refine lK 79 true (bT q144) ?_
      refine lK 79 true (bT q144) ?_
      refine lV 87 (eT (.bool true) (bT q144)) (lV 88 (eM (.bool true)) ?_)
      refine lJ 88 true ?_
      refine lJ 88 true ?_
      refine lJ 88 true ?_
      refine lJ 88 true ?_
      refine lJ 88 true ?_
      refine lJ 88 true ?_
      refine lJ 88 true ?_
      refine lJ 88 true ?_
      refine lV 97 (eT (.bool true)) (wpList_nil (then_n (cond_t rfl (by kernel_rfl) (wp_seq (wp_region_lit (lV 4 (eA (.slice none 0 0)) (lV 5 (eA (.int .i64 0)) ?_)))))))
      refine wpList_nil (then_n (wp_ret (then_r ?_)))
      obtain rfl := Option.some.inj M
      have S145 := S89.unit
      exact ret2 rfl rfl rfl (show _ = .slice none 0 0 from (by kernel_rfl)) (show _ = .int .i64 0 from (by kernel_rfl)) ⟨none, 0, no, H, rfl, (Row.nil _ _ _ _ no), S145⟩
    replace M := ifn q144 M
    refine lG 80 79 (bF q144) (eM (.int .i64 x6) (by exact e86)) (lG 81 79 (bF q144) (eAdd .i64 x6 1) (lG 82 79 (bF q144) (eM (.int .i64 x84) (by exact e88)) (lG 83 79 (bF q144) (eAdd .i64 (IntKind.i64.wrap (x6 + 1)) x84) (lG 84 79 (bF q144) (eM (.slice A2 x1.length c3) (by exact e85)) (lG 85 79 (bF q144) (e_len (A := A2) (n := x1.length) (c := c3) Try.underlying23 (by kernel_rfl)) (lG 86 79 (bF q144) (e_geq (k := .i64) (a := (IntKind.i64.wrap ((IntKind.i64.wrap (x6 + 1)) + x84))) (b := (x1.length : Int)) (by kernel_rfl) (by kernel_rfl)) (lV 87 (eF (.bool (decide ((IntKind.i64.wrap ((IntKind.i64.wrap (x6 + 1)) + x84)) ≥ (x1.length : Int)))) (bF q144)) ?_)))))))
    refine lV 88 (eM (.bool (decide ((IntKind.i64.wrap ((IntKind.i64.wrap (x6 + 1)) + x84)) ≥ (x1.length : Int))))) ?_
    by_cases q146 : (IntKind.i64.wrap ((IntKind.i64.wrap (x6 + 1)) + x84)) ≥ (x1.length : Int)
    · replace M := ifp q146 M
      refine lK 88 true (bT q146) ?_
      refine lK 88 true (bT q146) ?_
      refine lK 88 true (bT q146) ?_
      refine lK 88 true (bT q146) ?_
      refine lK 88 true (bT q146) ?_
      refine lK 88 true (bT q146) ?_
      refine lK 88 true (bT q146) ?_
      refine lK 88 true (bT q146) ?_
      refine lV 97 (eT (.bool true) (bT q146)) (wpList_nil (then_n (cond_t rfl (by kernel_rfl) (wp_seq (wp_region_lit (lV 4 (eA (.slice none 0 0)) (lV 5 (eA (.int .i64 0)) ?_)))))))
      refine wpList_nil (then_n (wp_ret (then_r ?_)))
      obtain rfl := Option.some.inj M
      have S147 := S89.unit
      exact ret2 rfl rfl rfl (show _ = .slice none 0 0 from (by kernel_rfl)) (show _ = .int .i64 0 from (by kernel_rfl)) ⟨none, 0, no, H, rfl, (Row.nil _ _ _ _ no), S147⟩
    replace M := ifn q146 M
    refine lG 89 88 (bF q146) (eM (.slice A2 x1.length c3) (by exact e85)) (lG 90 88 (bF q146) (eM (.int .i64 x6) (by exact e86)) (lG 91 88 (bF q146) (eAdd .i64 x6 1) (lG 92 88 (bF q146) (eM (.int .i64 x84) (by exact e88)) (lG 93 88 (bF q146) (eAdd .i64 (IntKind.i64.wrap (x6 + 1)) x84) ?_))))
    obtain ⟨q148, M⟩ := chk M
    obtain ⟨b149, o150, e151⟩ := Rd.addr h4 (show ((IntKind.i64.wrap ((IntKind.i64.wrap (x6 + 1)) + x84))).toNat < x1.length by omega)
    obtain ⟨y152, r153, k154⟩ := Rd.at h4 e151 (getD_some (0 : UInt8) (show ((IntKind.i64.wrap ((IntKind.i64.wrap (x6 + 1)) + x84))).toNat < x1.length by omega))
    obtain rfl := r153
    refine lG 94 88 (bF q146) (eI b149 o150 x1.length c3 1 (IntKind.i64.wrap ((IntKind.i64.wrap (x6 + 1)) + x84)) .i64 Try.underlying23 e151 q148 q95) (lG 95 88 (bF q146) (eL ⟨b149, o150 + ((IntKind.i64.wrap ((IntKind.i64.wrap (x6 + 1)) + x84)) : Int).toNat * 1, none⟩ (.int .u8 ((x1.getD (((IntKind.i64.wrap ((IntKind.i64.wrap (x6 + 1)) + x84))).toNat) (0 : UInt8)).toNat : Int)) Try.underlying5 (hpx (S89.inv.cell (k154 0 _ rfl)))) (lG 96 88 (bF q146) (eNe .u8 ((x1.getD (((IntKind.i64.wrap ((IntKind.i64.wrap (x6 + 1)) + x84))).toNat) (0 : UInt8)).toNat : Int) 92) (lV 97 (eF (.bool (decide (((x1.getD (((IntKind.i64.wrap ((IntKind.i64.wrap (x6 + 1)) + x84))).toNat) (0 : UInt8)).toNat : Int) ≠ 92))) (bF q146)) (wpList_nil (then_n ?_)))))
    by_cases q155 : ((x1.getD (((IntKind.i64.wrap ((IntKind.i64.wrap (x6 + 1)) + x84))).toNat) (0 : UInt8)).toNat : Int) ≠ 92
    · replace M := ifp q155 M
      refine cT (bT q155) (wp_seq (wp_region_lit (lV 4 (eA (.slice none 0 0)) (lV 5 (eA (.int .i64 0)) (wpList_nil (then_n (wp_ret ?_)))))))
      refine then_r ?_
      obtain rfl := Option.some.inj M
      have S156 := S89.unit
      exact ret2 rfl rfl rfl (show _ = .slice none 0 0 from (by kernel_rfl)) (show _ = .int .i64 0 from (by kernel_rfl)) ⟨none, 0, no, H, rfl, (Row.nil _ _ _ _ no), S156⟩
    replace M := ifn q155 M
    refine cF (bF q155) (wp_skip (then_n (wp_seq (wp_region_lit (lV 98 (eM (.int .i64 x83) (by exact e87)) (lV 99 (e_conv_i8 (k := .i64) (a := x83) (by kernel_rfl) Try.underlying5 (by kernel_rfl)) ?_))))))
    refine lve (d := 100) rfl rfl (by kernel_rfl) (new_blk (v := fun g_ => .slice (some ⟨g_, 0, none⟩) 1 1) (cs := #[.int .u8 ((b8 (x83)).toNat : Int)]) (t := 5) S89 (by kernel_rfl)) ?_
    rintro _ w157 ⟨g158, rfl, b159, S160, K161⟩
    have S162 := S160.unit
    have S163 := S162.pull (F := (is g158)) (Fr := [no]) 1 rfl rfl
    obtain ⟨h164, S165⟩ := row_lit (d := tByte) (xs := [(b8 (x83))]) S163 b159 rfl (elsO_one1 rfl) (Nat.le_of_ble_eq_true rfl)
    refine lV 101 (eM (.int .i64 x84) (by exact e88)) (lV 102 (eAdd .i64 x84 2) (lV 4 (eA (.slice (some ⟨g158, 0, none⟩) 1 1)) (lV 5 (eA (.int .i64 (IntKind.i64.wrap (x84 + 2)))) (wpList_nil (then_n (wp_ret ?_))))))
    obtain rfl := Option.some.inj M
    exact ret2 rfl rfl rfl (show _ = .slice (some ⟨g158, 0, none⟩) 1 1 from (by kernel_rfl)) (show _ = .int .i64 (IntKind.i64.wrap (x84 + 2)) from (by kernel_rfl)) ⟨(some ⟨g158, 0, none⟩), 1, (or2 (is g158) no), H, rfl, h164, S165⟩
  replace M := ifn q95 M
  refine lK 49 false (bF q95) ?_
  refine lK 49 false (bF q95) ?_
  refine lV 52 (eF (.bool false) (bF q95)) (lV 53 (eM (.bool false)) ?_)
  refine lJ 53 false ?_
  refine lJ 53 false ?_
  refine lJ 53 false ?_
  refine lJ 53 false ?_
  refine lJ 53 false ?_
  refine lJ 53 false ?_
  refine lJ 53 false ?_
  refine lJ 53 false ?_
  refine lJ 53 false ?_
  refine lV 63 (eF (.bool false)) (wpList_nil (then_n (cond_f rfl (by kernel_rfl) (wp_exit (then_e (then_e (inb_hit ?_)))))))
  refine then_n (wp_seq (wp_seq (wp_region_lit (lV 77 (eM (.int .i64 x84) (by exact e88)) (lV 78 (eEq .i64 x84 0) (lV 79 (eM (.bool (decide (x84 = 0)))) ?_))))))
  by_cases q166 : x84 = 0
  · replace M := ifp q166 M
    refine lK 79 true (bT q166) ?_
    refine lK 79 true (bT q166) ?_
    refine lK 79 true (bT q166) ?_
    refine lK 79 true (bT q166) ?_
    refine lK 79 true (bT q166) ?_
    refine lK 79 true (bT q166) ?_
    refine lK 79 true (bT q166) ?_
    refine lV 87 (eT (.bool true) (bT q166)) (lV 88 (eM (.bool true)) ?_)
    refine lJ 88 true ?_
    refine lJ 88 true ?_
    refine lJ 88 true ?_
    refine lJ 88 true ?_
    refine lJ 88 true ?_
    refine lJ 88 true ?_
    refine lJ 88 true ?_
    refine lJ 88 true ?_
    refine lV 97 (eT (.bool true)) (wpList_nil (then_n (cond_t rfl (by kernel_rfl) (wp_seq (wp_region_lit (lV 4 (eA (.slice none 0 0)) (lV 5 (eA (.int .i64 0)) ?_)))))))
    refine wpList_nil (then_n (wp_ret (then_r ?_)))
    obtain rfl := Option.some.inj M
    have S167 := S89.unit
    exact ret2 rfl rfl rfl (show _ = .slice none 0 0 from (by kernel_rfl)) (show _ = .int .i64 0 from (by kernel_rfl)) ⟨none, 0, no, H, rfl, (Row.nil _ _ _ _ no), S167⟩
  replace M := ifn q166 M
  refine lG 80 79 (bF q166) (eM (.int .i64 x6) (by exact e86)) (lG 81 79 (bF q166) (eAdd .i64 x6 1) (lG 82 79 (bF q166) (eM (.int .i64 x84) (by exact e88)) (lG 83 79 (bF q166) (eAdd .i64 (IntKind.i64.wrap (x6 + 1)) x84) (lG 84 79 (bF q166) (eM (.slice A2 x1.length c3) (by exact e85)) (lG 85 79 (bF q166) (e_len (A := A2) (n := x1.length) (c := c3) Try.underlying23 (by kernel_rfl)) (lG 86 79 (bF q166) (e_geq (k := .i64) (a := (IntKind.i64.wrap ((IntKind.i64.wrap (x6 + 1)) + x84))) (b := (x1.length : Int)) (by kernel_rfl) (by kernel_rfl)) (lV 87 (eF (.bool (decide ((IntKind.i64.wrap ((IntKind.i64.wrap (x6 + 1)) + x84)) ≥ (x1.length : Int)))) (bF q166)) ?_)))))))
  refine lV 88 (eM (.bool (decide ((IntKind.i64.wrap ((IntKind.i64.wrap (x6 + 1)) + x84)) ≥ (x1.length : Int))))) ?_
  by_cases q168 : (IntKind.i64.wrap ((IntKind.i64.wrap (x6 + 1)) + x84)) ≥ (x1.length : Int)
  · replace M := ifp q168 M
    refine lK 88 true (bT q168) ?_
    refine lK 88 true (bT q168) ?_
    refine lK 88 true (bT q168) ?_
    refine lK 88 true (bT q168) ?_
    refine lK 88 true (bT q168) ?_
    refine lK 88 true (bT q168) ?_
    refine lK 88 true (bT q168) ?_
    refine lK 88 true (bT q168) ?_
    refine lV 97 (eT (.bool true) (bT q168)) (wpList_nil (then_n (cond_t rfl (by kernel_rfl) (wp_seq (wp_region_lit (lV 4 (eA (.slice none 0 0)) (lV 5 (eA (.int .i64 0)) ?_)))))))
    refine wpList_nil (then_n (wp_ret (then_r ?_)))
    obtain rfl := Option.some.inj M
    have S169 := S89.unit
    exact ret2 rfl rfl rfl (show _ = .slice none 0 0 from (by kernel_rfl)) (show _ = .int .i64 0 from (by kernel_rfl)) ⟨none, 0, no, H, rfl, (Row.nil _ _ _ _ no), S169⟩
  replace M := ifn q168 M
  refine lG 89 88 (bF q168) (eM (.slice A2 x1.length c3) (by exact e85)) (lG 90 88 (bF q168) (eM (.int .i64 x6) (by exact e86)) (lG 91 88 (bF q168) (eAdd .i64 x6 1) (lG 92 88 (bF q168) (eM (.int .i64 x84) (by exact e88)) (lG 93 88 (bF q168) (eAdd .i64 (IntKind.i64.wrap (x6 + 1)) x84) ?_))))
  obtain ⟨q170, M⟩ := chk M
  obtain ⟨q171, M⟩ := chk M
  obtain ⟨b172, o173, e174⟩ := Rd.addr h4 (show ((IntKind.i64.wrap ((IntKind.i64.wrap (x6 + 1)) + x84))).toNat < x1.length by omega)
  obtain ⟨y175, r176, k177⟩ := Rd.at h4 e174 (getD_some (0 : UInt8) (show ((IntKind.i64.wrap ((IntKind.i64.wrap (x6 + 1)) + x84))).toNat < x1.length by omega))
  obtain rfl := r176
  refine lG 94 88 (bF q168) (eI b172 o173 x1.length c3 1 (IntKind.i64.wrap ((IntKind.i64.wrap (x6 + 1)) + x84)) .i64 Try.underlying23 e174 q170 q171) (lG 95 88 (bF q168) (eL ⟨b172, o173 + ((IntKind.i64.wrap ((IntKind.i64.wrap (x6 + 1)) + x84)) : Int).toNat * 1, none⟩ (.int .u8 ((x1.getD (((IntKind.i64.wrap ((IntKind.i64.wrap (x6 + 1)) + x84))).toNat) (0 : UInt8)).toNat : Int)) Try.underlying5 (hpx (S89.inv.cell (k177 0 _ rfl)))) (lG 96 88 (bF q168) (eNe .u8 ((x1.getD (((IntKind.i64.wrap ((IntKind.i64.wrap (x6 + 1)) + x84))).toNat) (0 : UInt8)).toNat : Int) 92) (lV 97 (eF (.bool (decide (((x1.getD (((IntKind.i64.wrap ((IntKind.i64.wrap (x6 + 1)) + x84))).toNat) (0 : UInt8)).toNat : Int) ≠ 92))) (bF q168)) (wpList_nil (then_n ?_)))))
  by_cases q178 : ((x1.getD (((IntKind.i64.wrap ((IntKind.i64.wrap (x6 + 1)) + x84))).toNat) (0 : UInt8)).toNat : Int) ≠ 92
  · replace M := ifp q178 M
    refine cT (bT q178) (wp_seq (wp_region_lit (lV 4 (eA (.slice none 0 0)) (lV 5 (eA (.int .i64 0)) (wpList_nil (then_n (wp_ret ?_)))))))
    refine then_r ?_
    obtain rfl := Option.some.inj M
    have S179 := S89.unit
    exact ret2 rfl rfl rfl (show _ = .slice none 0 0 from (by kernel_rfl)) (show _ = .int .i64 0 from (by kernel_rfl)) ⟨none, 0, no, H, rfl, (Row.nil _ _ _ _ no), S179⟩
  replace M := ifn q178 M
  refine cF (bF q178) (wp_skip (then_n (wp_seq (wp_region_lit (lV 98 (eM (.int .i64 x83) (by exact e87)) (lV 99 (e_conv_i8 (k := .i64) (a := x83) (by kernel_rfl) Try.underlying5 (by kernel_rfl)) ?_))))))
  refine lve (d := 100) rfl rfl (by kernel_rfl) (new_blk (v := fun g_ => .slice (some ⟨g_, 0, none⟩) 1 1) (cs := #[.int .u8 ((b8 (x83)).toNat : Int)]) (t := 5) S89 (by kernel_rfl)) ?_
  rintro _ w180 ⟨g181, rfl, b182, S183, K184⟩
  have S185 := S183.unit
  have S186 := S185.pull (F := (is g181)) (Fr := [no]) 1 rfl rfl
  obtain ⟨h187, S188⟩ := row_lit (d := tByte) (xs := [(b8 (x83))]) S186 b182 rfl (elsO_one1 rfl) (Nat.le_of_ble_eq_true rfl)
  refine lV 101 (eM (.int .i64 x84) (by exact e88)) (lV 102 (eAdd .i64 x84 2) (lV 4 (eA (.slice (some ⟨g181, 0, none⟩) 1 1)) (lV 5 (eA (.int .i64 (IntKind.i64.wrap (x84 + 2)))) (wpList_nil (then_n (wp_ret ?_))))))
  obtain rfl := Option.some.inj M
  exact ret2 rfl rfl rfl (show _ = .slice (some ⟨g181, 0, none⟩) 1 1 from (by kernel_rfl)) (show _ = .int .i64 (IntKind.i64.wrap (x84 + 2)) from (by kernel_rfl)) ⟨(some ⟨g181, 0, none⟩), 1, (or2 (is g181) no), H, rfl, h187, S188⟩

/-! spec_l1raw -/
def spec_l1raw.f (x1 : UInt8) : Option Bool := (if (x1.toNat : Int) ≥ 32 then some (decide ((x1.toNat : Int) ≠ 127)) else some false)
theorem spec_l1raw.calls (w : World) (H : Hp) (x1 : UInt8) (S : Own [] H w) (r : Bool) (M : spec_l1raw.f x1 = some r) :
    Calls Try.prog 47 #[.int .u8 (x1.toNat : Int)] w (fun e e_w => e = .returned (.bool r) ∧ Chg no w e_w) := by
  rw [spec_l1raw.f] at M
  refine enter (l := [.int .u8 (x1.toNat : Int)]) 9 Try.func47 rfl rfl rfl ?_
  have S0_ := S.st
  refine wp_seq (wp_region_lit (lV 2 (eA (.bool false)) (wpList_nil (then_n (wp_seq (wp_region_lit (lV 3 (eM (.int .u8 (x1.toNat : Int))) ?_)))))))
  refine lV 4 (e_geq (k := .u8) (a := (x1.toNat : Int)) (b := 32) (by kernel_rfl) rfl) (lV 5 (eM (.bool (decide ((x1.toNat : Int) ≥ 32)))) ?_)
  by_cases q2 : (x1.toNat : Int) ≥ 32
  · replace M := ifp q2 M
    refine lG 6 5 (bT q2) (eM (.int .u8 (x1.toNat : Int))) (lG 7 5 (bT q2) (eNe .u8 (x1.toNat : Int) 127) (lV 8 (eT (.bool (decide ((x1.toNat : Int) ≠ 127))) (bT q2)) (lV 2 (eA (.bool (decide ((x1.toNat : Int) ≠ 127)))) (wpList_nil (then_n (wp_ret ?_))))))
    obtain rfl := Option.some.inj M
    exact ret1 rfl rfl  (show _ = .bool (decide ((x1.toNat : Int) ≠ 127)) from (by kernel_rfl)) ⟨rfl, S0_.chg⟩
  replace M := ifn q2 M
  refine lK 5 false (bF q2) ?_
  refine lK 5 false (bF q2) ?_
  refine lV 8 (eF (.bool false) (bF q2)) (lV 2 (eA (.bool false)) (wpList_nil (then_n (wp_ret ?_))))
  obtain rfl := Option.some.inj M
  exact ret1 rfl rfl  (show _ = .bool false from (by kernel_rfl)) ⟨rfl, S0_.chg⟩

/-! spec_l1small -/
def spec_l1small.f (x1 : UInt8) : Option Bool := (if (x1.toNat : Int) ≥ 97 then some (decide ((x1.toNat : Int) ≤ 122)) else some false)
theorem spec_l1small.calls (w : World) (H : Hp) (x1 : UInt8) (S : Own [] H w) (r : Bool) (M : spec_l1small.f x1 = some r) :
    Calls Try.prog 16 #[.int .u8 (x1.toNat : Int)] w (fun e e_w => e = .returned (.bool r) ∧ Chg no w e_w) := by
  rw [spec_l1small.f] at M
  refine enter (l := [.int .u8 (x1.toNat : Int)]) 9 Try.func16 rfl rfl rfl ?_
  have S0_ := S.st
  refine wp_seq (wp_region_lit (lV 2 (eA (.bool false)) (wpList_nil (then_n (wp_seq (wp_region_lit (lV 3 (eM (.int .u8 (x1.toNat : Int))) ?_)))))))
  refine lV 4 (e_geq (k := .u8) (a := (x1.toNat : Int)) (b := 97) (by kernel_rfl) rfl) (lV 5 (eM (.bool (decide ((x1.toNat : Int) ≥ 97)))) ?_)
  by_cases q2 : (x1.toNat : Int) ≥ 97
  · replace M := ifp q2 M
    refine lG 6 5 (bT q2) (eM (.int .u8 (x1.toNat : Int))) (lG 7 5 (bT q2) (e_leq (k := .u8) (a := (x1.toNat : Int)) (b := 122) (by kernel_rfl) rfl) (lV 8 (eT (.bool (decide ((x1.toNat : Int) ≤ 122))) (bT q2)) (lV 2 (eA (.bool (decide ((x1.toNat : Int) ≤ 122)))) (wpList_nil (then_n (wp_ret ?_))))))
    obtain rfl := Option.some.inj M
    exact ret1 rfl rfl  (show _ = .bool (decide ((x1.toNat : Int) ≤ 122)) from (by kernel_rfl)) ⟨rfl, S0_.chg⟩
  replace M := ifn q2 M
  refine lK 5 false (bF q2) ?_
  refine lK 5 false (bF q2) ?_
  refine lV 8 (eF (.bool false) (bF q2)) (lV 2 (eA (.bool false)) (wpList_nil (then_n (wp_ret ?_))))
  obtain rfl := Option.some.inj M
  exact ret1 rfl rfl  (show _ = .bool false from (by kernel_rfl)) ⟨rfl, S0_.chg⟩

/-! spec_l1alnum -/
def spec_l1alnum.f (x1 : UInt8) : Option Bool := ((spec_l1small.f x1).bind fun t2 => (if t2 = true then some true else (if (x1.toNat : Int) ≥ 65 then (if (x1.toNat : Int) ≤ 90 then some true else (if (x1.toNat : Int) = 95 then some true else ((spec_l1digit.f x1).bind fun t12 => some t12))) else (if (x1.toNat : Int) = 95 then some true else ((spec_l1digit.f x1).bind fun t19 => some t19)))))
theorem spec_l1alnum.calls (w : World) (H : Hp) (x1 : UInt8) (S : Own [] H w) (r : Bool) (M : spec_l1alnum.f x1 = some r) :
    Calls Try.prog 26 #[.int .u8 (x1.toNat : Int)] w (fun e e_w => e = .returned (.bool r) ∧ Chg no w e_w) := by
  rw [spec_l1alnum.f] at M
  refine enter (l := [.int .u8 (x1.toNat : Int)]) 21 Try.func26 rfl rfl rfl ?_
  have S0_ := S.st
  refine wp_seq (wp_region_lit (lV 2 (eA (.bool false)) (wpList_nil (then_n (wp_seq (wp_region_lit (lV 3 (eM (.int .u8 (x1.toNat : Int))) ?_)))))))
  obtain ⟨t2, u3, M⟩ := bnd M
  refine lC 4 (eC [.tmp 3] [.int .u8 (x1.toNat : Int)] Try.func16) (spec_l1small.calls w H x1  S0_.own0 t2 u3) ?_
  rintro _ w4 ⟨rfl, C5⟩
  refine ⟨_, rfl, ?_⟩
  obtain ⟨S6, K7⟩ := S0_.still C5
  refine lV 5 (eM (.bool t2)) ?_
  by_cases q8 : t2 = true
  · replace M := ifp q8 M
    refine lK 5 true (bvt q8 (by kernel_rfl)) ?_
    refine lK 5 true (bvt q8 (by kernel_rfl)) ?_
    refine lK 5 true (bvt q8 (by kernel_rfl)) ?_
    refine lskipu (t := 8) rfl (by kernel_rfl) rfl (by kernel_rfl) rfl ?_
    refine lskipu (t := 8) rfl (by kernel_rfl) rfl (by kernel_rfl) rfl ?_
    refine lK 5 true (bvt q8 (by kernel_rfl)) ?_
    refine lV 12 (eT (.bool true) (bvt q8 (by kernel_rfl))) (lV 13 (eM (.bool true)) ?_)
    refine lJ 13 true ?_
    refine lJ 13 true ?_
    refine lV 16 (eT (.bool true)) (lV 17 (eM (.bool true)) ?_)
    refine lJ 17 true ?_
    refine lJ 17 true ?_
    refine lV 20 (eT (.bool true)) (lV 2 (eA (.bool true)) (wpList_nil (then_n (wp_ret ?_))))
    obtain rfl := Option.some.inj M
    exact ret1 rfl rfl  (show _ = .bool true from (by kernel_rfl)) ⟨rfl, S6.chg⟩
  replace M := ifn q8 M
  refine lG 6 5 (bvf q8 (by kernel_rfl)) (eM (.int .u8 (x1.toNat : Int))) (lG 7 5 (bvf q8 (by kernel_rfl)) (e_geq (k := .u8) (a := (x1.toNat : Int)) (b := 65) (by kernel_rfl) rfl) (lG 8 5 (bvf q8 (by kernel_rfl)) (eM (.bool (decide ((x1.toNat : Int) ≥ 65)))) ?_))
  by_cases q9 : (x1.toNat : Int) ≥ 65
  · replace M := ifp q9 M
    refine lG 9 8 (bT q9) (eM (.int .u8 (x1.toNat : Int))) (lG 10 8 (bT q9) (e_leq (k := .u8) (a := (x1.toNat : Int)) (b := 90) (by kernel_rfl) rfl) (lG 11 5 (bvf q8 (by kernel_rfl)) (eT (.bool (decide ((x1.toNat : Int) ≤ 90))) (bT q9)) (lV 12 (eF (.bool (decide ((x1.toNat : Int) ≤ 90))) (bvf q8 (by kernel_rfl))) (lV 13 (eM (.bool (decide ((x1.toNat : Int) ≤ 90)))) ?_))))
    by_cases q10 : (x1.toNat : Int) ≤ 90
    · replace M := ifp q10 M
      refine lK 13 true (bT q10) ?_
      refine lK 13 true (bT q10) ?_
      refine lV 16 (eT (.bool true) (bT q10)) (lV 17 (eM (.bool true)) ?_)
      refine lJ 17 true ?_
      refine lJ 17 true ?_
      refine lV 20 (eT (.bool true)) (lV 2 (eA (.bool true)) (wpList_nil (then_n (wp_ret ?_))))
      obtain rfl := Option.some.inj M
      exact ret1 rfl rfl  (show _ = .bool true from (by kernel_rfl)) ⟨rfl, S6.chg⟩
    replace M := ifn q10 M
    refine lG 14 13 (bF q10) (eM (.int .u8 (x1.toNat : Int))) (lG 15 13 (bF q10) (eEq .u8 (x1.toNat : Int) 95) (lV 16 (eF (.bool (decide ((x1.toNat : Int) = 95))) (bF q10)) (lV 17 (eM (.bool (decide ((x1.toNat : Int) = 95)))) ?_)))
    by_cases q11 : (x1.toNat : Int) = 95
    · replace M := ifp q11 M
      refine lK 17 true (bT q11) ?_
      refine lK 17 true (bT q11) ?_
      refine lV 20 (eT (.bool true) (bT q11)) (lV 2 (eA (.bool true)) (wpList_nil (then_n (wp_ret ?_))))
      obtain rfl := Option.some.inj M
      exact ret1 rfl rfl  (show _ = .bool true from (by kernel_rfl)) ⟨rfl, S6.chg⟩
    replace M := ifn q11 M
    refine lG 18 17 (bF q11) (eM (.int .u8 (x1.toNat : Int))) ?_
    obtain ⟨t12, u13, M⟩ := bnd M
    refine lcallg (d := 19) (t := 17) rfl (by kernel_rfl) rfl (bF q11) rfl (by kernel_rfl) (eC [.tmp 18] [.int .u8 (x1.toNat : Int)] Try.func31) (spec_l1digit.calls w4 H x1  S6.own0 t12 u13) ?_
    rintro _ w14 ⟨rfl, C15⟩
    refine ⟨_, rfl, ?_⟩
    obtain ⟨S16, K17⟩ := S6.still C15
    refine lV 20 (eF (.bool t12) (bF q11)) (lV 2 (eA (.bool t12)) (wpList_nil (then_n (wp_ret ?_))))
    obtain rfl := Option.some.inj M
    exact ret1 rfl rfl  (show _ = .bool t12 from (by kernel_rfl)) ⟨rfl, S16.chg⟩
  replace M := ifn q9 M
  refine lK 8 false (bF q9) ?_
  refine lK 8 false (bF q9) ?_
  refine lG 11 5 (bvf q8 (by kernel_rfl)) (eF (.bool false) (bF q9)) (lV 12 (eF (.bool false) (bvf q8 (by kernel_rfl))) (lV 13 (eM (.bool false)) (lH 14 13 (eM (.int .u8 (x1.toNat : Int))) (lH 15 13 (eEq .u8 (x1.toNat : Int) 95) (lV 16 (eF (.bool (decide ((x1.toNat : Int) = 95)))) (lV 17 (eM (.bool (decide ((x1.toNat : Int) = 95)))) ?_))))))
  by_cases q18 : (x1.toNat : Int) = 95
  · replace M := ifp q18 M
    refine lK 17 true (bT q18) ?_
    refine lK 17 true (bT q18) ?_
    refine lV 20 (eT (.bool true) (bT q18)) (lV 2 (eA (.bool true)) (wpList_nil (then_n (wp_ret ?_))))
    obtain rfl := Option.some.inj M
    exact ret1 rfl rfl  (show _ = .bool true from (by kernel_rfl)) ⟨rfl, S6.chg⟩
  replace M := ifn q18 M
  refine lG 18 17 (bF q18) (eM (.int .u8 (x1.toNat : Int))) ?_
  obtain ⟨t19, u20, M⟩ := bnd M
  refine lcallg (d := 19) (t := 17) rfl (by kernel_rfl) rfl (bF q18) rfl (by kernel_rfl) (eC [.tmp 18] [.int .u8 (x1.toNat : Int)] Try.func31) (spec_l1digit.calls w4 H x1  S6.own0 t19 u20) ?_
  rintro _ w21 ⟨rfl, C22⟩
  refine ⟨_, rfl, ?_⟩
  obtain ⟨S23, K24⟩ := S6.still C22
  refine lV 20 (eF (.bool t19) (bF q18)) (lV 2 (eA (.bool t19)) (wpList_nil (then_n (wp_ret ?_))))
  obtain rfl := Option.some.inj M
  exact ret1 rfl rfl  (show _ = .bool t19 from (by kernel_rfl)) ⟨rfl, S23.chg⟩

/-! spec_l1char -/
def spec_l1char.l0 (_k : Nat) (x1 : List UInt8) (x6 : Int) (x11 : Int) (x12 : Int) : Option (Int × Int × Int) := (if x11 = 0 then some (0, 0, 2) else (if (IntKind.i64.wrap (x6 + x11)) < (x1.length : Int) then (if 0 ≤ (IntKind.i64.wrap (x6 + x11)) then ((spec_l1alnum.f (x1.getD (((IntKind.i64.wrap (x6 + x11))).toNat) (0 : UInt8))).bind fun t206 => (if t206 = true then some (0, 0, 2) else some (x12, x11, 0))) else none) else some (x12, x11, 0)))
def spec_l1char.f (k : Nat) (x1 : List UInt8) (x6 : Int) : Option (Int × Int × Int) := (if (IntKind.i64.wrap (x6 + 3)) < (x1.length : Int) then (if 0 ≤ (IntKind.i64.wrap (x6 + 2)) then (if (IntKind.i64.wrap (x6 + 2)) < (x1.length : Int) then (if ((x1.getD (((IntKind.i64.wrap (x6 + 2))).toNat) (0 : UInt8)).toNat : Int) = 39 then (if 0 ≤ (IntKind.i64.wrap (x6 + 3)) then (if ((x1.getD (((IntKind.i64.wrap (x6 + 3))).toNat) (0 : UInt8)).toNat : Int) = 39 then (spec_l1char.l0 0 x1 x6 4 39) else (if ((x1.getD (((IntKind.i64.wrap (x6 + 2))).toNat) (0 : UInt8)).toNat : Int) = 92 then ((spec_l1escape.f k x1 (IntKind.i64.wrap (x6 + 3))).bind fun t46 => (if (t46.1.length : Int) = 1 then (if 0 < (t46.1.length : Int) then (spec_l1char.l0 0 x1 x6 (IntKind.i64.wrap (3 + t46.2)) ((t46.1.getD 0 (0 : UInt8)).toNat : Int)) else none) else (spec_l1char.l0 0 x1 x6 0 0))) else (if ((x1.getD (((IntKind.i64.wrap (x6 + 2))).toNat) (0 : UInt8)).toNat : Int) ≠ 39 then ((spec_l1raw.f (x1.getD (((IntKind.i64.wrap (x6 + 2))).toNat) (0 : UInt8))).bind fun t78 => (if t78 = true then (spec_l1char.l0 0 x1 x6 3 ((x1.getD (((IntKind.i64.wrap (x6 + 2))).toNat) (0 : UInt8)).toNat : Int)) else (spec_l1char.l0 0 x1 x6 0 0))) else (spec_l1char.l0 0 x1 x6 0 0)))) else none) else (if ((x1.getD (((IntKind.i64.wrap (x6 + 2))).toNat) (0 : UInt8)).toNat : Int) = 92 then ((spec_l1escape.f k x1 (IntKind.i64.wrap (x6 + 3))).bind fun t98 => (if (t98.1.length : Int) = 1 then (if 0 < (t98.1.length : Int) then (spec_l1char.l0 0 x1 x6 (IntKind.i64.wrap (3 + t98.2)) ((t98.1.getD 0 (0 : UInt8)).toNat : Int)) else none) else (spec_l1char.l0 0 x1 x6 0 0))) else (if ((x1.getD (((IntKind.i64.wrap (x6 + 2))).toNat) (0 : UInt8)).toNat : Int) ≠ 39 then ((spec_l1raw.f (x1.getD (((IntKind.i64.wrap (x6 + 2))).toNat) (0 : UInt8))).bind fun t130 => (if t130 = true then (spec_l1char.l0 0 x1 x6 3 ((x1.getD (((IntKind.i64.wrap (x6 + 2))).toNat) (0 : UInt8)).toNat : Int)) else (spec_l1char.l0 0 x1 x6 0 0))) else (spec_l1char.l0 0 x1 x6 0 0)))) else none) else none) else (if (IntKind.i64.wrap (x6 + 2)) < (x1.length : Int) then (if 0 ≤ (IntKind.i64.wrap (x6 + 2)) then (if ((x1.getD (((IntKind.i64.wrap (x6 + 2))).toNat) (0 : UInt8)).toNat : Int) = 92 then ((spec_l1escape.f k x1 (IntKind.i64.wrap (x6 + 3))).bind fun t152 => (if (t152.1.length : Int) = 1 then (if 0 < (t152.1.length : Int) then (spec_l1char.l0 0 x1 x6 (IntKind.i64.wrap (3 + t152.2)) ((t152.1.getD 0 (0 : UInt8)).toNat : Int)) else none) else (spec_l1char.l0 0 x1 x6 0 0))) else (if ((x1.getD (((IntKind.i64.wrap (x6 + 2))).toNat) (0 : UInt8)).toNat : Int) ≠ 39 then ((spec_l1raw.f (x1.getD (((IntKind.i64.wrap (x6 + 2))).toNat) (0 : UInt8))).bind fun t184 => (if t184 = true then (spec_l1char.l0 0 x1 x6 3 ((x1.getD (((IntKind.i64.wrap (x6 + 2))).toNat) (0 : UInt8)).toNat : Int)) else (spec_l1char.l0 0 x1 x6 0 0))) else (spec_l1char.l0 0 x1 x6 0 0))) else none) else (spec_l1char.l0 0 x1 x6 0 0)))
theorem spec_l1char.calls (k : Nat) (w : World) (H : Hp) (x1 : List UInt8) (A2 : Option Addr) (c3 : Nat) (x6 : Int) (h4 : Rd tByte H A2 x1) (l5 : x1.length ≤ c3) (S : Own [] H w) (r : Int × Int × Int) (M : spec_l1char.f k x1 x6 = some r) :
    Calls Try.prog 44 #[.slice A2 x1.length c3, .int .i64 x6] w (fun e e_w => e = .returned (.tuple #[.int .i64 r.1, .int .i64 r.2.1, .int .i64 r.2.2]) ∧ Chg no w e_w) := by
  rw [spec_l1char.f] at M
  refine enter (l := [.slice A2 x1.length c3, .int .i64 x6]) 109 Try.func44 rfl rfl rfl ?_
  have S0_ := S.st
  refine wp_seq (wp_region_lit (lV 4 (eA (.int .i64 0)) (lV 5 (eA (.int .i64 0)) (lV 6 (eA (.int .i64 0)) (wpList_nil (then_n (wp_seq ?_)))))))
  refine wp_region_lit (lV 7 (eA (.int .i64 0)) (wpList_nil (then_n (wp_seq (wp_region_lit (lV 8 (eA (.int .i64 0)) (wpList_nil ?_)))))))
  refine then_n ?_
  refine wp_seq_cut (fun a20 w7 => ∃ (f8 : Nat → Value) (H9 : Hp) (x11 : Int) (x12 : Int), a20 = mk 109 f8 ∧ f8 0 = .slice A2 x1.length c3 ∧ f8 1 = .int .i64 x6 ∧ f8 7 = .int .i64 x11 ∧ f8 8 = .int .i64 x12 ∧ Ext H H9 ∧ St (anyOf []) H w [] H9 w7 ∧ spec_l1char.l0 0 x1 x6 x11 x12 = some r) ?_ ?_
  · refine wp_seq (wp_region_lit (lV 11 (eM (.int .i64 x6)) (lV 12 (eAdd .i64 x6 3) (lV 13 (eM (.slice A2 x1.length c3)) (lV 14 (e_len (A := A2) (n := x1.length) (c := c3) Try.underlying23 (by kernel_rfl)) (lV 15 (eLt .i64 (IntKind.i64.wrap (x6 + 3)) (x1.length : Int)) (lV 16 (eM (.bool (decide ((IntKind.i64.wrap (x6 + 3)) < (x1.length : Int))))) ?_)))))))
    by_cases q21 : (IntKind.i64.wrap (x6 + 3)) < (x1.length : Int)
    · replace M := ifp q21 M
      refine lG 17 16 (bT q21) (eM (.slice A2 x1.length c3)) (lG 18 16 (bT q21) (eM (.int .i64 x6)) (lG 19 16 (bT q21) (eAdd .i64 x6 2) ?_))
      obtain ⟨q22, M⟩ := chk M
      obtain ⟨q23, M⟩ := chk M
      obtain ⟨b24, o25, e26⟩ := Rd.addr h4 (show ((IntKind.i64.wrap (x6 + 2))).toNat < x1.length by omega)
      obtain ⟨y27, r28, k29⟩ := Rd.at h4 e26 (getD_some (0 : UInt8) (show ((IntKind.i64.wrap (x6 + 2))).toNat < x1.length by omega))
      obtain rfl := r28
      refine lG 20 16 (bT q21) (eI b24 o25 x1.length c3 1 (IntKind.i64.wrap (x6 + 2)) .i64 Try.underlying23 e26 q22 q23) (lG 21 16 (bT q21) (eL ⟨b24, o25 + ((IntKind.i64.wrap (x6 + 2)) : Int).toNat * 1, none⟩ (.int .u8 ((x1.getD (((IntKind.i64.wrap (x6 + 2))).toNat) (0 : UInt8)).toNat : Int)) Try.underlying5 (hpx (S0_.inv.cell (k29 0 _ rfl)))) (lG 22 16 (bT q21) (eEq .u8 ((x1.getD (((IntKind.i64.wrap (x6 + 2))).toNat) (0 : UInt8)).toNat : Int) 39) (lV 23 (eT (.bool (decide (((x1.getD (((IntKind.i64.wrap (x6 + 2))).toNat) (0 : UInt8)).toNat : Int) = 39))) (bT q21)) (lV 24 (eM (.bool (decide (((x1.getD (((IntKind.i64.wrap (x6 + 2))).toNat) (0 : UInt8)).toNat : Int) = 39)))) ?_))))
      by_cases q30 : ((x1.getD (((IntKind.i64.wrap (x6 + 2))).toNat) (0 : UInt8)).toNat : Int) = 39
      · replace M := ifp q30 M
        refine lG 25 24 (bT q30) (eM (.slice A2 x1.length c3)) (lG 26 24 (bT q30) (eM (.int .i64 x6)) (lG 27 24 (bT q30) (eAdd .i64 x6 3) ?_))
        obtain ⟨q31, M⟩ := chk M
        obtain ⟨b32, o33, e34⟩ := Rd.addr h4 (show ((IntKind.i64.wrap (x6 + 3))).toNat < x1.length by omega)
        obtain ⟨y35, r36, k37⟩ := Rd.at h4 e34 (getD_some (0 : UInt8) (show ((IntKind.i64.wrap (x6 + 3))).toNat < x1.length by omega))
        obtain rfl := r36
        refine lG 28 24 (bT q30) (eI b32 o33 x1.length c3 1 (IntKind.i64.wrap (x6 + 3)) .i64 Try.underlying23 e34 q31 q21) (lG 29 24 (bT q30) (eL ⟨b32, o33 + ((IntKind.i64.wrap (x6 + 3)) : Int).toNat * 1, none⟩ (.int .u8 ((x1.getD (((IntKind.i64.wrap (x6 + 3))).toNat) (0 : UInt8)).toNat : Int)) Try.underlying5 (hpx (S0_.inv.cell (k37 0 _ rfl)))) (lG 30 24 (bT q30) (eEq .u8 ((x1.getD (((IntKind.i64.wrap (x6 + 3))).toNat) (0 : UInt8)).toNat : Int) 39) (lV 31 (eT (.bool (decide (((x1.getD (((IntKind.i64.wrap (x6 + 3))).toNat) (0 : UInt8)).toNat : Int) = 39))) (bT q30)) (wpList_nil (then_n ?_)))))
        by_cases q38 : ((x1.getD (((IntKind.i64.wrap (x6 + 3))).toNat) (0 : UInt8)).toNat : Int) = 39
        · replace M := ifp q38 M
          refine cT (bT q38) (wp_seq (wp_region_lit (lV 8 (eA (.int .i64 39)) (wpList_nil (then_n (wp_region_lit (lV 7 (eA (.int .i64 4)) ?_)))))))
          refine wpList_nil (then_n ?_)
          exact ⟨_, H, 4, 39, rfl, (by kernel_rfl), (by kernel_rfl), (by kernel_rfl), (by kernel_rfl), (Ext.refl _), S0_, M⟩
        replace M := ifn q38 M
        refine cF (bF q38) (wp_seq (wp_region_lit (lV 32 (eM (.int .i64 x6)) (lV 33 (eAdd .i64 x6 2) (lV 34 (eM (.slice A2 x1.length c3)) (lV 35 (e_len (A := A2) (n := x1.length) (c := c3) Try.underlying23 (by kernel_rfl)) (lV 36 (eLt .i64 (IntKind.i64.wrap (x6 + 2)) (x1.length : Int)) ?_)))))))
        refine lV 37 (eM (.bool (decide ((IntKind.i64.wrap (x6 + 2)) < (x1.length : Int))))) (lG 38 37 (bT q23) (eM (.slice A2 x1.length c3)) (lG 39 37 (bT q23) (eM (.int .i64 x6)) (lG 40 37 (bT q23) (eAdd .i64 x6 2) ?_)))
        obtain ⟨b39, o40, e41⟩ := Rd.addr h4 (show ((IntKind.i64.wrap (x6 + 2))).toNat < x1.length by omega)
        obtain ⟨y42, r43, k44⟩ := Rd.at h4 e41 (getD_some (0 : UInt8) (show ((IntKind.i64.wrap (x6 + 2))).toNat < x1.length by omega))
        obtain rfl := r43
        refine lG 41 37 (bT q23) (eI b39 o40 x1.length c3 1 (IntKind.i64.wrap (x6 + 2)) .i64 Try.underlying23 e41 q22 q23) (lG 42 37 (bT q23) (eL ⟨b39, o40 + ((IntKind.i64.wrap (x6 + 2)) : Int).toNat * 1, none⟩ (.int .u8 ((x1.getD (((IntKind.i64.wrap (x6 + 2))).toNat) (0 : UInt8)).toNat : Int)) Try.underlying5 (hpx (S0_.inv.cell (k44 0 _ rfl)))) (lG 43 37 (bT q23) (eEq .u8 ((x1.getD (((IntKind.i64.wrap (x6 + 2))).toNat) (0 : UInt8)).toNat : Int) 92) (lV 44 (eT (.bool (decide (((x1.getD (((IntKind.i64.wrap (x6 + 2))).toNat) (0 : UInt8)).toNat : Int) = 92))) (bT q23)) (wpList_nil (then_n ?_)))))
        by_cases q45 : ((x1.getD (((IntKind.i64.wrap (x6 + 2))).toNat) (0 : UInt8)).toNat : Int) = 92
        · replace M := ifp q45 M
          refine cT (bT q45) (wp_seq (wp_region_lit (lV 46 (eM (.slice A2 x1.length c3)) (lV 47 (eM (.int .i64 x6)) (lV 48 (eAdd .i64 x6 3) ?_)))))
          obtain ⟨t46, u47, M⟩ := bnd M
          refine lC 49 (eC [.tmp 46, .tmp 48] [.slice A2 x1.length c3, .int .i64 (IntKind.i64.wrap (x6 + 3))] Try.func46) (spec_l1escape.calls k w H x1 A2 c3 (IntKind.i64.wrap (x6 + 3)) h4 l5 (St.own' (Fa := []) (Fr := []) S0_) t46 u47) ?_
          rintro _ w48 ⟨A51, c52, F54, H49, rfl, h53, T50⟩
          refine ⟨_, rfl, ?_⟩
          obtain ⟨S55, K56⟩ := St.call (Fa := []) (Fr := []) S0_ T50
          have E57 := T50.ext
          refine lV 45 (eM (.tuple #[.slice A51 t46.1.length c52, .int .i64 t46.2])) (lV 50 (e_extract (vs := #[.slice A51 t46.1.length c52, .int .i64 t46.2]) (v := .slice A51 t46.1.length c52) (by kernel_rfl) rfl) (lV 51 (e_extract (vs := #[.slice A51 t46.1.length c52, .int .i64 t46.2]) (v := .int .i64 t46.2) (by kernel_rfl) rfl) (lV 9 (eA (.slice A51 t46.1.length c52)) (lV 10 (eA (.int .i64 t46.2)) (wpList_nil (then_n (wp_seq ?_)))))))
          refine wp_region_lit (lV 52 (eM (.slice A51 t46.1.length c52)) (lV 53 (e_len (A := A51) (n := t46.1.length) (c := c52) Try.underlying23 (by kernel_rfl)) (lV 54 (eEq .i64 (t46.1.length : Int) 1) (wpList_nil (then_n ?_)))))
          by_cases q58 : (t46.1.length : Int) = 1
          · replace M := ifp q58 M
            refine cT (bT q58) (wp_seq (wp_region_lit (lV 55 (eM (.slice A51 t46.1.length c52)) ?_)))
            obtain ⟨q59, M⟩ := chk M
            obtain ⟨b60, e62⟩ := Row.addr h53 (show 0 < t46.1.length by omega)
            refine lV 56 (e_indexAddr (b := b60) (off := 0) (n := t46.1.length) (c := c52) (sz := 1) (i := 0) (k := .i64) Try.underlying23 e62 (by kernel_rfl) (by kernel_rfl) rfl (by omega) q59) (lV 57 (eL ⟨b60, 0 + (0 : Int).toNat * 1, none⟩ (.int .u8 ((t46.1.getD 0 (0 : UInt8)).toNat : Int)) Try.underlying5 (hpx (Row.pick (j := 0) (u := .int .u8 ((t46.1.getD 0 (0 : UInt8)).toNat : Int)) h53 e62 (getD_some (0 : UInt8) (show 0 < t46.1.length by omega)) (fun _ _ o_ => by rw [show _ = _ from o_]; rfl)))) (lV 58 (e_conv_8i (a := (t46.1.getD 0 (0 : UInt8))) (by kernel_rfl) Try.underlying3 (by kernel_rfl)) (lV 8 (eA (.int .i64 ((t46.1.getD 0 (0 : UInt8)).toNat : Int))) (wpList_nil (then_n (wp_region_lit (lV 59 (eM (.int .i64 t46.2)) ?_)))))))
            refine lV 60 (eAdd .i64 3 t46.2) (lV 7 (eA (.int .i64 (IntKind.i64.wrap (3 + t46.2)))) (wpList_nil (then_n ?_)))
            have S63 := St.first (Fa := []) (Fr := [F54]) S55
            exact ⟨_, H49, (IntKind.i64.wrap (3 + t46.2)), ((t46.1.getD 0 (0 : UInt8)).toNat : Int), rfl, (by kernel_rfl), (by kernel_rfl), (by kernel_rfl), (by kernel_rfl), E57, S63, M⟩
          replace M := ifn q58 M
          refine cF (bF q58) (wp_skip (then_n ?_))
          have S64 := St.first (Fa := []) (Fr := [F54]) S55
          exact ⟨_, H49, 0, 0, rfl, (by kernel_rfl), (by kernel_rfl), (by kernel_rfl), (by kernel_rfl), E57, S64, M⟩
        replace M := ifn q45 M
        refine cF (bF q45) (wp_seq (wp_region_lit (lV 61 (eM (.int .i64 x6)) (lV 62 (eAdd .i64 x6 2) (lV 63 (eM (.slice A2 x1.length c3)) (lV 64 (e_len (A := A2) (n := x1.length) (c := c3) Try.underlying23 (by kernel_rfl)) (lV 65 (eLt .i64 (IntKind.i64.wrap (x6 + 2)) (x1.length : Int)) ?_)))))))
        refine lV 66 (eM (.bool (decide ((IntKind.i64.wrap (x6 + 2)) < (x1.length : Int))))) (lG 67 66 (bT q23) (eM (.slice A2 x1.length c3)) (lG 68 66 (bT q23) (eM (.int .i64 x6)) (lG 69 66 (bT q23) (eAdd .i64 x6 2) ?_)))
        obtain ⟨b65, o66, e67⟩ := Rd.addr h4 (show ((IntKind.i64.wrap (x6 + 2))).toNat < x1.length by omega)
        obtain ⟨y68, r69, k70⟩ := Rd.at h4 e67 (getD_some (0 : UInt8) (show ((IntKind.i64.wrap (x6 + 2))).toNat < x1.length by omega))
        obtain rfl := r69
        refine lG 70 66 (bT q23) (eI b65 o66 x1.length c3 1 (IntKind.i64.wrap (x6 + 2)) .i64 Try.underlying23 e67 q22 q23) (lG 71 66 (bT q23) (eL ⟨b65, o66 + ((IntKind.i64.wrap (x6 + 2)) : Int).toNat * 1, none⟩ (.int .u8 ((x1.getD (((IntKind.i64.wrap (x6 + 2))).toNat) (0 : UInt8)).toNat : Int)) Try.underlying5 (hpx (S0_.inv.cell (k70 0 _ rfl)))) (lG 72 66 (bT q23) (eNe .u8 ((x1.getD (((IntKind.i64.wrap (x6 + 2))).toNat) (0 : UInt8)).toNat : Int) 39) (lV 73 (eT (.bool (decide (((x1.getD (((IntKind.i64.wrap (x6 + 2))).toNat) (0 : UInt8)).toNat : Int) ≠ 39))) (bT q23)) (lV 74 (eM (.bool (decide (((x1.getD (((IntKind.i64.wrap (x6 + 2))).toNat) (0 : UInt8)).toNat : Int) ≠ 39)))) ?_))))
        by_cases q71 : ((x1.getD (((IntKind.i64.wrap (x6 + 2))).toNat) (0 : UInt8)).toNat : Int) ≠ 39
        · replace M := ifp q71 M
          refine lG 75 74 (bT q71) (eM (.slice A2 x1.length c3)) (lG 76 74 (bT q71) (eM (.int .i64 x6)) (lG 77 74 (bT q71) (eAdd .i64 x6 2) ?_))
          obtain ⟨b72, o73, e74⟩ := Rd.addr h4 (show ((IntKind.i64.wrap (x6 + 2))).toNat < x1.length by omega)
          obtain ⟨y75, r76, k77⟩ := Rd.at h4 e74 (getD_some (0 : UInt8) (show ((IntKind.i64.wrap (x6 + 2))).toNat < x1.length by omega))
          obtain rfl := r76
          refine lG 78 74 (bT q71) (eI b72 o73 x1.length c3 1 (IntKind.i64.wrap (x6 + 2)) .i64 Try.underlying23 e74 q22 q23) (lG 79 74 (bT q71) (eL ⟨b72, o73 + ((IntKind.i64.wrap (x6 + 2)) : Int).toNat * 1, none⟩ (.int .u8 ((x1.getD (((IntKind.i64.wrap (x6 + 2))).toNat) (0 : UInt8)).toNat : Int)) Try.underlying5 (hpx (S0_.inv.cell (k77 0 _ rfl)))) ?_)
          obtain ⟨t78, u79, M⟩ := bnd M
          refine lcallg (d := 80) (t := 74) rfl (by kernel_rfl) rfl (bT q71) rfl (by kernel_rfl) (eC [.tmp 79] [.int .u8 ((x1.getD (((IntKind.i64.wrap (x6 + 2))).toNat) (0 : UInt8)).toNat : Int)] Try.func47) (spec_l1raw.calls w H (x1.getD (((IntKind.i64.wrap (x6 + 2))).toNat) (0 : UInt8))  S0_.own0 t78 u79) ?_
          rintro _ w80 ⟨rfl, C81⟩
          refine ⟨_, rfl, ?_⟩
          obtain ⟨S82, K83⟩ := S0_.still C81
          refine lV 81 (eT (.bool t78) (bT q71)) (wpList_nil (then_n ?_))
          by_cases q84 : t78 = true
          · replace M := ifp q84 M
            refine cT (bvt q84 (by kernel_rfl)) (wp_seq (wp_region_lit (lV 82 (eM (.slice A2 x1.length c3)) (lV 83 (eM (.int .i64 x6)) (lV 84 (eAdd .i64 x6 2) ?_)))))
            obtain ⟨b85, o86, e87⟩ := Rd.addr h4 (show ((IntKind.i64.wrap (x6 + 2))).toNat < x1.length by omega)
            obtain ⟨y88, r89, k90⟩ := Rd.at h4 e87 (getD_some (0 : UInt8) (show ((IntKind.i64.wrap (x6 + 2))).toNat < x1.length by omega))
            obtain rfl := r89
            refine lV 85 (eI b85 o86 x1.length c3 1 (IntKind.i64.wrap (x6 + 2)) .i64 Try.underlying23 e87 q22 q23) (lV 86 (eL ⟨b85, o86 + ((IntKind.i64.wrap (x6 + 2)) : Int).toNat * 1, none⟩ (.int .u8 ((x1.getD (((IntKind.i64.wrap (x6 + 2))).toNat) (0 : UInt8)).toNat : Int)) Try.underlying5 (hpx (S82.inv.cell (k90 0 _ rfl)))) (lV 87 (e_conv_8i (a := (x1.getD (((IntKind.i64.wrap (x6 + 2))).toNat) (0 : UInt8))) (by kernel_rfl) Try.underlying3 (by kernel_rfl)) (lV 8 (eA (.int .i64 ((x1.getD (((IntKind.i64.wrap (x6 + 2))).toNat) (0 : UInt8)).toNat : Int))) (wpList_nil (then_n (wp_region_lit (lV 7 (eA (.int .i64 3)) ?_)))))))
            refine wpList_nil (then_n ?_)
            exact ⟨_, H, 3, ((x1.getD (((IntKind.i64.wrap (x6 + 2))).toNat) (0 : UInt8)).toNat : Int), rfl, (by kernel_rfl), (by kernel_rfl), (by kernel_rfl), (by kernel_rfl), (Ext.refl _), S82, M⟩
          replace M := ifn q84 M
          refine cF (bvf q84 (by kernel_rfl)) (wp_skip (then_n ?_))
          exact ⟨_, H, 0, 0, rfl, (by kernel_rfl), (by kernel_rfl), (by kernel_rfl), (by kernel_rfl), (Ext.refl _), S82, M⟩
        replace M := ifn q71 M
        refine lK 74 false (bF q71) ?_
        refine lK 74 false (bF q71) ?_
        refine lK 74 false (bF q71) ?_
        refine lK 74 false (bF q71) ?_
        refine lK 74 false (bF q71) ?_
        refine lK 74 false (bF q71) ?_
        refine lV 81 (eF (.bool false) (bF q71)) (wpList_nil (then_n (cond_f rfl (by kernel_rfl) (wp_skip (then_n ?_)))))
        exact ⟨_, H, 0, 0, rfl, (by kernel_rfl), (by kernel_rfl), (by kernel_rfl), (by kernel_rfl), (Ext.refl _), S0_, M⟩
      replace M := ifn q30 M
      refine lK 24 false (bF q30) ?_
      refine lK 24 false (bF q30) ?_
      refine lK 24 false (bF q30) ?_
      refine lK 24 false (bF q30) ?_
      refine lK 24 false (bF q30) ?_
      refine lK 24 false (bF q30) ?_
      refine lV 31 (eF (.bool false) (bF q30)) (wpList_nil (then_n (cond_f rfl (by kernel_rfl) (wp_seq (wp_region_lit (lV 32 (eM (.int .i64 x6)) (lV 33 (eAdd .i64 x6 2) ?_)))))))
      refine lV 34 (eM (.slice A2 x1.length c3)) (lV 35 (e_len (A := A2) (n := x1.length) (c := c3) Try.underlying23 (by kernel_rfl)) (lV 36 (eLt .i64 (IntKind.i64.wrap (x6 + 2)) (x1.length : Int)) (lV 37 (eM (.bool (decide ((IntKind.i64.wrap (x6 + 2)) < (x1.length : Int))))) (lG 38 37 (bT q23) (eM (.slice A2 x1.length c3)) (lG 39 37 (bT q23) (eM (.int .i64 x6)) (lG 40 37 (bT q23) (eAdd .i64 x6 2) ?_))))))
      obtain ⟨b91, o92, e93⟩ := Rd.addr h4 (show ((IntKind.i64.wrap (x6 + 2))).toNat < x1.length by omega)
      obtain ⟨y94, r95, k96⟩ := Rd.at h4 e93 (getD_some (0 : UInt8) (show ((IntKind.i64.wrap (x6 + 2))).toNat < x1.length by omega))
      obtain rfl := r95
      refine lG 41 37 (bT q23) (eI b91 o92 x1.length c3 1 (IntKind.i64.wrap (x6 + 2)) .i64 Try.underlying23 e93 q22 q23) (lG 42 37 (bT q23) (eL ⟨b91, o92 + ((IntKind.i64.wrap (x6 + 2)) : Int).toNat * 1, none⟩ (.int .u8 ((x1.getD (((IntKind.i64.wrap (x6 + 2))).toNat) (0 : UInt8)).toNat : Int)) Try.underlying5 (hpx (S0_.inv.cell (k96 0 _ rfl)))) (lG 43 37 (bT q23) (eEq .u8 ((x1.getD (((IntKind.i64.wrap (x6 + 2))).toNat) (0 : UInt8)).toNat : Int) 92) (lV 44 (eT (.bool (decide (((x1.getD (((IntKind.i64.wrap (x6 + 2))).toNat) (0 : UInt8)).toNat : Int) = 92))) (bT q23)) (wpList_nil (then_n ?_)))))
      by_cases q97 : ((x1.getD (((IntKind.i64.wrap (x6 + 2))).toNat) (0 : UInt8)).toNat : Int) = 92
      · replace M := ifp q97 M
        refine cT (bT q97) (wp_seq (wp_region_lit (lV 46 (eM (.slice A2 x1.length c3)) (lV 47 (eM (.int .i64 x6)) (lV 48 (eAdd .i64 x6 3) ?_)))))
        obtain ⟨t98, u99, M⟩ := bnd M
        refine lC 49 (eC [.tmp 46, .tmp 48] [.slice A2 x1.length c3, .int .i64 (IntKind.i64.wrap (x6 + 3))] Try.func46) (spec_l1escape.calls k w H x1 A2 c3 (IntKind.i64.wrap (x6 + 3)) h4 l5 (St.own' (Fa := []) (Fr := []) S0_) t98 u99) ?_
        rintro _ w100 ⟨A103, c104, F106, H101, rfl, h105, T102⟩
        refine ⟨_, rfl, ?_⟩
        obtain ⟨S107, K108⟩ := St.call (Fa := []) (Fr := []) S0_ T102
        have E109 := T102.ext
        refine lV 45 (eM (.tuple #[.slice A103 t98.1.length c104, .int .i64 t98.2])) (lV 50 (e_extract (vs := #[.slice A103 t98.1.length c104, .int .i64 t98.2]) (v := .slice A103 t98.1.length c104) (by kernel_rfl) rfl) (lV 51 (e_extract (vs := #[.slice A103 t98.1.length c104, .int .i64 t98.2]) (v := .int .i64 t98.2) (by kernel_rfl) rfl) (lV 9 (eA (.slice A103 t98.1.length c104)) (lV 10 (eA (.int .i64 t98.2)) (wpList_nil (then_n (wp_seq ?_)))))))
        refine wp_region_lit (lV 52 (eM (.slice A103 t98.1.length c104)) (lV 53 (e_len (A := A103) (n := t98.1.length) (c := c104) Try.underlying23 (by kernel_rfl)) (lV 54 (eEq .i64 (t98.1.length : Int) 1) (wpList_nil (then_n ?_)))))
        by_cases q110 : (t98.1.length : Int) = 1
        · replace M := ifp q110 M
          refine cT (bT q110) (wp_seq (wp_region_lit (lV 55 (eM (.slice A103 t98.1.length c104)) ?_)))
          obtain ⟨q111, M⟩ := chk M
          obtain ⟨b112, e114⟩ := Row.addr h105 (show 0 < t98.1.length by omega)
          refine lV 56 (e_indexAddr (b := b112) (off := 0) (n := t98.1.length) (c := c104) (sz := 1) (i := 0) (k := .i64) Try.underlying23 e114 (by kernel_rfl) (by kernel_rfl) rfl (by omega) q111) (lV 57 (eL ⟨b112, 0 + (0 : Int).toNat * 1, none⟩ (.int .u8 ((t98.1.getD 0 (0 : UInt8)).toNat : Int)) Try.underlying5 (hpx (Row.pick (j := 0) (u := .int .u8 ((t98.1.getD 0 (0 : UInt8)).toNat : Int)) h105 e114 (getD_some (0 : UInt8) (show 0 < t98.1.length by omega)) (fun _ _ o_ => by rw [show _ = _ from o_]; rfl)))) (lV 58 (e_conv_8i (a := (t98.1.getD 0 (0 : UInt8))) (by kernel_rfl) Try.underlying3 (by kernel_rfl)) (lV 8 (eA (.int .i64 ((t98.1.getD 0 (0 : UInt8)).toNat : Int))) (wpList_nil (then_n (wp_region_lit (lV 59 (eM (.int .i64 t98.2)) ?_)))))))
          refine lV 60 (eAdd .i64 3 t98.2) (lV 7 (eA (.int .i64 (IntKind.i64.wrap (3 + t98.2)))) (wpList_nil (then_n ?_)))
          have S115 := St.first (Fa := []) (Fr := [F106]) S107
          exact ⟨_, H101, (IntKind.i64.wrap (3 + t98.2)), ((t98.1.getD 0 (0 : UInt8)).toNat : Int), rfl, (by kernel_rfl), (by kernel_rfl), (by kernel_rfl), (by kernel_rfl), E109, S115, M⟩
        replace M := ifn q110 M
        refine cF (bF q110) (wp_skip (then_n ?_))
        have S116 := St.first (Fa := []) (Fr := [F106]) S107
        exact ⟨_, H101, 0, 0, rfl, (by kernel_rfl), (by kernel_rfl), (by kernel_rfl), (by kernel_rfl), E109, S116, M⟩
      replace M := ifn q97 M
      refine cF (bF q97) (wp_seq (wp_region_lit (lV 61 (eM (.int .i64 x6)) (lV 62 (eAdd .i64 x6 2) (lV 63 (eM (.slice A2 x1.length c3)) (lV 64 (e_len (A := A2) (n := x1.length) (c := c3) Try.underlying23 (by kernel_rfl)) (lV 65 (eLt .i64 (IntKind.i64.wrap (x6 + 2)) (x1.length : Int)) ?_)))))))
      refine lV 66 (eM (.bool (decide ((IntKind.i64.wrap (x6 + 2)) < (x1.length : Int))))) (lG 67 66 (bT q23) (eM (.slice A2 x1.length c3)) (lG 68 66 (bT q23) (eM (.int .i64 x6)) (lG 69 66 (bT q23) (eAdd .i64 x6 2) ?_)))
      obtain ⟨b117, o118, e119⟩ := Rd.addr h4 (show ((IntKind.i64.wrap (x6 + 2))).toNat < x1.length by omega)
      obtain ⟨y120, r121, k122⟩ := Rd.at h4 e119 (getD_some (0 : UInt8) (show ((IntKind.i64.wrap (x6 + 2))).toNat < x1.length by omega))
      obtain rfl := r121
      refine lG 70 66 (bT q23) (eI b117 o118 x1.length c3 1 (IntKind.i64.wrap (x6 + 2)) .i64 Try.underlying23 e119 q22 q23) (lG 71 66 (bT q23) (eL ⟨b117, o118 + ((IntKind.i64.wrap (x6 + 2)) : Int).toNat * 1, none⟩ (.int .u8 ((x1.getD (((IntKind.i64.wrap (x6 + 2))).toNat) (0 : UInt8)).toNat : Int)) Try.underlying5 (hpx (S0_.inv.cell (k122 0 _ rfl)))) (lG 72 66 (bT q23) (eNe .u8 ((x1.getD (((IntKind.i64.wrap (x6 + 2))).toNat) (0 : UInt8)).toNat : Int) 39) (lV 73 (eT (.bool (decide (((x1.getD (((IntKind.i64.wrap (x6 + 2))).toNat) (0 : UInt8)).toNat : Int) ≠ 39))) (bT q23)) (lV 74 (eM (.bool (decide (((x1.getD (((IntKind.i64.wrap (x6 + 2))).toNat) (0 : UInt8)).toNat : Int) ≠ 39)))) ?_))))
      by_cases q123 : ((x1.getD (((IntKind.i64.wrap (x6 + 2))).toNat) (0 : UInt8)).toNat : Int) ≠ 39
      · replace M := ifp q123 M
        refine lG 75 74 (bT q123) (eM (.slice A2 x1.length c3)) (lG 76 74 (bT q123) (eM (.int .i64 x6)) (lG 77 74 (bT q123) (eAdd .i64 x6 2) ?_))
        obtain ⟨b124, o125, e126⟩ := Rd.addr h4 (show ((IntKind.i64.wrap (x6 + 2))).toNat < x1.length by omega)
        obtain ⟨y127, r128, k129⟩ := Rd.at h4 e126 (getD_some (0 : UInt8) (show ((IntKind.i64.wrap (x6 + 2))).toNat < x1.length by omega))
        obtain rfl := r128
        refine lG 78 74 (bT q123) (eI b124 o125 x1.length c3 1 (IntKind.i64.wrap (x6 + 2)) .i64 Try.underlying23 e126 q22 q23) (lG 79 74 (bT q123) (eL ⟨b124, o125 + ((IntKind.i64.wrap (x6 + 2)) : Int).toNat * 1, none⟩ (.int .u8 ((x1.getD (((IntKind.i64.wrap (x6 + 2))).toNat) (0 : UInt8)).toNat : Int)) Try.underlying5 (hpx (S0_.inv.cell (k129 0 _ rfl)))) ?_)
        obtain ⟨t130, u131, M⟩ := bnd M
        refine lcallg (d := 80) (t := 74) rfl (by kernel_rfl) rfl (bT q123) rfl (by kernel_rfl) (eC [.tmp 79] [.int .u8 ((x1.getD (((IntKind.i64.wrap (x6 + 2))).toNat) (0 : UInt8)).toNat : Int)] Try.func47) (spec_l1raw.calls w H (x1.getD (((IntKind.i64.wrap (x6 + 2))).toNat) (0 : UInt8))  S0_.own0 t130 u131) ?_
        rintro _ w132 ⟨rfl, C133⟩
        refine ⟨_, rfl, ?_⟩
        obtain ⟨S134, K135⟩ := S0_.still C133
        refine lV 81 (eT (.bool t130) (bT q123)) (wpList_nil (then_n ?_))
        by_cases q136 : t130 = true
        · replace M := ifp q136 M
          refine cT (bvt q136 (by kernel_rfl)) (wp_seq (wp_region_lit (lV 82 (eM (.slice A2 x1.length c3)) (lV 83 (eM (.int .i64 x6)) (lV 84 (eAdd .i64 x6 2) ?_)))))
          obtain ⟨b137, o138, e139⟩ := Rd.addr h4 (show ((IntKind.i64.wrap (x6 + 2))).toNat < x1.length by omega)
          obtain ⟨y140, r141, k142⟩ := Rd.at h4 e139 (getD_some (0 : UInt8) (show ((IntKind.i64.wrap (x6 + 2))).toNat < x1.length by omega))
          obtain rfl := r141
          refine lV 85 (eI b137 o138 x1.length c3 1 (IntKind.i64.wrap (x6 + 2)) .i64 Try.underlying23 e139 q22 q23) (lV 86 (eL ⟨b137, o138 + ((IntKind.i64.wrap (x6 + 2)) : Int).toNat * 1, none⟩ (.int .u8 ((x1.getD (((IntKind.i64.wrap (x6 + 2))).toNat) (0 : UInt8)).toNat : Int)) Try.underlying5 (hpx (S134.inv.cell (k142 0 _ rfl)))) (lV 87 (e_conv_8i (a := (x1.getD (((IntKind.i64.wrap (x6 + 2))).toNat) (0 : UInt8))) (by kernel_rfl) Try.underlying3 (by kernel_rfl)) (lV 8 (eA (.int .i64 ((x1.getD (((IntKind.i64.wrap (x6 + 2))).toNat) (0 : UInt8)).toNat : Int))) (wpList_nil (then_n (wp_region_lit (lV 7 (eA (.int .i64 3)) ?_)))))))
          refine wpList_nil (then_n ?_)
          exact ⟨_, H, 3, ((x1.getD (((IntKind.i64.wrap (x6 + 2))).toNat) (0 : UInt8)).toNat : Int), rfl, (by kernel_rfl), (by kernel_rfl), (by kernel_rfl), (by kernel_rfl), (Ext.refl _), S134, M⟩
        replace M := ifn q136 M
        refine cF (bvf q136 (by kernel_rfl)) (wp_skip (then_n ?_))
        exact ⟨_, H, 0, 0, rfl, (by kernel_rfl), (by kernel_rfl), (by kernel_rfl), (by kernel_rfl), (Ext.refl _), S134, M⟩
      replace M := ifn q123 M
      refine lK 74 false (bF q123) ?_
      refine lK 74 false (bF q123) ?_
      refine lK 74 false (bF q123) ?_
      refine lK 74 false (bF q123) ?_
      refine lK 74 false (bF q123) ?_
      refine lK 74 false (bF q123) ?_
      refine lV 81 (eF (.bool false) (bF q123)) (wpList_nil (then_n (cond_f rfl (by kernel_rfl) (wp_skip (then_n ?_)))))
      exact ⟨_, H, 0, 0, rfl, (by kernel_rfl), (by kernel_rfl), (by kernel_rfl), (by kernel_rfl), (Ext.refl _), S0_, M⟩
    replace M := ifn q21 M
    refine lK 16 false (bF q21) ?_
    refine lK 16 false (bF q21) ?_
    refine lK 16 false (bF q21) ?_
    refine lK 16 false (bF q21) ?_
    refine lK 16 false (bF q21) ?_
    refine lK 16 false (bF q21) ?_
    refine lV 23 (eF (.bool false) (bF q21)) (lV 24 (eM (.bool false)) ?_)
    refine lJ 24 false ?_
    refine lJ 24 false ?_
    refine lJ 24 false ?_
    refine lJ 24 false ?_
    refine lJ 24 false ?_
    refine lJ 24 false ?_
    refine lV 31 (eF (.bool false)) (wpList_nil (then_n (cond_f rfl (by kernel_rfl) (wp_seq (wp_region_lit (lV 32 (eM (.int .i64 x6)) (lV 33 (eAdd .i64 x6 2) ?_)))))))
    refine lV 34 (eM (.slice A2 x1.length c3)) (lV 35 (e_len (A := A2) (n := x1.length) (c := c3) Try.underlying23 (by kernel_rfl)) (lV 36 (eLt .i64 (IntKind.i64.wrap (x6 + 2)) (x1.length : Int)) (lV 37 (eM (.bool (decide ((IntKind.i64.wrap (x6 + 2)) < (x1.length : Int))))) ?_)))
    by_cases q143 : (IntKind.i64.wrap (x6 + 2)) < (x1.length : Int)
    · replace M := ifp q143 M
      refine lG 38 37 (bT q143) (eM (.slice A2 x1.length c3)) (lG 39 37 (bT q143) (eM (.int .i64 x6)) (lG 40 37 (bT q143) (eAdd .i64 x6 2) ?_))
      obtain ⟨q144, M⟩ := chk M
      obtain ⟨b145, o146, e147⟩ := Rd.addr h4 (show ((IntKind.i64.wrap (x6 + 2))).toNat < x1.length by omega)
      obtain ⟨y148, r149, k150⟩ := Rd.at h4 e147 (getD_some (0 : UInt8) (show ((IntKind.i64.wrap (x6 + 2))).toNat < x1.length by omega))
      obtain rfl := r149
      refine lG 41 37 (bT q143) (eI b145 o146 x1.length c3 1 (IntKind.i64.wrap (x6 + 2)) .i64 Try.underlying23 e147 q144 q143) (lG 42 37 (bT q143) (eL ⟨b145, o146 + ((IntKind.i64.wrap (x6 + 2)) : Int).toNat * 1, none⟩ (.int .u8 ((x1.getD (((IntKind.i64.wrap (x6 + 2))).toNat) (0 : UInt8)).toNat : Int)) Try.underlying5 (hpx (S0_.inv.cell (k150 0 _ rfl)))) (lG 43 37 (bT q143) (eEq .u8 ((x1.getD (((IntKind.i64.wrap (x6 + 2))).toNat) (0 : UInt8)).toNat : Int) 92) (lV 44 (eT (.bool (decide (((x1.getD (((IntKind.i64.wrap (x6 + 2))).toNat) (0 : UInt8)).toNat : Int) = 92))) (bT q143)) (wpList_nil (then_n ?_)))))
      by_cases q151 : ((x1.getD (((IntKind.i64.wrap (x6 + 2))).toNat) (0 : UInt8)).toNat : Int) = 92
      · replace M := ifp q151 M
        refine cT (bT q151) (wp_seq (wp_region_lit (lV 46 (eM (.slice A2 x1.length c3)) (lV 47 (eM (.int .i64 x6)) (lV 48 (eAdd .i64 x6 3) ?_)))))
        obtain ⟨t152, u153, M⟩ := bnd M
        refine lC 49 (eC [.tmp 46, .tmp 48] [.slice A2 x1.length c3, .int .i64 (IntKind.i64.wrap (x6 + 3))] Try.func46) (spec_l1escape.calls k w H x1 A2 c3 (IntKind.i64.wrap (x6 + 3)) h4 l5 (St.own' (Fa := []) (Fr := []) S0_) t152 u153) ?_
        rintro _ w154 ⟨A157, c158, F160, H155, rfl, h159, T156⟩
        refine ⟨_, rfl, ?_⟩
        obtain ⟨S161, K162⟩ := St.call (Fa := []) (Fr := []) S0_ T156
        have E163 := T156.ext
        refine lV 45 (eM (.tuple #[.slice A157 t152.1.length c158, .int .i64 t152.2])) (lV 50 (e_extract (vs := #[.slice A157 t152.1.length c158, .int .i64 t152.2]) (v := .slice A157 t152.1.length c158) (by kernel_rfl) rfl) (lV 51 (e_extract (vs := #[.slice A157 t152.1.length c158, .int .i64 t152.2]) (v := .int .i64 t152.2) (by kernel_rfl) rfl) (lV 9 (eA (.slice A157 t152.1.length c158)) (lV 10 (eA (.int .i64 t152.2)) (wpList_nil (then_n (wp_seq ?_)))))))
        refine wp_region_lit (lV 52 (eM (.slice A157 t152.1.length c158)) (lV 53 (e_len (A := A157) (n := t152.1.length) (c := c158) Try.underlying23 (by kernel_rfl)) (lV 54 (eEq .i64 (t152.1.length : Int) 1) (wpList_nil (then_n ?_)))))
        by_cases q164 : (t152.1.length : Int) = 1
        · replace M := ifp q164 M
          refine cT (bT q164) (wp_seq (wp_region_lit (lV 55 (eM (.slice A157 t152.1.length c158)) ?_)))
          obtain ⟨q165, M⟩ := chk M
          obtain ⟨b166, e168⟩ := Row.addr h159 (show 0 < t152.1.length by omega)
          refine lV 56 (e_indexAddr (b := b166) (off := 0) (n := t152.1.length) (c := c158) (sz := 1) (i := 0) (k := .i64) Try.underlying23 e168 (by kernel_rfl) (by kernel_rfl) rfl (by omega) q165) (lV 57 (eL ⟨b166, 0 + (0 : Int).toNat * 1, none⟩ (.int .u8 ((t152.1.getD 0 (0 : UInt8)).toNat : Int)) Try.underlying5 (hpx (Row.pick (j := 0) (u := .int .u8 ((t152.1.getD 0 (0 : UInt8)).toNat : Int)) h159 e168 (getD_some (0 : UInt8) (show 0 < t152.1.length by omega)) (fun _ _ o_ => by rw [show _ = _ from o_]; rfl)))) (lV 58 (e_conv_8i (a := (t152.1.getD 0 (0 : UInt8))) (by kernel_rfl) Try.underlying3 (by kernel_rfl)) (lV 8 (eA (.int .i64 ((t152.1.getD 0 (0 : UInt8)).toNat : Int))) (wpList_nil (then_n (wp_region_lit (lV 59 (eM (.int .i64 t152.2)) ?_)))))))
          refine lV 60 (eAdd .i64 3 t152.2) (lV 7 (eA (.int .i64 (IntKind.i64.wrap (3 + t152.2)))) (wpList_nil (then_n ?_)))
          have S169 := St.first (Fa := []) (Fr := [F160]) S161
          exact ⟨_, H155, (IntKind.i64.wrap (3 + t152.2)), ((t152.1.getD 0 (0 : UInt8)).toNat : Int), rfl, (by kernel_rfl), (by kernel_rfl), (by kernel_rfl), (by kernel_rfl), E163, S169, M⟩
        replace M := ifn q164 M
        refine cF (bF q164) (wp_skip (then_n ?_))
        have S170 := St.first (Fa := []) (Fr := [F160]) S161
        exact ⟨_, H155, 0, 0, rfl, (by kernel_rfl), (by kernel_rfl), (by kernel_rfl), (by kernel_rfl), E163, S170, M⟩
      replace M := ifn q151 M
      refine cF (bF q151) (wp_seq (wp_region_lit (lV 61 (eM (.int .i64 x6)) (lV 62 (eAdd .i64 x6 2) (lV 63 (eM (.slice A2 x1.length c3)) (lV 64 (e_len (A := A2) (n := x1.length) (c := c3) Try.underlying23 (by kernel_rfl)) (lV 65 (eLt .i64 (IntKind.i64.wrap (x6 + 2)) (x1.length : Int)) ?_)))))))
      refine lV 66 (eM (.bool (decide ((IntKind.i64.wrap (x6 + 2)) < (x1.length : Int))))) (lG 67 66 (bT q143) (eM (.slice A2 x1.length c3)) (lG 68 66 (bT q143) (eM (.int .i64 x6)) (lG 69 66 (bT q143) (eAdd .i64 x6 2) ?_)))
      obtain ⟨b171, o172, e173⟩ := Rd.addr h4 (show ((IntKind.i64.wrap (x6 + 2))).toNat < x1.length by omega)
      obtain ⟨y174, r175, k176⟩ := Rd.at h4 e173 (getD_some (0 : UInt8) (show ((IntKind.i64.wrap (x6 + 2))).toNat < x1.length by omega))
      obtain rfl := r175
      refine lG 70 66 (bT q143) (eI b171 o172 x1.length c3 1 (IntKind.i64.wrap (x6 + 2)) .i64 Try.underlying23 e173 q144 q143) (lG 71 66 (bT q143) (eL ⟨b171, o172 + ((IntKind.i64.wrap (x6 + 2)) : Int).toNat * 1, none⟩ (.int .u8 ((x1.getD (((IntKind.i64.wrap (x6 + 2))).toNat) (0 : UInt8)).toNat : Int)) Try.underlying5 (hpx (S0_.inv.cell (k176 0 _ rfl)))) (lG 72 66 (bT q143) (eNe .u8 ((x1.getD (((IntKind.i64.wrap (x6 + 2))).toNat) (0 : UInt8)).toNat : Int) 39) (lV 73 (eT (.bool (decide (((x1.getD (((IntKind.i64.wrap (x6 + 2))).toNat) (0 : UInt8)).toNat : Int) ≠ 39))) (bT q143)) (lV 74 (eM (.bool (decide (((x1.getD (((IntKind.i64.wrap (x6 + 2))).toNat) (0 : UInt8)).toNat : Int) ≠ 39)))) ?_))))
      by_cases q177 : ((x1.getD (((IntKind.i64.wrap (x6 + 2))).toNat) (0 : UInt8)).toNat : Int) ≠ 39
      · replace M := ifp q177 M
        refine lG 75 74 (bT q177) (eM (.slice A2 x1.length c3)) (lG 76 74 (bT q177) (eM (.int .i64 x6)) (lG 77 74 (bT q177) (eAdd .i64 x6 2) ?_))
        obtain ⟨b178, o179, e180⟩ := Rd.addr h4 (show ((IntKind.i64.wrap (x6 + 2))).toNat < x1.length by omega)
        obtain ⟨y181, r182, k183⟩ := Rd.at h4 e180 (getD_some (0 : UInt8) (show ((IntKind.i64.wrap (x6 + 2))).toNat < x1.length by omega))
        obtain rfl := r182
        refine lG 78 74 (bT q177) (eI b178 o179 x1.length c3 1 (IntKind.i64.wrap (x6 + 2)) .i64 Try.underlying23 e180 q144 q143) (lG 79 74 (bT q177) (eL ⟨b178, o179 + ((IntKind.i64.wrap (x6 + 2)) : Int).toNat * 1, none⟩ (.int .u8 ((x1.getD (((IntKind.i64.wrap (x6 + 2))).toNat) (0 : UInt8)).toNat : Int)) Try.underlying5 (hpx (S0_.inv.cell (k183 0 _ rfl)))) ?_)
        obtain ⟨t184, u185, M⟩ := bnd M
        refine lcallg (d := 80) (t := 74) rfl (by kernel_rfl) rfl (bT q177) rfl (by kernel_rfl) (eC [.tmp 79] [.int .u8 ((x1.getD (((IntKind.i64.wrap (x6 + 2))).toNat) (0 : UInt8)).toNat : Int)] Try.func47) (spec_l1raw.calls w H (x1.getD (((IntKind.i64.wrap (x6 + 2))).toNat) (0 : UInt8))  S0_.own0 t184 u185) ?_
        rintro _ w186 ⟨rfl, C187⟩
        refine ⟨_, rfl, ?_⟩
        obtain ⟨S188, K189⟩ := S0_.still C187
        refine lV 81 (eT (.bool t184) (bT q177)) (wpList_nil (then_n ?_))
        by_cases q190 : t184 = true
        · replace M := ifp q190 M
          refine cT (bvt q190 (by kernel_rfl)) (wp_seq (wp_region_lit (lV 82 (eM (.slice A2 x1.length c3)) (lV 83 (eM (.int .i64 x6)) (lV 84 (eAdd .i64 x6 2) ?_)))))
          obtain ⟨b191, o192, e193⟩ := Rd.addr h4 (show ((IntKind.i64.wrap (x6 + 2))).toNat < x1.length by omega)
          obtain ⟨y194, r195, k196⟩ := Rd.at h4 e193 (getD_some (0 : UInt8) (show ((IntKind.i64.wrap (x6 + 2))).toNat < x1.length by omega))
          obtain rfl := r195
          refine lV 85 (eI b191 o192 x1.length c3 1 (IntKind.i64.wrap (x6 + 2)) .i64 Try.underlying23 e193 q144 q143) (lV 86 (eL ⟨b191, o192 + ((IntKind.i64.wrap (x6 + 2)) : Int).toNat * 1, none⟩ (.int .u8 ((x1.getD (((IntKind.i64.wrap (x6 + 2))).toNat) (0 : UInt8)).toNat : Int)) Try.underlying5 (hpx (S188.inv.cell (k196 0 _ rfl)))) (lV 87 (e_conv_8i (a := (x1.getD (((IntKind.i64.wrap (x6 + 2))).toNat) (0 : UInt8))) (by kernel_rfl) Try.underlying3 (by kernel_rfl)) (lV 8 (eA (.int .i64 ((x1.getD (((IntKind.i64.wrap (x6 + 2))).toNat) (0 : UInt8)).toNat : Int))) (wpList_nil (then_n (wp_region_lit (lV 7 (eA (.int .i64 3)) ?_)))))))
          refine wpList_nil (then_n ?_)
          exact ⟨_, H, 3, ((x1.getD (((IntKind.i64.wrap (x6 + 2))).toNat) (0 : UInt8)).toNat : Int), rfl, (by kernel_rfl), (by kernel_rfl), (by kernel_rfl), (by kernel_rfl), (Ext.refl _), S188, M⟩
        replace M := ifn q190 M
        refine cF (bvf q190 (by kernel_rfl)) (wp_skip (then_n ?_))
        exact ⟨_, H, 0, 0, rfl, (by kernel_rfl), (by kernel_rfl), (by kernel_rfl), (by kernel_rfl), (Ext.refl _), S188, M⟩
      replace M := ifn q177 M
      refine lK 74 false (bF q177) ?_
      refine lK 74 false (bF q177) ?_
      refine lK 74 false (bF q177) ?_
      refine lK 74 false (bF q177) ?_
      refine lK 74 false (bF q177) ?_
      refine lK 74 false (bF q177) ?_
      refine lV 81 (eF (.bool false) (bF q177)) (wpList_nil (then_n (cond_f rfl (by kernel_rfl) (wp_skip (then_n ?_)))))
      exact ⟨_, H, 0, 0, rfl, (by kernel_rfl), (by kernel_rfl), (by kernel_rfl), (by kernel_rfl), (Ext.refl _), S0_, M⟩
    replace M := ifn q143 M
    refine lK 37 false (bF q143) ?_
    refine lK 37 false (bF q143) ?_
    refine lK 37 false (bF q143) ?_
    refine lK 37 false (bF q143) ?_
    refine lK 37 false (bF q143) ?_
    refine lK 37 false (bF q143) ?_
    refine lV 44 (eF (.bool false) (bF q143)) (wpList_nil (then_n (cond_f rfl (by kernel_rfl) (wp_seq (wp_region_lit (lV 61 (eM (.int .i64 x6)) (lV 62 (eAdd .i64 x6 2) ?_)))))))
    refine lV 63 (eM (.slice A2 x1.length c3)) (lV 64 (e_len (A := A2) (n := x1.length) (c := c3) Try.underlying23 (by kernel_rfl)) (lV 65 (eLt .i64 (IntKind.i64.wrap (x6 + 2)) (x1.length : Int)) (lV 66 (eM (.bool (decide ((IntKind.i64.wrap (x6 + 2)) < (x1.length : Int))))) ?_)))
    refine lK 66 false (bF q143) ?_
    refine lK 66 false (bF q143) ?_
    refine lK 66 false (bF q143) ?_
    refine lK 66 false (bF q143) ?_
    refine lK 66 false (bF q143) ?_
    refine lK 66 false (bF q143) ?_
    refine lV 73 (eF (.bool false) (bF q143)) (lV 74 (eM (.bool false)) ?_)
    refine lJ 74 false ?_
    refine lJ 74 false ?_
    refine lJ 74 false ?_
    refine lJ 74 false ?_
    refine lJ 74 false ?_
    refine lJ 74 false ?_
    refine lV 81 (eF (.bool false)) (wpList_nil (then_n (cond_f rfl (by kernel_rfl) (wp_skip (then_n ?_)))))
    exact ⟨_, H, 0, 0, rfl, (by kernel_rfl), (by kernel_rfl), (by kernel_rfl), (by kernel_rfl), (Ext.refl _), S0_, M⟩
  clear M
  rintro a20 w7 ⟨f8, H9, x11, x12, rfl, e13, e14, e15, e16, Y10, S17, M⟩
  rw [spec_l1char.l0] at M
  refine wp_seq (wp_seq (wp_region_lit (lV 88 (eM (.int .i64 x11) (by exact e15)) (lV 89 (eEq .i64 x11 0) (lV 90 (eM (.bool (decide (x11 = 0)))) ?_)))))
  by_cases q197 : x11 = 0
  · replace M := ifp q197 M
    refine lK 90 true (bT q197) ?_
    refine lK 90 true (bT q197) ?_
    refine lK 90 true (bT q197) ?_
    refine lK 90 true (bT q197) ?_
    refine lK 90 true (bT q197) ?_
    refine lK 90 true (bT q197) ?_
    refine lK 90 true (bT q197) ?_
    refine lskipu (t := 97) rfl (by kernel_rfl) rfl (by kernel_rfl) rfl ?_
    refine lskipu (t := 97) rfl (by kernel_rfl) rfl (by kernel_rfl) rfl ?_
    refine lskipu (t := 97) rfl (by kernel_rfl) rfl (by kernel_rfl) rfl ?_
    refine lskipu (t := 97) rfl (by kernel_rfl) rfl (by kernel_rfl) rfl ?_
    refine lskipu (t := 97) rfl (by kernel_rfl) rfl (by kernel_rfl) rfl ?_
    refine lskipu (t := 97) rfl (by kernel_rfl) rfl (by kernel_rfl) rfl ?_
    refine lskipu (t := 97) rfl (by kernel_rfl) rfl (by kernel_rfl) rfl ?_
    refine lK 90 true (bT q197) ?_
    refine lV 106 (eT (.bool true) (bT q197)) (wpList_nil (then_n (cond_t rfl (by kernel_rfl) (wp_seq (wp_region_lit (lV 4 (eA (.int .i64 0)) (lV 5 (eA (.int .i64 0)) ?_)))))))
    refine lV 6 (eA (.int .i64 2)) (wpList_nil (then_n (wp_ret (then_r ?_))))
    obtain rfl := Option.some.inj M
    exact ret3 rfl rfl rfl rfl (show _ = .int .i64 0 from (by kernel_rfl)) (show _ = .int .i64 0 from (by kernel_rfl)) (show _ = .int .i64 2 from (by kernel_rfl)) ⟨rfl, S17.chg⟩
  replace M := ifn q197 M
  refine lG 91 90 (bF q197) (eM (.int .i64 x6) (by exact e14)) (lG 92 90 (bF q197) (eM (.int .i64 x11) (by exact e15)) (lG 93 90 (bF q197) (eAdd .i64 x6 x11) (lG 94 90 (bF q197) (eM (.slice A2 x1.length c3) (by exact e13)) (lG 95 90 (bF q197) (e_len (A := A2) (n := x1.length) (c := c3) Try.underlying23 (by kernel_rfl)) (lG 96 90 (bF q197) (eLt .i64 (IntKind.i64.wrap (x6 + x11)) (x1.length : Int)) (lG 97 90 (bF q197) (eM (.bool (decide ((IntKind.i64.wrap (x6 + x11)) < (x1.length : Int))))) ?_))))))
  by_cases q198 : (IntKind.i64.wrap (x6 + x11)) < (x1.length : Int)
  · replace M := ifp q198 M
    refine lG 98 97 (bT q198) (eM (.slice A2 x1.length c3) (by exact e13)) (lG 99 97 (bT q198) (eM (.int .i64 x6) (by exact e14)) (lG 100 97 (bT q198) (eM (.int .i64 x11) (by exact e15)) (lG 101 97 (bT q198) (eAdd .i64 x6 x11) ?_)))
    obtain ⟨q199, M⟩ := chk M
    obtain ⟨b200, o201, e202⟩ := Rd.addr h4 (show ((IntKind.i64.wrap (x6 + x11))).toNat < x1.length by omega)
    obtain ⟨y203, r204, k205⟩ := Rd.at h4 e202 (getD_some (0 : UInt8) (show ((IntKind.i64.wrap (x6 + x11))).toNat < x1.length by omega))
    obtain rfl := r204
    refine lG 102 97 (bT q198) (eI b200 o201 x1.length c3 1 (IntKind.i64.wrap (x6 + x11)) .i64 Try.underlying23 e202 q199 q198) (lG 103 97 (bT q198) (eL ⟨b200, o201 + ((IntKind.i64.wrap (x6 + x11)) : Int).toNat * 1, none⟩ (.int .u8 ((x1.getD (((IntKind.i64.wrap (x6 + x11))).toNat) (0 : UInt8)).toNat : Int)) Try.underlying5 (hpx (S17.inv.cell (Y10.cell (k205 0 _ rfl))))) ?_)
    obtain ⟨t206, u207, M⟩ := bnd M
    refine lcallg (d := 104) (t := 97) rfl (by kernel_rfl) rfl (bT q198) rfl (by kernel_rfl) (eC [.tmp 103] [.int .u8 ((x1.getD (((IntKind.i64.wrap (x6 + x11))).toNat) (0 : UInt8)).toNat : Int)] Try.func26) (spec_l1alnum.calls w7 H9 (x1.getD (((IntKind.i64.wrap (x6 + x11))).toNat) (0 : UInt8))  S17.own0 t206 u207) ?_
    rintro _ w208 ⟨rfl, C209⟩
    refine ⟨_, rfl, ?_⟩
    obtain ⟨S210, K211⟩ := S17.still C209
    refine lG 105 90 (bF q197) (eT (.bool t206) (bT q198)) (lV 106 (eF (.bool t206) (bF q197)) (wpList_nil (then_n ?_)))
    by_cases q212 : t206 = true
    · replace M := ifp q212 M
      refine cT (bvt q212 (by kernel_rfl)) (wp_seq (wp_region_lit (lV 4 (eA (.int .i64 0)) (lV 5 (eA (.int .i64 0)) (lV 6 (eA (.int .i64 2)) (wpList_nil (then_n ?_)))))))
      refine wp_ret (then_r ?_)
      obtain rfl := Option.some.inj M
      exact ret3 rfl rfl rfl rfl (show _ = .int .i64 0 from (by kernel_rfl)) (show _ = .int .i64 0 from (by kernel_rfl)) (show _ = .int .i64 2 from (by kernel_rfl)) ⟨rfl, S210.chg⟩
    replace M := ifn q212 M
    refine cF (bvf q212 (by kernel_rfl)) (wp_skip (then_n (wp_seq (wp_region_lit (lV 107 (eM (.int .i64 x12) (by exact e16)) (lV 108 (eM (.int .i64 x11) (by exact e15)) (lV 4 (eA (.int .i64 x12)) ?_)))))))
    refine lV 5 (eA (.int .i64 x11)) (lV 6 (eA (.int .i64 0)) (wpList_nil (then_n (wp_ret ?_))))
    obtain rfl := Option.some.inj M
    exact ret3 rfl rfl rfl rfl (show _ = .int .i64 x12 from (by kernel_rfl)) (show _ = .int .i64 x11 from (by kernel_rfl)) (show _ = .int .i64 0 from (by kernel_rfl)) ⟨rfl, S210.chg⟩
  replace M := ifn q198 M
  refine lK 97 false (bF q198) ?_
  refine lK 97 false (bF q198) ?_
  refine lK 97 false (bF q198) ?_
  refine lK 97 false (bF q198) ?_
  refine lK 97 false (bF q198) ?_
  refine lK 97 false (bF q198) ?_
  refine lK 97 false (bF q198) ?_
  refine lG 105 90 (bF q197) (eF (.bool false) (bF q198)) (lV 106 (eF (.bool false) (bF q197)) (wpList_nil (then_n (cond_f rfl (by kernel_rfl) (wp_skip (then_n (wp_seq ?_)))))))
  refine wp_region_lit (lV 107 (eM (.int .i64 x12) (by exact e16)) (lV 108 (eM (.int .i64 x11) (by exact e15)) (lV 4 (eA (.int .i64 x12)) (lV 5 (eA (.int .i64 x11)) (lV 6 (eA (.int .i64 0)) (wpList_nil (then_n ?_)))))))
  refine wp_ret ?_
  obtain rfl := Option.some.inj M
  exact ret3 rfl rfl rfl rfl (show _ = .int .i64 x12 from (by kernel_rfl)) (show _ = .int .i64 x11 from (by kernel_rfl)) (show _ = .int .i64 0 from (by kernel_rfl)) ⟨rfl, S17.chg⟩

/-! spec_l1number -/
mutual
def spec_l1number.l2 : Nat → (List UInt8) → Int → Int → Int → Int → Bool → Option (Int × Int × Int)
  | 0, _, _, _, _, _, _ => none
  | k91 + 1, x1, x6, x9, x77, x78, x79 => (if (IntKind.i64.wrap (x6 + x77)) < (x1.length : Int) then (if 0 ≤ (IntKind.i64.wrap (x6 + x77)) then ((spec_l1hex.f (x1.getD (((IntKind.i64.wrap (x6 + x77))).toNat) (0 : UInt8))).bind fun t100 => (if t100 < x9 then ((spec_l1hex.f (x1.getD (((IntKind.i64.wrap (x6 + x77))).toNat) (0 : UInt8))).bind fun t113 => (if (IntKind.i64.wrap ((IntKind.i64.wrap (x78 * x9)) + t113)) > 1000000000000000 then (spec_l1number.l3 k91 x1 x6 x9 x77 1000000000000000 true) else (spec_l1number.l3 k91 x1 x6 x9 x77 (IntKind.i64.wrap ((IntKind.i64.wrap (x78 * x9)) + t113)) x79))) else ((spec_l1alnum.f (x1.getD (((IntKind.i64.wrap (x6 + x77))).toNat) (0 : UInt8))).bind fun t152 => (if t152 = true then some (0, 0, 2) else (if x79 = true then some (0, 0, 3) else some (x78, x77, 0)))))) else none) else (if x79 = true then some (0, 0, 3) else some (x78, x77, 0)))
def spec_l1number.l3 : Nat → (List UInt8) → Int → Int → Int → Int → Bool → Option (Int × Int × Int)
  | 0, _, _, _, _, _, _ => none
  | k142 + 1, x1, x6, x9, x77, x121, x122 => (spec_l1number.l2 k142 x1 x6 x9 (IntKind.i64.wrap (x77 + 1)) x121 x122)
end
def spec_l1number.l0 (k : Nat) (x1 : List UInt8) (x6 : Int) (x9 : Int) (x10 : Int) : Option (Int × Int × Int) := (spec_l1number.l2 k x1 x6 x9 x10 0 false)
def spec_l1number.l1 (k : Nat) (x1 : List UInt8) (x6 : Int) (x45 : Int) : Option (Int × Int × Int) := (if x45 > 0 then (if (IntKind.i64.wrap (x6 + 2)) < (x1.length : Int) then (if 0 ≤ (IntKind.i64.wrap (x6 + 2)) then ((spec_l1hex.f (x1.getD (((IntKind.i64.wrap (x6 + 2))).toNat) (0 : UInt8))).bind fun t67 => (if t67 < x45 then (spec_l1number.l0 k x1 x6 x45 2) else (spec_l1number.l0 k x1 x6 10 0))) else none) else (spec_l1number.l0 k x1 x6 10 0)) else (spec_l1number.l0 k x1 x6 10 0))
def spec_l1number.f (k : Nat) (x1 : List UInt8) (x6 : Int) : Option (Int × Int × Int) := (if 0 ≤ x6 then (if x6 < (x1.length : Int) then (if ((x1.getD ((x6).toNat) (0 : UInt8)).toNat : Int) = 48 then (if (IntKind.i64.wrap (x6 + 1)) < (x1.length : Int) then (if 0 ≤ (IntKind.i64.wrap (x6 + 1)) then (if ((x1.getD (((IntKind.i64.wrap (x6 + 1))).toNat) (0 : UInt8)).toNat : Int) = 39 then ((spec_l1char.f k x1 x6).bind fun t37 => some (t37.1, t37.2.1, t37.2.2)) else (if ((x1.getD (((IntKind.i64.wrap (x6 + 1))).toNat) (0 : UInt8)).toNat : Int) = 120 then (spec_l1number.l1 k x1 x6 16) else (if ((x1.getD (((IntKind.i64.wrap (x6 + 1))).toNat) (0 : UInt8)).toNat : Int) = 111 then (spec_l1number.l1 k x1 x6 8) else (if ((x1.getD (((IntKind.i64.wrap (x6 + 1))).toNat) (0 : UInt8)).toNat : Int) = 98 then (spec_l1number.l1 k x1 x6 2) else (spec_l1number.l1 k x1 x6 0))))) else none) else (spec_l1number.l0 k x1 x6 10 0)) else (spec_l1number.l0 k x1 x6 10 0)) else none) else none)
theorem spec_l1number.calls (k : Nat) (w : World) (H : Hp) (x1 : List UInt8) (A2 : Option Addr) (c3 : Nat) (x6 : Int) (h4 : Rd tByte H A2 x1) (l5 : x1.length ≤ c3) (S : Own [] H w) (r : Int × Int × Int) (M : spec_l1number.f k x1 x6 = some r) :
    Calls Try.prog 32 #[.slice A2 x1.length c3, .int .i64 x6] w (fun e e_w => e = .returned (.tuple #[.int .i64 r.1, .int .i64 r.2.1, .int .i64 r.2.2]) ∧ Chg no w e_w) := by
  rw [spec_l1number.f] at M
  refine enter (l := [.slice A2 x1.length c3, .int .i64 x6]) 114 Try.func32 rfl rfl rfl ?_
  have S0_ := S.st
  refine wp_seq (wp_region_lit (lV 4 (eA (.int .i64 0)) (lV 5 (eA (.int .i64 0)) (lV 6 (eA (.int .i64 0)) (wpList_nil (then_n (wp_seq ?_)))))))
  refine wp_region_lit (lV 7 (eA (.int .i64 10)) (wpList_nil (then_n (wp_seq (wp_region_lit (lV 8 (eA (.int .i64 0)) (wpList_nil ?_)))))))
  refine then_n ?_
  refine wp_seq_cut (fun a18 w7 => ∃ (f8 : Nat → Value) (x9 : Int) (x10 : Int), a18 = mk 114 f8 ∧ f8 0 = .slice A2 x1.length c3 ∧ f8 1 = .int .i64 x6 ∧ f8 7 = .int .i64 x9 ∧ f8 8 = .int .i64 x10 ∧ St (anyOf []) H w [] H w7 ∧ spec_l1number.l0 k x1 x6 x9 x10 = some r) ?_ ?_
  · refine wp_seq (wp_region_lit (lV 13 (eM (.slice A2 x1.length c3)) (lV 14 (eM (.int .i64 x6)) ?_)))
    obtain ⟨q19, M⟩ := chk M
    obtain ⟨q20, M⟩ := chk M
    obtain ⟨b21, o22, e23⟩ := Rd.addr h4 (show (x6).toNat < x1.length by omega)
    obtain ⟨y24, r25, k26⟩ := Rd.at h4 e23 (getD_some (0 : UInt8) (show (x6).toNat < x1.length by omega))
    obtain rfl := r25
    refine lV 15 (eI b21 o22 x1.length c3 1 x6 .i64 Try.underlying23 e23 q19 q20) (lV 16 (eL ⟨b21, o22 + (x6 : Int).toNat * 1, none⟩ (.int .u8 ((x1.getD ((x6).toNat) (0 : UInt8)).toNat : Int)) Try.underlying5 (hpx (S0_.inv.cell (k26 0 _ rfl)))) (lV 17 (eEq .u8 ((x1.getD ((x6).toNat) (0 : UInt8)).toNat : Int) 48) (lV 18 (eM (.bool (decide (((x1.getD ((x6).toNat) (0 : UInt8)).toNat : Int) = 48)))) ?_)))
    by_cases q27 : ((x1.getD ((x6).toNat) (0 : UInt8)).toNat : Int) = 48
    · replace M := ifp q27 M
      refine lG 19 18 (bT q27) (eM (.int .i64 x6)) (lG 20 18 (bT q27) (eAdd .i64 x6 1) (lG 21 18 (bT q27) (eM (.slice A2 x1.length c3)) (lG 22 18 (bT q27) (e_len (A := A2) (n := x1.length) (c := c3) Try.underlying23 (by kernel_rfl)) (lG 23 18 (bT q27) (eLt .i64 (IntKind.i64.wrap (x6 + 1)) (x1.length : Int)) (lV 24 (eT (.bool (decide ((IntKind.i64.wrap (x6 + 1)) < (x1.length : Int)))) (bT q27)) (wpList_nil (then_n ?_)))))))
      by_cases q28 : (IntKind.i64.wrap (x6 + 1)) < (x1.length : Int)
      · replace M := ifp q28 M
        refine cT (bT q28) (wp_seq (wp_region_lit (lV 25 (eM (.slice A2 x1.length c3)) (lV 26 (eM (.int .i64 x6)) (lV 27 (eAdd .i64 x6 1) ?_)))))
        obtain ⟨q29, M⟩ := chk M
        obtain ⟨b30, o31, e32⟩ := Rd.addr h4 (show ((IntKind.i64.wrap (x6 + 1))).toNat < x1.length by omega)
        obtain ⟨y33, r34, k35⟩ := Rd.at h4 e32 (getD_some (0 : UInt8) (show ((IntKind.i64.wrap (x6 + 1))).toNat < x1.length by omega))
        obtain rfl := r34
        refine lV 28 (eI b30 o31 x1.length c3 1 (IntKind.i64.wrap (x6 + 1)) .i64 Try.underlying23 e32 q29 q28) (lV 29 (eL ⟨b30, o31 + ((IntKind.i64.wrap (x6 + 1)) : Int).toNat * 1, none⟩ (.int .u8 ((x1.getD (((IntKind.i64.wrap (x6 + 1))).toNat) (0 : UInt8)).toNat : Int)) Try.underlying5 (hpx (S0_.inv.cell (k35 0 _ rfl)))) (lV 9 (eA (.int .u8 ((x1.getD (((IntKind.i64.wrap (x6 + 1))).toNat) (0 : UInt8)).toNat : Int))) (wpList_nil (then_n (wp_seq (wp_seq (wp_region_lit ?_)))))))
        refine lV 30 (eM (.int .u8 ((x1.getD (((IntKind.i64.wrap (x6 + 1))).toNat) (0 : UInt8)).toNat : Int))) (lV 31 (eEq .u8 ((x1.getD (((IntKind.i64.wrap (x6 + 1))).toNat) (0 : UInt8)).toNat : Int) 39) (wpList_nil (then_n ?_)))
        by_cases q36 : ((x1.getD (((IntKind.i64.wrap (x6 + 1))).toNat) (0 : UInt8)).toNat : Int) = 39
        · replace M := ifp q36 M
          refine cT (bT q36) (wp_seq (wp_region_lit (lV 32 (eM (.slice A2 x1.length c3)) (lV 33 (eM (.int .i64 x6)) ?_))))
          obtain ⟨t37, u38, M⟩ := bnd M
          refine lC 34 (eC [.tmp 32, .tmp 33] [.slice A2 x1.length c3, .int .i64 x6] Try.func44) (spec_l1char.calls k w H x1 A2 c3 x6 h4 l5 S0_.own0 t37 u38) ?_
          rintro _ w39 ⟨rfl, C40⟩
          refine ⟨_, rfl, ?_⟩
          obtain ⟨S41, K42⟩ := S0_.still C40
          refine lV 35 (e_extract (vs := #[.int .i64 t37.1, .int .i64 t37.2.1, .int .i64 t37.2.2]) (v := .int .i64 t37.1) (by kernel_rfl) rfl) (lV 36 (e_extract (vs := #[.int .i64 t37.1, .int .i64 t37.2.1, .int .i64 t37.2.2]) (v := .int .i64 t37.2.1) (by kernel_rfl) rfl) (lV 37 (e_extract (vs := #[.int .i64 t37.1, .int .i64 t37.2.1, .int .i64 t37.2.2]) (v := .int .i64 t37.2.2) (by kernel_rfl) rfl) (lV 4 (eA (.int .i64 t37.1)) (lV 5 (eA (.int .i64 t37.2.1)) (lV 6 (eA (.int .i64 t37.2.2)) (wpList_nil (then_n ?_)))))))
          refine wp_ret (then_r (then_r ?_))
          obtain rfl := Option.some.inj M
          exact ret3 rfl rfl rfl rfl (show _ = .int .i64 t37.1 from (by kernel_rfl)) (show _ = .int .i64 t37.2.1 from (by kernel_rfl)) (show _ = .int .i64 t37.2.2 from (by kernel_rfl)) ⟨rfl, S41.chg⟩
        replace M := ifn q36 M
        refine cF (bF q36) (wp_skip (then_n (wp_seq (wp_region_lit (lV 10 (eA (.int .i64 0)) (wpList_nil (then_n ?_)))))))
        refine wp_seq_cut (fun a54 w43 => ∃ (f44 : Nat → Value) (x45 : Int), a54 = mk 114 f44 ∧ f44 0 = .slice A2 x1.length c3 ∧ f44 1 = .int .i64 x6 ∧ f44 7 = .int .i64 10 ∧ f44 8 = .int .i64 0 ∧ f44 10 = .int .i64 x45 ∧ St (anyOf []) H w [] H w43 ∧ spec_l1number.l1 k x1 x6 x45 = some r) ?_ ?_
        · refine wp_seq (wp_region_lit (lV 38 (eM (.int .u8 ((x1.getD (((IntKind.i64.wrap (x6 + 1))).toNat) (0 : UInt8)).toNat : Int))) (lV 39 (eEq .u8 ((x1.getD (((IntKind.i64.wrap (x6 + 1))).toNat) (0 : UInt8)).toNat : Int) 120) (wpList_nil (then_n ?_)))))
          by_cases q55 : ((x1.getD (((IntKind.i64.wrap (x6 + 1))).toNat) (0 : UInt8)).toNat : Int) = 120
          · replace M := ifp q55 M
            refine cT (bT q55) (wp_region_lit (lV 10 (eA (.int .i64 16)) (wpList_nil (then_n ?_))))
            exact ⟨_, 16, rfl, (by kernel_rfl), (by kernel_rfl), (by kernel_rfl), (by kernel_rfl), (by kernel_rfl), S0_, M⟩
          replace M := ifn q55 M
          refine cF (bF q55) (wp_seq (wp_region_lit (lV 40 (eM (.int .u8 ((x1.getD (((IntKind.i64.wrap (x6 + 1))).toNat) (0 : UInt8)).toNat : Int))) (lV 41 (eEq .u8 ((x1.getD (((IntKind.i64.wrap (x6 + 1))).toNat) (0 : UInt8)).toNat : Int) 111) (wpList_nil (then_n ?_))))))
          by_cases q56 : ((x1.getD (((IntKind.i64.wrap (x6 + 1))).toNat) (0 : UInt8)).toNat : Int) = 111
          · replace M := ifp q56 M
            refine cT (bT q56) (wp_region_lit (lV 10 (eA (.int .i64 8)) (wpList_nil (then_n ?_))))
            exact ⟨_, 8, rfl, (by kernel_rfl), (by kernel_rfl), (by kernel_rfl), (by kernel_rfl), (by kernel_rfl), S0_, M⟩
          replace M := ifn q56 M
          refine cF (bF q56) (wp_seq (wp_region_lit (lV 42 (eM (.int .u8 ((x1.getD (((IntKind.i64.wrap (x6 + 1))).toNat) (0 : UInt8)).toNat : Int))) (lV 43 (eEq .u8 ((x1.getD (((IntKind.i64.wrap (x6 + 1))).toNat) (0 : UInt8)).toNat : Int) 98) (wpList_nil (then_n ?_))))))
          by_cases q57 : ((x1.getD (((IntKind.i64.wrap (x6 + 1))).toNat) (0 : UInt8)).toNat : Int) = 98
          · replace M := ifp q57 M
            refine cT (bT q57) (wp_region_lit (lV 10 (eA (.int .i64 2)) (wpList_nil (then_n ?_))))
            exact ⟨_, 2, rfl, (by kernel_rfl), (by kernel_rfl), (by kernel_rfl), (by kernel_rfl), (by kernel_rfl), S0_, M⟩
          replace M := ifn q57 M
          refine cF (bF q57) (wp_skip (then_n ?_))
          exact ⟨_, 0, rfl, (by kernel_rfl), (by kernel_rfl), (by kernel_rfl), (by kernel_rfl), (by kernel_rfl), S0_, M⟩
        clear M
        rintro a54 w43 ⟨f44, x45, rfl, e46, e47, e48, e49, e50, S51, M⟩
        rw [spec_l1number.l1] at M
        refine wp_seq (wp_region_lit (lV 44 (eM (.int .i64 x45) (by exact e50)) (lV 45 (e_gtr (k := .i64) (a := x45) (b := 0) (by kernel_rfl) rfl) (lV 46 (eM (.bool (decide (x45 > 0)))) ?_))))
        by_cases q58 : x45 > 0
        · replace M := ifp q58 M
          refine lG 47 46 (bT q58) (eM (.int .i64 x6) (by exact e47)) (lG 48 46 (bT q58) (eAdd .i64 x6 2) (lG 49 46 (bT q58) (eM (.slice A2 x1.length c3) (by exact e46)) (lG 50 46 (bT q58) (e_len (A := A2) (n := x1.length) (c := c3) Try.underlying23 (by kernel_rfl)) (lG 51 46 (bT q58) (eLt .i64 (IntKind.i64.wrap (x6 + 2)) (x1.length : Int)) (lV 52 (eT (.bool (decide ((IntKind.i64.wrap (x6 + 2)) < (x1.length : Int)))) (bT q58)) (lV 53 (eM (.bool (decide ((IntKind.i64.wrap (x6 + 2)) < (x1.length : Int))))) ?_))))))
          by_cases q59 : (IntKind.i64.wrap (x6 + 2)) < (x1.length : Int)
          · replace M := ifp q59 M
            refine lG 54 53 (bT q59) (eM (.slice A2 x1.length c3) (by exact e46)) (lG 55 53 (bT q59) (eM (.int .i64 x6) (by exact e47)) (lG 56 53 (bT q59) (eAdd .i64 x6 2) ?_))
            obtain ⟨q60, M⟩ := chk M
            obtain ⟨b61, o62, e63⟩ := Rd.addr h4 (show ((IntKind.i64.wrap (x6 + 2))).toNat < x1.length by omega)
            obtain ⟨y64, r65, k66⟩ := Rd.at h4 e63 (getD_some (0 : UInt8) (show ((IntKind.i64.wrap (x6 + 2))).toNat < x1.length by omega))
            obtain rfl := r65
            refine lG 57 53 (bT q59) (eI b61 o62 x1.length c3 1 (IntKind.i64.wrap (x6 + 2)) .i64 Try.underlying23 e63 q60 q59) (lG 58 53 (bT q59) (eL ⟨b61, o62 + ((IntKind.i64.wrap (x6 + 2)) : Int).toNat * 1, none⟩ (.int .u8 ((x1.getD (((IntKind.i64.wrap (x6 + 2))).toNat) (0 : UInt8)).toNat : Int)) Try.underlying5 (hpx (S51.inv.cell (k66 0 _ rfl)))) ?_)
            obtain ⟨t67, u68, M⟩ := bnd M
            refine lcallg (d := 59) (t := 53) rfl (by kernel_rfl) rfl (bT q59) rfl (by kernel_rfl) (eC [.tmp 58] [.int .u8 ((x1.getD (((IntKind.i64.wrap (x6 + 2))).toNat) (0 : UInt8)).toNat : Int)] Try.func45) (spec_l1hex.calls w43 H (x1.getD (((IntKind.i64.wrap (x6 + 2))).toNat) (0 : UInt8))  S51.own0 t67 u68) ?_
            rintro _ w69 ⟨rfl, C70⟩
            refine ⟨_, rfl, ?_⟩
            obtain ⟨S71, K72⟩ := S51.still C70
            refine lG 60 53 (bT q59) (eM (.int .i64 x45) (by exact e50)) (lG 61 53 (bT q59) (eLt .i64 t67 x45) (lV 62 (eT (.bool (decide (t67 < x45))) (bT q59)) (wpList_nil (then_n ?_))))
            by_cases q73 : t67 < x45
            · replace M := ifp q73 M
              refine cT (bT q73) (wp_seq (wp_region_lit (lV 63 (eM (.int .i64 x45) (by exact e50)) (lV 7 (eA (.int .i64 x45)) (wpList_nil (then_n (wp_region_lit ?_)))))))
              refine lV 8 (eA (.int .i64 2)) (wpList_nil (then_n ?_))
              exact ⟨_, x45, 2, rfl, (by exact e46), (by exact e47), (by kernel_rfl), (by kernel_rfl), S71, M⟩
            replace M := ifn q73 M
            refine cF (bF q73) (wp_skip (then_n ?_))
            exact ⟨_, 10, 0, rfl, (by exact e46), (by exact e47), (by exact e48), (by exact e49), S71, M⟩
          replace M := ifn q59 M
          refine lK 53 false (bF q59) ?_
          refine lK 53 false (bF q59) ?_
          refine lK 53 false (bF q59) ?_
          refine lK 53 false (bF q59) ?_
          refine lK 53 false (bF q59) ?_
          refine lK 53 false (bF q59) ?_
          refine lK 53 false (bF q59) ?_
          refine lK 53 false (bF q59) ?_
          refine lV 62 (eF (.bool false) (bF q59)) (wpList_nil (then_n (cond_f rfl (by kernel_rfl) (wp_skip (then_n ?_)))))
          exact ⟨_, 10, 0, rfl, (by exact e46), (by exact e47), (by exact e48), (by exact e49), S51, M⟩
        replace M := ifn q58 M
        refine lK 46 false (bF q58) ?_
        refine lK 46 false (bF q58) ?_
        refine lK 46 false (bF q58) ?_
        refine lK 46 false (bF q58) ?_
        refine lK 46 false (bF q58) ?_
        refine lV 52 (eF (.bool false) (bF q58)) (lV 53 (eM (.bool false)) ?_)
        refine lJ 53 false ?_
        refine lJ 53 false ?_
        refine lJ 53 false ?_
        refine lJ 53 false ?_
        refine lJ 53 false ?_
        refine lJ 53 false ?_
        refine lJ 53 false ?_
        refine lJ 53 false ?_
        refine lV 62 (eF (.bool false)) (wpList_nil (then_n (cond_f rfl (by kernel_rfl) (wp_skip (then_n ?_)))))
        exact ⟨_, 10, 0, rfl, (by exact e46), (by exact e47), (by exact e48), (by exact e49), S51, M⟩
      replace M := ifn q28 M
      refine cF (bF q28) (wp_skip (then_n ?_))
      exact ⟨_, 10, 0, rfl, (by kernel_rfl), (by kernel_rfl), (by kernel_rfl), (by kernel_rfl), S0_, M⟩
    replace M := ifn q27 M
    refine lK 18 false (bF q27) ?_
    refine lK 18 false (bF q27) ?_
    refine lK 18 false (bF q27) ?_
    refine lK 18 false (bF q27) ?_
    refine lK 18 false (bF q27) ?_
    refine lV 24 (eF (.bool false) (bF q27)) (wpList_nil (then_n (cond_f rfl (by kernel_rfl) (wp_skip (then_n ?_)))))
    exact ⟨_, 10, 0, rfl, (by kernel_rfl), (by kernel_rfl), (by kernel_rfl), (by kernel_rfl), S0_, M⟩
  clear M
  rintro a18 w7 ⟨f8, x9, x10, rfl, e11, e12, e13, e14, S15, M⟩
  rw [spec_l1number.l0] at M
  refine wp_seq (wp_region_lit (lV 11 (eA (.int .i64 0)) (wpList_nil (then_n (wp_seq (wp_region_lit (lV 12 (eA (.bool false)) ?_)))))))
  refine wpList_nil (then_n (wp_seq (wp_block ?_)))
  refine wp_loop_g (fun k89 a90 w75 => ∃ (f76 : Nat → Value) (x77 : Int) (x78 : Int) (x79 : Bool), a90 = mk 114 f76 ∧ f76 0 = .slice A2 x1.length c3 ∧ f76 1 = .int .i64 x6 ∧ f76 7 = .int .i64 x9 ∧ f76 8 = .int .i64 x77 ∧ f76 11 = .int .i64 x78 ∧ f76 12 = .bool x79 ∧ St (anyOf []) H w [] H w75 ∧ spec_l1number.l2 k89 x1 x6 x9 x77 x78 x79 = some r) k ⟨_, x10, 0, false, rfl, (by exact e11), (by exact e12), (by exact e13), (by exact e14), (by kernel_rfl), (by kernel_rfl), S15, M⟩ ?_
  clear M
  rintro k89 a90 w75 ⟨f76, x77, x78, x79, rfl, e80, e81, e82, e83, e84, e85, S86, M⟩
  rcases k89 with _ | k91
  · rw [spec_l1number.l2] at M
    cases M
  rw [spec_l1number.l2] at M
  refine wp_seq (wp_seq (wp_region_lit (lV 64 (eM (.int .i64 x6) (by exact e81)) (lV 65 (eM (.int .i64 x77) (by exact e83)) (lV 66 (eAdd .i64 x6 x77) (lV 67 (eM (.slice A2 x1.length c3) (by exact e80)) (lV 68 (e_len (A := A2) (n := x1.length) (c := c3) Try.underlying23 (by kernel_rfl)) ?_)))))))
  refine lV 69 (eLt .i64 (IntKind.i64.wrap (x6 + x77)) (x1.length : Int)) (lV 70 (eM (.bool (decide ((IntKind.i64.wrap (x6 + x77)) < (x1.length : Int))))) ?_)
  by_cases q92 : (IntKind.i64.wrap (x6 + x77)) < (x1.length : Int)
  · replace M := ifp q92 M
    refine lG 71 70 (bT q92) (eM (.slice A2 x1.length c3) (by exact e80)) (lG 72 70 (bT q92) (eM (.int .i64 x6) (by exact e81)) (lG 73 70 (bT q92) (eM (.int .i64 x77) (by exact e83)) (lG 74 70 (bT q92) (eAdd .i64 x6 x77) ?_)))
    obtain ⟨q93, M⟩ := chk M
    obtain ⟨b94, o95, e96⟩ := Rd.addr h4 (show ((IntKind.i64.wrap (x6 + x77))).toNat < x1.length by omega)
    obtain ⟨y97, r98, k99⟩ := Rd.at h4 e96 (getD_some (0 : UInt8) (show ((IntKind.i64.wrap (x6 + x77))).toNat < x1.length by omega))
    obtain rfl := r98
    refine lG 75 70 (bT q92) (eI b94 o95 x1.length c3 1 (IntKind.i64.wrap (x6 + x77)) .i64 Try.underlying23 e96 q93 q92) (lG 76 70 (bT q92) (eL ⟨b94, o95 + ((IntKind.i64.wrap (x6 + x77)) : Int).toNat * 1, none⟩ (.int .u8 ((x1.getD (((IntKind.i64.wrap (x6 + x77))).toNat) (0 : UInt8)).toNat : Int)) Try.underlying5 (hpx (S86.inv.cell (k99 0 _ rfl)))) ?_)
    obtain ⟨t100, u101, M⟩ := bnd M
    refine lcallg (d := 77) (t := 70) rfl (by kernel_rfl) rfl (bT q92) rfl (by kernel_rfl) (eC [.tmp 76] [.int .u8 ((x1.getD (((IntKind.i64.wrap (x6 + x77))).toNat) (0 : UInt8)).toNat : Int)] Try.func45) (spec_l1hex.calls w75 H (x1.getD (((IntKind.i64.wrap (x6 + x77))).toNat) (0 : UInt8))  S86.own0 t100 u101) ?_
    rintro _ w102 ⟨rfl, C103⟩
    refine ⟨_, rfl, ?_⟩
    obtain ⟨S104, K105⟩ := S86.still C103
    refine lG 78 70 (bT q92) (eM (.int .i64 x9) (by exact e82)) (lG 79 70 (bT q92) (eLt .i64 t100 x9) (lV 80 (eT (.bool (decide (t100 < x9))) (bT q92)) (wpList_nil (then_n ?_))))
    by_cases q106 : t100 < x9
    · replace M := ifp q106 M
      refine cT (bT q106) (wp_skip (then_n (wp_block (wp_seq (wp_region_lit (lV 81 (eM (.int .i64 x78) (by exact e84)) (lV 82 (eM (.int .i64 x9) (by exact e82)) ?_)))))))
      refine lV 83 (e_mul (k := .i64) (a := x78) (b := x9) (by kernel_rfl) (by kernel_rfl)) (lV 84 (eM (.slice A2 x1.length c3) (by exact e80)) (lV 85 (eM (.int .i64 x6) (by exact e81)) (lV 86 (eM (.int .i64 x77) (by exact e83)) (lV 87 (eAdd .i64 x6 x77) ?_))))
      obtain ⟨b107, o108, e109⟩ := Rd.addr h4 (show ((IntKind.i64.wrap (x6 + x77))).toNat < x1.length by omega)
      obtain ⟨y110, r111, k112⟩ := Rd.at h4 e109 (getD_some (0 : UInt8) (show ((IntKind.i64.wrap (x6 + x77))).toNat < x1.length by omega))
      obtain rfl := r111
      refine lV 88 (eI b107 o108 x1.length c3 1 (IntKind.i64.wrap (x6 + x77)) .i64 Try.underlying23 e109 q93 q92) (lV 89 (eL ⟨b107, o108 + ((IntKind.i64.wrap (x6 + x77)) : Int).toNat * 1, none⟩ (.int .u8 ((x1.getD (((IntKind.i64.wrap (x6 + x77))).toNat) (0 : UInt8)).toNat : Int)) Try.underlying5 (hpx (S104.inv.cell (k112 0 _ rfl)))) ?_)
      obtain ⟨t113, u114, M⟩ := bnd M
      refine lC 90 (eC [.tmp 89] [.int .u8 ((x1.getD (((IntKind.i64.wrap (x6 + x77))).toNat) (0 : UInt8)).toNat : Int)] Try.func45) (spec_l1hex.calls w102 H (x1.getD (((IntKind.i64.wrap (x6 + x77))).toNat) (0 : UInt8))  S104.own0 t113 u114) ?_
      rintro _ w115 ⟨rfl, C116⟩
      refine ⟨_, rfl, ?_⟩
      obtain ⟨S117, K118⟩ := S104.still C116
      refine lV 91 (eAdd .i64 (IntKind.i64.wrap (x78 * x9)) t113) (lV 11 (eA (.int .i64 (IntKind.i64.wrap ((IntKind.i64.wrap (x78 * x9)) + t113)))) (wpList_nil (then_n ?_)))
      refine wp_seq_cut (fun a141 w119 => ∃ (k143 : Nat), k143 ≤ k91 ∧ ∃ (f120 : Nat → Value) (x121 : Int) (x122 : Bool), a141 = mk 114 f120 ∧ f120 0 = .slice A2 x1.length c3 ∧ f120 1 = .int .i64 x6 ∧ f120 7 = .int .i64 x9 ∧ f120 8 = .int .i64 x77 ∧ f120 11 = .int .i64 x121 ∧ f120 12 = .bool x122 ∧ f120 71 = .slice A2 x1.length c3 ∧ f120 72 = .int .i64 x6 ∧ f120 73 = .int .i64 x77 ∧ f120 74 = .int .i64 (IntKind.i64.wrap (x6 + x77)) ∧ f120 75 = .pointer (some ⟨b94, o95 + ((IntKind.i64.wrap (x6 + x77)) : Int).toNat * 1, none⟩) ∧ f120 76 = .int .u8 ((x1.getD (((IntKind.i64.wrap (x6 + x77))).toNat) (0 : UInt8)).toNat : Int) ∧ f120 77 = .int .i64 t100 ∧ f120 78 = .int .i64 x9 ∧ f120 79 = .bool (decide (t100 < x9)) ∧ St (anyOf []) H w [] H w119 ∧ spec_l1number.l3 k143 x1 x6 x9 x77 x121 x122 = some r) ?_ ?_
      · refine wp_seq (wp_region_lit (lV 92 (eM (.int .i64 (IntKind.i64.wrap ((IntKind.i64.wrap (x78 * x9)) + t113)))) (lV 93 (e_gtr (k := .i64) (a := (IntKind.i64.wrap ((IntKind.i64.wrap (x78 * x9)) + t113))) (b := 1000000000000000) (by kernel_rfl) rfl) (wpList_nil (then_n ?_)))))
        by_cases q144 : (IntKind.i64.wrap ((IntKind.i64.wrap (x78 * x9)) + t113)) > 1000000000000000
        · replace M := ifp q144 M
          refine cT (bT q144) (wp_seq (wp_region_lit (lV 12 (eA (.bool true)) (wpList_nil (then_n (wp_region_lit (lV 11 (eA (.int .i64 1000000000000000)) ?_)))))))
          refine wpList_nil (then_n ?_)
          exact ⟨k91, (by omega), _, 1000000000000000, true, rfl, (by exact e80), (by exact e81), (by exact e82), (by exact e83), (by kernel_rfl), (by kernel_rfl), (by kernel_rfl), (by kernel_rfl), (by kernel_rfl), (by kernel_rfl), (by kernel_rfl), (by kernel_rfl), (by kernel_rfl), (by kernel_rfl), (by kernel_rfl), S117, M⟩
        replace M := ifn q144 M
        refine cF (bF q144) (wp_skip (then_n ?_))
        exact ⟨k91, (by omega), _, (IntKind.i64.wrap ((IntKind.i64.wrap (x78 * x9)) + t113)), x79, rfl, (by exact e80), (by exact e81), (by exact e82), (by exact e83), (by kernel_rfl), (by exact e85), (by kernel_rfl), (by kernel_rfl), (by kernel_rfl), (by kernel_rfl), (by kernel_rfl), (by kernel_rfl), (by kernel_rfl), (by kernel_rfl), (by kernel_rfl), S117, M⟩
      clear M
      rintro a141 w119 ⟨k143, z145, f120, x121, x122, rfl, e123, e124, e125, e126, e127, e128, e129, e130, e131, e132, e133, e134, e135, e136, e137, S138, M⟩
      rcases k143 with _ | k142
      · rw [spec_l1number.l3] at M
        cases M
      rw [spec_l1number.l3] at M
      refine wp_region_lit (lV 94 (eM (.int .i64 x77) (by exact e126)) (lV 95 (eAdd .i64 x77 1) (lV 8 (eA (.int .i64 (IntKind.i64.wrap (x77 + 1)))) (wpList_nil (inb_n (then_n ?_))))))
      exact ⟨k142, (by omega), _, (IntKind.i64.wrap (x77 + 1)), x121, x122, rfl, (by exact e123), (by exact e124), (by exact e125), (by kernel_rfl), (by exact e127), (by exact e128), S138, M⟩
    replace M := ifn q106 M
    refine cF (bF q106) (wp_exit (then_e (then_e (inb_hit (then_n (wp_seq (wp_seq ?_)))))))
    refine wp_region_lit (lV 96 (eM (.int .i64 x6) (by exact e81)) (lV 97 (eM (.int .i64 x77) (by exact e83)) (lV 98 (eAdd .i64 x6 x77) (lV 99 (eM (.slice A2 x1.length c3) (by exact e80)) (lV 100 (e_len (A := A2) (n := x1.length) (c := c3) Try.underlying23 (by kernel_rfl)) (lV 101 (eLt .i64 (IntKind.i64.wrap (x6 + x77)) (x1.length : Int)) (lV 102 (eM (.bool (decide ((IntKind.i64.wrap (x6 + x77)) < (x1.length : Int))))) ?_)))))))
    refine lG 103 102 (bT q92) (eM (.slice A2 x1.length c3) (by exact e80)) (lG 104 102 (bT q92) (eM (.int .i64 x6) (by exact e81)) (lG 105 102 (bT q92) (eM (.int .i64 x77) (by exact e83)) (lG 106 102 (bT q92) (eAdd .i64 x6 x77) ?_)))
    obtain ⟨b146, o147, e148⟩ := Rd.addr h4 (show ((IntKind.i64.wrap (x6 + x77))).toNat < x1.length by omega)
    obtain ⟨y149, r150, k151⟩ := Rd.at h4 e148 (getD_some (0 : UInt8) (show ((IntKind.i64.wrap (x6 + x77))).toNat < x1.length by omega))
    obtain rfl := r150
    refine lG 107 102 (bT q92) (eI b146 o147 x1.length c3 1 (IntKind.i64.wrap (x6 + x77)) .i64 Try.underlying23 e148 q93 q92) (lG 108 102 (bT q92) (eL ⟨b146, o147 + ((IntKind.i64.wrap (x6 + x77)) : Int).toNat * 1, none⟩ (.int .u8 ((x1.getD (((IntKind.i64.wrap (x6 + x77))).toNat) (0 : UInt8)).toNat : Int)) Try.underlying5 (hpx (S104.inv.cell (k151 0 _ rfl)))) ?_)
    obtain ⟨t152, u153, M⟩ := bnd M
    refine lcallg (d := 109) (t := 102) rfl (by kernel_rfl) rfl (bT q92) rfl (by kernel_rfl) (eC [.tmp 108] [.int .u8 ((x1.getD (((IntKind.i64.wrap (x6 + x77))).toNat) (0 : UInt8)).toNat : Int)] Try.func26) (spec_l1alnum.calls w102 H (x1.getD (((IntKind.i64.wrap (x6 + x77))).toNat) (0 : UInt8))  S104.own0 t152 u153) ?_
    rintro _ w154 ⟨rfl, C155⟩
    refine ⟨_, rfl, ?_⟩
    obtain ⟨S156, K157⟩ := S104.still C155
    refine lV 110 (eT (.bool t152) (bT q92)) (wpList_nil (then_n ?_))
    by_cases q158 : t152 = true
    · replace M := ifp q158 M
      refine cT (bvt q158 (by kernel_rfl)) (wp_seq (wp_region_lit (lV 4 (eA (.int .i64 0)) (lV 5 (eA (.int .i64 0)) (lV 6 (eA (.int .i64 2)) (wpList_nil (then_n ?_)))))))
      refine wp_ret (then_r ?_)
      obtain rfl := Option.some.inj M
      exact ret3 rfl rfl rfl rfl (show _ = .int .i64 0 from (by kernel_rfl)) (show _ = .int .i64 0 from (by kernel_rfl)) (show _ = .int .i64 2 from (by kernel_rfl)) ⟨rfl, S156.chg⟩
    replace M := ifn q158 M
    refine cF (bvf q158 (by kernel_rfl)) (wp_skip (then_n (wp_seq (wp_seq (wp_region_lit (lV 111 (eM (.bool x79) (by exact e85)) (wpList_nil ?_)))))))
    refine then_n ?_
    by_cases q159 : x79 = true
    · replace M := ifp q159 M
      refine cT (bvt q159 (by kernel_rfl)) (wp_seq (wp_region_lit (lV 4 (eA (.int .i64 0)) (lV 5 (eA (.int .i64 0)) (lV 6 (eA (.int .i64 3)) (wpList_nil (then_n ?_)))))))
      refine wp_ret (then_r ?_)
      obtain rfl := Option.some.inj M
      exact ret3 rfl rfl rfl rfl (show _ = .int .i64 0 from (by kernel_rfl)) (show _ = .int .i64 0 from (by kernel_rfl)) (show _ = .int .i64 3 from (by kernel_rfl)) ⟨rfl, S156.chg⟩
    replace M := ifn q159 M
    refine cF (bvf q159 (by kernel_rfl)) (wp_skip (then_n (wp_seq (wp_region_lit (lV 112 (eM (.int .i64 x78) (by exact e84)) (lV 113 (eM (.int .i64 x77) (by exact e83)) (lV 4 (eA (.int .i64 x78)) ?_)))))))
    refine lV 5 (eA (.int .i64 x77)) (lV 6 (eA (.int .i64 0)) (wpList_nil (then_n (wp_ret ?_))))
    obtain rfl := Option.some.inj M
    exact ret3 rfl rfl rfl rfl (show _ = .int .i64 x78 from (by kernel_rfl)) (show _ = .int .i64 x77 from (by kernel_rfl)) (show _ = .int .i64 0 from (by kernel_rfl)) ⟨rfl, S156.chg⟩
  replace M := ifn q92 M
  refine lK 70 false (bF q92) ?_
  refine lK 70 false (bF q92) ?_
  refine lK 70 false (bF q92) ?_
  refine lK 70 false (bF q92) ?_
  refine lK 70 false (bF q92) ?_
  refine lK 70 false (bF q92) ?_
  refine lK 70 false (bF q92) ?_
  refine lK 70 false (bF q92) ?_
  refine lK 70 false (bF q92) ?_
  refine lV 80 (eF (.bool false) (bF q92)) (wpList_nil (then_n (cond_f rfl (by kernel_rfl) (wp_exit (then_e (then_e (inb_hit ?_)))))))
  refine then_n (wp_seq (wp_seq (wp_region_lit (lV 96 (eM (.int .i64 x6) (by exact e81)) (lV 97 (eM (.int .i64 x77) (by exact e83)) (lV 98 (eAdd .i64 x6 x77) (lV 99 (eM (.slice A2 x1.length c3) (by exact e80)) ?_)))))))
  refine lV 100 (e_len (A := A2) (n := x1.length) (c := c3) Try.underlying23 (by kernel_rfl)) (lV 101 (eLt .i64 (IntKind.i64.wrap (x6 + x77)) (x1.length : Int)) (lV 102 (eM (.bool (decide ((IntKind.i64.wrap (x6 + x77)) < (x1.length : Int))))) ?_))
  refine lK 102 false (bF q92) ?_
  refine lK 102 false (bF q92) ?_
  refine lK 102 false (bF q92) ?_
  refine lK 102 false (bF q92) ?_
  refine lK 102 false (bF q92) ?_
  refine lK 102 false (bF q92) ?_
  refine lK 102 false (bF q92) ?_
  refine lV 110 (eF (.bool false) (bF q92)) (wpList_nil (then_n (cond_f rfl (by kernel_rfl) (wp_skip (then_n (wp_seq (wp_seq ?_)))))))
  refine wp_region_lit (lV 111 (eM (.bool x79) (by exact e85)) (wpList_nil (then_n ?_)))
  by_cases q160 : x79 = true
  · replace M := ifp q160 M
    refine cT (bvt q160 (by kernel_rfl)) (wp_seq (wp_region_lit (lV 4 (eA (.int .i64 0)) (lV 5 (eA (.int .i64 0)) (lV 6 (eA (.int .i64 3)) (wpList_nil (then_n ?_)))))))
    refine wp_ret (then_r ?_)
    obtain rfl := Option.some.inj M
    exact ret3 rfl rfl rfl rfl (show _ = .int .i64 0 from (by kernel_rfl)) (show _ = .int .i64 0 from (by kernel_rfl)) (show _ = .int .i64 3 from (by kernel_rfl)) ⟨rfl, S86.chg⟩
  replace M := ifn q160 M
  refine cF (bvf q160 (by kernel_rfl)) (wp_skip (then_n (wp_seq (wp_region_lit (lV 112 (eM (.int .i64 x78) (by exact e84)) (lV 113 (eM (.int .i64 x77) (by exact e83)) (lV 4 (eA (.int .i64 x78)) ?_)))))))
  refine lV 5 (eA (.int .i64 x77)) (lV 6 (eA (.int .i64 0)) (wpList_nil (then_n (wp_ret ?_))))
  obtain rfl := Option.some.inj M
  exact ret3 rfl rfl rfl rfl (show _ = .int .i64 x78 from (by kernel_rfl)) (show _ = .int .i64 x77 from (by kernel_rfl)) (show _ = .int .i64 0 from (by kernel_rfl)) ⟨rfl, S86.chg⟩

/-! spec_l1symbol -/
def spec_l1symbol.l0 : Nat → UInt8 → Int → Option Bool
  | 0, _, _ => none
  | k13 + 1, x1, x4 => (if x4 < (([43, 45, 42, 47, 92, 94, 60, 62, 61, 126, 58, 46, 63, 64, 35, 38, 36] : List UInt8).length : Int) then (if 0 ≤ x4 then (if ((([43, 45, 42, 47, 92, 94, 60, 62, 61, 126, 58, 46, 63, 64, 35, 38, 36] : List UInt8).getD (x4 : Int).toNat (0 : UInt8)).toNat : Int) = (x1.toNat : Int) then some true else (spec_l1symbol.l0 k13 x1 (IntKind.i64.wrap (x4 + 1)))) else none) else some false)
def spec_l1symbol.f (k : Nat) (x1 : UInt8) : Option Bool := (spec_l1symbol.l0 k x1 0)
theorem spec_l1symbol.calls (k : Nat) (w : World) (H : Hp) (x1 : UInt8) (S : Own [] H w) (r : Bool) (M : spec_l1symbol.f k x1 = some r) :
    Calls Try.prog 25 #[.int .u8 (x1.toNat : Int)] w (fun e e_w => e = .returned (.bool r) ∧ Chg no w e_w) := by
  rw [spec_l1symbol.f] at M
  refine enter (l := [.int .u8 (x1.toNat : Int)]) 16 Try.func25 rfl rfl rfl ?_
  have S0_ := S.st
  refine wp_seq (wp_region_lit (lV 2 (eA (.bool false)) (wpList_nil (then_n (wp_seq (wp_region_lit (lV 3 (eA (str ([43, 45, 42, 47, 92, 94, 60, 62, 61, 126, 58, 46, 63, 64, 35, 38, 36] : List UInt8))) ?_)))))))
  refine wpList_nil (then_n (wp_seq (wp_seq (wp_region_lit (lV 4 (eA (.int .i64 0)) (wpList_nil (then_n ?_)))))))
  refine wp_block ?_
  refine wp_loop_g (fun k11 a12 w2 => ∃ (f3 : Nat → Value) (x4 : Int), a12 = mk 16 f3 ∧ f3 0 = .int .u8 (x1.toNat : Int) ∧ f3 3 = str ([43, 45, 42, 47, 92, 94, 60, 62, 61, 126, 58, 46, 63, 64, 35, 38, 36] : List UInt8) ∧ f3 4 = .int .i64 x4 ∧ St (anyOf []) H w [] H w2 ∧ spec_l1symbol.l0 k11 x1 x4 = some r) k ⟨_, 0, rfl, (by kernel_rfl), (by kernel_rfl), (by kernel_rfl), S0_, M⟩ ?_
  clear M
  rintro k11 a12 w2 ⟨f3, x4, rfl, e5, e6, e7, S8, M⟩
  rcases k11 with _ | k13
  · rw [spec_l1symbol.l0] at M
    cases M
  rw [spec_l1symbol.l0] at M
  refine wp_seq (wp_seq (wp_region_lit (lV 5 (eM (.int .i64 x4) (by exact e7)) (lV 6 (eM (str ([43, 45, 42, 47, 92, 94, 60, 62, 61, 126, 58, 46, 63, 64, 35, 38, 36] : List UInt8)) (by exact e6)) (lV 7 (e_slen (p := ([43, 45, 42, 47, 92, 94, 60, 62, 61, 126, 58, 46, 63, 64, 35, 38, 36] : List UInt8)) Try.underlying9 (by kernel_rfl)) (lV 8 (eLt .i64 x4 (([43, 45, 42, 47, 92, 94, 60, 62, 61, 126, 58, 46, 63, 64, 35, 38, 36] : List UInt8).length : Int)) (wpList_nil ?_)))))))
  refine then_n ?_
  by_cases q14 : x4 < (([43, 45, 42, 47, 92, 94, 60, 62, 61, 126, 58, 46, 63, 64, 35, 38, 36] : List UInt8).length : Int)
  · replace M := ifp q14 M
    refine cT (bT q14) (wp_skip (then_n (wp_seq (wp_block (wp_seq (wp_region_lit (lV 11 (eM (str ([43, 45, 42, 47, 92, 94, 60, 62, 61, 126, 58, 46, 63, 64, 35, 38, 36] : List UInt8)) (by exact e6)) ?_)))))))
    refine lV 12 (eM (.int .i64 x4) (by exact e7)) ?_
    obtain ⟨q15, M⟩ := chk M
    refine lV 13 (e_sindex (p := ([43, 45, 42, 47, 92, 94, 60, 62, 61, 126, 58, 46, 63, 64, 35, 38, 36] : List UInt8)) (i := x4) (k := .i64) Try.underlying9 (by kernel_rfl) (by kernel_rfl) q15 q14) (lV 14 (eM (.int .u8 (x1.toNat : Int)) (by exact e5)) (lV 15 (eEq .u8 ((([43, 45, 42, 47, 92, 94, 60, 62, 61, 126, 58, 46, 63, 64, 35, 38, 36] : List UInt8).getD (x4 : Int).toNat (0 : UInt8)).toNat : Int) (x1.toNat : Int)) (wpList_nil (then_n ?_))))
    by_cases q16 : ((([43, 45, 42, 47, 92, 94, 60, 62, 61, 126, 58, 46, 63, 64, 35, 38, 36] : List UInt8).getD (x4 : Int).toNat (0 : UInt8)).toNat : Int) = (x1.toNat : Int)
    · replace M := ifp q16 M
      refine cT (bT q16) (wp_seq (wp_region_lit (lV 2 (eA (.bool true)) (wpList_nil (then_n (wp_ret (inb_r ?_)))))))
      refine then_r (then_r (inb_r (then_r ?_)))
      obtain rfl := Option.some.inj M
      exact ret1 rfl rfl  (show _ = .bool true from (by kernel_rfl)) ⟨rfl, S8.chg⟩
    replace M := ifn q16 M
    refine cF (bF q16) (wp_skip (inb_n (then_n (wp_region_lit (lV 9 (eM (.int .i64 x4) (by exact e7)) (lV 10 (eAdd .i64 x4 1) (lV 4 (eA (.int .i64 (IntKind.i64.wrap (x4 + 1)))) ?_)))))))
    refine wpList_nil (then_n ?_)
    exact ⟨k13, (by omega), _, (IntKind.i64.wrap (x4 + 1)), rfl, (by exact e5), (by exact e6), (by kernel_rfl), S8, M⟩
  replace M := ifn q14 M
  refine cF (bF q14) (wp_exit (then_e (then_e (inb_hit (then_n (wp_seq (wp_region_lit ?_)))))))
  refine lV 2 (eA (.bool false)) (wpList_nil (then_n (wp_ret ?_)))
  obtain rfl := Option.some.inj M
  exact ret1 rfl rfl  (show _ = .bool false from (by kernel_rfl)) ⟨rfl, S8.chg⟩
end Go.Proofs.Ytdkbfcmekppnmaa
