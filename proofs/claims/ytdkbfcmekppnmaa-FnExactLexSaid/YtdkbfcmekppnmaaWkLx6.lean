import Derived.Test.YtdkbfcmekppnmaaWkLx5
namespace Go.Proofs.Ytdkbfcmekppnmaa
open Go.Sx Go.Sy
attribute [local irreducible] Go.wpList Go.wpStill Go.wpQuiet Go.Code.wp
set_option maxRecDepth 100000
set_option maxHeartbeats 1000000
set_option linter.unusedVariables false
set_option linter.unusedSimpArgs false

/-! laws_markTokenS -/
def laws_markTokenS_2.l0 : Nat → (List Token) → Int → Int → (List Token) → Option (Int × (List Token))
  | 0, _, _, _, _ => none
  | k24 + 1, x1, x11, x12, x14 => (if x12 < (x1.length : Int) then (if 0 ≤ x12 then ((laws_markByteS_2.f k24 (((((x14.set ((x12).toNat) ({(x14.getD ((x12).toNat) z37) with kind := x11})).set ((x12).toNat) ({((x14.set ((x12).toNat) ({(x14.getD ((x12).toNat) z37) with kind := x11})).getD ((x12).toNat) z37) with place := (IntKind.i64.wrap (x11 + 1))})).set ((x12).toNat) ({(((x14.set ((x12).toNat) ({(x14.getD ((x12).toNat) z37) with kind := x11})).set ((x12).toNat) ({((x14.set ((x12).toNat) ({(x14.getD ((x12).toNat) z37) with kind := x11})).getD ((x12).toNat) z37) with place := (IntKind.i64.wrap (x11 + 1))})).getD ((x12).toNat) z37) with size := (IntKind.i64.wrap ((IntKind.i64.wrap (x11 + 1)) + 1))})).getD ((x12).toNat) z37).text) (IntKind.i64.wrap ((IntKind.i64.wrap ((IntKind.i64.wrap (x11 + 1)) + 1)) + 1))).bind fun t81 => (laws_markTokenS_2.l0 k24 x1 (IntKind.i64.wrap (t81.1 + 1)) (IntKind.i64.wrap (x12 + 1)) (((((x14.set ((x12).toNat) ({(x14.getD ((x12).toNat) z37) with kind := x11})).set ((x12).toNat) ({((x14.set ((x12).toNat) ({(x14.getD ((x12).toNat) z37) with kind := x11})).getD ((x12).toNat) z37) with place := (IntKind.i64.wrap (x11 + 1))})).set ((x12).toNat) ({(((x14.set ((x12).toNat) ({(x14.getD ((x12).toNat) z37) with kind := x11})).set ((x12).toNat) ({((x14.set ((x12).toNat) ({(x14.getD ((x12).toNat) z37) with kind := x11})).getD ((x12).toNat) z37) with place := (IntKind.i64.wrap (x11 + 1))})).getD ((x12).toNat) z37) with size := (IntKind.i64.wrap ((IntKind.i64.wrap (x11 + 1)) + 1))})).set ((x12).toNat) ({((((x14.set ((x12).toNat) ({(x14.getD ((x12).toNat) z37) with kind := x11})).set ((x12).toNat) ({((x14.set ((x12).toNat) ({(x14.getD ((x12).toNat) z37) with kind := x11})).getD ((x12).toNat) z37) with place := (IntKind.i64.wrap (x11 + 1))})).set ((x12).toNat) ({(((x14.set ((x12).toNat) ({(x14.getD ((x12).toNat) z37) with kind := x11})).set ((x12).toNat) ({((x14.set ((x12).toNat) ({(x14.getD ((x12).toNat) z37) with kind := x11})).getD ((x12).toNat) z37) with place := (IntKind.i64.wrap (x11 + 1))})).getD ((x12).toNat) z37) with size := (IntKind.i64.wrap ((IntKind.i64.wrap (x11 + 1)) + 1))})).getD ((x12).toNat) z37) with text := t81.2})).set ((x12).toNat) ({(((((x14.set ((x12).toNat) ({(x14.getD ((x12).toNat) z37) with kind := x11})).set ((x12).toNat) ({((x14.set ((x12).toNat) ({(x14.getD ((x12).toNat) z37) with kind := x11})).getD ((x12).toNat) z37) with place := (IntKind.i64.wrap (x11 + 1))})).set ((x12).toNat) ({(((x14.set ((x12).toNat) ({(x14.getD ((x12).toNat) z37) with kind := x11})).set ((x12).toNat) ({((x14.set ((x12).toNat) ({(x14.getD ((x12).toNat) z37) with kind := x11})).getD ((x12).toNat) z37) with place := (IntKind.i64.wrap (x11 + 1))})).getD ((x12).toNat) z37) with size := (IntKind.i64.wrap ((IntKind.i64.wrap (x11 + 1)) + 1))})).set ((x12).toNat) ({((((x14.set ((x12).toNat) ({(x14.getD ((x12).toNat) z37) with kind := x11})).set ((x12).toNat) ({((x14.set ((x12).toNat) ({(x14.getD ((x12).toNat) z37) with kind := x11})).getD ((x12).toNat) z37) with place := (IntKind.i64.wrap (x11 + 1))})).set ((x12).toNat) ({(((x14.set ((x12).toNat) ({(x14.getD ((x12).toNat) z37) with kind := x11})).set ((x12).toNat) ({((x14.set ((x12).toNat) ({(x14.getD ((x12).toNat) z37) with kind := x11})).getD ((x12).toNat) z37) with place := (IntKind.i64.wrap (x11 + 1))})).getD ((x12).toNat) z37) with size := (IntKind.i64.wrap ((IntKind.i64.wrap (x11 + 1)) + 1))})).getD ((x12).toNat) z37) with text := t81.2})).getD ((x12).toNat) z37) with n := t81.1})))) else none) else some (x11, x14))
def laws_markTokenS_2.f (k : Nat) (x1 : List Token) (x6 : Int) : Option (Int × (List Token)) := (laws_markTokenS_2.l0 k x1 x6 0 x1)
theorem laws_markTokenS_2.calls (k : Nat) (w : World) (H : Hp) (x1 : List Token) (A2 : Option Addr) (c3 : Nat) (F5 : Foot) (x6 : Int) (h4 : Row st37 37 H (hp w) F5 A2 c3 x1) (S : Own [F5] H w) (r : Int × (List Token)) (M : laws_markTokenS_2.f k x1 x6 = some r) :
    Calls Try.prog 14 #[.slice A2 x1.length c3, .int .i64 x6] w (fun e e_w => ∃ (F_1 : Foot) (H_ : Hp), e = .returned (.int .i64 r.1) ∧ r.2.length = x1.length ∧ Row st37 37 H_ (hp e_w) F_1 A2 c3 r.2 ∧ St (anyOf [F5]) H w [F_1] H_ e_w) := by
  rw [laws_markTokenS_2.f] at M
  refine enter (l := [.slice A2 x1.length c3, .int .i64 x6]) 48 Try.func14 rfl rfl rfl ?_
  have S0_ := S.st
  refine wp_seq (wp_region_lit (lV 4 (eA (.int .i64 0)) (wpList_nil (then_n (wp_seq (wp_seq (wp_region_lit ?_)))))))
  refine lV 5 (eA (.int .i64 0)) (wpList_nil (then_n (wp_block ?_)))
  refine wp_loop_g (fun k22 a23 w7 => ∃ (f8 : Nat → Value) (H9 : Hp) (x11 : Int) (x12 : Int) (F13 : Foot) (x14 : List Token), a23 = mk 48 f8 ∧ f8 0 = .slice A2 x1.length c3 ∧ f8 1 = .int .i64 x11 ∧ f8 5 = .int .i64 x12 ∧ Row st37 37 H9 (hp w7) F13 A2 c3 x14 ∧ x14.length = x1.length ∧ Ext H H9 ∧ St (anyOf [F5]) H w [F13] H9 w7 ∧ laws_markTokenS_2.l0 k22 x1 x11 x12 x14 = some r) k ⟨_, H, x6, 0, F5, x1, rfl, (by kernel_rfl), (by kernel_rfl), (by kernel_rfl), h4, rfl, (Ext.refl _), S0_, M⟩ ?_
  clear M
  rintro k22 a23 w7 ⟨f8, H9, x11, x12, F13, x14, rfl, e16, e17, e18, h4, n15, Y10, S19, M⟩
  rcases k22 with _ | k24
  · rw [laws_markTokenS_2.l0] at M
    cases M
  rw [laws_markTokenS_2.l0] at M
  refine wp_seq (wp_seq (wp_region_lit (lV 6 (eM (.int .i64 x12) (by exact e18)) (lV 7 (eM (.slice A2 x1.length c3) (by exact e16)) (lV 8 (e_len (A := A2) (n := x1.length) (c := c3) Try.underlying27 (by kernel_rfl)) (lV 9 (eLt .i64 x12 (x1.length : Int)) (wpList_nil ?_)))))))
  refine then_n ?_
  by_cases q25 : x12 < (x1.length : Int)
  · replace M := ifp q25 M
    refine cT (bT q25) (wp_skip (then_n (wp_seq (wp_block (wp_seq (wp_region_lit (lV 12 (eM (.slice A2 x1.length c3) (by exact e16)) ?_)))))))
    refine lV 13 (eM (.int .i64 x12) (by exact e18)) (lV 14 (eM (.int .i64 x11) (by exact e17)) ?_)
    obtain ⟨q26, M⟩ := chk M
    obtain ⟨b27, e29⟩ := Row.addr h4 (show (x12).toNat < x14.length by have : x14.length = x1.length := n15; omega)
    refine lV 15 (eI b27 0 x1.length c3 5 x12 .i64 Try.underlying27 e29 q26 q25) (lV 16 (eD b27 (0 + (x12 : Int).toNat * 5) 0 1 Try.underlying37) ?_)
    have S30 := S19.unit
    have S31 := S30.pull (F := F13) (Fr := [no]) 1 rfl rfl
    refine lE (e_setpart (d := st37) (b := b27) (i := (x12).toNat) (j := 0) (v := .int .i64 x11) (vs := [.int .i64 x11]) (yv := {(x14.getD ((x12).toNat) z37) with kind := x11}) S31 (by kernel_rfl) e29 (by kernel_rfl) rfl (by kernel_rfl) h4 (getD_some z37 (show (x12).toNat < x14.length by have : x14.length = x1.length := n15; omega)) (Nat.le_of_ble_eq_true rfl) (List.forall_mem_cons.2 ⟨rfl, (fun _ h_ => by cases h_)⟩) (fun _ _ _ o_ => st37_u0 x11 o_)) ?_
    rintro w32 ⟨F34, h33, S35, K36⟩
    clear h4
    refine wpList_nil (then_n (wp_seq (wp_region_lit (lV 17 (eM (.int .i64 x11) (by exact e17)) (lV 18 (eAdd .i64 x11 1) (lV 1 (eA (.int .i64 (IntKind.i64.wrap (x11 + 1)))) (wpList_nil ?_)))))))
    refine then_n (wp_seq (wp_region_lit (lV 19 (eM (.slice A2 x1.length c3) (by exact e16)) (lV 20 (eM (.int .i64 x12) (by exact e18)) (lV 21 (eM (.int .i64 (IntKind.i64.wrap (x11 + 1)))) ?_)))))
    obtain ⟨b37, e39⟩ := Row.addr h33 (show (x12).toNat < (x14.set ((x12).toNat) ({(x14.getD ((x12).toNat) z37) with kind := x11})).length by have : (x14.set ((x12).toNat) ({(x14.getD ((x12).toNat) z37) with kind := x11})).length = x1.length := (List.length_set.trans n15); omega)
    refine lV 22 (eI b37 0 x1.length c3 5 x12 .i64 Try.underlying27 e39 q26 q25) (lV 23 (eD b37 (0 + (x12 : Int).toNat * 5) 1 1 Try.underlying37) ?_)
    have S40 := S35.unit
    have S41 := S40.pull (F := F34) (Fr := [no]) 1 rfl rfl
    refine lE (e_setpart (d := st37) (b := b37) (i := (x12).toNat) (j := 1) (v := .int .i64 (IntKind.i64.wrap (x11 + 1))) (vs := [.int .i64 (IntKind.i64.wrap (x11 + 1))]) (yv := {((x14.set ((x12).toNat) ({(x14.getD ((x12).toNat) z37) with kind := x11})).getD ((x12).toNat) z37) with place := (IntKind.i64.wrap (x11 + 1))}) S41 (by kernel_rfl) e39 (by kernel_rfl) rfl (by kernel_rfl) h33 (getD_some z37 (show (x12).toNat < (x14.set ((x12).toNat) ({(x14.getD ((x12).toNat) z37) with kind := x11})).length by have : (x14.set ((x12).toNat) ({(x14.getD ((x12).toNat) z37) with kind := x11})).length = x1.length := (List.length_set.trans n15); omega)) (Nat.le_of_ble_eq_true rfl) (List.forall_mem_cons.2 ⟨rfl, (fun _ h_ => by cases h_)⟩) (fun _ _ _ o_ => st37_u1 (IntKind.i64.wrap (x11 + 1)) o_)) ?_
    rintro w42 ⟨F44, h43, S45, K46⟩
    clear h33
    refine wpList_nil (then_n (wp_seq (wp_region_lit (lV 24 (eM (.int .i64 (IntKind.i64.wrap (x11 + 1)))) (lV 25 (eAdd .i64 (IntKind.i64.wrap (x11 + 1)) 1) (lV 1 (eA (.int .i64 (IntKind.i64.wrap ((IntKind.i64.wrap (x11 + 1)) + 1)))) (wpList_nil ?_)))))))
    refine then_n (wp_seq (wp_region_lit (lV 26 (eM (.slice A2 x1.length c3) (by exact e16)) (lV 27 (eM (.int .i64 x12) (by exact e18)) (lV 28 (eM (.int .i64 (IntKind.i64.wrap ((IntKind.i64.wrap (x11 + 1)) + 1)))) ?_)))))
    obtain ⟨b47, e49⟩ := Row.addr h43 (show (x12).toNat < ((x14.set ((x12).toNat) ({(x14.getD ((x12).toNat) z37) with kind := x11})).set ((x12).toNat) ({((x14.set ((x12).toNat) ({(x14.getD ((x12).toNat) z37) with kind := x11})).getD ((x12).toNat) z37) with place := (IntKind.i64.wrap (x11 + 1))})).length by have : ((x14.set ((x12).toNat) ({(x14.getD ((x12).toNat) z37) with kind := x11})).set ((x12).toNat) ({((x14.set ((x12).toNat) ({(x14.getD ((x12).toNat) z37) with kind := x11})).getD ((x12).toNat) z37) with place := (IntKind.i64.wrap (x11 + 1))})).length = x1.length := (List.length_set.trans (List.length_set.trans n15)); omega)
    refine lV 29 (eI b47 0 x1.length c3 5 x12 .i64 Try.underlying27 e49 q26 q25) (lV 30 (eD b47 (0 + (x12 : Int).toNat * 5) 2 1 Try.underlying37) ?_)
    have S50 := S45.unit
    have S51 := S50.pull (F := F44) (Fr := [no]) 1 rfl rfl
    refine lE (e_setpart (d := st37) (b := b47) (i := (x12).toNat) (j := 2) (v := .int .i64 (IntKind.i64.wrap ((IntKind.i64.wrap (x11 + 1)) + 1))) (vs := [.int .i64 (IntKind.i64.wrap ((IntKind.i64.wrap (x11 + 1)) + 1))]) (yv := {(((x14.set ((x12).toNat) ({(x14.getD ((x12).toNat) z37) with kind := x11})).set ((x12).toNat) ({((x14.set ((x12).toNat) ({(x14.getD ((x12).toNat) z37) with kind := x11})).getD ((x12).toNat) z37) with place := (IntKind.i64.wrap (x11 + 1))})).getD ((x12).toNat) z37) with size := (IntKind.i64.wrap ((IntKind.i64.wrap (x11 + 1)) + 1))}) S51 (by kernel_rfl) e49 (by kernel_rfl) rfl (by kernel_rfl) h43 (getD_some z37 (show (x12).toNat < ((x14.set ((x12).toNat) ({(x14.getD ((x12).toNat) z37) with kind := x11})).set ((x12).toNat) ({((x14.set ((x12).toNat) ({(x14.getD ((x12).toNat) z37) with kind := x11})).getD ((x12).toNat) z37) with place := (IntKind.i64.wrap (x11 + 1))})).length by have : ((x14.set ((x12).toNat) ({(x14.getD ((x12).toNat) z37) with kind := x11})).set ((x12).toNat) ({((x14.set ((x12).toNat) ({(x14.getD ((x12).toNat) z37) with kind := x11})).getD ((x12).toNat) z37) with place := (IntKind.i64.wrap (x11 + 1))})).length = x1.length := (List.length_set.trans (List.length_set.trans n15)); omega)) (Nat.le_of_ble_eq_true rfl) (List.forall_mem_cons.2 ⟨rfl, (fun _ h_ => by cases h_)⟩) (fun _ _ _ o_ => st37_u2 (IntKind.i64.wrap ((IntKind.i64.wrap (x11 + 1)) + 1)) o_)) ?_
    rintro w52 ⟨F54, h53, S55, K56⟩
    clear h43
    refine wpList_nil (then_n (wp_seq (wp_region_lit (lV 31 (eM (.int .i64 (IntKind.i64.wrap ((IntKind.i64.wrap (x11 + 1)) + 1)))) (lV 32 (eAdd .i64 (IntKind.i64.wrap ((IntKind.i64.wrap (x11 + 1)) + 1)) 1) (lV 1 (eA (.int .i64 (IntKind.i64.wrap ((IntKind.i64.wrap ((IntKind.i64.wrap (x11 + 1)) + 1)) + 1)))) (wpList_nil ?_)))))))
    refine then_n (wp_seq (wp_region_lit (lV 33 (eM (.slice A2 x1.length c3) (by exact e16)) (lV 34 (eM (.int .i64 x12) (by exact e18)) ?_))))
    obtain ⟨b57, e59⟩ := Row.addr h53 (show (x12).toNat < (((x14.set ((x12).toNat) ({(x14.getD ((x12).toNat) z37) with kind := x11})).set ((x12).toNat) ({((x14.set ((x12).toNat) ({(x14.getD ((x12).toNat) z37) with kind := x11})).getD ((x12).toNat) z37) with place := (IntKind.i64.wrap (x11 + 1))})).set ((x12).toNat) ({(((x14.set ((x12).toNat) ({(x14.getD ((x12).toNat) z37) with kind := x11})).set ((x12).toNat) ({((x14.set ((x12).toNat) ({(x14.getD ((x12).toNat) z37) with kind := x11})).getD ((x12).toNat) z37) with place := (IntKind.i64.wrap (x11 + 1))})).getD ((x12).toNat) z37) with size := (IntKind.i64.wrap ((IntKind.i64.wrap (x11 + 1)) + 1))})).length by have : (((x14.set ((x12).toNat) ({(x14.getD ((x12).toNat) z37) with kind := x11})).set ((x12).toNat) ({((x14.set ((x12).toNat) ({(x14.getD ((x12).toNat) z37) with kind := x11})).getD ((x12).toNat) z37) with place := (IntKind.i64.wrap (x11 + 1))})).set ((x12).toNat) ({(((x14.set ((x12).toNat) ({(x14.getD ((x12).toNat) z37) with kind := x11})).set ((x12).toNat) ({((x14.set ((x12).toNat) ({(x14.getD ((x12).toNat) z37) with kind := x11})).getD ((x12).toNat) z37) with place := (IntKind.i64.wrap (x11 + 1))})).getD ((x12).toNat) z37) with size := (IntKind.i64.wrap ((IntKind.i64.wrap (x11 + 1)) + 1))})).length = x1.length := (List.length_set.trans (List.length_set.trans (List.length_set.trans n15))); omega)
    refine lV 35 (eI b57 0 x1.length c3 5 x12 .i64 Try.underlying27 e59 q26 q25) (lV 36 (eD b57 (0 + (x12 : Int).toNat * 5) 3 1 Try.underlying37) ?_)
    obtain ⟨y65, F66, G67, r68, d69, s70, k71, t72⟩ := Row.lend h53 e59 (getD_some z37 (show (x12).toNat < (((x14.set ((x12).toNat) ({(x14.getD ((x12).toNat) z37) with kind := x11})).set ((x12).toNat) ({((x14.set ((x12).toNat) ({(x14.getD ((x12).toNat) z37) with kind := x11})).getD ((x12).toNat) z37) with place := (IntKind.i64.wrap (x11 + 1))})).set ((x12).toNat) ({(((x14.set ((x12).toNat) ({(x14.getD ((x12).toNat) z37) with kind := x11})).set ((x12).toNat) ({((x14.set ((x12).toNat) ({(x14.getD ((x12).toNat) z37) with kind := x11})).getD ((x12).toNat) z37) with place := (IntKind.i64.wrap (x11 + 1))})).getD ((x12).toNat) z37) with size := (IntKind.i64.wrap ((IntKind.i64.wrap (x11 + 1)) + 1))})).length by have : (((x14.set ((x12).toNat) ({(x14.getD ((x12).toNat) z37) with kind := x11})).set ((x12).toNat) ({((x14.set ((x12).toNat) ({(x14.getD ((x12).toNat) z37) with kind := x11})).getD ((x12).toNat) z37) with place := (IntKind.i64.wrap (x11 + 1))})).set ((x12).toNat) ({(((x14.set ((x12).toNat) ({(x14.getD ((x12).toNat) z37) with kind := x11})).set ((x12).toNat) ({((x14.set ((x12).toNat) ({(x14.getD ((x12).toNat) z37) with kind := x11})).getD ((x12).toNat) z37) with place := (IntKind.i64.wrap (x11 + 1))})).getD ((x12).toNat) z37) with size := (IntKind.i64.wrap ((IntKind.i64.wrap (x11 + 1)) + 1))})).length = x1.length := (List.length_set.trans (List.length_set.trans (List.length_set.trans n15))); omega))
    obtain ⟨A73, c74, F77, rfl, h75, s76⟩ := st37_openO r68
    refine lV 37 (eL ⟨b57, 0 + (x12 : Int).toNat * 5 + 3, none⟩ (.slice A73 (((((x14.set ((x12).toNat) ({(x14.getD ((x12).toNat) z37) with kind := x11})).set ((x12).toNat) ({((x14.set ((x12).toNat) ({(x14.getD ((x12).toNat) z37) with kind := x11})).getD ((x12).toNat) z37) with place := (IntKind.i64.wrap (x11 + 1))})).set ((x12).toNat) ({(((x14.set ((x12).toNat) ({(x14.getD ((x12).toNat) z37) with kind := x11})).set ((x12).toNat) ({((x14.set ((x12).toNat) ({(x14.getD ((x12).toNat) z37) with kind := x11})).getD ((x12).toNat) z37) with place := (IntKind.i64.wrap (x11 + 1))})).getD ((x12).toNat) z37) with size := (IntKind.i64.wrap ((IntKind.i64.wrap (x11 + 1)) + 1))})).getD ((x12).toNat) z37).text).length c74) Try.underlying23 (hpx (k71 3 _ rfl))) (lV 38 (eM (.int .i64 (IntKind.i64.wrap ((IntKind.i64.wrap ((IntKind.i64.wrap (x11 + 1)) + 1)) + 1)))) ?_)
    have S78 := S55.part d69 s70
    have S79 := S78.sub s76
    have q80 : ∀ b_, G67 b_ → hp w52 b_ = hp w52 b_ := fun _ _ => rfl
    obtain ⟨t81, u82, M⟩ := bnd M
    refine lC 39 (eC [.tmp 37, .tmp 38] [.slice A73 (((((x14.set ((x12).toNat) ({(x14.getD ((x12).toNat) z37) with kind := x11})).set ((x12).toNat) ({((x14.set ((x12).toNat) ({(x14.getD ((x12).toNat) z37) with kind := x11})).getD ((x12).toNat) z37) with place := (IntKind.i64.wrap (x11 + 1))})).set ((x12).toNat) ({(((x14.set ((x12).toNat) ({(x14.getD ((x12).toNat) z37) with kind := x11})).set ((x12).toNat) ({((x14.set ((x12).toNat) ({(x14.getD ((x12).toNat) z37) with kind := x11})).getD ((x12).toNat) z37) with place := (IntKind.i64.wrap (x11 + 1))})).getD ((x12).toNat) z37) with size := (IntKind.i64.wrap ((IntKind.i64.wrap (x11 + 1)) + 1))})).getD ((x12).toNat) z37).text).length c74, .int .i64 (IntKind.i64.wrap ((IntKind.i64.wrap ((IntKind.i64.wrap (x11 + 1)) + 1)) + 1))] Try.func13) (laws_markByteS_2.calls k24 w52 H9 (((((x14.set ((x12).toNat) ({(x14.getD ((x12).toNat) z37) with kind := x11})).set ((x12).toNat) ({((x14.set ((x12).toNat) ({(x14.getD ((x12).toNat) z37) with kind := x11})).getD ((x12).toNat) z37) with place := (IntKind.i64.wrap (x11 + 1))})).set ((x12).toNat) ({(((x14.set ((x12).toNat) ({(x14.getD ((x12).toNat) z37) with kind := x11})).set ((x12).toNat) ({((x14.set ((x12).toNat) ({(x14.getD ((x12).toNat) z37) with kind := x11})).getD ((x12).toNat) z37) with place := (IntKind.i64.wrap (x11 + 1))})).getD ((x12).toNat) z37) with size := (IntKind.i64.wrap ((IntKind.i64.wrap (x11 + 1)) + 1))})).getD ((x12).toNat) z37).text) A73 c74 F77 (IntKind.i64.wrap ((IntKind.i64.wrap ((IntKind.i64.wrap (x11 + 1)) + 1)) + 1)) h75 (St.own' (Fa := [F77]) (Fr := [G67]) S79) t81 u82) ?_
    rintro _ w83 ⟨F87, H84, rfl, n88, h86, T85⟩
    refine ⟨_, rfl, ?_⟩
    obtain ⟨S89, K90⟩ := St.call (Fa := [F77]) (Fr := [G67]) S79 T85
    replace q80 := fun b_ h_ => (K90.at 0 rfl b_ h_).trans (q80 b_ h_)
    have E91 := T85.ext
    have S92 := S89.pull (F := G67) (Fr := [F87]) 1 rfl rfl
    have S93 := S92.pull (F := F87) (Fr := [G67]) 1 rfl rfl
    have h94 := t72 H84 (hp w83) F87 ({((((x14.set ((x12).toNat) ({(x14.getD ((x12).toNat) z37) with kind := x11})).set ((x12).toNat) ({((x14.set ((x12).toNat) ({(x14.getD ((x12).toNat) z37) with kind := x11})).getD ((x12).toNat) z37) with place := (IntKind.i64.wrap (x11 + 1))})).set ((x12).toNat) ({(((x14.set ((x12).toNat) ({(x14.getD ((x12).toNat) z37) with kind := x11})).set ((x12).toNat) ({((x14.set ((x12).toNat) ({(x14.getD ((x12).toNat) z37) with kind := x11})).getD ((x12).toNat) z37) with place := (IntKind.i64.wrap (x11 + 1))})).getD ((x12).toNat) z37) with size := (IntKind.i64.wrap ((IntKind.i64.wrap (x11 + 1)) + 1))})).getD ((x12).toNat) z37) with text := t81.2} : Token) E91 q80 (by have q_ := st37_mkO (x := {((((x14.set ((x12).toNat) ({(x14.getD ((x12).toNat) z37) with kind := x11})).set ((x12).toNat) ({((x14.set ((x12).toNat) ({(x14.getD ((x12).toNat) z37) with kind := x11})).getD ((x12).toNat) z37) with place := (IntKind.i64.wrap (x11 + 1))})).set ((x12).toNat) ({(((x14.set ((x12).toNat) ({(x14.getD ((x12).toNat) z37) with kind := x11})).set ((x12).toNat) ({((x14.set ((x12).toNat) ({(x14.getD ((x12).toNat) z37) with kind := x11})).getD ((x12).toNat) z37) with place := (IntKind.i64.wrap (x11 + 1))})).getD ((x12).toNat) z37) with size := (IntKind.i64.wrap ((IntKind.i64.wrap (x11 + 1)) + 1))})).getD ((x12).toNat) z37) with text := t81.2}) h86; rw [show t81.2.length = (((((x14.set ((x12).toNat) ({(x14.getD ((x12).toNat) z37) with kind := x11})).set ((x12).toNat) ({((x14.set ((x12).toNat) ({(x14.getD ((x12).toNat) z37) with kind := x11})).getD ((x12).toNat) z37) with place := (IntKind.i64.wrap (x11 + 1))})).set ((x12).toNat) ({(((x14.set ((x12).toNat) ({(x14.getD ((x12).toNat) z37) with kind := x11})).set ((x12).toNat) ({((x14.set ((x12).toNat) ({(x14.getD ((x12).toNat) z37) with kind := x11})).getD ((x12).toNat) z37) with place := (IntKind.i64.wrap (x11 + 1))})).getD ((x12).toNat) z37) with size := (IntKind.i64.wrap ((IntKind.i64.wrap (x11 + 1)) + 1))})).getD ((x12).toNat) z37).text).length from n88] at q_; exact q_) S93.dj
    have S95 := S93.join
    refine lV 1 (eA (.int .i64 t81.1)) (wpList_nil (then_n (wp_seq (wp_region_lit (lV 40 (eM (.slice A2 x1.length c3) (by exact e16)) (lV 41 (eM (.int .i64 x12) (by exact e18)) (lV 42 (eM (.int .i64 t81.1)) ?_)))))))
    obtain ⟨b96, e98⟩ := Row.addr h94 (show (x12).toNat < ((((x14.set ((x12).toNat) ({(x14.getD ((x12).toNat) z37) with kind := x11})).set ((x12).toNat) ({((x14.set ((x12).toNat) ({(x14.getD ((x12).toNat) z37) with kind := x11})).getD ((x12).toNat) z37) with place := (IntKind.i64.wrap (x11 + 1))})).set ((x12).toNat) ({(((x14.set ((x12).toNat) ({(x14.getD ((x12).toNat) z37) with kind := x11})).set ((x12).toNat) ({((x14.set ((x12).toNat) ({(x14.getD ((x12).toNat) z37) with kind := x11})).getD ((x12).toNat) z37) with place := (IntKind.i64.wrap (x11 + 1))})).getD ((x12).toNat) z37) with size := (IntKind.i64.wrap ((IntKind.i64.wrap (x11 + 1)) + 1))})).set ((x12).toNat) ({((((x14.set ((x12).toNat) ({(x14.getD ((x12).toNat) z37) with kind := x11})).set ((x12).toNat) ({((x14.set ((x12).toNat) ({(x14.getD ((x12).toNat) z37) with kind := x11})).getD ((x12).toNat) z37) with place := (IntKind.i64.wrap (x11 + 1))})).set ((x12).toNat) ({(((x14.set ((x12).toNat) ({(x14.getD ((x12).toNat) z37) with kind := x11})).set ((x12).toNat) ({((x14.set ((x12).toNat) ({(x14.getD ((x12).toNat) z37) with kind := x11})).getD ((x12).toNat) z37) with place := (IntKind.i64.wrap (x11 + 1))})).getD ((x12).toNat) z37) with size := (IntKind.i64.wrap ((IntKind.i64.wrap (x11 + 1)) + 1))})).getD ((x12).toNat) z37) with text := t81.2})).length by have : ((((x14.set ((x12).toNat) ({(x14.getD ((x12).toNat) z37) with kind := x11})).set ((x12).toNat) ({((x14.set ((x12).toNat) ({(x14.getD ((x12).toNat) z37) with kind := x11})).getD ((x12).toNat) z37) with place := (IntKind.i64.wrap (x11 + 1))})).set ((x12).toNat) ({(((x14.set ((x12).toNat) ({(x14.getD ((x12).toNat) z37) with kind := x11})).set ((x12).toNat) ({((x14.set ((x12).toNat) ({(x14.getD ((x12).toNat) z37) with kind := x11})).getD ((x12).toNat) z37) with place := (IntKind.i64.wrap (x11 + 1))})).getD ((x12).toNat) z37) with size := (IntKind.i64.wrap ((IntKind.i64.wrap (x11 + 1)) + 1))})).set ((x12).toNat) ({((((x14.set ((x12).toNat) ({(x14.getD ((x12).toNat) z37) with kind := x11})).set ((x12).toNat) ({((x14.set ((x12).toNat) ({(x14.getD ((x12).toNat) z37) with kind := x11})).getD ((x12).toNat) z37) with place := (IntKind.i64.wrap (x11 + 1))})).set ((x12).toNat) ({(((x14.set ((x12).toNat) ({(x14.getD ((x12).toNat) z37) with kind := x11})).set ((x12).toNat) ({((x14.set ((x12).toNat) ({(x14.getD ((x12).toNat) z37) with kind := x11})).getD ((x12).toNat) z37) with place := (IntKind.i64.wrap (x11 + 1))})).getD ((x12).toNat) z37) with size := (IntKind.i64.wrap ((IntKind.i64.wrap (x11 + 1)) + 1))})).getD ((x12).toNat) z37) with text := t81.2})).length = x1.length := (List.length_set.trans (List.length_set.trans (List.length_set.trans (List.length_set.trans n15)))); omega)
    refine lV 43 (eI b96 0 x1.length c3 5 x12 .i64 Try.underlying27 e98 q26 q25) (lV 44 (eD b96 (0 + (x12 : Int).toNat * 5) 4 1 Try.underlying37) ?_)
    have S99 := S95.unit
    have S100 := S99.pull (F := (or2 F87 G67)) (Fr := [no]) 1 rfl rfl
    refine lE (e_setpart (d := st37) (b := b96) (i := (x12).toNat) (j := 4) (v := .int .i64 t81.1) (vs := [.int .i64 t81.1]) (yv := {(((((x14.set ((x12).toNat) ({(x14.getD ((x12).toNat) z37) with kind := x11})).set ((x12).toNat) ({((x14.set ((x12).toNat) ({(x14.getD ((x12).toNat) z37) with kind := x11})).getD ((x12).toNat) z37) with place := (IntKind.i64.wrap (x11 + 1))})).set ((x12).toNat) ({(((x14.set ((x12).toNat) ({(x14.getD ((x12).toNat) z37) with kind := x11})).set ((x12).toNat) ({((x14.set ((x12).toNat) ({(x14.getD ((x12).toNat) z37) with kind := x11})).getD ((x12).toNat) z37) with place := (IntKind.i64.wrap (x11 + 1))})).getD ((x12).toNat) z37) with size := (IntKind.i64.wrap ((IntKind.i64.wrap (x11 + 1)) + 1))})).set ((x12).toNat) ({((((x14.set ((x12).toNat) ({(x14.getD ((x12).toNat) z37) with kind := x11})).set ((x12).toNat) ({((x14.set ((x12).toNat) ({(x14.getD ((x12).toNat) z37) with kind := x11})).getD ((x12).toNat) z37) with place := (IntKind.i64.wrap (x11 + 1))})).set ((x12).toNat) ({(((x14.set ((x12).toNat) ({(x14.getD ((x12).toNat) z37) with kind := x11})).set ((x12).toNat) ({((x14.set ((x12).toNat) ({(x14.getD ((x12).toNat) z37) with kind := x11})).getD ((x12).toNat) z37) with place := (IntKind.i64.wrap (x11 + 1))})).getD ((x12).toNat) z37) with size := (IntKind.i64.wrap ((IntKind.i64.wrap (x11 + 1)) + 1))})).getD ((x12).toNat) z37) with text := t81.2})).getD ((x12).toNat) z37) with n := t81.1}) S100 (by kernel_rfl) e98 (by kernel_rfl) rfl (by kernel_rfl) h94 (getD_some z37 (show (x12).toNat < ((((x14.set ((x12).toNat) ({(x14.getD ((x12).toNat) z37) with kind := x11})).set ((x12).toNat) ({((x14.set ((x12).toNat) ({(x14.getD ((x12).toNat) z37) with kind := x11})).getD ((x12).toNat) z37) with place := (IntKind.i64.wrap (x11 + 1))})).set ((x12).toNat) ({(((x14.set ((x12).toNat) ({(x14.getD ((x12).toNat) z37) with kind := x11})).set ((x12).toNat) ({((x14.set ((x12).toNat) ({(x14.getD ((x12).toNat) z37) with kind := x11})).getD ((x12).toNat) z37) with place := (IntKind.i64.wrap (x11 + 1))})).getD ((x12).toNat) z37) with size := (IntKind.i64.wrap ((IntKind.i64.wrap (x11 + 1)) + 1))})).set ((x12).toNat) ({((((x14.set ((x12).toNat) ({(x14.getD ((x12).toNat) z37) with kind := x11})).set ((x12).toNat) ({((x14.set ((x12).toNat) ({(x14.getD ((x12).toNat) z37) with kind := x11})).getD ((x12).toNat) z37) with place := (IntKind.i64.wrap (x11 + 1))})).set ((x12).toNat) ({(((x14.set ((x12).toNat) ({(x14.getD ((x12).toNat) z37) with kind := x11})).set ((x12).toNat) ({((x14.set ((x12).toNat) ({(x14.getD ((x12).toNat) z37) with kind := x11})).getD ((x12).toNat) z37) with place := (IntKind.i64.wrap (x11 + 1))})).getD ((x12).toNat) z37) with size := (IntKind.i64.wrap ((IntKind.i64.wrap (x11 + 1)) + 1))})).getD ((x12).toNat) z37) with text := t81.2})).length by have : ((((x14.set ((x12).toNat) ({(x14.getD ((x12).toNat) z37) with kind := x11})).set ((x12).toNat) ({((x14.set ((x12).toNat) ({(x14.getD ((x12).toNat) z37) with kind := x11})).getD ((x12).toNat) z37) with place := (IntKind.i64.wrap (x11 + 1))})).set ((x12).toNat) ({(((x14.set ((x12).toNat) ({(x14.getD ((x12).toNat) z37) with kind := x11})).set ((x12).toNat) ({((x14.set ((x12).toNat) ({(x14.getD ((x12).toNat) z37) with kind := x11})).getD ((x12).toNat) z37) with place := (IntKind.i64.wrap (x11 + 1))})).getD ((x12).toNat) z37) with size := (IntKind.i64.wrap ((IntKind.i64.wrap (x11 + 1)) + 1))})).set ((x12).toNat) ({((((x14.set ((x12).toNat) ({(x14.getD ((x12).toNat) z37) with kind := x11})).set ((x12).toNat) ({((x14.set ((x12).toNat) ({(x14.getD ((x12).toNat) z37) with kind := x11})).getD ((x12).toNat) z37) with place := (IntKind.i64.wrap (x11 + 1))})).set ((x12).toNat) ({(((x14.set ((x12).toNat) ({(x14.getD ((x12).toNat) z37) with kind := x11})).set ((x12).toNat) ({((x14.set ((x12).toNat) ({(x14.getD ((x12).toNat) z37) with kind := x11})).getD ((x12).toNat) z37) with place := (IntKind.i64.wrap (x11 + 1))})).getD ((x12).toNat) z37) with size := (IntKind.i64.wrap ((IntKind.i64.wrap (x11 + 1)) + 1))})).getD ((x12).toNat) z37) with text := t81.2})).length = x1.length := (List.length_set.trans (List.length_set.trans (List.length_set.trans (List.length_set.trans n15)))); omega)) (Nat.le_of_ble_eq_true rfl) (List.forall_mem_cons.2 ⟨rfl, (fun _ h_ => by cases h_)⟩) (fun _ _ _ o_ => st37_u4 t81.1 o_)) ?_
    rintro w101 ⟨F103, h102, S104, K105⟩
    clear h94
    refine wpList_nil (then_n (wp_region_lit (lV 45 (eM (.int .i64 t81.1)) (lV 46 (eAdd .i64 t81.1 1) (lV 1 (eA (.int .i64 (IntKind.i64.wrap (t81.1 + 1)))) (wpList_nil (inb_n ?_)))))))
    refine then_n (wp_region_lit (lV 10 (eM (.int .i64 x12) (by exact e18)) (lV 11 (eAdd .i64 x12 1) (lV 5 (eA (.int .i64 (IntKind.i64.wrap (x12 + 1)))) (wpList_nil (then_n ?_))))))
    exact ⟨k24, (by omega), _, H84, (IntKind.i64.wrap (t81.1 + 1)), (IntKind.i64.wrap (x12 + 1)), F103, (((((x14.set ((x12).toNat) ({(x14.getD ((x12).toNat) z37) with kind := x11})).set ((x12).toNat) ({((x14.set ((x12).toNat) ({(x14.getD ((x12).toNat) z37) with kind := x11})).getD ((x12).toNat) z37) with place := (IntKind.i64.wrap (x11 + 1))})).set ((x12).toNat) ({(((x14.set ((x12).toNat) ({(x14.getD ((x12).toNat) z37) with kind := x11})).set ((x12).toNat) ({((x14.set ((x12).toNat) ({(x14.getD ((x12).toNat) z37) with kind := x11})).getD ((x12).toNat) z37) with place := (IntKind.i64.wrap (x11 + 1))})).getD ((x12).toNat) z37) with size := (IntKind.i64.wrap ((IntKind.i64.wrap (x11 + 1)) + 1))})).set ((x12).toNat) ({((((x14.set ((x12).toNat) ({(x14.getD ((x12).toNat) z37) with kind := x11})).set ((x12).toNat) ({((x14.set ((x12).toNat) ({(x14.getD ((x12).toNat) z37) with kind := x11})).getD ((x12).toNat) z37) with place := (IntKind.i64.wrap (x11 + 1))})).set ((x12).toNat) ({(((x14.set ((x12).toNat) ({(x14.getD ((x12).toNat) z37) with kind := x11})).set ((x12).toNat) ({((x14.set ((x12).toNat) ({(x14.getD ((x12).toNat) z37) with kind := x11})).getD ((x12).toNat) z37) with place := (IntKind.i64.wrap (x11 + 1))})).getD ((x12).toNat) z37) with size := (IntKind.i64.wrap ((IntKind.i64.wrap (x11 + 1)) + 1))})).getD ((x12).toNat) z37) with text := t81.2})).set ((x12).toNat) ({(((((x14.set ((x12).toNat) ({(x14.getD ((x12).toNat) z37) with kind := x11})).set ((x12).toNat) ({((x14.set ((x12).toNat) ({(x14.getD ((x12).toNat) z37) with kind := x11})).getD ((x12).toNat) z37) with place := (IntKind.i64.wrap (x11 + 1))})).set ((x12).toNat) ({(((x14.set ((x12).toNat) ({(x14.getD ((x12).toNat) z37) with kind := x11})).set ((x12).toNat) ({((x14.set ((x12).toNat) ({(x14.getD ((x12).toNat) z37) with kind := x11})).getD ((x12).toNat) z37) with place := (IntKind.i64.wrap (x11 + 1))})).getD ((x12).toNat) z37) with size := (IntKind.i64.wrap ((IntKind.i64.wrap (x11 + 1)) + 1))})).set ((x12).toNat) ({((((x14.set ((x12).toNat) ({(x14.getD ((x12).toNat) z37) with kind := x11})).set ((x12).toNat) ({((x14.set ((x12).toNat) ({(x14.getD ((x12).toNat) z37) with kind := x11})).getD ((x12).toNat) z37) with place := (IntKind.i64.wrap (x11 + 1))})).set ((x12).toNat) ({(((x14.set ((x12).toNat) ({(x14.getD ((x12).toNat) z37) with kind := x11})).set ((x12).toNat) ({((x14.set ((x12).toNat) ({(x14.getD ((x12).toNat) z37) with kind := x11})).getD ((x12).toNat) z37) with place := (IntKind.i64.wrap (x11 + 1))})).getD ((x12).toNat) z37) with size := (IntKind.i64.wrap ((IntKind.i64.wrap (x11 + 1)) + 1))})).getD ((x12).toNat) z37) with text := t81.2})).getD ((x12).toNat) z37) with n := t81.1})), rfl, (by exact e16), (by kernel_rfl), (by kernel_rfl), h102, (List.length_set.trans (List.length_set.trans (List.length_set.trans (List.length_set.trans (List.length_set.trans n15))))), (Y10.trans E91), S104, M⟩
  replace M := ifn q25 M
  refine cF (bF q25) (wp_exit (then_e (then_e (inb_hit (then_n (wp_seq (wp_region_lit ?_)))))))
  refine lV 47 (eM (.int .i64 x11) (by exact e17)) (lV 4 (eA (.int .i64 x11)) (wpList_nil (then_n (wp_ret ?_))))
  obtain rfl := Option.some.inj M
  exact ret1 rfl rfl  (show _ = .int .i64 x11 from (by kernel_rfl)) ⟨F13, H9, rfl, n15, h4, S19⟩

/-! laws_heldByteS -/
def laws_heldByteS.l0 : Nat → (List UInt8) → Int → Int → Option Int
  | 0, _, _, _ => none
  | k19 + 1, x1, x9, x10 => (if x10 < (x1.length : Int) then (if 0 ≤ x10 then (if ((x1.getD ((x10).toNat) (0 : UInt8)).toNat : Int) ≠ ((b8 (x9)).toNat : Int) then some (-1) else (laws_heldByteS.l0 k19 x1 (IntKind.i64.wrap (x9 + 1)) (IntKind.i64.wrap (x10 + 1)))) else none) else some x9)
def laws_heldByteS.f (k : Nat) (x1 : List UInt8) (x6 : Int) : Option Int := (laws_heldByteS.l0 k x1 x6 0)
theorem laws_heldByteS.calls (k : Nat) (w : World) (H : Hp) (x1 : List UInt8) (A2 : Option Addr) (c3 : Nat) (x6 : Int) (h4 : Rd tByte H A2 x1) (l5 : x1.length ≤ c3) (S : Own [] H w) (r : Int) (M : laws_heldByteS.f k x1 x6 = some r) :
    Calls Try.prog 24 #[.slice A2 x1.length c3, .int .i64 x6] w (fun e e_w => e = .returned (.int .i64 r) ∧ Chg no w e_w) := by
  rw [laws_heldByteS.f] at M
  refine enter (l := [.slice A2 x1.length c3, .int .i64 x6]) 22 Try.func24 rfl rfl rfl ?_
  have S0_ := S.st
  refine wp_seq (wp_region_lit (lV 4 (eA (.int .i64 0)) (wpList_nil (then_n (wp_seq (wp_seq (wp_region_lit ?_)))))))
  refine lV 5 (eA (.int .i64 0)) (wpList_nil (then_n (wp_block ?_)))
  refine wp_loop_g (fun k17 a18 w7 => ∃ (f8 : Nat → Value) (x9 : Int) (x10 : Int), a18 = mk 22 f8 ∧ f8 0 = .slice A2 x1.length c3 ∧ f8 1 = .int .i64 x9 ∧ f8 5 = .int .i64 x10 ∧ St (anyOf []) H w [] H w7 ∧ laws_heldByteS.l0 k17 x1 x9 x10 = some r) k ⟨_, x6, 0, rfl, (by kernel_rfl), (by kernel_rfl), (by kernel_rfl), S0_, M⟩ ?_
  clear M
  rintro k17 a18 w7 ⟨f8, x9, x10, rfl, e11, e12, e13, S14, M⟩
  rcases k17 with _ | k19
  · rw [laws_heldByteS.l0] at M
    cases M
  rw [laws_heldByteS.l0] at M
  refine wp_seq (wp_seq (wp_region_lit (lV 6 (eM (.int .i64 x10) (by exact e13)) (lV 7 (eM (.slice A2 x1.length c3) (by exact e11)) (lV 8 (e_len (A := A2) (n := x1.length) (c := c3) Try.underlying23 (by kernel_rfl)) (lV 9 (eLt .i64 x10 (x1.length : Int)) (wpList_nil ?_)))))))
  refine then_n ?_
  by_cases q20 : x10 < (x1.length : Int)
  · replace M := ifp q20 M
    refine cT (bT q20) (wp_skip (then_n (wp_seq (wp_block (wp_seq (wp_seq (wp_region_lit ?_)))))))
    refine lV 12 (eM (.slice A2 x1.length c3) (by exact e11)) (lV 13 (eM (.int .i64 x10) (by exact e13)) ?_)
    obtain ⟨q21, M⟩ := chk M
    obtain ⟨b22, o23, e24⟩ := Rd.addr h4 (show (x10).toNat < x1.length by omega)
    obtain ⟨y25, r26, k27⟩ := Rd.at h4 e24 (getD_some (0 : UInt8) (show (x10).toNat < x1.length by omega))
    obtain rfl := r26
    refine lV 14 (eI b22 o23 x1.length c3 1 x10 .i64 Try.underlying23 e24 q21 q20) (lV 15 (eL ⟨b22, o23 + (x10 : Int).toNat * 1, none⟩ (.int .u8 ((x1.getD ((x10).toNat) (0 : UInt8)).toNat : Int)) Try.underlying5 (hpx (S14.inv.cell (k27 0 _ rfl)))) (lV 16 (eM (.int .i64 x9) (by exact e12)) (lV 17 (e_conv_i8 (k := .i64) (a := x9) (by kernel_rfl) Try.underlying5 (by kernel_rfl)) (lV 18 (eNe .u8 ((x1.getD ((x10).toNat) (0 : UInt8)).toNat : Int) ((b8 (x9)).toNat : Int)) (wpList_nil (then_n ?_))))))
    by_cases q28 : ((x1.getD ((x10).toNat) (0 : UInt8)).toNat : Int) ≠ ((b8 (x9)).toNat : Int)
    · replace M := ifp q28 M
      refine cT (bT q28) (wp_seq (wp_region_lit (lV 4 (eA (.int .i64 (-1))) (wpList_nil (then_n (wp_ret (then_r ?_)))))))
      refine inb_r (then_r (then_r (inb_r (then_r ?_))))
      obtain rfl := Option.some.inj M
      exact ret1 rfl rfl  (show _ = .int .i64 (-1) from (by kernel_rfl)) ⟨rfl, S14.chg⟩
    replace M := ifn q28 M
    refine cF (bF q28) (wp_skip (then_n (wp_region_lit (lV 19 (eM (.int .i64 x9) (by exact e12)) (lV 20 (eAdd .i64 x9 1) (lV 1 (eA (.int .i64 (IntKind.i64.wrap (x9 + 1)))) (wpList_nil ?_)))))))
    refine inb_n (then_n (wp_region_lit (lV 10 (eM (.int .i64 x10) (by exact e13)) (lV 11 (eAdd .i64 x10 1) (lV 5 (eA (.int .i64 (IntKind.i64.wrap (x10 + 1)))) (wpList_nil (then_n ?_)))))))
    exact ⟨k19, (by omega), _, (IntKind.i64.wrap (x9 + 1)), (IntKind.i64.wrap (x10 + 1)), rfl, (by exact e11), (by kernel_rfl), (by kernel_rfl), S14, M⟩
  replace M := ifn q20 M
  refine cF (bF q20) (wp_exit (then_e (then_e (inb_hit (then_n (wp_seq (wp_region_lit ?_)))))))
  refine lV 21 (eM (.int .i64 x9) (by exact e12)) (lV 4 (eA (.int .i64 x9)) (wpList_nil (then_n (wp_ret ?_))))
  obtain rfl := Option.some.inj M
  exact ret1 rfl rfl  (show _ = .int .i64 x9 from (by kernel_rfl)) ⟨rfl, S14.chg⟩

/-! laws_heldTokenS -/
def laws_heldTokenS.l0 : Nat → (List Token) → Int → Int → Option Int
  | 0, _, _, _ => none
  | k19 + 1, x1, x9, x10 => (if x10 < (x1.length : Int) then (if 0 ≤ x10 then (if ((x1.getD ((x10).toNat) z37).kind) ≠ x9 then some (-1) else (if ((x1.getD ((x10).toNat) z37).place) ≠ (IntKind.i64.wrap (x9 + 1)) then some (-1) else (if ((x1.getD ((x10).toNat) z37).size) ≠ (IntKind.i64.wrap ((IntKind.i64.wrap (x9 + 1)) + 1)) then some (-1) else ((laws_heldByteS.f k19 ((x1.getD ((x10).toNat) z37).text) (IntKind.i64.wrap ((IntKind.i64.wrap ((IntKind.i64.wrap (x9 + 1)) + 1)) + 1))).bind fun t65 => (if t65 < 0 then some (-1) else (if ((x1.getD ((x10).toNat) z37).n) ≠ t65 then some (-1) else (laws_heldTokenS.l0 k19 x1 (IntKind.i64.wrap (t65 + 1)) (IntKind.i64.wrap (x10 + 1))))))))) else none) else some x9)
def laws_heldTokenS.f (k : Nat) (x1 : List Token) (x6 : Int) : Option Int := (laws_heldTokenS.l0 k x1 x6 0)
theorem laws_heldTokenS.calls (k : Nat) (w : World) (H : Hp) (x1 : List Token) (A2 : Option Addr) (c3 : Nat) (x6 : Int) (h4 : Rd st37 H A2 x1) (l5 : x1.length ≤ c3) (S : Own [] H w) (r : Int) (M : laws_heldTokenS.f k x1 x6 = some r) :
    Calls Try.prog 15 #[.slice A2 x1.length c3, .int .i64 x6] w (fun e e_w => e = .returned (.int .i64 r) ∧ Chg no w e_w) := by
  rw [laws_heldTokenS.f] at M
  refine enter (l := [.slice A2 x1.length c3, .int .i64 x6]) 58 Try.func15 rfl rfl rfl ?_
  have S0_ := S.st
  refine wp_seq (wp_region_lit (lV 4 (eA (.int .i64 0)) (wpList_nil (then_n (wp_seq (wp_seq (wp_region_lit ?_)))))))
  refine lV 5 (eA (.int .i64 0)) (wpList_nil (then_n (wp_block ?_)))
  refine wp_loop_g (fun k17 a18 w7 => ∃ (f8 : Nat → Value) (x9 : Int) (x10 : Int), a18 = mk 58 f8 ∧ f8 0 = .slice A2 x1.length c3 ∧ f8 1 = .int .i64 x9 ∧ f8 5 = .int .i64 x10 ∧ St (anyOf []) H w [] H w7 ∧ laws_heldTokenS.l0 k17 x1 x9 x10 = some r) k ⟨_, x6, 0, rfl, (by kernel_rfl), (by kernel_rfl), (by kernel_rfl), S0_, M⟩ ?_
  clear M
  rintro k17 a18 w7 ⟨f8, x9, x10, rfl, e11, e12, e13, S14, M⟩
  rcases k17 with _ | k19
  · rw [laws_heldTokenS.l0] at M
    cases M
  rw [laws_heldTokenS.l0] at M
  refine wp_seq (wp_seq (wp_region_lit (lV 6 (eM (.int .i64 x10) (by exact e13)) (lV 7 (eM (.slice A2 x1.length c3) (by exact e11)) (lV 8 (e_len (A := A2) (n := x1.length) (c := c3) Try.underlying27 (by kernel_rfl)) (lV 9 (eLt .i64 x10 (x1.length : Int)) (wpList_nil ?_)))))))
  refine then_n ?_
  by_cases q20 : x10 < (x1.length : Int)
  · replace M := ifp q20 M
    refine cT (bT q20) (wp_skip (then_n (wp_seq (wp_block (wp_seq (wp_seq (wp_region_lit ?_)))))))
    refine lV 12 (eM (.slice A2 x1.length c3) (by exact e11)) (lV 13 (eM (.int .i64 x10) (by exact e13)) ?_)
    obtain ⟨q21, M⟩ := chk M
    obtain ⟨b22, o23, e24⟩ := Rd.addr h4 (show (x10).toNat < x1.length by omega)
    obtain ⟨y25, r26, k27⟩ := Rd.at h4 e24 (getD_some z37 (show (x10).toNat < x1.length by omega))
    obtain ⟨A28, c29, rfl, l30, h31⟩ := st37_open r26
    refine lV 14 (eI b22 o23 x1.length c3 5 x10 .i64 Try.underlying27 e24 q21 q20) (lV 15 (eD b22 (o23 + (x10 : Int).toNat * 5) 0 1 Try.underlying37) (lV 16 (eL ⟨b22, o23 + (x10 : Int).toNat * 5 + 0, none⟩ (.int .i64 ((x1.getD ((x10).toNat) z37).kind)) Try.underlying3 (hpx (S14.inv.cell (k27 0 _ rfl)))) (lV 17 (eM (.int .i64 x9) (by exact e12)) (lV 18 (eNe .i64 (x1.getD ((x10).toNat) z37).kind x9) (wpList_nil (then_n ?_))))))
    by_cases q32 : ((x1.getD ((x10).toNat) z37).kind) ≠ x9
    · replace M := ifp q32 M
      refine cT (bT q32) (wp_seq (wp_region_lit (lV 4 (eA (.int .i64 (-1))) (wpList_nil (then_n (wp_ret (then_r ?_)))))))
      refine inb_r (then_r (then_r (inb_r (then_r ?_))))
      obtain rfl := Option.some.inj M
      exact ret1 rfl rfl  (show _ = .int .i64 (-1) from (by kernel_rfl)) ⟨rfl, S14.chg⟩
    replace M := ifn q32 M
    refine cF (bF q32) (wp_skip (then_n (wp_seq (wp_region_lit (lV 19 (eM (.int .i64 x9) (by exact e12)) (lV 20 (eAdd .i64 x9 1) (lV 1 (eA (.int .i64 (IntKind.i64.wrap (x9 + 1)))) ?_)))))))
    refine wpList_nil (then_n (wp_seq (wp_seq (wp_region_lit (lV 21 (eM (.slice A2 x1.length c3) (by exact e11)) (lV 22 (eM (.int .i64 x10) (by exact e13)) ?_))))))
    obtain ⟨b33, o34, e35⟩ := Rd.addr h4 (show (x10).toNat < x1.length by omega)
    obtain ⟨y36, r37, k38⟩ := Rd.at h4 e35 (getD_some z37 (show (x10).toNat < x1.length by omega))
    obtain ⟨A39, c40, rfl, l41, h42⟩ := st37_open r37
    refine lV 23 (eI b33 o34 x1.length c3 5 x10 .i64 Try.underlying27 e35 q21 q20) (lV 24 (eD b33 (o34 + (x10 : Int).toNat * 5) 1 1 Try.underlying37) (lV 25 (eL ⟨b33, o34 + (x10 : Int).toNat * 5 + 1, none⟩ (.int .i64 ((x1.getD ((x10).toNat) z37).place)) Try.underlying3 (hpx (S14.inv.cell (k38 1 _ rfl)))) (lV 26 (eM (.int .i64 (IntKind.i64.wrap (x9 + 1)))) (lV 27 (eNe .i64 (x1.getD ((x10).toNat) z37).place (IntKind.i64.wrap (x9 + 1))) (wpList_nil (then_n ?_))))))
    by_cases q43 : ((x1.getD ((x10).toNat) z37).place) ≠ (IntKind.i64.wrap (x9 + 1))
    · replace M := ifp q43 M
      refine cT (bT q43) (wp_seq (wp_region_lit (lV 4 (eA (.int .i64 (-1))) (wpList_nil (then_n (wp_ret (then_r ?_)))))))
      refine inb_r (then_r (then_r (inb_r (then_r ?_))))
      obtain rfl := Option.some.inj M
      exact ret1 rfl rfl  (show _ = .int .i64 (-1) from (by kernel_rfl)) ⟨rfl, S14.chg⟩
    replace M := ifn q43 M
    refine cF (bF q43) (wp_skip (then_n (wp_seq (wp_region_lit (lV 28 (eM (.int .i64 (IntKind.i64.wrap (x9 + 1)))) (lV 29 (eAdd .i64 (IntKind.i64.wrap (x9 + 1)) 1) (lV 1 (eA (.int .i64 (IntKind.i64.wrap ((IntKind.i64.wrap (x9 + 1)) + 1)))) ?_)))))))
    refine wpList_nil (then_n (wp_seq (wp_seq (wp_region_lit (lV 30 (eM (.slice A2 x1.length c3) (by exact e11)) (lV 31 (eM (.int .i64 x10) (by exact e13)) ?_))))))
    obtain ⟨b44, o45, e46⟩ := Rd.addr h4 (show (x10).toNat < x1.length by omega)
    obtain ⟨y47, r48, k49⟩ := Rd.at h4 e46 (getD_some z37 (show (x10).toNat < x1.length by omega))
    obtain ⟨A50, c51, rfl, l52, h53⟩ := st37_open r48
    refine lV 32 (eI b44 o45 x1.length c3 5 x10 .i64 Try.underlying27 e46 q21 q20) (lV 33 (eD b44 (o45 + (x10 : Int).toNat * 5) 2 1 Try.underlying37) (lV 34 (eL ⟨b44, o45 + (x10 : Int).toNat * 5 + 2, none⟩ (.int .i64 ((x1.getD ((x10).toNat) z37).size)) Try.underlying3 (hpx (S14.inv.cell (k49 2 _ rfl)))) (lV 35 (eM (.int .i64 (IntKind.i64.wrap ((IntKind.i64.wrap (x9 + 1)) + 1)))) (lV 36 (eNe .i64 (x1.getD ((x10).toNat) z37).size (IntKind.i64.wrap ((IntKind.i64.wrap (x9 + 1)) + 1))) (wpList_nil (then_n ?_))))))
    by_cases q54 : ((x1.getD ((x10).toNat) z37).size) ≠ (IntKind.i64.wrap ((IntKind.i64.wrap (x9 + 1)) + 1))
    · replace M := ifp q54 M
      refine cT (bT q54) (wp_seq (wp_region_lit (lV 4 (eA (.int .i64 (-1))) (wpList_nil (then_n (wp_ret (then_r ?_)))))))
      refine inb_r (then_r (then_r (inb_r (then_r ?_))))
      obtain rfl := Option.some.inj M
      exact ret1 rfl rfl  (show _ = .int .i64 (-1) from (by kernel_rfl)) ⟨rfl, S14.chg⟩
    replace M := ifn q54 M
    refine cF (bF q54) (wp_skip (then_n (wp_seq (wp_region_lit (lV 37 (eM (.int .i64 (IntKind.i64.wrap ((IntKind.i64.wrap (x9 + 1)) + 1)))) (lV 38 (eAdd .i64 (IntKind.i64.wrap ((IntKind.i64.wrap (x9 + 1)) + 1)) 1) (lV 1 (eA (.int .i64 (IntKind.i64.wrap ((IntKind.i64.wrap ((IntKind.i64.wrap (x9 + 1)) + 1)) + 1)))) ?_)))))))
    refine wpList_nil (then_n (wp_seq (wp_region_lit (lV 39 (eM (.slice A2 x1.length c3) (by exact e11)) (lV 40 (eM (.int .i64 x10) (by exact e13)) ?_)))))
    obtain ⟨b55, o56, e57⟩ := Rd.addr h4 (show (x10).toNat < x1.length by omega)
    obtain ⟨y58, r59, k60⟩ := Rd.at h4 e57 (getD_some z37 (show (x10).toNat < x1.length by omega))
    obtain ⟨A61, c62, rfl, l63, h64⟩ := st37_open r59
    refine lV 41 (eI b55 o56 x1.length c3 5 x10 .i64 Try.underlying27 e57 q21 q20) (lV 42 (eD b55 (o56 + (x10 : Int).toNat * 5) 3 1 Try.underlying37) (lV 43 (eL ⟨b55, o56 + (x10 : Int).toNat * 5 + 3, none⟩ (.slice A61 ((x1.getD ((x10).toNat) z37).text).length c62) Try.underlying23 (hpx (S14.inv.cell (k60 3 _ rfl)))) (lV 44 (eM (.int .i64 (IntKind.i64.wrap ((IntKind.i64.wrap ((IntKind.i64.wrap (x9 + 1)) + 1)) + 1)))) ?_)))
    obtain ⟨t65, u66, M⟩ := bnd M
    refine lC 45 (eC [.tmp 43, .tmp 44] [.slice A61 ((x1.getD ((x10).toNat) z37).text).length c62, .int .i64 (IntKind.i64.wrap ((IntKind.i64.wrap ((IntKind.i64.wrap (x9 + 1)) + 1)) + 1))] Try.func24) (laws_heldByteS.calls k19 w7 H ((x1.getD ((x10).toNat) z37).text) A61 c62 (IntKind.i64.wrap ((IntKind.i64.wrap ((IntKind.i64.wrap (x9 + 1)) + 1)) + 1)) h64 l63 S14.own0 t65 u66) ?_
    rintro _ w67 ⟨rfl, C68⟩
    refine ⟨_, rfl, ?_⟩
    obtain ⟨S69, K70⟩ := S14.still C68
    refine lV 1 (eA (.int .i64 t65)) (wpList_nil (then_n (wp_seq (wp_seq (wp_region_lit (lV 46 (eM (.int .i64 t65)) (lV 47 (eLt .i64 t65 0) ?_)))))))
    refine wpList_nil (then_n ?_)
    by_cases q71 : t65 < 0
    · replace M := ifp q71 M
      refine cT (bT q71) (wp_seq (wp_region_lit (lV 4 (eA (.int .i64 (-1))) (wpList_nil (then_n (wp_ret (then_r ?_)))))))
      refine inb_r (then_r (then_r (inb_r (then_r ?_))))
      obtain rfl := Option.some.inj M
      exact ret1 rfl rfl  (show _ = .int .i64 (-1) from (by kernel_rfl)) ⟨rfl, S69.chg⟩
    replace M := ifn q71 M
    refine cF (bF q71) (wp_skip (then_n (wp_seq (wp_seq (wp_region_lit (lV 48 (eM (.slice A2 x1.length c3) (by exact e11)) (lV 49 (eM (.int .i64 x10) (by exact e13)) ?_)))))))
    obtain ⟨b72, o73, e74⟩ := Rd.addr h4 (show (x10).toNat < x1.length by omega)
    obtain ⟨y75, r76, k77⟩ := Rd.at h4 e74 (getD_some z37 (show (x10).toNat < x1.length by omega))
    obtain ⟨A78, c79, rfl, l80, h81⟩ := st37_open r76
    refine lV 50 (eI b72 o73 x1.length c3 5 x10 .i64 Try.underlying27 e74 q21 q20) (lV 51 (eD b72 (o73 + (x10 : Int).toNat * 5) 4 1 Try.underlying37) (lV 52 (eL ⟨b72, o73 + (x10 : Int).toNat * 5 + 4, none⟩ (.int .i64 ((x1.getD ((x10).toNat) z37).n)) Try.underlying3 (hpx (S69.inv.cell (k77 4 _ rfl)))) (lV 53 (eM (.int .i64 t65)) (lV 54 (eNe .i64 (x1.getD ((x10).toNat) z37).n t65) (wpList_nil (then_n ?_))))))
    by_cases q82 : ((x1.getD ((x10).toNat) z37).n) ≠ t65
    · replace M := ifp q82 M
      refine cT (bT q82) (wp_seq (wp_region_lit (lV 4 (eA (.int .i64 (-1))) (wpList_nil (then_n (wp_ret (then_r ?_)))))))
      refine inb_r (then_r (then_r (inb_r (then_r ?_))))
      obtain rfl := Option.some.inj M
      exact ret1 rfl rfl  (show _ = .int .i64 (-1) from (by kernel_rfl)) ⟨rfl, S69.chg⟩
    replace M := ifn q82 M
    refine cF (bF q82) (wp_skip (then_n (wp_region_lit (lV 55 (eM (.int .i64 t65)) (lV 56 (eAdd .i64 t65 1) (lV 1 (eA (.int .i64 (IntKind.i64.wrap (t65 + 1)))) (wpList_nil ?_)))))))
    refine inb_n (then_n (wp_region_lit (lV 10 (eM (.int .i64 x10) (by exact e13)) (lV 11 (eAdd .i64 x10 1) (lV 5 (eA (.int .i64 (IntKind.i64.wrap (x10 + 1)))) (wpList_nil (then_n ?_)))))))
    exact ⟨k19, (by omega), _, (IntKind.i64.wrap (t65 + 1)), (IntKind.i64.wrap (x10 + 1)), rfl, (by exact e11), (by kernel_rfl), (by kernel_rfl), S69, M⟩
  replace M := ifn q20 M
  refine cF (bF q20) (wp_exit (then_e (then_e (inb_hit (then_n (wp_seq (wp_region_lit ?_)))))))
  refine lV 57 (eM (.int .i64 x9) (by exact e12)) (lV 4 (eA (.int .i64 x9)) (wpList_nil (then_n (wp_ret ?_))))
  obtain rfl := Option.some.inj M
  exact ret1 rfl rfl  (show _ = .int .i64 x9 from (by kernel_rfl)) ⟨rfl, S14.chg⟩

/-! laws_FnExactLex -/
def laws_FnExactLex.f (k : Nat) (x1 : List UInt8) : Option Bool := (if (x1.length : Int) > 1048576 then some true else ((laws_toByteS.f k x1).bind fun t7 => ((spec_Lex.f k t7).bind fun t25 => ((laws_toByteS.f k x1).bind fun t37 => ((impl_Lex.f k t37).bind fun t56 => ((laws_eqTokenS.f k t56.1 t25.1).bind fun t71 => (if ¬ (t71 = true) then some false else (if t56.2.1 ≠ t25.2.1 then some false else (if t56.2.2 ≠ t25.2.2 then some false else ((laws_toByteS.f k x1).bind fun t94 => ((laws_eqByteS.f k t37 t94).bind fun t106 => (if ¬ (t106 = true) then some false else ((laws_markByteS_2.f k t37 1).bind fun t127 => (if t127.1 < 0 then some false else ((laws_eqTokenS.f k t56.1 t25.1).bind fun t139 => (if ¬ (t139 = true) then some false else ((laws_markTokenS_2.f k t56.1 1).bind fun t161 => ((laws_heldTokenS.f k t161.2 1).bind fun t172 => (if t172 < 0 then some false else (if t172 ≠ t161.1 then some false else ((laws_toByteS.f k x1).bind fun t186 => ((impl_Lex.f k t186).bind fun t204 => ((laws_eqTokenS.f k t204.1 t25.1).bind fun t216 => (if ¬ (t216 = true) then some false else (if t204.2.1 ≠ t25.2.1 then some false else (if t204.2.2 ≠ t25.2.2 then some false else ((laws_heldTokenS.f k t161.2 1).bind fun t238 => (if t238 < 0 then some false else (if t238 ≠ t161.1 then some false else some true)))))))))))))))))))))))))))))
theorem laws_FnExactLex.calls (k : Nat) (w : World) (H : Hp) (x1 : List UInt8) (A2 : Option Addr) (c3 : Nat) (h4 : Rd tByte H A2 x1) (l5 : x1.length ≤ c3) (S : Own [] H w) (r : Bool) (M : laws_FnExactLex.f k x1 = some r) :
    Calls Try.prog 5 #[.slice A2 x1.length c3] w (fun e e_w => e = .returned (.bool r) ∧ Chg no w e_w) := by
  rw [laws_FnExactLex.f] at M
  refine enter (l := [.slice A2 x1.length c3]) 114 Try.func5 rfl rfl rfl ?_
  have S0_ := S.st
  refine wp_seq (wp_region_lit (lV 2 (eA (.bool false)) (wpList_nil (then_n (wp_seq (wp_seq (wp_region_lit ?_)))))))
  refine lV 16 (eM (.slice A2 x1.length c3)) (lV 17 (e_len (A := A2) (n := x1.length) (c := c3) Try.underlying23 (by kernel_rfl)) (lV 18 (e_gtr (k := .i64) (a := (x1.length : Int)) (b := 1048576) (by kernel_rfl) rfl) (wpList_nil (then_n ?_))))
  by_cases q6 : (x1.length : Int) > 1048576
  · replace M := ifp q6 M
    refine cT (bT q6) (wp_seq (wp_region_lit (lV 2 (eA (.bool true)) (wpList_nil (then_n (wp_ret (then_r ?_)))))))
    obtain rfl := Option.some.inj M
    exact ret1 rfl rfl  (show _ = .bool true from (by kernel_rfl)) ⟨rfl, S0_.chg⟩
  replace M := ifn q6 M
  refine cF (bF q6) (wp_skip (then_n (wp_seq (wp_region_lit (lV 20 (eM (.slice A2 x1.length c3)) ?_)))))
  obtain ⟨t7, u8, M⟩ := bnd M
  refine lC 21 (eC [.tmp 20] [.slice A2 x1.length c3] Try.func7) (laws_toByteS.calls k w H x1 A2 c3 h4 l5 (St.own' (Fa := []) (Fr := []) S0_) t7 u8) ?_
  rintro _ w9 ⟨A12, c13, F15, H10, rfl, h14, T11⟩
  refine ⟨_, rfl, ?_⟩
  obtain ⟨S16, K17⟩ := St.call (Fa := []) (Fr := []) S0_ T11
  have E18 := T11.ext
  have l19 := h14.le
  obtain ⟨H20, S21, E22, h23, z24⟩ := S16.frzRow h14
  obtain ⟨t25, u26, M⟩ := bnd M
  refine lC 22 (eC [.tmp 21] [.slice A12 t7.length c13] Try.func10) (spec_Lex.calls k w9 H20 t7 A12 c13 h23 l19 (St.own' (Fa := []) (Fr := []) S21) t25 u26) ?_
  rintro _ w27 ⟨A30, c31, F33, H28, rfl, h32, T29⟩
  refine ⟨_, rfl, ?_⟩
  obtain ⟨S34, K35⟩ := St.call (Fa := []) (Fr := []) S21 T29
  have E36 := T29.ext
  refine lV 19 (eM (.tuple #[.slice A30 t25.1.length c31, .int .i64 t25.2.1, .int .i64 t25.2.2])) (lV 23 (e_extract (vs := #[.slice A30 t25.1.length c31, .int .i64 t25.2.1, .int .i64 t25.2.2]) (v := .slice A30 t25.1.length c31) (by kernel_rfl) rfl) (lV 24 (e_extract (vs := #[.slice A30 t25.1.length c31, .int .i64 t25.2.1, .int .i64 t25.2.2]) (v := .int .i64 t25.2.1) (by kernel_rfl) rfl) (lV 25 (e_extract (vs := #[.slice A30 t25.1.length c31, .int .i64 t25.2.1, .int .i64 t25.2.2]) (v := .int .i64 t25.2.2) (by kernel_rfl) rfl) (lV 3 (eA (.slice A30 t25.1.length c31)) (lV 4 (eA (.int .i64 t25.2.1)) (lV 5 (eA (.int .i64 t25.2.2)) (wpList_nil ?_)))))))
  refine then_n (wp_seq (wp_region_lit (lV 26 (eM (.slice A2 x1.length c3)) ?_)))
  obtain ⟨t37, u38, M⟩ := bnd M
  refine lC 27 (eC [.tmp 26] [.slice A2 x1.length c3] Try.func7) (laws_toByteS.calls k w27 H28 x1 A2 c3 (h4.ext ((E18.trans E22).trans E36)) l5 (St.own' (Fa := []) (Fr := [F33]) S34) t37 u38) ?_
  rintro _ w39 ⟨A42, c43, F45, H40, rfl, h44, T41⟩
  refine ⟨_, rfl, ?_⟩
  obtain ⟨S46, K47⟩ := St.call (Fa := []) (Fr := [F33]) S34 T41
  replace h32 := h32.move (K47.at 0 rfl)
  have E48 := T41.ext
  replace h32 := h32.ext E48
  refine lV 6 (eA (.slice A42 t37.length c43)) (wpList_nil (then_n (wp_seq (wp_region_lit (lV 29 (eM (.slice A42 t37.length c43)) ?_)))))
  have l49 := h44.le
  obtain ⟨H50, S51, E52, h53, z54⟩ := S46.frzRow h44
  have h55 := h32.ext E52
  obtain ⟨t56, u57, M⟩ := bnd M
  refine lC 30 (eC [.tmp 29] [.slice A42 t37.length c43] Try.func11) (impl_Lex.calls k w39 H50 t37 A42 c43 h53 l49 S51.own0 t56 u57) ?_
  rintro _ w58 ⟨A61, c62, F64, H59, rfl, h63, T60⟩
  refine ⟨_, rfl, ?_⟩
  obtain ⟨S65, K66⟩ := St.call (Fa := []) (Fr := [F33]) S51 T60
  replace h32 := h32.move (K66.at 0 rfl)
  obtain ⟨H67, S68, E69, v70⟩ := St.thaw S46 z54 S65 T60.ext E52 T60.size
  replace h44 := h44.move v70
  replace h44 := h44.ext E69
  replace h32 := h32.ext E69
  replace h63 := Row.free (H' := H67) (free_iso (free_pair (free_scal _ _) (free_pair (free_scal _ _) (free_pair (free_scal _ _) (free_pair (free_slice (free_scal _ _)) (free_scal _ _)))))) h63
  refine lV 28 (eM (.tuple #[.slice A61 t56.1.length c62, .int .i64 t56.2.1, .int .i64 t56.2.2])) (lV 31 (e_extract (vs := #[.slice A61 t56.1.length c62, .int .i64 t56.2.1, .int .i64 t56.2.2]) (v := .slice A61 t56.1.length c62) (by kernel_rfl) rfl) (lV 32 (e_extract (vs := #[.slice A61 t56.1.length c62, .int .i64 t56.2.1, .int .i64 t56.2.2]) (v := .int .i64 t56.2.1) (by kernel_rfl) rfl) (lV 33 (e_extract (vs := #[.slice A61 t56.1.length c62, .int .i64 t56.2.1, .int .i64 t56.2.2]) (v := .int .i64 t56.2.2) (by kernel_rfl) rfl) (lV 7 (eA (.slice A61 t56.1.length c62)) (lV 8 (eA (.int .i64 t56.2.1)) (lV 9 (eA (.int .i64 t56.2.2)) (wpList_nil ?_)))))))
  refine then_n (wp_seq (wp_seq (wp_region_lit (lV 34 (eM (.slice A61 t56.1.length c62)) (lV 35 (eM (.slice A30 t25.1.length c31)) ?_)))))
  obtain ⟨t71, u72, M⟩ := bnd M
  refine lC 36 (eC [.tmp 34, .tmp 35] [.slice A61 t56.1.length c62, .slice A30 t25.1.length c31] Try.func12) (by have l73 := h63.le; have S74 := S68.pull (F := F64) (Fr := [F45, F33]) 1 rfl rfl; obtain ⟨H75, S76, E77, h78, z79⟩ := S74.frzRow h63; replace h44 := h44.ext E77; replace h32 := h32.ext E77; have l80 := h32.le; have S81 := S76.pull (F := F33) (Fr := [F45]) 1 rfl rfl; obtain ⟨H82, S83, E84, h85, z86⟩ := S81.frzRow h32; replace h44 := h44.ext E84; exact (laws_eqTokenS.calls k w58 H82 t56.1 A61 c62 t25.1 A30 c31 (h78.ext E84) l73 h85 l80 S83.own0 t71 u72)) ?_
  rintro _ w87 ⟨rfl, C88⟩
  refine ⟨_, rfl, ?_⟩
  obtain ⟨S89, K90⟩ := S68.still C88
  replace h44 := h44.move (K90.at 0 rfl)
  replace h63 := h63.move (K90.at 1 rfl)
  replace h32 := h32.move (K90.at 2 rfl)
  refine lV 37 (e_notv (c := t71) (by kernel_rfl)) (lV 38 (eM (.bool (decide (¬ (t71 = true))))) ?_)
  by_cases q91 : ¬ (t71 = true)
  · replace M := ifp q91 M
    refine lK 38 true (bT q91) ?_
    refine lK 38 true (bT q91) ?_
    refine lK 38 true (bT q91) ?_
    refine lV 42 (eT (.bool true) (bT q91)) (lV 43 (eM (.bool true)) ?_)
    refine lJ 43 true ?_
    refine lJ 43 true ?_
    refine lJ 43 true ?_
    refine lV 47 (eT (.bool true)) (wpList_nil (then_n (cond_t rfl (by kernel_rfl) (wp_seq (wp_region_lit (lV 2 (eA (.bool false)) (wpList_nil ?_)))))))
    refine then_n (wp_ret (then_r ?_))
    obtain rfl := Option.some.inj M
    exact ret1 rfl rfl  (show _ = .bool false from (by kernel_rfl)) ⟨rfl, S89.chg⟩
  replace M := ifn q91 M
  refine lG 39 38 (bF q91) (eM (.int .i64 t56.2.1)) (lG 40 38 (bF q91) (eM (.int .i64 t25.2.1)) (lG 41 38 (bF q91) (eNe .i64 t56.2.1 t25.2.1) (lV 42 (eF (.bool (decide (t56.2.1 ≠ t25.2.1))) (bF q91)) (lV 43 (eM (.bool (decide (t56.2.1 ≠ t25.2.1)))) ?_))))
  by_cases q92 : t56.2.1 ≠ t25.2.1
  · replace M := ifp q92 M
    refine lK 43 true (bT q92) ?_
    refine lK 43 true (bT q92) ?_
    refine lK 43 true (bT q92) ?_
    refine lV 47 (eT (.bool true) (bT q92)) (wpList_nil (then_n (cond_t rfl (by kernel_rfl) (wp_seq (wp_region_lit (lV 2 (eA (.bool false)) (wpList_nil ?_)))))))
    refine then_n (wp_ret (then_r ?_))
    obtain rfl := Option.some.inj M
    exact ret1 rfl rfl  (show _ = .bool false from (by kernel_rfl)) ⟨rfl, S89.chg⟩
  replace M := ifn q92 M
  refine lG 44 43 (bF q92) (eM (.int .i64 t56.2.2)) (lG 45 43 (bF q92) (eM (.int .i64 t25.2.2)) (lG 46 43 (bF q92) (eNe .i64 t56.2.2 t25.2.2) (lV 47 (eF (.bool (decide (t56.2.2 ≠ t25.2.2))) (bF q92)) (wpList_nil (then_n ?_)))))
  by_cases q93 : t56.2.2 ≠ t25.2.2
  · replace M := ifp q93 M
    refine cT (bT q93) (wp_seq (wp_region_lit (lV 2 (eA (.bool false)) (wpList_nil (then_n (wp_ret (then_r ?_)))))))
    obtain rfl := Option.some.inj M
    exact ret1 rfl rfl  (show _ = .bool false from (by kernel_rfl)) ⟨rfl, S89.chg⟩
  replace M := ifn q93 M
  refine cF (bF q93) (wp_skip (then_n (wp_seq (wp_seq (wp_region_lit (lV 48 (eM (.slice A42 t37.length c43)) (lV 49 (eM (.slice A2 x1.length c3)) ?_)))))))
  obtain ⟨t94, u95, M⟩ := bnd M
  refine lC 50 (eC [.tmp 49] [.slice A2 x1.length c3] Try.func7) (laws_toByteS.calls k w87 H67 x1 A2 c3 (h4.ext ((((E18.trans E22).trans E36).trans E48).trans E69)) l5 (St.own' (Fa := []) (Fr := [F45, F64, F33]) S89) t94 u95) ?_
  rintro _ w96 ⟨A99, c100, F102, H97, rfl, h101, T98⟩
  refine ⟨_, rfl, ?_⟩
  obtain ⟨S103, K104⟩ := St.call (Fa := []) (Fr := [F45, F64, F33]) S89 T98
  replace h44 := h44.move (K104.at 0 rfl)
  replace h63 := h63.move (K104.at 1 rfl)
  replace h32 := h32.move (K104.at 2 rfl)
  have E105 := T98.ext
  replace h44 := h44.ext E105
  replace h63 := h63.ext E105
  replace h32 := h32.ext E105
  obtain ⟨t106, u107, M⟩ := bnd M
  refine lC 51 (eC [.tmp 48, .tmp 50] [.slice A42 t37.length c43, .slice A99 t94.length c100] Try.func9) (by have l108 := h44.le; have S109 := S103.pull (F := F45) (Fr := [F102, F64, F33]) 1 rfl rfl; obtain ⟨H110, S111, E112, h113, z114⟩ := S109.frzRow h44; replace h101 := h101.ext E112; replace h63 := h63.ext E112; replace h32 := h32.ext E112; have l115 := h101.le; obtain ⟨H116, S117, E118, h119, z120⟩ := S111.frzRow h101; replace h63 := h63.ext E118; replace h32 := h32.ext E118; exact (laws_eqByteS.calls k w96 H116 t37 A42 c43 t94 A99 c100 (h113.ext E118) l108 h119 l115 S117.own0 t106 u107)) ?_
  rintro _ w121 ⟨rfl, C122⟩
  refine ⟨_, rfl, ?_⟩
  obtain ⟨S123, K124⟩ := S103.still C122
  replace h101 := h101.move (K124.at 0 rfl)
  replace h44 := h44.move (K124.at 1 rfl)
  replace h63 := h63.move (K124.at 2 rfl)
  replace h32 := h32.move (K124.at 3 rfl)
  refine lV 52 (e_notv (c := t106) (by kernel_rfl)) (wpList_nil (then_n ?_))
  by_cases q125 : ¬ (t106 = true)
  · replace M := ifp q125 M
    refine cT (bT q125) (wp_seq (wp_region_lit (lV 2 (eA (.bool false)) (wpList_nil (then_n (wp_ret (then_r ?_)))))))
    obtain rfl := Option.some.inj M
    exact ret1 rfl rfl  (show _ = .bool false from (by kernel_rfl)) ⟨rfl, S123.chg⟩
  replace M := ifn q125 M
  refine cF (bF q125) (wp_skip (then_n (wp_seq (wp_region_lit (lV 10 (eA (.int .i64 1)) (wpList_nil (then_n ?_)))))))
  refine wp_seq (wp_region_lit (lV 53 (eM (.slice A42 t37.length c43)) (lV 54 (eM (.int .i64 1)) ?_)))
  have S126 := S123.pull (F := F45) (Fr := [F102, F64, F33]) 1 rfl rfl
  obtain ⟨t127, u128, M⟩ := bnd M
  refine lC 55 (eC [.tmp 53, .tmp 54] [.slice A42 t37.length c43, .int .i64 1] Try.func13) (laws_markByteS_2.calls k w121 H97 t37 A42 c43 F45 1 h44 (St.own' (Fa := [F45]) (Fr := [F102, F64, F33]) S126) t127 u128) ?_
  rintro _ w129 ⟨F133, H130, rfl, n134, h132, T131⟩
  refine ⟨_, rfl, ?_⟩
  obtain ⟨S135, K136⟩ := St.call (Fa := [F45]) (Fr := [F102, F64, F33]) S126 T131
  replace h101 := h101.move (K136.at 0 rfl)
  replace h63 := h63.move (K136.at 1 rfl)
  replace h32 := h32.move (K136.at 2 rfl)
  have E137 := T131.ext
  replace h101 := h101.ext E137
  replace h63 := h63.ext E137
  replace h32 := h32.ext E137
  refine lV 10 (eA (.int .i64 t127.1)) (wpList_nil (then_n (wp_seq (wp_seq (wp_region_lit (lV 56 (eM (.int .i64 t127.1)) (lV 57 (eLt .i64 t127.1 0) ?_)))))))
  refine lV 58 (eM (.bool (decide (t127.1 < 0)))) ?_
  by_cases q138 : t127.1 < 0
  · replace M := ifp q138 M
    refine lK 58 true (bT q138) ?_
    refine lK 58 true (bT q138) ?_
    refine lK 58 true (bT q138) ?_
    refine lK 58 true (bT q138) ?_
    refine lV 63 (eT (.bool true) (bT q138)) (lV 64 (eM (.bool true)) ?_)
    refine lJ 64 true ?_
    refine lJ 64 true ?_
    refine lJ 64 true ?_
    refine lV 68 (eT (.bool true)) (lV 69 (eM (.bool true)) ?_)
    refine lJ 69 true ?_
    refine lJ 69 true ?_
    refine lJ 69 true ?_
    refine lV 73 (eT (.bool true)) (wpList_nil (then_n (cond_t rfl (by kernel_rfl) (wp_seq (wp_region_lit (lV 2 (eA (.bool false)) (wpList_nil ?_)))))))
    refine then_n (wp_ret (then_r ?_))
    obtain rfl := Option.some.inj M
    exact ret1 rfl rfl  (show _ = .bool false from (by kernel_rfl)) ⟨rfl, S135.chg⟩
  replace M := ifn q138 M
  refine lG 59 58 (bF q138) (eM (.slice A61 t56.1.length c62)) (lG 60 58 (bF q138) (eM (.slice A30 t25.1.length c31)) ?_)
  obtain ⟨t139, u140, M⟩ := bnd M
  refine lcallg (d := 61) (t := 58) rfl (by kernel_rfl) rfl (bF q138) rfl (by kernel_rfl) (eC [.tmp 59, .tmp 60] [.slice A61 t56.1.length c62, .slice A30 t25.1.length c31] Try.func12) (by have l141 := h63.le; have S142 := S135.pull (F := F64) (Fr := [F133, F102, F33]) 2 rfl rfl; obtain ⟨H143, S144, E145, h146, z147⟩ := S142.frzRow h63; replace h132 := h132.ext E145; replace h101 := h101.ext E145; replace h32 := h32.ext E145; have l148 := h32.le; have S149 := S144.pull (F := F33) (Fr := [F133, F102]) 2 rfl rfl; obtain ⟨H150, S151, E152, h153, z154⟩ := S149.frzRow h32; replace h132 := h132.ext E152; replace h101 := h101.ext E152; exact (laws_eqTokenS.calls k w129 H150 t56.1 A61 c62 t25.1 A30 c31 (h146.ext E152) l141 h153 l148 S151.own0 t139 u140)) ?_
  rintro _ w155 ⟨rfl, C156⟩
  refine ⟨_, rfl, ?_⟩
  obtain ⟨S157, K158⟩ := S135.still C156
  replace h132 := h132.move (K158.at 0 rfl)
  replace h101 := h101.move (K158.at 1 rfl)
  replace h63 := h63.move (K158.at 2 rfl)
  replace h32 := h32.move (K158.at 3 rfl)
  refine lG 62 58 (bF q138) (e_notv (c := t139) (by kernel_rfl)) (lV 63 (eF (.bool (decide (¬ (t139 = true)))) (bF q138)) (lV 64 (eM (.bool (decide (¬ (t139 = true))))) ?_))
  by_cases q159 : ¬ (t139 = true)
  · replace M := ifp q159 M
    refine lK 64 true (bT q159) ?_
    refine lK 64 true (bT q159) ?_
    refine lK 64 true (bT q159) ?_
    refine lV 68 (eT (.bool true) (bT q159)) (lV 69 (eM (.bool true)) ?_)
    refine lJ 69 true ?_
    refine lJ 69 true ?_
    refine lJ 69 true ?_
    refine lV 73 (eT (.bool true)) (wpList_nil (then_n (cond_t rfl (by kernel_rfl) (wp_seq (wp_region_lit (lV 2 (eA (.bool false)) (wpList_nil ?_)))))))
    refine then_n (wp_ret (then_r ?_))
    obtain rfl := Option.some.inj M
    exact ret1 rfl rfl  (show _ = .bool false from (by kernel_rfl)) ⟨rfl, S157.chg⟩
  replace M := ifn q159 M
  refine lG 65 64 (bF q159) (eM (.int .i64 t56.2.1)) (lG 66 64 (bF q159) (eM (.int .i64 t25.2.1)) (lG 67 64 (bF q159) (eNe .i64 t56.2.1 t25.2.1) (lV 68 (eF (.bool (decide (t56.2.1 ≠ t25.2.1))) (bF q159)) (lV 69 (eM (.bool (decide (t56.2.1 ≠ t25.2.1)))) (lG 70 69 (bF q92) (eM (.int .i64 t56.2.2)) (lG 71 69 (bF q92) (eM (.int .i64 t25.2.2)) (lG 72 69 (bF q92) (eNe .i64 t56.2.2 t25.2.2) ?_)))))))
  refine lV 73 (eF (.bool (decide (t56.2.2 ≠ t25.2.2))) (bF q92)) (wpList_nil (then_n (cF (bF q93) (wp_skip (then_n (wp_seq (wp_region_lit ?_)))))))
  refine lV 11 (eA (.int .i64 1)) (wpList_nil (then_n (wp_seq (wp_region_lit (lV 74 (eM (.slice A61 t56.1.length c62)) (lV 75 (eM (.int .i64 1)) ?_))))))
  have S160 := S157.pull (F := F64) (Fr := [F133, F102, F33]) 2 rfl rfl
  obtain ⟨t161, u162, M⟩ := bnd M
  refine lC 76 (eC [.tmp 74, .tmp 75] [.slice A61 t56.1.length c62, .int .i64 1] Try.func14) (laws_markTokenS_2.calls k w155 H130 t56.1 A61 c62 F64 1 h63 (St.own' (Fa := [F64]) (Fr := [F133, F102, F33]) S160) t161 u162) ?_
  rintro _ w163 ⟨F167, H164, rfl, n168, h166, T165⟩
  refine ⟨_, rfl, ?_⟩
  obtain ⟨S169, K170⟩ := St.call (Fa := [F64]) (Fr := [F133, F102, F33]) S160 T165
  replace h132 := h132.move (K170.at 0 rfl)
  replace h101 := h101.move (K170.at 1 rfl)
  replace h32 := h32.move (K170.at 2 rfl)
  have E171 := T165.ext
  replace h132 := h132.ext E171
  replace h101 := h101.ext E171
  replace h32 := h32.ext E171
  refine lV 11 (eA (.int .i64 t161.1)) (wpList_nil (then_n (wp_seq (wp_region_lit (lV 12 (eA (.int .i64 1)) (wpList_nil (then_n ?_)))))))
  refine wp_seq (wp_region_lit (lV 77 (eM (.slice A61 t56.1.length c62)) (lV 78 (eM (.int .i64 1)) ?_)))
  obtain ⟨t172, u173, M⟩ := bnd M
  refine lC 79 (eC [.tmp 77, .tmp 78] [.slice A61 t56.1.length c62, .int .i64 1] Try.func15) (by have l174 := h166.le; obtain ⟨H175, S176, E177, h178, z179⟩ := S169.frzRow h166; replace h132 := h132.ext E177; replace h101 := h101.ext E177; replace h32 := h32.ext E177; exact (by have q_ := (laws_heldTokenS.calls k w163 H175 t161.2 A61 c62 1 h178 l174 S176.own0 t172 u173); rw [(show t161.2.length = t56.1.length from n168)] at q_; exact q_)) ?_
  rintro _ w180 ⟨rfl, C181⟩
  refine ⟨_, rfl, ?_⟩
  obtain ⟨S182, K183⟩ := S169.still C181
  replace h166 := h166.move (K183.at 0 rfl)
  replace h132 := h132.move (K183.at 1 rfl)
  replace h101 := h101.move (K183.at 2 rfl)
  replace h32 := h32.move (K183.at 3 rfl)
  refine lV 12 (eA (.int .i64 t172)) (wpList_nil (then_n (wp_seq (wp_seq (wp_region_lit (lV 80 (eM (.int .i64 t172)) (lV 81 (eLt .i64 t172 0) ?_)))))))
  refine wpList_nil (then_n ?_)
  by_cases q184 : t172 < 0
  · replace M := ifp q184 M
    refine cT (bT q184) (wp_seq (wp_region_lit (lV 2 (eA (.bool false)) (wpList_nil (then_n (wp_ret (then_r ?_)))))))
    obtain rfl := Option.some.inj M
    exact ret1 rfl rfl  (show _ = .bool false from (by kernel_rfl)) ⟨rfl, S182.chg⟩
  replace M := ifn q184 M
  refine cF (bF q184) (wp_skip (then_n (wp_seq (wp_seq (wp_region_lit (lV 82 (eM (.int .i64 t172)) (lV 83 (eM (.int .i64 t161.1)) ?_)))))))
  refine lV 84 (eNe .i64 t172 t161.1) (wpList_nil (then_n ?_))
  by_cases q185 : t172 ≠ t161.1
  · replace M := ifp q185 M
    refine cT (bT q185) (wp_seq (wp_region_lit (lV 2 (eA (.bool false)) (wpList_nil (then_n (wp_ret (then_r ?_)))))))
    obtain rfl := Option.some.inj M
    exact ret1 rfl rfl  (show _ = .bool false from (by kernel_rfl)) ⟨rfl, S182.chg⟩
  replace M := ifn q185 M
  refine cF (bF q185) (wp_skip (then_n (wp_seq (wp_region_lit (lV 86 (eM (.slice A2 x1.length c3)) ?_)))))
  obtain ⟨t186, u187, M⟩ := bnd M
  refine lC 87 (eC [.tmp 86] [.slice A2 x1.length c3] Try.func7) (laws_toByteS.calls k w180 H164 x1 A2 c3 (h4.ext (((((((E18.trans E22).trans E36).trans E48).trans E69).trans E105).trans E137).trans E171)) l5 (St.own' (Fa := []) (Fr := [F167, F133, F102, F33]) S182) t186 u187) ?_
  rintro _ w188 ⟨A191, c192, F194, H189, rfl, h193, T190⟩
  refine ⟨_, rfl, ?_⟩
  obtain ⟨S195, K196⟩ := St.call (Fa := []) (Fr := [F167, F133, F102, F33]) S182 T190
  replace h166 := h166.move (K196.at 0 rfl)
  replace h132 := h132.move (K196.at 1 rfl)
  replace h101 := h101.move (K196.at 2 rfl)
  replace h32 := h32.move (K196.at 3 rfl)
  have E197 := T190.ext
  replace h166 := h166.ext E197
  replace h132 := h132.ext E197
  replace h101 := h101.ext E197
  replace h32 := h32.ext E197
  have l198 := h193.le
  obtain ⟨H199, S200, E201, h202, z203⟩ := S195.frzRow h193
  replace h166 := h166.ext E201
  replace h132 := h132.ext E201
  replace h101 := h101.ext E201
  replace h32 := h32.ext E201
  obtain ⟨t204, u205, M⟩ := bnd M
  refine lC 88 (eC [.tmp 87] [.slice A191 t186.length c192] Try.func11) (impl_Lex.calls k w188 H199 t186 A191 c192 h202 l198 (St.own' (Fa := []) (Fr := [F167, F133, F102, F33]) S200) t204 u205) ?_
  rintro _ w206 ⟨A209, c210, F212, H207, rfl, h211, T208⟩
  refine ⟨_, rfl, ?_⟩
  obtain ⟨S213, K214⟩ := St.call (Fa := []) (Fr := [F167, F133, F102, F33]) S200 T208
  replace h166 := h166.move (K214.at 0 rfl)
  replace h132 := h132.move (K214.at 1 rfl)
  replace h101 := h101.move (K214.at 2 rfl)
  replace h32 := h32.move (K214.at 3 rfl)
  have E215 := T208.ext
  replace h166 := h166.ext E215
  replace h132 := h132.ext E215
  replace h101 := h101.ext E215
  replace h32 := h32.ext E215
  refine lV 85 (eM (.tuple #[.slice A209 t204.1.length c210, .int .i64 t204.2.1, .int .i64 t204.2.2])) (lV 89 (e_extract (vs := #[.slice A209 t204.1.length c210, .int .i64 t204.2.1, .int .i64 t204.2.2]) (v := .slice A209 t204.1.length c210) (by kernel_rfl) rfl) (lV 90 (e_extract (vs := #[.slice A209 t204.1.length c210, .int .i64 t204.2.1, .int .i64 t204.2.2]) (v := .int .i64 t204.2.1) (by kernel_rfl) rfl) (lV 91 (e_extract (vs := #[.slice A209 t204.1.length c210, .int .i64 t204.2.1, .int .i64 t204.2.2]) (v := .int .i64 t204.2.2) (by kernel_rfl) rfl) (lV 13 (eA (.slice A209 t204.1.length c210)) (lV 14 (eA (.int .i64 t204.2.1)) (lV 15 (eA (.int .i64 t204.2.2)) (wpList_nil ?_)))))))
  refine then_n (wp_seq (wp_seq (wp_region_lit (lV 92 (eM (.slice A209 t204.1.length c210)) (lV 93 (eM (.slice A30 t25.1.length c31)) ?_)))))
  obtain ⟨t216, u217, M⟩ := bnd M
  refine lC 94 (eC [.tmp 92, .tmp 93] [.slice A209 t204.1.length c210, .slice A30 t25.1.length c31] Try.func12) (by have l218 := h211.le; obtain ⟨H219, S220, E221, h222, z223⟩ := S213.frzRow h211; replace h166 := h166.ext E221; replace h132 := h132.ext E221; replace h101 := h101.ext E221; replace h32 := h32.ext E221; have l224 := h32.le; have S225 := S220.pull (F := F33) (Fr := [F167, F133, F102]) 3 rfl rfl; obtain ⟨H226, S227, E228, h229, z230⟩ := S225.frzRow h32; replace h166 := h166.ext E228; replace h132 := h132.ext E228; replace h101 := h101.ext E228; exact (laws_eqTokenS.calls k w206 H226 t204.1 A209 c210 t25.1 A30 c31 (h222.ext E228) l218 h229 l224 S227.own0 t216 u217)) ?_
  rintro _ w231 ⟨rfl, C232⟩
  refine ⟨_, rfl, ?_⟩
  obtain ⟨S233, K234⟩ := S213.still C232
  replace h211 := h211.move (K234.at 0 rfl)
  replace h166 := h166.move (K234.at 1 rfl)
  replace h132 := h132.move (K234.at 2 rfl)
  replace h101 := h101.move (K234.at 3 rfl)
  replace h32 := h32.move (K234.at 4 rfl)
  refine lV 95 (e_notv (c := t216) (by kernel_rfl)) (lV 96 (eM (.bool (decide (¬ (t216 = true))))) ?_)
  by_cases q235 : ¬ (t216 = true)
  · replace M := ifp q235 M
    refine lK 96 true (bT q235) ?_
    refine lK 96 true (bT q235) ?_
    refine lK 96 true (bT q235) ?_
    refine lV 100 (eT (.bool true) (bT q235)) (lV 101 (eM (.bool true)) ?_)
    refine lJ 101 true ?_
    refine lJ 101 true ?_
    refine lJ 101 true ?_
    refine lV 105 (eT (.bool true)) (wpList_nil (then_n (cond_t rfl (by kernel_rfl) (wp_seq (wp_region_lit (lV 2 (eA (.bool false)) (wpList_nil ?_)))))))
    refine then_n (wp_ret (then_r ?_))
    obtain rfl := Option.some.inj M
    exact ret1 rfl rfl  (show _ = .bool false from (by kernel_rfl)) ⟨rfl, S233.chg⟩
  replace M := ifn q235 M
  refine lG 97 96 (bF q235) (eM (.int .i64 t204.2.1)) (lG 98 96 (bF q235) (eM (.int .i64 t25.2.1)) (lG 99 96 (bF q235) (eNe .i64 t204.2.1 t25.2.1) (lV 100 (eF (.bool (decide (t204.2.1 ≠ t25.2.1))) (bF q235)) (lV 101 (eM (.bool (decide (t204.2.1 ≠ t25.2.1)))) ?_))))
  by_cases q236 : t204.2.1 ≠ t25.2.1
  · replace M := ifp q236 M
    refine lK 101 true (bT q236) ?_
    refine lK 101 true (bT q236) ?_
    refine lK 101 true (bT q236) ?_
    refine lV 105 (eT (.bool true) (bT q236)) (wpList_nil (then_n (cond_t rfl (by kernel_rfl) (wp_seq (wp_region_lit (lV 2 (eA (.bool false)) (wpList_nil ?_)))))))
    refine then_n (wp_ret (then_r ?_))
    obtain rfl := Option.some.inj M
    exact ret1 rfl rfl  (show _ = .bool false from (by kernel_rfl)) ⟨rfl, S233.chg⟩
  replace M := ifn q236 M
  refine lG 102 101 (bF q236) (eM (.int .i64 t204.2.2)) (lG 103 101 (bF q236) (eM (.int .i64 t25.2.2)) (lG 104 101 (bF q236) (eNe .i64 t204.2.2 t25.2.2) (lV 105 (eF (.bool (decide (t204.2.2 ≠ t25.2.2))) (bF q236)) (wpList_nil (then_n ?_)))))
  by_cases q237 : t204.2.2 ≠ t25.2.2
  · replace M := ifp q237 M
    refine cT (bT q237) (wp_seq (wp_region_lit (lV 2 (eA (.bool false)) (wpList_nil (then_n (wp_ret (then_r ?_)))))))
    obtain rfl := Option.some.inj M
    exact ret1 rfl rfl  (show _ = .bool false from (by kernel_rfl)) ⟨rfl, S233.chg⟩
  replace M := ifn q237 M
  refine cF (bF q237) (wp_skip (then_n (wp_seq (wp_region_lit (lV 12 (eA (.int .i64 1)) (wpList_nil (then_n ?_)))))))
  refine wp_seq (wp_region_lit (lV 106 (eM (.slice A61 t56.1.length c62)) (lV 107 (eM (.int .i64 1)) ?_)))
  obtain ⟨t238, u239, M⟩ := bnd M
  refine lC 108 (eC [.tmp 106, .tmp 107] [.slice A61 t56.1.length c62, .int .i64 1] Try.func15) (by have l240 := h166.le; have S241 := S233.pull (F := F167) (Fr := [F212, F133, F102, F33]) 1 rfl rfl; obtain ⟨H242, S243, E244, h245, z246⟩ := S241.frzRow h166; replace h211 := h211.ext E244; replace h132 := h132.ext E244; replace h101 := h101.ext E244; replace h32 := h32.ext E244; exact (by have q_ := (laws_heldTokenS.calls k w231 H242 t161.2 A61 c62 1 h245 l240 S243.own0 t238 u239); rw [(show t161.2.length = t56.1.length from n168)] at q_; exact q_)) ?_
  rintro _ w247 ⟨rfl, C248⟩
  refine ⟨_, rfl, ?_⟩
  obtain ⟨S249, K250⟩ := S233.still C248
  refine lV 12 (eA (.int .i64 t238)) (wpList_nil (then_n (wp_seq (wp_seq (wp_region_lit (lV 109 (eM (.int .i64 t238)) (lV 110 (eLt .i64 t238 0) ?_)))))))
  refine wpList_nil (then_n ?_)
  by_cases q251 : t238 < 0
  · replace M := ifp q251 M
    refine cT (bT q251) (wp_seq (wp_region_lit (lV 2 (eA (.bool false)) (wpList_nil (then_n (wp_ret (then_r ?_)))))))
    obtain rfl := Option.some.inj M
    exact ret1 rfl rfl  (show _ = .bool false from (by kernel_rfl)) ⟨rfl, S249.chg⟩
  replace M := ifn q251 M
  refine cF (bF q251) (wp_skip (then_n (wp_seq (wp_seq (wp_region_lit (lV 111 (eM (.int .i64 t238)) (lV 112 (eM (.int .i64 t161.1)) ?_)))))))
  refine lV 113 (eNe .i64 t238 t161.1) (wpList_nil (then_n ?_))
  by_cases q252 : t238 ≠ t161.1
  · replace M := ifp q252 M
    refine cT (bT q252) (wp_seq (wp_region_lit (lV 2 (eA (.bool false)) (wpList_nil (then_n (wp_ret (then_r ?_)))))))
    obtain rfl := Option.some.inj M
    exact ret1 rfl rfl  (show _ = .bool false from (by kernel_rfl)) ⟨rfl, S249.chg⟩
  replace M := ifn q252 M
  refine cF (bF q252) (wp_skip (then_n (wp_seq (wp_region_lit (lV 2 (eA (.bool true)) (wpList_nil (then_n ?_)))))))
  refine wp_ret ?_
  obtain rfl := Option.some.inj M
  exact ret1 rfl rfl  (show _ = .bool true from (by kernel_rfl)) ⟨rfl, S249.chg⟩
end Go.Proofs.Ytdkbfcmekppnmaa
