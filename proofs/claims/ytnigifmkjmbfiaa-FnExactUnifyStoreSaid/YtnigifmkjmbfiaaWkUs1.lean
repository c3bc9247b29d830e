import Derived.Test.YtnigifmkjmbfiaaProg
import Derived.Test.YtnigifmkjmbfiaaY15
namespace Go.Proofs.Ytnigifmkjmbfiaa
open Go.Sx Go.Sy
attribute [local irreducible] Go.wpList Go.wpStill Go.wpQuiet Go.Code.wp
set_option maxRecDepth 100000
set_option maxHeartbeats 1000000
set_option linter.unusedVariables false
set_option linter.unusedSimpArgs false

/-! laws_szByteS -/
def sl5 : Ty (List UInt8) := slice 5 tByte (by decide)
def st28 : Ty Cell := iso (pair tInt (pair tInt sl5)) (fun x => (x.kind, x.n, x.text))
theorem st28_open {H : Hp} {x : Cell} {cs : List Value} (h : st28.R H x cs) : ∃ (A2 : Option Addr) (c2 : Nat), cs = [.int .i64 x.kind, .int .i64 x.n, .slice A2 x.text.length c2] ∧ x.text.length ≤ c2 ∧ Rd tByte H A2 x.text := by
  obtain ⟨_, _, rfl, rfl, ⟨_, _, rfl, rfl, ⟨A2, c2, rfl, l2, h2⟩⟩⟩ := h
  exact ⟨A2, c2, rfl, l2, h2⟩
theorem st28_mkR {H : Hp} {x : Cell} {A2 : Option Addr} {c2 : Nat} (l2 : x.text.length ≤ c2) (h2 : Rd tByte H A2 x.text) : st28.R H x [.int .i64 x.kind, .int .i64 x.n, .slice A2 x.text.length c2] := ⟨[.int .i64 x.kind], [.int .i64 x.n, .slice A2 x.text.length c2], rfl, rfl, ⟨[.int .i64 x.n], [.slice A2 x.text.length c2], rfl, rfl, ⟨A2, c2, rfl, l2, h2⟩⟩⟩
theorem st28_mkO {H X : Hp} {F2 : Foot} {x : Cell} {A2 : Option Addr} {c2 : Nat} (h2 : Row tByte 5 H X F2 A2 c2 x.text) : st28.O H X F2 x [.int .i64 x.kind, .int .i64 x.n, .slice A2 x.text.length c2] := (pairO0 (a := tInt) (b := (pair tInt sl5)) (x := (x.kind, (x.n, x.text))) (c0 := [.int .i64 x.kind]) (c1 := [.int .i64 x.n, .slice A2 x.text.length c2]) rfl (pairO0 (a := tInt) (b := sl5) (x := (x.n, x.text)) (c0 := [.int .i64 x.n]) (c1 := [.slice A2 x.text.length c2]) rfl ⟨A2, c2, rfl, h2⟩))
theorem st28_openO {H X : Hp} {F : Foot} {x : Cell} {cs : List Value} (h : st28.O H X F x cs) : ∃ (A2 : Option Addr) (c2 : Nat) (F2 : Foot), cs = [.int .i64 x.kind, .int .i64 x.n, .slice A2 x.text.length c2] ∧ Row tByte 5 H X F2 A2 c2 x.text ∧ (∀ b, F2 b → F b) := by
  obtain ⟨_, _, K1, L1, rfl, rfl, ⟨_, _, K0, L0, rfl, rfl, ⟨A2, c2, rfl, h2⟩, d0, s0⟩, d1, s1⟩ := h
  exact ⟨A2, c2, _, rfl, h2, fun b hb => s1 b (.inr (s0 b (.inr (hb))))⟩
theorem st28_c0 {H X : Hp} {F : Foot} {x : Cell} {cs : List Value} (h : st28.O H X F x cs) : cs[0]? = some (.int .i64 x.kind) := by obtain ⟨_, _, _, rfl, _, _⟩ := st28_openO h; rfl
theorem st28_r0 {H : Hp} {x : Cell} {cs : List Value} (h : st28.R H x cs) : cs[0]? = some (.int .i64 x.kind) := by obtain ⟨_, _, rfl, _, _⟩ := st28_open h; rfl
theorem st28_c1 {H X : Hp} {F : Foot} {x : Cell} {cs : List Value} (h : st28.O H X F x cs) : cs[1]? = some (.int .i64 x.n) := by obtain ⟨_, _, _, rfl, _, _⟩ := st28_openO h; rfl
theorem st28_r1 {H : Hp} {x : Cell} {cs : List Value} (h : st28.R H x cs) : cs[1]? = some (.int .i64 x.n) := by obtain ⟨_, _, rfl, _, _⟩ := st28_open h; rfl
theorem st28_u0 {H X : Hp} {F1 F2 : Foot} {x : Cell} (y : Int) {cs : List Value} (h : st28.O H X F1 x cs) : st28.O H X (or2 F1 F2) {x with kind := y} (cs.take 0 ++ [.int .i64 y] ++ cs.drop 1) := by
  obtain ⟨_, _, _, rfl, h2, s2⟩ := st28_openO h
  exact st28_mkO (x := {x with kind := y}) (h2.mono fun b hb => .inl (s2 b hb))
theorem st28_u1 {H X : Hp} {F1 F2 : Foot} {x : Cell} (y : Int) {cs : List Value} (h : st28.O H X F1 x cs) : st28.O H X (or2 F1 F2) {x with n := y} (cs.take 1 ++ [.int .i64 y] ++ cs.drop 2) := by
  obtain ⟨_, _, _, rfl, h2, s2⟩ := st28_openO h
  exact st28_mkO (x := {x with n := y}) (h2.mono fun b hb => .inl (s2 b hb))
theorem st28_u2 {H X : Hp} {F1 F2 : Foot} {x : Cell} {y : List UInt8} {A : Option Addr} {c : Nat} {cs : List Value} (hy : Row tByte 5 H X F2 A c y) (h : st28.O H X F1 x cs) : st28.O H X (or2 F1 F2) {x with text := y} (cs.take 2 ++ [.slice A y.length c] ++ cs.drop 3) := by
  obtain ⟨_, _, _, rfl, h2, _⟩ := st28_openO h
  exact st28_mkO (x := {x with text := y}) (hy.mono fun b hb => .inr hb)
def z28 : Cell := ⟨(0 : Int), (0 : Int), ([] : List UInt8)⟩
theorem z28_O (H X : Hp) : st28.O H X no z28 [.int .i64 (0 : Int), .int .i64 (0 : Int), .slice none 0 0] := st28_mkO (x := z28) (Row.nil _ _ _ _ no)
theorem z28_R (H : Hp) : st28.R H z28 [.int .i64 (0 : Int), .int .i64 (0 : Int), .slice none 0 0] := st28_mkR (x := z28) (Nat.le_refl _) (Rd.nil _ _ _)
def laws_szByteS.f (x1 : List UInt8) (x6 : Int) : Option Int := (if (IntKind.i64.wrap (x6 - (x1.length : Int))) < 0 then some (-1) else some (IntKind.i64.wrap (x6 - (x1.length : Int))))
theorem laws_szByteS.calls (w : World) (H : Hp) (x1 : List UInt8) (A2 : Option Addr) (c3 : Nat) (x6 : Int) (h4 : Rd tByte H A2 x1) (l5 : x1.length ≤ c3) (S : Own [] H w) (r : Int) (M : laws_szByteS.f x1 x6 = some r) :
    Calls Try.prog 36 #[.slice A2 x1.length c3, .int .i64 x6] w (fun e e_w => e = .returned (.int .i64 r) ∧ Chg no w e_w) := by
  rw [laws_szByteS.f] at M
  refine enter (l := [.slice A2 x1.length c3, .int .i64 x6]) 12 Try.func36 rfl rfl rfl ?_
  have S0_ := S.st
  refine wp_seq (wR (lV 4 (eA (.int .i64 0)) (wN (then_n (wp_seq (wR (lV 5 (eM (.int .i64 x6)) ?_)))))))
  refine lV 6 (eM (.slice A2 x1.length c3)) (lV 7 (e_len (A := A2) (n := x1.length) (c := c3) Try.underlying26 (by kernel_rfl)) (lV 8 (e_sub (k := .i64) (a := x6) (b := (x1.length : Int)) (by kernel_rfl) (by kernel_rfl)) (lV 1 (eA (.int .i64 (IntKind.i64.wrap (x6 - (x1.length : Int))))) (wN (then_n (wp_seq (wp_seq ?_)))))))
  refine wR (lV 9 (eM (.int .i64 (IntKind.i64.wrap (x6 - (x1.length : Int))))) (lV 10 (eLt .i64 (IntKind.i64.wrap (x6 - (x1.length : Int))) 0) (wN (then_n ?_))))
  by_cases q7 : (IntKind.i64.wrap (x6 - (x1.length : Int))) < 0
  · replace M := ifp q7 M
    refine cT (bT q7) (wp_seq (wR (lV 4 (eA (.int .i64 (-1))) (wN (then_n (wp_ret (then_r ?_)))))))
    obtain rfl := Option.some.inj M
    exact ret1 rfl rfl  (show _ = .int .i64 (-1) from (by kernel_rfl)) ⟨rfl, S0_.chg⟩
  replace M := ifn q7 M
  refine cF (bF q7) (wp_skip (then_n (wp_seq (wR (lV 11 (eM (.int .i64 (IntKind.i64.wrap (x6 - (x1.length : Int))))) (lV 4 (eA (.int .i64 (IntKind.i64.wrap (x6 - (x1.length : Int))))) (wN ?_)))))))
  refine then_n (wp_ret ?_)
  obtain rfl := Option.some.inj M
  exact ret1 rfl rfl  (show _ = .int .i64 (IntKind.i64.wrap (x6 - (x1.length : Int))) from (by kernel_rfl)) ⟨rfl, S0_.chg⟩

/-! laws_szCell -/
def laws_szCell.f (x1 : Cell) (x6 : Int) : Option Int := ((laws_szByteS.f x1.text x6).bind fun t12 => (if t12 < 0 then some (-1) else some t12))
theorem laws_szCell.calls (w : World) (H : Hp) (x1 : Cell) (A2 : Option Addr) (c3 : Nat) (x6 : Int) (h4 : Rd tByte H A2 x1.text) (l5 : x1.text.length ≤ c3) (S : Own [] H w) (r : Int) (M : laws_szCell.f x1 x6 = some r) :
    Calls Try.prog 10 #[.agg #[.int .i64 x1.kind, .int .i64 x1.n, .slice A2 x1.text.length c3], .int .i64 x6] w (fun e e_w => e = .returned (.int .i64 r) ∧ Chg no w e_w) := by
  rw [laws_szCell.f] at M
  refine enter (l := [.agg #[.int .i64 x1.kind, .int .i64 x1.n, .slice A2 x1.text.length c3], .int .i64 x6]) 12 Try.func10 rfl rfl rfl ?_
  have S0_ := S.st
  refine wp_seq (wR ?_)
  refine lW 2 (nB #[.int .i64 x1.kind, .int .i64 x1.n, .slice A2 x1.text.length c3] 28 S0_) ?_
  rintro _ w7 ⟨g8, rfl, b9, S10, K11⟩
  refine lV 4 (eA (.int .i64 0)) (wN (then_n (wp_seq (wR (lV 5 (eD g8 0 2 1 Try.underlying28) (lV 6 (eL ⟨g8, 0 + 2, none⟩ (.slice A2 x1.text.length c3) Try.underlying26 (blk_cell b9 rfl)) (lV 7 (eM (.int .i64 x6)) ?_)))))))
  obtain ⟨t12, u13, M⟩ := bnd M
  refine lC 8 (eC [.tmp 6, .tmp 7] [.slice A2 x1.text.length c3, .int .i64 x6] Try.func36) (laws_szByteS.calls w7 H x1.text A2 c3 x6 h4 l5 S10.own0 t12 u13) ?_
  rintro _ w14 ⟨rfl, C15⟩
  refine ⟨_, rfl, ?_⟩
  obtain ⟨S16, K17⟩ := S10.still C15
  refine lV 1 (eA (.int .i64 t12)) (wN (then_n (wp_seq (wp_seq (wR (lV 9 (eM (.int .i64 t12)) (lV 10 (eLt .i64 t12 0) ?_)))))))
  refine wN (then_n ?_)
  by_cases q18 : t12 < 0
  · replace M := ifp q18 M
    refine cT (bT q18) (wp_seq (wR (lV 4 (eA (.int .i64 (-1))) (wN (then_n (wp_ret (then_r ?_)))))))
    obtain rfl := Option.some.inj M
    exact ret1 rfl rfl  (show _ = .int .i64 (-1) from (by kernel_rfl)) ⟨rfl, S16.chg⟩
  replace M := ifn q18 M
  refine cF (bF q18) (wp_skip (then_n (wp_seq (wR (lV 11 (eM (.int .i64 t12)) (lV 4 (eA (.int .i64 t12)) (wN ?_)))))))
  refine then_n (wp_ret ?_)
  obtain rfl := Option.some.inj M
  exact ret1 rfl rfl  (show _ = .int .i64 t12 from (by kernel_rfl)) ⟨rfl, S16.chg⟩

/-! laws_szCellS -/
def laws_szCellS.l0 : Nat → (List Cell) → Int → Int → Option Int
  | 0, _, _, _ => none
  | k20 + 1, x1, x10, x11 => (if x11 < (x1.length : Int) then (if 0 ≤ x11 then ((laws_szCell.f (x1.getD ((x11).toNat) z28) x10).bind fun t33 => (if t33 < 0 then some (-1) else (laws_szCellS.l0 k20 x1 t33 (IntKind.i64.wrap (x11 + 1))))) else none) else some x10)
def laws_szCellS.f (k : Nat) (x1 : List Cell) (x6 : Int) : Option Int := (if (IntKind.i64.wrap (x6 - (x1.length : Int))) < 0 then some (-1) else (laws_szCellS.l0 k x1 (IntKind.i64.wrap (x6 - (x1.length : Int))) 0))
theorem laws_szCellS.calls (k : Nat) (w : World) (H : Hp) (x1 : List Cell) (A2 : Option Addr) (c3 : Nat) (x6 : Int) (h4 : Rd st28 H A2 x1) (l5 : x1.length ≤ c3) (S : Own [] H w) (r : Int) (M : laws_szCellS.f k x1 x6 = some r) :
    Calls Try.prog 34 #[.slice A2 x1.length c3, .int .i64 x6] w (fun e e_w => e = .returned (.int .i64 r) ∧ Chg no w e_w) := by
  rw [laws_szCellS.f] at M
  refine enter (l := [.slice A2 x1.length c3, .int .i64 x6]) 27 Try.func34 rfl rfl rfl ?_
  have S0_ := S.st
  refine wp_seq (wR (lV 4 (eA (.int .i64 0)) (wN (then_n (wp_seq (wR (lV 6 (eM (.int .i64 x6)) ?_)))))))
  refine lV 7 (eM (.slice A2 x1.length c3)) (lV 8 (e_len (A := A2) (n := x1.length) (c := c3) Try.underlying22 (by kernel_rfl)) (lV 9 (e_sub (k := .i64) (a := x6) (b := (x1.length : Int)) (by kernel_rfl) (by kernel_rfl)) (lV 1 (eA (.int .i64 (IntKind.i64.wrap (x6 - (x1.length : Int))))) (wN (then_n (wp_seq (wp_seq ?_)))))))
  refine wR (lV 10 (eM (.int .i64 (IntKind.i64.wrap (x6 - (x1.length : Int))))) (lV 11 (eLt .i64 (IntKind.i64.wrap (x6 - (x1.length : Int))) 0) (wN (then_n ?_))))
  by_cases q7 : (IntKind.i64.wrap (x6 - (x1.length : Int))) < 0
  · replace M := ifp q7 M
    refine cT (bT q7) (wp_seq (wR (lV 4 (eA (.int .i64 (-1))) (wN (then_n (wp_ret (then_r ?_)))))))
    obtain rfl := Option.some.inj M
    exact ret1 rfl rfl  (show _ = .int .i64 (-1) from (by kernel_rfl)) ⟨rfl, S0_.chg⟩
  replace M := ifn q7 M
  refine cF (bF q7) (wp_skip (then_n (wp_seq (wp_seq (wR (lV 5 (eA (.int .i64 0)) (wN ?_)))))))
  refine then_n (wp_block ?_)
  refine wp_loop_g (fun k18 a19 w8 => ∃ (f9 : Nat → Value) (x10 : Int) (x11 : Int), a19 = mk 27 f9 ∧ f9 0 = .slice A2 x1.length c3 ∧ f9 1 = .int .i64 x10 ∧ f9 5 = .int .i64 x11 ∧ St (anyOf []) H w [] H w8 ∧ laws_szCellS.l0 k18 x1 x10 x11 = some r) k ⟨_, (IntKind.i64.wrap (x6 - (x1.length : Int))), 0, rfl, (by kernel_rfl), (by kernel_rfl), (by kernel_rfl), S0_, M⟩ ?_
  clear M
  rintro k18 a19 w8 ⟨f9, x10, x11, rfl, e12, e13, e14, S15, M⟩
  rcases k18 with _ | k20
  · rw [laws_szCellS.l0] at M
    cases M
  rw [laws_szCellS.l0] at M
  refine wp_seq (wp_seq (wR (lV 12 (eM (.int .i64 x11) (by exact e14)) (lV 13 (eM (.slice A2 x1.length c3) (by exact e12)) (lV 14 (e_len (A := A2) (n := x1.length) (c := c3) Try.underlying22 (by kernel_rfl)) (lV 15 (eLt .i64 x11 (x1.length : Int)) (wN ?_)))))))
  refine then_n ?_
  by_cases q21 : x11 < (x1.length : Int)
  · replace M := ifp q21 M
    refine cT (bT q21) (wp_skip (then_n (wp_seq (wp_block (wp_seq (wR (lV 18 (eM (.slice A2 x1.length c3) (by exact e12)) ?_)))))))
    refine lV 19 (eM (.int .i64 x11) (by exact e14)) ?_
    obtain ⟨q22, M⟩ := chk M
    obtain ⟨b23, o24, e25⟩ := Rd.addr h4 (show (x11).toNat < x1.length by omega)
    obtain ⟨y26, r27, k28⟩ := Rd.at h4 e25 (getD_some z28 (show (x11).toNat < x1.length by omega))
    obtain ⟨A29, c30, rfl, l31, h32⟩ := st28_open r27
    refine lV 20 (eI b23 o24 x1.length c3 3 x11 .i64 Try.underlying22 e25 q22 q21) (lV 21 (e_loadS (b := b23) (off := o24 + (x11 : Int).toNat * 3) (cs := [.int .i64 ((x1.getD ((x11).toNat) z28).kind), .int .i64 ((x1.getD ((x11).toNat) z28).n), .slice A29 ((x1.getD ((x11).toNat) z28).text).length c30]) Try.underlying28 rfl (by kernel_rfl) (by kernel_rfl) (fun j_ u_ e_ => (hpx (S15.inv.cell (k28 j_ u_ e_))))) (lV 22 (eM (.int .i64 x10) (by exact e13)) ?_))
    obtain ⟨t33, u34, M⟩ := bnd M
    refine lC 23 (eC [.tmp 21, .tmp 22] [.agg #[.int .i64 ((x1.getD ((x11).toNat) z28).kind), .int .i64 ((x1.getD ((x11).toNat) z28).n), .slice A29 ((x1.getD ((x11).toNat) z28).text).length c30], .int .i64 x10] Try.func10) (laws_szCell.calls w8 H (x1.getD ((x11).toNat) z28) A29 c30 x10 h32 l31 S15.own0 t33 u34) ?_
    rintro _ w35 ⟨rfl, C36⟩
    refine ⟨_, rfl, ?_⟩
    obtain ⟨S37, K38⟩ := S15.still C36
    refine lV 1 (eA (.int .i64 t33)) (wN (then_n (wp_seq (wR (lV 24 (eM (.int .i64 t33)) (lV 25 (eLt .i64 t33 0) (wN ?_)))))))
    refine then_n ?_
    by_cases q39 : t33 < 0
    · replace M := ifp q39 M
      refine cT (bT q39) (wp_seq (wR (lV 4 (eA (.int .i64 (-1))) (wN (then_n (wp_ret (inb_r ?_)))))))
      refine then_r (then_r (inb_r (then_r ?_)))
      obtain rfl := Option.some.inj M
      exact ret1 rfl rfl  (show _ = .int .i64 (-1) from (by kernel_rfl)) ⟨rfl, S37.chg⟩
    replace M := ifn q39 M
    refine cF (bF q39) (wp_skip (inb_n (then_n (wR (lV 16 (eM (.int .i64 x11) (by exact e14)) (lV 17 (eAdd .i64 x11 1) (lV 5 (eA (.int .i64 (IntKind.i64.wrap (x11 + 1)))) ?_)))))))
    refine wN (then_n ?_)
    exact ⟨k20, (by omega), _, t33, (IntKind.i64.wrap (x11 + 1)), rfl, (by exact e12), (by kernel_rfl), (by kernel_rfl), S37, M⟩
  replace M := ifn q21 M
  refine cF (bF q21) (wp_exit (then_e (then_e (inb_hit (then_n (wp_seq (wR ?_)))))))
  refine lV 26 (eM (.int .i64 x10) (by exact e13)) (lV 4 (eA (.int .i64 x10)) (wN (then_n (wp_ret ?_))))
  obtain rfl := Option.some.inj M
  exact ret1 rfl rfl  (show _ = .int .i64 x10 from (by kernel_rfl)) ⟨rfl, S15.chg⟩

/-! laws_szIntS -/
def laws_szIntS.f (x1 : List Int) (x6 : Int) : Option Int := (if (IntKind.i64.wrap (x6 - (x1.length : Int))) < 0 then some (-1) else some (IntKind.i64.wrap (x6 - (x1.length : Int))))
theorem laws_szIntS.calls (w : World) (H : Hp) (x1 : List Int) (A2 : Option Addr) (c3 : Nat) (x6 : Int) (h4 : Rd tInt H A2 x1) (l5 : x1.length ≤ c3) (S : Own [] H w) (r : Int) (M : laws_szIntS.f x1 x6 = some r) :
    Calls Try.prog 35 #[.slice A2 x1.length c3, .int .i64 x6] w (fun e e_w => e = .returned (.int .i64 r) ∧ Chg no w e_w) := by
  rw [laws_szIntS.f] at M
  refine enter (l := [.slice A2 x1.length c3, .int .i64 x6]) 12 Try.func35 rfl rfl rfl ?_
  have S0_ := S.st
  refine wp_seq (wR (lV 4 (eA (.int .i64 0)) (wN (then_n (wp_seq (wR (lV 5 (eM (.int .i64 x6)) ?_)))))))
  refine lV 6 (eM (.slice A2 x1.length c3)) (lV 7 (e_len (A := A2) (n := x1.length) (c := c3) Try.underlying23 (by kernel_rfl)) (lV 8 (e_sub (k := .i64) (a := x6) (b := (x1.length : Int)) (by kernel_rfl) (by kernel_rfl)) (lV 1 (eA (.int .i64 (IntKind.i64.wrap (x6 - (x1.length : Int))))) (wN (then_n (wp_seq (wp_seq ?_)))))))
  refine wR (lV 9 (eM (.int .i64 (IntKind.i64.wrap (x6 - (x1.length : Int))))) (lV 10 (eLt .i64 (IntKind.i64.wrap (x6 - (x1.length : Int))) 0) (wN (then_n ?_))))
  by_cases q7 : (IntKind.i64.wrap (x6 - (x1.length : Int))) < 0
  · replace M := ifp q7 M
    refine cT (bT q7) (wp_seq (wR (lV 4 (eA (.int .i64 (-1))) (wN (then_n (wp_ret (then_r ?_)))))))
    obtain rfl := Option.some.inj M
    exact ret1 rfl rfl  (show _ = .int .i64 (-1) from (by kernel_rfl)) ⟨rfl, S0_.chg⟩
  replace M := ifn q7 M
  refine cF (bF q7) (wp_skip (then_n (wp_seq (wR (lV 11 (eM (.int .i64 (IntKind.i64.wrap (x6 - (x1.length : Int))))) (lV 4 (eA (.int .i64 (IntKind.i64.wrap (x6 - (x1.length : Int))))) (wN ?_)))))))
  refine then_n (wp_ret ?_)
  obtain rfl := Option.some.inj M
  exact ret1 rfl rfl  (show _ = .int .i64 (IntKind.i64.wrap (x6 - (x1.length : Int))) from (by kernel_rfl)) ⟨rfl, S0_.chg⟩

/-! laws_szStore -/
def laws_szStore.f (k : Nat) (x1 : Store) (x10 : Int) : Option Int := ((laws_szCellS.f k x1.cells x10).bind fun t16 => (if t16 < 0 then some (-1) else ((laws_szIntS.f x1.trail t16).bind fun t23 => (if t23 < 0 then some (-1) else some t23))))
theorem laws_szStore.calls (k : Nat) (w : World) (H : Hp) (x1 : Store) (A2 : Option Addr) (c3 : Nat) (A6 : Option Addr) (c7 : Nat) (x10 : Int) (h4 : Rd st28 H A2 x1.cells) (l5 : x1.cells.length ≤ c3) (h8 : Rd tInt H A6 x1.trail) (l9 : x1.trail.length ≤ c7) (S : Own [] H w) (r : Int) (M : laws_szStore.f k x1 x10 = some r) :
    Calls Try.prog 9 #[.agg #[.slice A2 x1.cells.length c3, .slice A6 x1.trail.length c7], .int .i64 x10] w (fun e e_w => e = .returned (.int .i64 r) ∧ Chg no w e_w) := by
  rw [laws_szStore.f] at M
  refine enter (l := [.agg #[.slice A2 x1.cells.length c3, .slice A6 x1.trail.length c7], .int .i64 x10]) 18 Try.func9 rfl rfl rfl ?_
  have S0_ := S.st
  refine wp_seq (wR ?_)
  refine lW 2 (nB #[.slice A2 x1.cells.length c3, .slice A6 x1.trail.length c7] 25 S0_) ?_
  rintro _ w11 ⟨g12, rfl, b13, S14, K15⟩
  refine lV 4 (eA (.int .i64 0)) (wN (then_n (wp_seq (wR (lV 5 (eD g12 0 0 1 Try.underlying25) (lV 6 (eL ⟨g12, 0 + 0, none⟩ (.slice A2 x1.cells.length c3) Try.underlying22 (blk_cell b13 rfl)) (lV 7 (eM (.int .i64 x10)) ?_)))))))
  obtain ⟨t16, u17, M⟩ := bnd M
  refine lC 8 (eC [.tmp 6, .tmp 7] [.slice A2 x1.cells.length c3, .int .i64 x10] Try.func34) (laws_szCellS.calls k w11 H x1.cells A2 c3 x10 h4 l5 S14.own0 t16 u17) ?_
  rintro _ w18 ⟨rfl, C19⟩
  refine ⟨_, rfl, ?_⟩
  obtain ⟨S20, K21⟩ := S14.still C19
  replace b13 := K21.blk 0 rfl b13
  refine lV 1 (eA (.int .i64 t16)) (wN (then_n (wp_seq (wp_seq (wR (lV 9 (eM (.int .i64 t16)) (lV 10 (eLt .i64 t16 0) ?_)))))))
  refine wN (then_n ?_)
  by_cases q22 : t16 < 0
  · replace M := ifp q22 M
    refine cT (bT q22) (wp_seq (wR (lV 4 (eA (.int .i64 (-1))) (wN (then_n (wp_ret (then_r ?_)))))))
    obtain rfl := Option.some.inj M
    exact ret1 rfl rfl  (show _ = .int .i64 (-1) from (by kernel_rfl)) ⟨rfl, S20.chg⟩
  replace M := ifn q22 M
  refine cF (bF q22) (wp_skip (then_n (wp_seq (wR (lV 11 (eD g12 0 1 1 Try.underlying25) (lV 12 (eL ⟨g12, 0 + 1, none⟩ (.slice A6 x1.trail.length c7) Try.underlying23 (blk_cell b13 rfl)) (lV 13 (eM (.int .i64 t16)) ?_)))))))
  obtain ⟨t23, u24, M⟩ := bnd M
  refine lC 14 (eC [.tmp 12, .tmp 13] [.slice A6 x1.trail.length c7, .int .i64 t16] Try.func35) (laws_szIntS.calls w18 H x1.trail A6 c7 t16 h8 l9 S20.own0 t23 u24) ?_
  rintro _ w25 ⟨rfl, C26⟩
  refine ⟨_, rfl, ?_⟩
  obtain ⟨S27, K28⟩ := S20.still C26
  refine lV 1 (eA (.int .i64 t23)) (wN (then_n (wp_seq (wp_seq (wR (lV 15 (eM (.int .i64 t23)) (lV 16 (eLt .i64 t23 0) ?_)))))))
  refine wN (then_n ?_)
  by_cases q29 : t23 < 0
  · replace M := ifp q29 M
    refine cT (bT q29) (wp_seq (wR (lV 4 (eA (.int .i64 (-1))) (wN (then_n (wp_ret (then_r ?_)))))))
    obtain rfl := Option.some.inj M
    exact ret1 rfl rfl  (show _ = .int .i64 (-1) from (by kernel_rfl)) ⟨rfl, S27.chg⟩
  replace M := ifn q29 M
  refine cF (bF q29) (wp_skip (then_n (wp_seq (wR (lV 17 (eM (.int .i64 t23)) (lV 4 (eA (.int .i64 t23)) (wN ?_)))))))
  refine then_n (wp_ret ?_)
  obtain rfl := Option.some.inj M
  exact ret1 rfl rfl  (show _ = .int .i64 t23 from (by kernel_rfl)) ⟨rfl, S27.chg⟩

/-! laws_toByteS -/
def st36 : Ty Cell := iso (pair tInt (pair tInt sl5)) (fun x => (x.kind, x.n, x.text))
theorem st36_open {H : Hp} {x : Cell} {cs : List Value} (h : st36.R H x cs) : ∃ (A2 : Option Addr) (c2 : Nat), cs = [.int .i64 x.kind, .int .i64 x.n, .slice A2 x.text.length c2] ∧ x.text.length ≤ c2 ∧ Rd tByte H A2 x.text := by
  obtain ⟨_, _, rfl, rfl, ⟨_, _, rfl, rfl, ⟨A2, c2, rfl, l2, h2⟩⟩⟩ := h
  exact ⟨A2, c2, rfl, l2, h2⟩
theorem st36_mkR {H : Hp} {x : Cell} {A2 : Option Addr} {c2 : Nat} (l2 : x.text.length ≤ c2) (h2 : Rd tByte H A2 x.text) : st36.R H x [.int .i64 x.kind, .int .i64 x.n, .slice A2 x.text.length c2] := ⟨[.int .i64 x.kind], [.int .i64 x.n, .slice A2 x.text.length c2], rfl, rfl, ⟨[.int .i64 x.n], [.slice A2 x.text.length c2], rfl, rfl, ⟨A2, c2, rfl, l2, h2⟩⟩⟩
theorem st36_mkO {H X : Hp} {F2 : Foot} {x : Cell} {A2 : Option Addr} {c2 : Nat} (h2 : Row tByte 5 H X F2 A2 c2 x.text) : st36.O H X F2 x [.int .i64 x.kind, .int .i64 x.n, .slice A2 x.text.length c2] := (pairO0 (a := tInt) (b := (pair tInt sl5)) (x := (x.kind, (x.n, x.text))) (c0 := [.int .i64 x.kind]) (c1 := [.int .i64 x.n, .slice A2 x.text.length c2]) rfl (pairO0 (a := tInt) (b := sl5) (x := (x.n, x.text)) (c0 := [.int .i64 x.n]) (c1 := [.slice A2 x.text.length c2]) rfl ⟨A2, c2, rfl, h2⟩))
theorem st36_openO {H X : Hp} {F : Foot} {x : Cell} {cs : List Value} (h : st36.O H X F x cs) : ∃ (A2 : Option Addr) (c2 : Nat) (F2 : Foot), cs = [.int .i64 x.kind, .int .i64 x.n, .slice A2 x.text.length c2] ∧ Row tByte 5 H X F2 A2 c2 x.text ∧ (∀ b, F2 b → F b) := by
  obtain ⟨_, _, K1, L1, rfl, rfl, ⟨_, _, K0, L0, rfl, rfl, ⟨A2, c2, rfl, h2⟩, d0, s0⟩, d1, s1⟩ := h
  exact ⟨A2, c2, _, rfl, h2, fun b hb => s1 b (.inr (s0 b (.inr (hb))))⟩
theorem st36_c0 {H X : Hp} {F : Foot} {x : Cell} {cs : List Value} (h : st36.O H X F x cs) : cs[0]? = some (.int .i64 x.kind) := by obtain ⟨_, _, _, rfl, _, _⟩ := st36_openO h; rfl
theorem st36_r0 {H : Hp} {x : Cell} {cs : List Value} (h : st36.R H x cs) : cs[0]? = some (.int .i64 x.kind) := by obtain ⟨_, _, rfl, _, _⟩ := st36_open h; rfl
theorem st36_c1 {H X : Hp} {F : Foot} {x : Cell} {cs : List Value} (h : st36.O H X F x cs) : cs[1]? = some (.int .i64 x.n) := by obtain ⟨_, _, _, rfl, _, _⟩ := st36_openO h; rfl
theorem st36_r1 {H : Hp} {x : Cell} {cs : List Value} (h : st36.R H x cs) : cs[1]? = some (.int .i64 x.n) := by obtain ⟨_, _, rfl, _, _⟩ := st36_open h; rfl
theorem st36_u0 {H X : Hp} {F1 F2 : Foot} {x : Cell} (y : Int) {cs : List Value} (h : st36.O H X F1 x cs) : st36.O H X (or2 F1 F2) {x with kind := y} (cs.take 0 ++ [.int .i64 y] ++ cs.drop 1) := by
  obtain ⟨_, _, _, rfl, h2, s2⟩ := st36_openO h
  exact st36_mkO (x := {x with kind := y}) (h2.mono fun b hb => .inl (s2 b hb))
theorem st36_u1 {H X : Hp} {F1 F2 : Foot} {x : Cell} (y : Int) {cs : List Value} (h : st36.O H X F1 x cs) : st36.O H X (or2 F1 F2) {x with n := y} (cs.take 1 ++ [.int .i64 y] ++ cs.drop 2) := by
  obtain ⟨_, _, _, rfl, h2, s2⟩ := st36_openO h
  exact st36_mkO (x := {x with n := y}) (h2.mono fun b hb => .inl (s2 b hb))
theorem st36_u2 {H X : Hp} {F1 F2 : Foot} {x : Cell} {y : List UInt8} {A : Option Addr} {c : Nat} {cs : List Value} (hy : Row tByte 5 H X F2 A c y) (h : st36.O H X F1 x cs) : st36.O H X (or2 F1 F2) {x with text := y} (cs.take 2 ++ [.slice A y.length c] ++ cs.drop 3) := by
  obtain ⟨_, _, _, rfl, h2, _⟩ := st36_openO h
  exact st36_mkO (x := {x with text := y}) (hy.mono fun b hb => .inr hb)
def z36 : Cell := ⟨(0 : Int), (0 : Int), ([] : List UInt8)⟩
theorem z36_O (H X : Hp) : st36.O H X no z36 [.int .i64 (0 : Int), .int .i64 (0 : Int), .slice none 0 0] := st36_mkO (x := z36) (Row.nil _ _ _ _ no)
theorem z36_R (H : Hp) : st36.R H z36 [.int .i64 (0 : Int), .int .i64 (0 : Int), .slice none 0 0] := st36_mkR (x := z36) (Nat.le_refl _) (Rd.nil _ _ _)
def laws_toByteS.l0 : Nat → (List UInt8) → Int → (List UInt8) → Option (List UInt8)
  | 0, _, _, _ => none
  | k29 + 1, x1, x17, x19 => (if x17 < (x1.length : Int) then (if 0 ≤ x17 then (if x17 < (((x1.length : Int)).toNat : Int) then (laws_toByteS.l0 k29 x1 (IntKind.i64.wrap (x17 + 1)) (x19.set ((x17).toNat) (x1.getD ((x17).toNat) (0 : UInt8)))) else none) else none) else some x19)
def laws_toByteS.f (k : Nat) (x1 : List UInt8) : Option (List UInt8) := (if 0 ≤ (x1.length : Int) then (if ((x1.length : Int)).toNat ≤ 281474976710656 then (laws_toByteS.l0 k x1 0 (List.replicate ((x1.length : Int)).toNat (0 : UInt8))) else none) else none)
theorem laws_toByteS.calls (k : Nat) (w : World) (H : Hp) (x1 : List UInt8) (A2 : Option Addr) (c3 : Nat) (h4 : Rd tByte H A2 x1) (l5 : x1.length ≤ c3) (S : Own [] H w) (r : List UInt8) (M : laws_toByteS.f k x1 = some r) :
    Calls Try.prog 41 #[.slice A2 x1.length c3] w (fun e e_w => ∃ (A_1 : Option Addr) (c_1 : Nat) (F_1 : Foot) (H_ : Hp), e = .returned (.slice A_1 r.length c_1) ∧ Row tByte 5 H_ (hp e_w) F_1 A_1 c_1 r ∧ St (anyOf []) H w [F_1] H_ e_w) := by
  rw [laws_toByteS.f] at M
  refine enter (l := [.slice A2 x1.length c3]) 22 Try.func41 rfl rfl rfl ?_
  have S0_ := S.st
  refine wp_seq (wR (lV 2 (eA (.slice none 0 0)) (wN (then_n (wp_seq (wR (lV 5 (eM (.slice A2 x1.length c3)) ?_)))))))
  refine lV 6 (e_len (A := A2) (n := x1.length) (c := c3) Try.underlying26 (by kernel_rfl)) ?_
  obtain ⟨q6, M⟩ := chk M
  obtain ⟨q7, M⟩ := chk M
  refine lW 7 (e_make (d := tByte) (k := .i64) (k2 := .i64) (n := (x1.length : Int)) (z := .int .u8 0) (zx := (0 : UInt8)) (bytes := 1) S0_ Try.underlying26 (by kernel_rfl) rfl (by decide) (fun _ => rfl) (by kernel_rfl) (by kernel_rfl) q6 (by omega) (by omega)) ?_
  rintro _ w8 ⟨A9, c10, F11, rfl, h12, S13, K14⟩
  refine lV 3 (eA (.slice A9 (((x1.length : Int)).toNat) c10)) (wN (then_n (wp_seq (wp_seq (wR (lV 4 (eA (.int .i64 0)) (wN ?_)))))))
  refine then_n (wp_block ?_)
  refine wp_loop_g (fun k27 a28 w15 => ∃ (f16 : Nat → Value) (x17 : Int) (F18 : Foot) (x19 : List UInt8), a28 = mk 22 f16 ∧ f16 0 = .slice A2 x1.length c3 ∧ f16 3 = .slice A9 (((x1.length : Int)).toNat) c10 ∧ f16 4 = .int .i64 x17 ∧ Row tByte 5 H (hp w15) F18 A9 c10 x19 ∧ x19.length = ((x1.length : Int)).toNat ∧ St (anyOf []) H w [F18] H w15 ∧ laws_toByteS.l0 k27 x1 x17 x19 = some r) k ⟨_, 0, F11, (List.replicate ((x1.length : Int)).toNat (0 : UInt8)), rfl, (by kernel_rfl), (by kernel_rfl), (by kernel_rfl), h12, List.length_replicate, S13, M⟩ ?_
  clear M
  rintro k27 a28 w15 ⟨f16, x17, F18, x19, rfl, e21, e22, e23, h12, n20, S24, M⟩
  rcases k27 with _ | k29
  · rw [laws_toByteS.l0] at M
    cases M
  rw [laws_toByteS.l0] at M
  refine wp_seq (wp_seq (wR (lV 8 (eM (.int .i64 x17) (by exact e23)) (lV 9 (eM (.slice A2 x1.length c3) (by exact e21)) (lV 10 (e_len (A := A2) (n := x1.length) (c := c3) Try.underlying26 (by kernel_rfl)) (lV 11 (eLt .i64 x17 (x1.length : Int)) (wN ?_)))))))
  refine then_n ?_
  by_cases q30 : x17 < (x1.length : Int)
  · replace M := ifp q30 M
    refine cT (bT q30) (wp_skip (then_n (wp_seq (wp_block (wR (lV 14 (eM (.slice A9 (((x1.length : Int)).toNat) c10) (by exact e22)) (lV 15 (eM (.int .i64 x17) (by exact e23)) ?_)))))))
    refine lV 16 (eM (.slice A2 x1.length c3) (by exact e21)) (lV 17 (eM (.int .i64 x17) (by exact e23)) ?_)
    obtain ⟨q31, M⟩ := chk M
    obtain ⟨b32, o33, e34⟩ := Rd.addr h4 (show (x17).toNat < x1.length by omega)
    obtain ⟨y35, r36, k37⟩ := Rd.at h4 e34 (getD_some (0 : UInt8) (show (x17).toNat < x1.length by omega))
    obtain rfl := r36
    refine lV 18 (eI b32 o33 x1.length c3 1 x17 .i64 Try.underlying26 e34 q31 q30) (lV 19 (eL ⟨b32, o33 + (x17 : Int).toNat * 1, none⟩ (.int .u8 ((x1.getD ((x17).toNat) (0 : UInt8)).toNat : Int)) Try.underlying5 (hpx (S24.inv.cell (k37 0 _ rfl)))) ?_)
    obtain ⟨q38, M⟩ := chk M
    obtain ⟨b39, e41⟩ := Row.addr h12 (show (x17).toNat < x19.length by have : x19.length = ((x1.length : Int)).toNat := n20; omega)
    refine lV 20 (eI b39 0 ((x1.length : Int)).toNat c10 1 x17 .i64 Try.underlying26 e41 q31 q38) ?_
    have S42 := S24.unit
    have S43 := S42.pulls [F18, no] [1] rfl
    refine lE (e_setel (d := tByte) (b := b39) (i := (x17).toNat) (v := .int .u8 ((x1.getD ((x17).toNat) (0 : UInt8)).toNat : Int)) (vs := [.int .u8 ((x1.getD ((x17).toNat) (0 : UInt8)).toNat : Int)]) (yv := (x1.getD ((x17).toNat) (0 : UInt8))) S43 (by kernel_rfl) e41 (by kernel_rfl) rfl (by kernel_rfl) h12 (show (x17).toNat < x19.length by have : x19.length = ((x1.length : Int)).toNat := n20; omega) rfl) ?_
    rintro w44 ⟨F46, h45, S47, K48⟩
    clear h12
    refine wN (inb_n (then_n (wR (lV 12 (eM (.int .i64 x17) (by exact e23)) (lV 13 (eAdd .i64 x17 1) (lV 4 (eA (.int .i64 (IntKind.i64.wrap (x17 + 1)))) (wN ?_)))))))
    refine then_n ?_
    exact ⟨k29, (by omega), _, (IntKind.i64.wrap (x17 + 1)), F46, (x19.set ((x17).toNat) (x1.getD ((x17).toNat) (0 : UInt8))), rfl, (by exact e21), (by exact e22), (by kernel_rfl), h45, (List.length_set.trans n20), S47, M⟩
  replace M := ifn q30 M
  refine cF (bF q30) (wp_exit (then_e (then_e (inb_hit (then_n (wp_seq (wR ?_)))))))
  refine lV 21 (eM (.slice A9 (((x1.length : Int)).toNat) c10) (by exact e22)) (lV 2 (eA (.slice A9 (((x1.length : Int)).toNat) c10)) (wN (then_n (wp_ret ?_))))
  obtain rfl := Option.some.inj M
  exact ret1 rfl rfl  (show _ = .slice A9 (((x1.length : Int)).toNat) c10 from (by kernel_rfl)) ⟨A9, c10, F18, H, (by rw [(show x19.length = ((x1.length : Int)).toNat from n20)]), h12, S24⟩

/-! laws_toCell -/
def laws_toCell.f (k : Nat) (x1 : Cell) : Option Cell := ((laws_toByteS.f k x1.text).bind fun t29 => some (⟨x1.kind, x1.n, t29⟩ : Cell))
theorem laws_toCell.calls (k : Nat) (w : World) (H : Hp) (x1 : Cell) (A2 : Option Addr) (c3 : Nat) (h4 : Rd tByte H A2 x1.text) (l5 : x1.text.length ≤ c3) (S : Own [] H w) (r : Cell) (M : laws_toCell.f k x1 = some r) :
    Calls Try.prog 13 #[.agg #[.int .i64 x1.kind, .int .i64 x1.n, .slice A2 x1.text.length c3]] w (fun e e_w => ∃ (A_1 : Option Addr) (c_1 : Nat) (F_1 : Foot) (H_ : Hp), e = .returned (.agg #[.int .i64 r.kind, .int .i64 r.n, .slice A_1 r.text.length c_1]) ∧ Row tByte 5 H_ (hp e_w) F_1 A_1 c_1 r.text ∧ St (anyOf []) H w [F_1] H_ e_w) := by
  rw [laws_toCell.f] at M
  refine enter (l := [.agg #[.int .i64 x1.kind, .int .i64 x1.n, .slice A2 x1.text.length c3]]) 15 Try.func13 rfl rfl rfl ?_
  have S0_ := S.st
  refine wp_seq (wR ?_)
  refine lW 1 (nB #[.int .i64 x1.kind, .int .i64 x1.n, .slice A2 x1.text.length c3] 28 S0_) ?_
  rintro _ w6 ⟨g7, rfl, b8, S9, K10⟩
  refine lW 2 (nB #[.int .i64 0, .int .i64 0, .slice none 0 0] 36 S9) ?_
  rintro _ w11 ⟨g12, rfl, b13, S14, K15⟩
  replace b8 := K15.blk 0 rfl b8
  refine wN (then_n (wp_seq (wR ?_)))
  refine lW 3 (nB #[.int .i64 0, .int .i64 0, .slice none 0 0] 36 S14) ?_
  rintro _ w16 ⟨g17, rfl, b18, S19, K20⟩
  replace b13 := K20.blk 0 rfl b13
  replace b8 := K20.blk 1 rfl b8
  refine wN (then_n (wp_seq (wR (lV 4 (eD g7 0 0 1 Try.underlying28) (lV 5 (eL ⟨g7, 0 + 0, none⟩ (.int .i64 x1.kind) Try.underlying3 (blk_cell b8 rfl)) (lV 6 (eD g17 0 0 1 Try.underlying36) ?_))))))
  refine lE (eS g17 (0 + 0) (.int .i64 x1.kind) #[.int .i64 x1.kind, .int .i64 0, .slice none 0 0] [.int .i64 x1.kind] S19 b18) ?_
  rintro w21 ⟨b22, S23, K24⟩
  replace b13 := K24.blk 0 rfl b13
  replace b8 := K24.blk 1 rfl b8
  clear b18
  refine wN (then_n (wp_seq (wR (lV 7 (eD g7 0 1 1 Try.underlying28) (lV 8 (eL ⟨g7, 0 + 1, none⟩ (.int .i64 x1.n) Try.underlying3 (blk_cell b8 rfl)) (lV 9 (eD g17 0 1 1 Try.underlying36) ?_))))))
  refine lE (eS g17 (0 + 1) (.int .i64 x1.n) #[.int .i64 x1.kind, .int .i64 x1.n, .slice none 0 0] [.int .i64 x1.n] S23 b22) ?_
  rintro w25 ⟨b26, S27, K28⟩
  replace b13 := K28.blk 0 rfl b13
  replace b8 := K28.blk 1 rfl b8
  clear b22
  refine wN (then_n (wp_seq (wR (lV 10 (eD g7 0 2 1 Try.underlying28) (lV 11 (eL ⟨g7, 0 + 2, none⟩ (.slice A2 x1.text.length c3) Try.underlying26 (blk_cell b8 rfl)) ?_)))))
  obtain ⟨t29, u30, M⟩ := bnd M
  refine lC 12 (eC [.tmp 11] [.slice A2 x1.text.length c3] Try.func41) (laws_toByteS.calls k w25 H x1.text A2 c3 h4 l5 (St.own' (Fa := []) (Fr := [(is g17), (is g12), (is g7)]) S27) t29 u30) ?_
  rintro _ w31 ⟨A34, c35, F37, H32, rfl, h36, T33⟩
  refine ⟨_, rfl, ?_⟩
  obtain ⟨S38, K39⟩ := St.call (Fa := []) (Fr := [(is g17), (is g12), (is g7)]) S27 T33
  replace b26 := K39.blk 0 rfl b26
  replace b13 := K39.blk 1 rfl b13
  have E40 := T33.ext
  refine lV 13 (eD g17 0 2 1 Try.underlying36) ?_
  have S41 := S38.pulls [(is g17), F37, (is g12), (is g7)] [1] rfl
  refine lE (eS g17 (0 + 2) (.slice A34 t29.length c35) #[.int .i64 x1.kind, .int .i64 x1.n, .slice A34 t29.length c35] [.slice A34 t29.length c35] S41 b26) ?_
  rintro w42 ⟨b43, S44, K45⟩
  replace h36 := h36.move (K45.at 0 rfl)
  replace b13 := K45.blk 1 rfl b13
  clear b26
  refine wN (then_n (wp_seq (wR (lV 14 (e_loadS (b := g17) (off := 0) (cs := [.int .i64 x1.kind, .int .i64 x1.n, .slice A34 t29.length c35]) Try.underlying36 rfl (by kernel_rfl) (by kernel_rfl) (blk_cells b43 rfl)) ?_))))
  have S46 := S44.pulls [(is g12), (is g17), F37, (is g7)] [2] rfl
  refine lE (eSa g12 0 [.int .i64 x1.kind, .int .i64 x1.n, .slice A34 t29.length c35] S46 b13) ?_
  rintro w47 ⟨b48, S49, K50⟩
  replace h36 := h36.move (K50.at 1 rfl)
  clear b13
  refine wN (then_n (wp_ret ?_))
  obtain rfl := Option.some.inj M
  have S51 := S49.pulls [F37, (is g12), (is g17), (is g7)] [2] rfl
  have S52 := St.first (Fa := [F37]) (Fr := [(is g12), (is g17), (is g7)]) S51
  exact retS (ty := 36) (cur := #[.int .i64 x1.kind, .int .i64 x1.n, .slice A34 t29.length c35]) rfl rfl (by kernel_rfl) b48 Try.underlying36 rfl (by kernel_rfl) ⟨A34, c35, F37, H32, rfl, h36, S52⟩

/-! laws_toCellS -/
def laws_toCellS.l0 : Nat → (List Cell) → Int → (List Cell) → Option (List Cell)
  | 0, _, _, _ => none
  | k31 + 1, x1, x19, x21 => (if x19 < (x1.length : Int) then (if 0 ≤ x19 then ((laws_toCell.f k31 (x1.getD ((x19).toNat) z28)).bind fun t44 => (if x19 < (((x1.length : Int)).toNat : Int) then (laws_toCellS.l0 k31 x1 (IntKind.i64.wrap (x19 + 1)) (x21.set ((x19).toNat) t44)) else none)) else none) else some x21)
def laws_toCellS.f (k : Nat) (x1 : List Cell) : Option (List Cell) := (if 0 ≤ (x1.length : Int) then (if ((x1.length : Int)).toNat ≤ 7036874417766 then (laws_toCellS.l0 k x1 0 (List.replicate ((x1.length : Int)).toNat z36)) else none) else none)
theorem laws_toCellS.calls (k : Nat) (w : World) (H : Hp) (x1 : List Cell) (A2 : Option Addr) (c3 : Nat) (h4 : Rd st28 H A2 x1) (l5 : x1.length ≤ c3) (S : Own [] H w) (r : List Cell) (M : laws_toCellS.f k x1 = some r) :
    Calls Try.prog 39 #[.slice A2 x1.length c3] w (fun e e_w => ∃ (A_1 : Option Addr) (c_1 : Nat) (F_1 : Foot) (H_ : Hp), e = .returned (.slice A_1 r.length c_1) ∧ Row st36 36 H_ (hp e_w) F_1 A_1 c_1 r ∧ St (anyOf []) H w [F_1] H_ e_w) := by
  rw [laws_toCellS.f] at M
  refine enter (l := [.slice A2 x1.length c3]) 23 Try.func39 rfl rfl rfl ?_
  have S0_ := S.st
  refine wp_seq (wR (lV 2 (eA (.slice none 0 0)) (wN (then_n (wp_seq (wR (lV 5 (eM (.slice A2 x1.length c3)) ?_)))))))
  refine lV 6 (e_len (A := A2) (n := x1.length) (c := c3) Try.underlying22 (by kernel_rfl)) ?_
  obtain ⟨q6, M⟩ := chk M
  obtain ⟨q7, M⟩ := chk M
  refine lW 7 (e_make (d := st36) (k := .i64) (k2 := .i64) (n := (x1.length : Int)) (z := .agg #[.int .i64 0, .int .i64 0, .slice none 0 0]) (zx := z36) (bytes := 40) S0_ Try.underlying32 (by kernel_rfl) rfl (by decide) (z36_O _) (by kernel_rfl) (by kernel_rfl) q6 (by omega) (by omega)) ?_
  rintro _ w8 ⟨A9, c10, F11, rfl, h12, S13, K14⟩
  refine lV 3 (eA (.slice A9 (((x1.length : Int)).toNat) c10)) (wN (then_n (wp_seq (wp_seq (wR (lV 4 (eA (.int .i64 0)) (wN ?_)))))))
  refine then_n (wp_block ?_)
  refine wp_loop_g (fun k29 a30 w15 => ∃ (f16 : Nat → Value) (H17 : Hp) (x19 : Int) (F20 : Foot) (x21 : List Cell), a30 = mk 23 f16 ∧ f16 0 = .slice A2 x1.length c3 ∧ f16 3 = .slice A9 (((x1.length : Int)).toNat) c10 ∧ f16 4 = .int .i64 x19 ∧ Row st36 36 H17 (hp w15) F20 A9 c10 x21 ∧ x21.length = ((x1.length : Int)).toNat ∧ Ext H H17 ∧ St (anyOf []) H w [F20] H17 w15 ∧ laws_toCellS.l0 k29 x1 x19 x21 = some r) k ⟨_, H, 0, F11, (List.replicate ((x1.length : Int)).toNat z36), rfl, (by kernel_rfl), (by kernel_rfl), (by kernel_rfl), h12, List.length_replicate, (Ext.refl _), S13, M⟩ ?_
  clear M
  rintro k29 a30 w15 ⟨f16, H17, x19, F20, x21, rfl, e23, e24, e25, h12, n22, Y18, S26, M⟩
  rcases k29 with _ | k31
  · rw [laws_toCellS.l0] at M
    cases M
  rw [laws_toCellS.l0] at M
  refine wp_seq (wp_seq (wR (lV 8 (eM (.int .i64 x19) (by exact e25)) (lV 9 (eM (.slice A2 x1.length c3) (by exact e23)) (lV 10 (e_len (A := A2) (n := x1.length) (c := c3) Try.underlying22 (by kernel_rfl)) (lV 11 (eLt .i64 x19 (x1.length : Int)) (wN ?_)))))))
  refine then_n ?_
  by_cases q32 : x19 < (x1.length : Int)
  · replace M := ifp q32 M
    refine cT (bT q32) (wp_skip (then_n (wp_seq (wp_block (wR (lV 14 (eM (.slice A9 (((x1.length : Int)).toNat) c10) (by exact e24)) (lV 15 (eM (.int .i64 x19) (by exact e25)) ?_)))))))
    refine lV 16 (eM (.slice A2 x1.length c3) (by exact e23)) (lV 17 (eM (.int .i64 x19) (by exact e25)) ?_)
    obtain ⟨q33, M⟩ := chk M
    obtain ⟨b34, o35, e36⟩ := Rd.addr h4 (show (x19).toNat < x1.length by omega)
    obtain ⟨y37, r38, k39⟩ := Rd.at h4 e36 (getD_some z28 (show (x19).toNat < x1.length by omega))
    obtain ⟨A40, c41, rfl, l42, h43⟩ := st28_open r38
    refine lV 18 (eI b34 o35 x1.length c3 3 x19 .i64 Try.underlying22 e36 q33 q32) (lV 19 (e_loadS (b := b34) (off := o35 + (x19 : Int).toNat * 3) (cs := [.int .i64 ((x1.getD ((x19).toNat) z28).kind), .int .i64 ((x1.getD ((x19).toNat) z28).n), .slice A40 ((x1.getD ((x19).toNat) z28).text).length c41]) Try.underlying28 rfl (by kernel_rfl) (by kernel_rfl) (fun j_ u_ e_ => (hpx (S26.inv.cell (Y18.cell (k39 j_ u_ e_)))))) ?_)
    obtain ⟨t44, u45, M⟩ := bnd M
    refine lC 20 (eC [.tmp 19] [.agg #[.int .i64 ((x1.getD ((x19).toNat) z28).kind), .int .i64 ((x1.getD ((x19).toNat) z28).n), .slice A40 ((x1.getD ((x19).toNat) z28).text).length c41]] Try.func13) (laws_toCell.calls k31 w15 H17 (x1.getD ((x19).toNat) z28) A40 c41 (h43.ext Y18) l42 (St.own' (Fa := []) (Fr := [F20]) S26) t44 u45) ?_
    rintro _ w46 ⟨A49, c50, F52, H47, rfl, h51, T48⟩
    refine ⟨_, rfl, ?_⟩
    obtain ⟨S53, K54⟩ := St.call (Fa := []) (Fr := [F20]) S26 T48
    replace h12 := h12.move (K54.at 0 rfl)
    have E55 := T48.ext
    replace h12 := h12.ext E55
    obtain ⟨q56, M⟩ := chk M
    obtain ⟨b57, e59⟩ := Row.addr h12 (show (x19).toNat < x21.length by have : x21.length = ((x1.length : Int)).toNat := n22; omega)
    refine lV 21 (eI b57 0 ((x1.length : Int)).toNat c10 3 x19 .i64 Try.underlying32 e59 q33 q56) ?_
    have S60 := S53.pulls [F20, F52] [1] rfl
    refine lE (e_setel (d := st36) (b := b57) (i := (x19).toNat) (v := .agg #[.int .i64 t44.kind, .int .i64 t44.n, .slice A49 t44.text.length c50]) (vs := [.int .i64 t44.kind, .int .i64 t44.n, .slice A49 t44.text.length c50]) (yv := t44) S60 (by kernel_rfl) e59 (by kernel_rfl) rfl (by kernel_rfl) h12 (show (x19).toNat < x21.length by have : x21.length = ((x1.length : Int)).toNat := n22; omega) (st36_mkO (x := t44) h51)) ?_
    rintro w61 ⟨F63, h62, S64, K65⟩
    clear h12
    refine wN (inb_n (then_n (wR (lV 12 (eM (.int .i64 x19) (by exact e25)) (lV 13 (eAdd .i64 x19 1) (lV 4 (eA (.int .i64 (IntKind.i64.wrap (x19 + 1)))) (wN ?_)))))))
    refine then_n ?_
    exact ⟨k31, (by omega), _, H47, (IntKind.i64.wrap (x19 + 1)), F63, (x21.set ((x19).toNat) t44), rfl, (by exact e23), (by exact e24), (by kernel_rfl), h62, (List.length_set.trans n22), (Y18.trans E55), S64, M⟩
  replace M := ifn q32 M
  refine cF (bF q32) (wp_exit (then_e (then_e (inb_hit (then_n (wp_seq (wR ?_)))))))
  refine lV 22 (eM (.slice A9 (((x1.length : Int)).toNat) c10) (by exact e24)) (lV 2 (eA (.slice A9 (((x1.length : Int)).toNat) c10)) (wN (then_n (wp_ret ?_))))
  obtain rfl := Option.some.inj M
  exact ret1 rfl rfl  (show _ = .slice A9 (((x1.length : Int)).toNat) c10 from (by kernel_rfl)) ⟨A9, c10, F20, H17, (by rw [(show x21.length = ((x1.length : Int)).toNat from n22)]), h12, S26⟩

/-! laws_toIntS -/
def laws_toIntS.l0 : Nat → (List Int) → Int → (List Int) → Option (List Int)
  | 0, _, _, _ => none
  | k29 + 1, x1, x17, x19 => (if x17 < (x1.length : Int) then (if 0 ≤ x17 then (if x17 < (((x1.length : Int)).toNat : Int) then (laws_toIntS.l0 k29 x1 (IntKind.i64.wrap (x17 + 1)) (x19.set ((x17).toNat) (x1.getD ((x17).toNat) (0 : Int)))) else none) else none) else some x19)
def laws_toIntS.f (k : Nat) (x1 : List Int) : Option (List Int) := (if 0 ≤ (x1.length : Int) then (if ((x1.length : Int)).toNat ≤ 35184372088832 then (laws_toIntS.l0 k x1 0 (List.replicate ((x1.length : Int)).toNat (0 : Int))) else none) else none)
theorem laws_toIntS.calls (k : Nat) (w : World) (H : Hp) (x1 : List Int) (A2 : Option Addr) (c3 : Nat) (h4 : Rd tInt H A2 x1) (l5 : x1.length ≤ c3) (S : Own [] H w) (r : List Int) (M : laws_toIntS.f k x1 = some r) :
    Calls Try.prog 40 #[.slice A2 x1.length c3] w (fun e e_w => ∃ (A_1 : Option Addr) (c_1 : Nat) (F_1 : Foot) (H_ : Hp), e = .returned (.slice A_1 r.length c_1) ∧ Row tInt 3 H_ (hp e_w) F_1 A_1 c_1 r ∧ St (anyOf []) H w [F_1] H_ e_w) := by
  rw [laws_toIntS.f] at M
  refine enter (l := [.slice A2 x1.length c3]) 22 Try.func40 rfl rfl rfl ?_
  have S0_ := S.st
  refine wp_seq (wR (lV 2 (eA (.slice none 0 0)) (wN (then_n (wp_seq (wR (lV 5 (eM (.slice A2 x1.length c3)) ?_)))))))
  refine lV 6 (e_len (A := A2) (n := x1.length) (c := c3) Try.underlying23 (by kernel_rfl)) ?_
  obtain ⟨q6, M⟩ := chk M
  obtain ⟨q7, M⟩ := chk M
  refine lW 7 (e_make (d := tInt) (k := .i64) (k2 := .i64) (n := (x1.length : Int)) (z := .int .i64 0) (zx := (0 : Int)) (bytes := 8) S0_ Try.underlying23 (by kernel_rfl) rfl (by decide) (fun _ => rfl) (by kernel_rfl) (by kernel_rfl) q6 (by omega) (by omega)) ?_
  rintro _ w8 ⟨A9, c10, F11, rfl, h12, S13, K14⟩
  refine lV 3 (eA (.slice A9 (((x1.length : Int)).toNat) c10)) (wN (then_n (wp_seq (wp_seq (wR (lV 4 (eA (.int .i64 0)) (wN ?_)))))))
  refine then_n (wp_block ?_)
  refine wp_loop_g (fun k27 a28 w15 => ∃ (f16 : Nat → Value) (x17 : Int) (F18 : Foot) (x19 : List Int), a28 = mk 22 f16 ∧ f16 0 = .slice A2 x1.length c3 ∧ f16 3 = .slice A9 (((x1.length : Int)).toNat) c10 ∧ f16 4 = .int .i64 x17 ∧ Row tInt 3 H (hp w15) F18 A9 c10 x19 ∧ x19.length = ((x1.length : Int)).toNat ∧ St (anyOf []) H w [F18] H w15 ∧ laws_toIntS.l0 k27 x1 x17 x19 = some r) k ⟨_, 0, F11, (List.replicate ((x1.length : Int)).toNat (0 : Int)), rfl, (by kernel_rfl), (by kernel_rfl), (by kernel_rfl), h12, List.length_replicate, S13, M⟩ ?_
  clear M
  rintro k27 a28 w15 ⟨f16, x17, F18, x19, rfl, e21, e22, e23, h12, n20, S24, M⟩
  rcases k27 with _ | k29
  · rw [laws_toIntS.l0] at M
    cases M
  rw [laws_toIntS.l0] at M
  refine wp_seq (wp_seq (wR (lV 8 (eM (.int .i64 x17) (by exact e23)) (lV 9 (eM (.slice A2 x1.length c3) (by exact e21)) (lV 10 (e_len (A := A2) (n := x1.length) (c := c3) Try.underlying23 (by kernel_rfl)) (lV 11 (eLt .i64 x17 (x1.length : Int)) (wN ?_)))))))
  refine then_n ?_
  by_cases q30 : x17 < (x1.length : Int)
  · replace M := ifp q30 M
    refine cT (bT q30) (wp_skip (then_n (wp_seq (wp_block (wR (lV 14 (eM (.slice A9 (((x1.length : Int)).toNat) c10) (by exact e22)) (lV 15 (eM (.int .i64 x17) (by exact e23)) ?_)))))))
    refine lV 16 (eM (.slice A2 x1.length c3) (by exact e21)) (lV 17 (eM (.int .i64 x17) (by exact e23)) ?_)
    obtain ⟨q31, M⟩ := chk M
    obtain ⟨b32, o33, e34⟩ := Rd.addr h4 (show (x17).toNat < x1.length by omega)
    obtain ⟨y35, r36, k37⟩ := Rd.at h4 e34 (getD_some (0 : Int) (show (x17).toNat < x1.length by omega))
    obtain rfl := r36
    refine lV 18 (eI b32 o33 x1.length c3 1 x17 .i64 Try.underlying23 e34 q31 q30) (lV 19 (eL ⟨b32, o33 + (x17 : Int).toNat * 1, none⟩ (.int .i64 (x1.getD ((x17).toNat) (0 : Int))) Try.underlying3 (hpx (S24.inv.cell (k37 0 _ rfl)))) ?_)
    obtain ⟨q38, M⟩ := chk M
    obtain ⟨b39, e41⟩ := Row.addr h12 (show (x17).toNat < x19.length by have : x19.length = ((x1.length : Int)).toNat := n20; omega)
    refine lV 20 (eI b39 0 ((x1.length : Int)).toNat c10 1 x17 .i64 Try.underlying23 e41 q31 q38) ?_
    have S42 := S24.unit
    have S43 := S42.pulls [F18, no] [1] rfl
    refine lE (e_setel (d := tInt) (b := b39) (i := (x17).toNat) (v := .int .i64 (x1.getD ((x17).toNat) (0 : Int))) (vs := [.int .i64 (x1.getD ((x17).toNat) (0 : Int))]) (yv := (x1.getD ((x17).toNat) (0 : Int))) S43 (by kernel_rfl) e41 (by kernel_rfl) rfl (by kernel_rfl) h12 (show (x17).toNat < x19.length by have : x19.length = ((x1.length : Int)).toNat := n20; omega) rfl) ?_
    rintro w44 ⟨F46, h45, S47, K48⟩
    clear h12
    refine wN (inb_n (then_n (wR (lV 12 (eM (.int .i64 x17) (by exact e23)) (lV 13 (eAdd .i64 x17 1) (lV 4 (eA (.int .i64 (IntKind.i64.wrap (x17 + 1)))) (wN ?_)))))))
    refine then_n ?_
    exact ⟨k29, (by omega), _, (IntKind.i64.wrap (x17 + 1)), F46, (x19.set ((x17).toNat) (x1.getD ((x17).toNat) (0 : Int))), rfl, (by exact e21), (by exact e22), (by kernel_rfl), h45, (List.length_set.trans n20), S47, M⟩
  replace M := ifn q30 M
  refine cF (bF q30) (wp_exit (then_e (then_e (inb_hit (then_n (wp_seq (wR ?_)))))))
  refine lV 21 (eM (.slice A9 (((x1.length : Int)).toNat) c10) (by exact e22)) (lV 2 (eA (.slice A9 (((x1.length : Int)).toNat) c10)) (wN (then_n (wp_ret ?_))))
  obtain rfl := Option.some.inj M
  exact ret1 rfl rfl  (show _ = .slice A9 (((x1.length : Int)).toNat) c10 from (by kernel_rfl)) ⟨A9, c10, F18, H, (by rw [(show x19.length = ((x1.length : Int)).toNat from n20)]), h12, S24⟩

/-! laws_toStore -/
def laws_toStore.f (k : Nat) (x1 : Store) : Option Store := ((laws_toCellS.f k x1.cells).bind fun t25 => ((laws_toIntS.f k x1.trail).bind fun t42 => some (⟨t25, t42⟩ : Store)))
theorem laws_toStore.calls (k : Nat) (w : World) (H : Hp) (x1 : Store) (A2 : Option Addr) (c3 : Nat) (A6 : Option Addr) (c7 : Nat) (h4 : Rd st28 H A2 x1.cells) (l5 : x1.cells.length ≤ c3) (h8 : Rd tInt H A6 x1.trail) (l9 : x1.trail.length ≤ c7) (S : Own [] H w) (r : Store) (M : laws_toStore.f k x1 = some r) :
    Calls Try.prog 12 #[.agg #[.slice A2 x1.cells.length c3, .slice A6 x1.trail.length c7]] w (fun e e_w => ∃ (A_1 : Option Addr) (c_1 : Nat) (F_1 : Foot) (A_2 : Option Addr) (c_2 : Nat) (F_2 : Foot) (H_ : Hp), e = .returned (.agg #[.slice A_1 r.cells.length c_1, .slice A_2 r.trail.length c_2]) ∧ Row st36 36 H_ (hp e_w) F_1 A_1 c_1 r.cells ∧ Row tInt 3 H_ (hp e_w) F_2 A_2 c_2 r.trail ∧ St (anyOf []) H w [F_1, F_2] H_ e_w) := by
  rw [laws_toStore.f] at M
  refine enter (l := [.agg #[.slice A2 x1.cells.length c3, .slice A6 x1.trail.length c7]]) 13 Try.func12 rfl rfl rfl ?_
  have S0_ := S.st
  refine wp_seq (wR ?_)
  refine lW 1 (nB #[.slice A2 x1.cells.length c3, .slice A6 x1.trail.length c7] 25 S0_) ?_
  rintro _ w10 ⟨g11, rfl, b12, S13, K14⟩
  refine lW 2 (nB #[.slice none 0 0, .slice none 0 0] 34 S13) ?_
  rintro _ w15 ⟨g16, rfl, b17, S18, K19⟩
  replace b12 := K19.blk 0 rfl b12
  refine wN (then_n (wp_seq (wR ?_)))
  refine lW 3 (nB #[.slice none 0 0, .slice none 0 0] 34 S18) ?_
  rintro _ w20 ⟨g21, rfl, b22, S23, K24⟩
  replace b17 := K24.blk 0 rfl b17
  replace b12 := K24.blk 1 rfl b12
  refine wN (then_n (wp_seq (wR (lV 4 (eD g11 0 0 1 Try.underlying25) (lV 5 (eL ⟨g11, 0 + 0, none⟩ (.slice A2 x1.cells.length c3) Try.underlying22 (blk_cell b12 rfl)) ?_)))))
  obtain ⟨t25, u26, M⟩ := bnd M
  refine lC 6 (eC [.tmp 5] [.slice A2 x1.cells.length c3] Try.func39) (laws_toCellS.calls k w20 H x1.cells A2 c3 h4 l5 (St.own' (Fa := []) (Fr := [(is g21), (is g16), (is g11)]) S23) t25 u26) ?_
  rintro _ w27 ⟨A30, c31, F33, H28, rfl, h32, T29⟩
  refine ⟨_, rfl, ?_⟩
  obtain ⟨S34, K35⟩ := St.call (Fa := []) (Fr := [(is g21), (is g16), (is g11)]) S23 T29
  replace b22 := K35.blk 0 rfl b22
  replace b17 := K35.blk 1 rfl b17
  replace b12 := K35.blk 2 rfl b12
  have E36 := T29.ext
  refine lV 7 (eD g21 0 0 1 Try.underlying34) ?_
  have S37 := S34.pulls [(is g21), F33, (is g16), (is g11)] [1] rfl
  refine lE (eS g21 (0 + 0) (.slice A30 t25.length c31) #[.slice A30 t25.length c31, .slice none 0 0] [.slice A30 t25.length c31] S37 b22) ?_
  rintro w38 ⟨b39, S40, K41⟩
  replace h32 := h32.move (K41.at 0 rfl)
  replace b17 := K41.blk 1 rfl b17
  replace b12 := K41.blk 2 rfl b12
  clear b22
  refine wN (then_n (wp_seq (wR (lV 8 (eD g11 0 1 1 Try.underlying25) (lV 9 (eL ⟨g11, 0 + 1, none⟩ (.slice A6 x1.trail.length c7) Try.underlying23 (blk_cell b12 rfl)) ?_)))))
  obtain ⟨t42, u43, M⟩ := bnd M
  refine lC 10 (eC [.tmp 9] [.slice A6 x1.trail.length c7] Try.func40) (laws_toIntS.calls k w38 H28 x1.trail A6 c7 (h8.ext E36) l9 (St.own' (Fa := []) (Fr := [(is g21), F33, (is g16), (is g11)]) S40) t42 u43) ?_
  rintro _ w44 ⟨A47, c48, F50, H45, rfl, h49, T46⟩
  refine ⟨_, rfl, ?_⟩
  obtain ⟨S51, K52⟩ := St.call (Fa := []) (Fr := [(is g21), F33, (is g16), (is g11)]) S40 T46
  replace b39 := K52.blk 0 rfl b39
  replace h32 := h32.move (K52.at 1 rfl)
  replace b17 := K52.blk 2 rfl b17
  have E53 := T46.ext
  replace h32 := h32.ext E53
  refine lV 11 (eD g21 0 1 1 Try.underlying34) ?_
  have S54 := S51.pulls [(is g21), F50, F33, (is g16), (is g11)] [1] rfl
  refine lE (eS g21 (0 + 1) (.slice A47 t42.length c48) #[.slice A30 t25.length c31, .slice A47 t42.length c48] [.slice A47 t42.length c48] S54 b39) ?_
  rintro w55 ⟨b56, S57, K58⟩
  replace h49 := h49.move (K58.at 0 rfl)
  replace h32 := h32.move (K58.at 1 rfl)
  replace b17 := K58.blk 2 rfl b17
  clear b39
  refine wN (then_n (wp_seq (wR (lV 12 (e_loadS (b := g21) (off := 0) (cs := [.slice A30 t25.length c31, .slice A47 t42.length c48]) Try.underlying34 rfl (by kernel_rfl) (by kernel_rfl) (blk_cells b56 rfl)) ?_))))
  have S59 := S57.pulls [(is g16), (is g21), F50, F33, (is g11)] [3] rfl
  refine lE (eSa g16 0 [.slice A30 t25.length c31, .slice A47 t42.length c48] S59 b17) ?_
  rintro w60 ⟨b61, S62, K63⟩
  replace h49 := h49.move (K63.at 1 rfl)
  replace h32 := h32.move (K63.at 2 rfl)
  clear b17
  refine wN (then_n (wp_ret ?_))
  obtain rfl := Option.some.inj M
  have S65 := S62.pulls [F33, F50, (is g16), (is g21), (is g11)] [2, 3] rfl
  have S66 := St.first (Fa := [F33, F50]) (Fr := [(is g16), (is g21), (is g11)]) S65
  exact retS (ty := 34) (cur := #[.slice A30 t25.length c31, .slice A47 t42.length c48]) rfl rfl (by kernel_rfl) b61 Try.underlying34 rfl (by kernel_rfl) ⟨A30, c31, F33, A47, c48, F50, H45, rfl, h32, h49, S66⟩

/-! spec_l10word -/
def spec_l10word.f (x1 : List Cell) (x6 : Cell) : Option Bool := (if x6.kind = 2 then (if x6.n = 0 then some (decide ((x6.text.length : Int) ≤ 100)) else some false) else (if (x6.text.length : Int) ≠ 0 then some false else (if x6.kind = 1 then (if x6.n ≥ (-1000000000000000) then some (decide (x6.n ≤ 1000000000000000)) else some false) else (if x6.n < 0 then some false else (if x6.n ≥ (x1.length : Int) then some false else (if x6.kind = 0 then (if 0 ≤ x6.n then (if x6.n < (x1.length : Int) then some (decide (((x1.getD ((x6.n).toNat) z36).kind) ≠ 3)) else none) else none) else (if x6.kind = 4 then (if 0 ≤ x6.n then (if x6.n < (x1.length : Int) then some (decide (((x1.getD ((x6.n).toNat) z36).kind) = 3)) else none) else none) else some false)))))))
theorem spec_l10word.calls (w : World) (H : Hp) (x1 : List Cell) (A2 : Option Addr) (c3 : Nat) (x6 : Cell) (A7 : Option Addr) (c8 : Nat) (h4 : Rd st36 H A2 x1) (l5 : x1.length ≤ c3) (h9 : Rd tByte H A7 x6.text) (l10 : x6.text.length ≤ c8) (S : Own [] H w) (r : Bool) (M : spec_l10word.f x1 x6 = some r) :
    Calls Try.prog 38 #[.slice A2 x1.length c3, .agg #[.int .i64 x6.kind, .int .i64 x6.n, .slice A7 x6.text.length c8]] w (fun e e_w => e = .returned (.bool r) ∧ Chg no w e_w) := by
  rw [spec_l10word.f] at M
  refine enter (l := [.slice A2 x1.length c3, .agg #[.int .i64 x6.kind, .int .i64 x6.n, .slice A7 x6.text.length c8]]) 64 Try.func38 rfl rfl rfl ?_
  have S0_ := S.st
  refine wp_seq (wR ?_)
  refine lW 3 (nB #[.int .i64 x6.kind, .int .i64 x6.n, .slice A7 x6.text.length c8] 36 S0_) ?_
  rintro _ w11 ⟨g12, rfl, b13, S14, K15⟩
  refine lV 4 (eA (.bool false)) (wN (then_n (wp_seq (wp_seq (wR (lV 5 (eD g12 0 0 1 Try.underlying36) (lV 6 (eL ⟨g12, 0 + 0, none⟩ (.int .i64 x6.kind) Try.underlying3 (blk_cell b13 rfl)) ?_)))))))
  refine lV 7 (eEq .i64 x6.kind 2) (wN (then_n ?_))
  by_cases q16 : x6.kind = 2
  · replace M := ifp q16 M
    refine cT (bT q16) (wp_seq (wR (lV 8 (eD g12 0 1 1 Try.underlying36) (lV 9 (eL ⟨g12, 0 + 1, none⟩ (.int .i64 x6.n) Try.underlying3 (blk_cell b13 rfl)) (lV 10 (eEq .i64 x6.n 0) (lV 11 (eM (.bool (decide (x6.n = 0)))) ?_))))))
    by_cases q17 : x6.n = 0
    · replace M := ifp q17 M
      refine lG 12 11 (bT q17) (eD g12 0 2 1 Try.underlying36) (lG 13 11 (bT q17) (eL ⟨g12, 0 + 2, none⟩ (.slice A7 x6.text.length c8) Try.underlying26 (blk_cell b13 rfl)) (lG 14 11 (bT q17) (e_len (A := A7) (n := x6.text.length) (c := c8) Try.underlying26 (by kernel_rfl)) (lG 15 11 (bT q17) (e_leq (k := .i64) (a := (x6.text.length : Int)) (b := 100) (by kernel_rfl) rfl) (lV 16 (eT (.bool (decide ((x6.text.length : Int) ≤ 100))) (bT q17)) (lV 4 (eA (.bool (decide ((x6.text.length : Int) ≤ 100)))) (wN (then_n ?_)))))))
      refine wp_ret (then_r ?_)
      obtain rfl := Option.some.inj M
      exact ret1 rfl rfl  (show _ = .bool (decide ((x6.text.length : Int) ≤ 100)) from (by kernel_rfl)) ⟨rfl, S14.chg⟩
    replace M := ifn q17 M
    refine lK 11 false (bF q17) ?_
    refine lK 11 false (bF q17) ?_
    refine lK 11 false (bF q17) ?_
    refine lK 11 false (bF q17) ?_
    refine lV 16 (eF (.bool false) (bF q17)) (lV 4 (eA (.bool false)) (wN (then_n (wp_ret (then_r ?_)))))
    obtain rfl := Option.some.inj M
    exact ret1 rfl rfl  (show _ = .bool false from (by kernel_rfl)) ⟨rfl, S14.chg⟩
  replace M := ifn q16 M
  refine cF (bF q16) (wp_skip (then_n (wp_seq (wp_seq (wR (lV 17 (eD g12 0 2 1 Try.underlying36) (lV 18 (eL ⟨g12, 0 + 2, none⟩ (.slice A7 x6.text.length c8) Try.underlying26 (blk_cell b13 rfl)) ?_)))))))
  refine lV 19 (e_len (A := A7) (n := x6.text.length) (c := c8) Try.underlying26 (by kernel_rfl)) (lV 20 (eNe .i64 (x6.text.length : Int) 0) (wN (then_n ?_)))
  by_cases q18 : (x6.text.length : Int) ≠ 0
  · replace M := ifp q18 M
    refine cT (bT q18) (wp_seq (wR (lV 4 (eA (.bool false)) (wN (then_n (wp_ret (then_r ?_)))))))
    obtain rfl := Option.some.inj M
    exact ret1 rfl rfl  (show _ = .bool false from (by kernel_rfl)) ⟨rfl, S14.chg⟩
  replace M := ifn q18 M
  refine cF (bF q18) (wp_skip (then_n (wp_seq (wp_seq (wR (lV 21 (eD g12 0 0 1 Try.underlying36) (lV 22 (eL ⟨g12, 0 + 0, none⟩ (.int .i64 x6.kind) Try.underlying3 (blk_cell b13 rfl)) ?_)))))))
  refine lV 23 (eEq .i64 x6.kind 1) (wN (then_n ?_))
  by_cases q19 : x6.kind = 1
  · replace M := ifp q19 M
    refine cT (bT q19) (wp_seq (wR (lV 24 (eD g12 0 1 1 Try.underlying36) (lV 25 (eL ⟨g12, 0 + 1, none⟩ (.int .i64 x6.n) Try.underlying3 (blk_cell b13 rfl)) (lV 26 (e_geq (k := .i64) (a := x6.n) (b := (-1000000000000000)) (by kernel_rfl) rfl) (lV 27 (eM (.bool (decide (x6.n ≥ (-1000000000000000))))) ?_))))))
    by_cases q20 : x6.n ≥ (-1000000000000000)
    · replace M := ifp q20 M
      refine lG 28 27 (bT q20) (eD g12 0 1 1 Try.underlying36) (lG 29 27 (bT q20) (eL ⟨g12, 0 + 1, none⟩ (.int .i64 x6.n) Try.underlying3 (blk_cell b13 rfl)) (lG 30 27 (bT q20) (e_leq (k := .i64) (a := x6.n) (b := 1000000000000000) (by kernel_rfl) rfl) (lV 31 (eT (.bool (decide (x6.n ≤ 1000000000000000))) (bT q20)) (lV 4 (eA (.bool (decide (x6.n ≤ 1000000000000000)))) (wN (then_n (wp_ret ?_)))))))
      refine then_r ?_
      obtain rfl := Option.some.inj M
      exact ret1 rfl rfl  (show _ = .bool (decide (x6.n ≤ 1000000000000000)) from (by kernel_rfl)) ⟨rfl, S14.chg⟩
    replace M := ifn q20 M
    refine lK 27 false (bF q20) ?_
    refine lK 27 false (bF q20) ?_
    refine lK 27 false (bF q20) ?_
    refine lV 31 (eF (.bool false) (bF q20)) (lV 4 (eA (.bool false)) (wN (then_n (wp_ret (then_r ?_)))))
    obtain rfl := Option.some.inj M
    exact ret1 rfl rfl  (show _ = .bool false from (by kernel_rfl)) ⟨rfl, S14.chg⟩
  replace M := ifn q19 M
  refine cF (bF q19) (wp_skip (then_n (wp_seq (wp_seq (wR (lV 32 (eD g12 0 1 1 Try.underlying36) (lV 33 (eL ⟨g12, 0 + 1, none⟩ (.int .i64 x6.n) Try.underlying3 (blk_cell b13 rfl)) ?_)))))))
  refine lV 34 (eLt .i64 x6.n 0) (lV 35 (eM (.bool (decide (x6.n < 0)))) ?_)
  by_cases q21 : x6.n < 0
  · replace M := ifp q21 M
    refine lK 35 true (bT q21) ?_
    refine lK 35 true (bT q21) ?_
    refine lK 35 true (bT q21) ?_
    refine lK 35 true (bT q21) ?_
    refine lK 35 true (bT q21) ?_
    refine lV 41 (eT (.bool true) (bT q21)) (wN (then_n (cond_t rfl (by kernel_rfl) (wp_seq (wR (lV 4 (eA (.bool false)) (wN ?_)))))))
    refine then_n (wp_ret (then_r ?_))
    obtain rfl := Option.some.inj M
    exact ret1 rfl rfl  (show _ = .bool false from (by kernel_rfl)) ⟨rfl, S14.chg⟩
  replace M := ifn q21 M
  refine lG 36 35 (bF q21) (eD g12 0 1 1 Try.underlying36) (lG 37 35 (bF q21) (eL ⟨g12, 0 + 1, none⟩ (.int .i64 x6.n) Try.underlying3 (blk_cell b13 rfl)) (lG 38 35 (bF q21) (eM (.slice A2 x1.length c3)) (lG 39 35 (bF q21) (e_len (A := A2) (n := x1.length) (c := c3) Try.underlying32 (by kernel_rfl)) (lG 40 35 (bF q21) (e_geq (k := .i64) (a := x6.n) (b := (x1.length : Int)) (by kernel_rfl) (by kernel_rfl)) (lV 41 (eF (.bool (decide (x6.n ≥ (x1.length : Int)))) (bF q21)) (wN (then_n ?_)))))))
  by_cases q22 : x6.n ≥ (x1.length : Int)
  · replace M := ifp q22 M
    refine cT (bT q22) (wp_seq (wR (lV 4 (eA (.bool false)) (wN (then_n (wp_ret (then_r ?_)))))))
    obtain rfl := Option.some.inj M
    exact ret1 rfl rfl  (show _ = .bool false from (by kernel_rfl)) ⟨rfl, S14.chg⟩
  replace M := ifn q22 M
  refine cF (bF q22) (wp_skip (then_n (wp_seq (wp_seq (wR (lV 42 (eD g12 0 0 1 Try.underlying36) (lV 43 (eL ⟨g12, 0 + 0, none⟩ (.int .i64 x6.kind) Try.underlying3 (blk_cell b13 rfl)) ?_)))))))
  refine lV 44 (eEq .i64 x6.kind 0) (wN (then_n ?_))
  by_cases q23 : x6.kind = 0
  · replace M := ifp q23 M
    refine cT (bT q23) (wp_seq (wR (lV 45 (eM (.slice A2 x1.length c3)) (lV 46 (eD g12 0 1 1 Try.underlying36) (lV 47 (eL ⟨g12, 0 + 1, none⟩ (.int .i64 x6.n) Try.underlying3 (blk_cell b13 rfl)) ?_)))))
    obtain ⟨q24, M⟩ := chk M
    obtain ⟨q25, M⟩ := chk M
    obtain ⟨b26, o27, e28⟩ := Rd.addr h4 (show (x6.n).toNat < x1.length by omega)
    obtain ⟨y29, r30, k31⟩ := Rd.at h4 e28 (getD_some z36 (show (x6.n).toNat < x1.length by omega))
    obtain ⟨A32, c33, rfl, l34, h35⟩ := st36_open r30
    refine lV 48 (eI b26 o27 x1.length c3 3 x6.n .i64 Try.underlying32 e28 q24 q25) (lV 49 (eD b26 (o27 + (x6.n : Int).toNat * 3) 0 1 Try.underlying36) (lV 50 (eL ⟨b26, o27 + (x6.n : Int).toNat * 3 + 0, none⟩ (.int .i64 ((x1.getD ((x6.n).toNat) z36).kind)) Try.underlying3 (hpx (S14.inv.cell (k31 0 _ rfl)))) (lV 51 (eNe .i64 (x1.getD ((x6.n).toNat) z36).kind 3) (lV 4 (eA (.bool (decide (((x1.getD ((x6.n).toNat) z36).kind) ≠ 3)))) (wN (then_n (wp_ret ?_)))))))
    refine then_r ?_
    obtain rfl := Option.some.inj M
    exact ret1 rfl rfl  (show _ = .bool (decide (((x1.getD ((x6.n).toNat) z36).kind) ≠ 3)) from (by kernel_rfl)) ⟨rfl, S14.chg⟩
  replace M := ifn q23 M
  refine cF (bF q23) (wp_skip (then_n (wp_seq (wR (lV 52 (eD g12 0 0 1 Try.underlying36) (lV 53 (eL ⟨g12, 0 + 0, none⟩ (.int .i64 x6.kind) Try.underlying3 (blk_cell b13 rfl)) (lV 54 (eEq .i64 x6.kind 4) ?_)))))))
  refine lV 55 (eM (.bool (decide (x6.kind = 4)))) ?_
  by_cases q36 : x6.kind = 4
  · replace M := ifp q36 M
    refine lG 56 55 (bT q36) (eM (.slice A2 x1.length c3)) (lG 57 55 (bT q36) (eD g12 0 1 1 Try.underlying36) (lG 58 55 (bT q36) (eL ⟨g12, 0 + 1, none⟩ (.int .i64 x6.n) Try.underlying3 (blk_cell b13 rfl)) ?_))
    obtain ⟨q37, M⟩ := chk M
    obtain ⟨q38, M⟩ := chk M
    obtain ⟨b39, o40, e41⟩ := Rd.addr h4 (show (x6.n).toNat < x1.length by omega)
    obtain ⟨y42, r43, k44⟩ := Rd.at h4 e41 (getD_some z36 (show (x6.n).toNat < x1.length by omega))
    obtain ⟨A45, c46, rfl, l47, h48⟩ := st36_open r43
    refine lG 59 55 (bT q36) (eI b39 o40 x1.length c3 3 x6.n .i64 Try.underlying32 e41 q37 q38) (lG 60 55 (bT q36) (eD b39 (o40 + (x6.n : Int).toNat * 3) 0 1 Try.underlying36) (lG 61 55 (bT q36) (eL ⟨b39, o40 + (x6.n : Int).toNat * 3 + 0, none⟩ (.int .i64 ((x1.getD ((x6.n).toNat) z36).kind)) Try.underlying3 (hpx (S14.inv.cell (k44 0 _ rfl)))) (lG 62 55 (bT q36) (eEq .i64 (x1.getD ((x6.n).toNat) z36).kind 3) (lV 63 (eT (.bool (decide (((x1.getD ((x6.n).toNat) z36).kind) = 3))) (bT q36)) (lV 4 (eA (.bool (decide (((x1.getD ((x6.n).toNat) z36).kind) = 3)))) (wN (then_n ?_)))))))
    refine wp_ret ?_
    obtain rfl := Option.some.inj M
    exact ret1 rfl rfl  (show _ = .bool (decide (((x1.getD ((x6.n).toNat) z36).kind) = 3)) from (by kernel_rfl)) ⟨rfl, S14.chg⟩
  replace M := ifn q36 M
  refine lK 55 false (bF q36) ?_
  refine lK 55 false (bF q36) ?_
  refine lK 55 false (bF q36) ?_
  refine lK 55 false (bF q36) ?_
  refine lK 55 false (bF q36) ?_
  refine lK 55 false (bF q36) ?_
  refine lK 55 false (bF q36) ?_
  refine lV 63 (eF (.bool false) (bF q36)) (lV 4 (eA (.bool false)) (wN (then_n (wp_ret ?_))))
  obtain rfl := Option.some.inj M
  exact ret1 rfl rfl  (show _ = .bool false from (by kernel_rfl)) ⟨rfl, S14.chg⟩

/-! spec_l10round -/
mutual
def spec_l10round_2.l0 : Nat → (List Cell) → Cell → Int → (List Int) → Option (Bool × (List Int))
  | 0, _, _, _, _ => none
  | k322 + 1, x1, x11, x309, x311 => (if x11.n < (x1.length : Int) then (if x309 ≤ ((x1.getD ((x11.n).toNat) z36).n) then (if 0 ≤ (IntKind.i64.wrap (x11.n + x309)) then (if (IntKind.i64.wrap (x11.n + x309)) < (x1.length : Int) then ((spec_l10round_2.f k322 x1 x311 (x1.getD (((IntKind.i64.wrap (x11.n + x309))).toNat) z36)).bind fun t347 => (if ¬ (t347.1 = true) then some (false, t347.2) else (spec_l10round_2.l0 k322 x1 x11 (IntKind.i64.wrap (x309 + 1)) t347.2))) else none) else none) else some (true, (x311.set ((x11.n).toNat) 2))) else none)
def spec_l10round_2.l1 : Nat → (List Cell) → Cell → Int → (List Int) → Option (Bool × (List Int))
  | 0, _, _, _, _ => none
  | k410 + 1, x1, x11, x397, x399 => (if x11.n < (x1.length : Int) then (if x397 ≤ ((x1.getD ((x11.n).toNat) z36).n) then (if 0 ≤ (IntKind.i64.wrap (x11.n + x397)) then (if (IntKind.i64.wrap (x11.n + x397)) < (x1.length : Int) then ((spec_l10round_2.f k410 x1 x399 (x1.getD (((IntKind.i64.wrap (x11.n + x397))).toNat) z36)).bind fun t435 => (if ¬ (t435.1 = true) then some (false, t435.2) else (spec_l10round_2.l1 k410 x1 x11 (IntKind.i64.wrap (x397 + 1)) t435.2))) else none) else none) else some (true, (x399.set ((x11.n).toNat) 2))) else none)
def spec_l10round_2.f : Nat → (List Cell) → (List Int) → Cell → Option (Bool × (List Int))
  | 0, _, _, _ => none
  | k1_ + 1, x1, x6, x11 => (if x11.kind = 0 then (if 0 ≤ x11.n then (if x11.n < (x1.length : Int) then (if ((x1.getD ((x11.n).toNat) z36).kind) = 0 then (if ((x1.getD ((x11.n).toNat) z36).n) = x11.n then some (true, x6) else (if x11.kind ≠ 0 then (if x11.kind ≠ 4 then some (true, x6) else (if x11.n < (x6.length : Int) then (if (x6.getD ((x11.n).toNat) (0 : Int)) > 0 then some ((decide ((x6.getD ((x11.n).toNat) (0 : Int)) = 2)), x6) else ((spec_l10round_2.f k1_ x1 (x6.set ((x11.n).toNat) 1) (x1.getD ((x11.n).toNat) z36)).bind fun t86 => (if ¬ (t86.1 = true) then some (false, t86.2) else some (true, (t86.2.set ((x11.n).toNat) 2))))) else none)) else (if x11.n < (x6.length : Int) then (if (x6.getD ((x11.n).toNat) (0 : Int)) > 0 then some ((decide ((x6.getD ((x11.n).toNat) (0 : Int)) = 2)), x6) else ((spec_l10round_2.f k1_ x1 (x6.set ((x11.n).toNat) 1) (x1.getD ((x11.n).toNat) z36)).bind fun t141 => (if ¬ (t141.1 = true) then some (false, t141.2) else some (true, (t141.2.set ((x11.n).toNat) 2))))) else none))) else (if x11.kind ≠ 0 then (if x11.kind ≠ 4 then some (true, x6) else (if x11.n < (x6.length : Int) then (if (x6.getD ((x11.n).toNat) (0 : Int)) > 0 then some ((decide ((x6.getD ((x11.n).toNat) (0 : Int)) = 2)), x6) else ((spec_l10round_2.f k1_ x1 (x6.set ((x11.n).toNat) 1) (x1.getD ((x11.n).toNat) z36)).bind fun t200 => (if ¬ (t200.1 = true) then some (false, t200.2) else some (true, (t200.2.set ((x11.n).toNat) 2))))) else none)) else (if x11.n < (x6.length : Int) then (if (x6.getD ((x11.n).toNat) (0 : Int)) > 0 then some ((decide ((x6.getD ((x11.n).toNat) (0 : Int)) = 2)), x6) else ((spec_l10round_2.f k1_ x1 (x6.set ((x11.n).toNat) 1) (x1.getD ((x11.n).toNat) z36)).bind fun t255 => (if ¬ (t255.1 = true) then some (false, t255.2) else some (true, (t255.2.set ((x11.n).toNat) 2))))) else none))) else none) else none) else (if x11.kind ≠ 0 then (if x11.kind ≠ 4 then some (true, x6) else (if 0 ≤ x11.n then (if x11.n < (x6.length : Int) then (if (x6.getD ((x11.n).toNat) (0 : Int)) > 0 then some ((decide ((x6.getD ((x11.n).toNat) (0 : Int)) = 2)), x6) else (spec_l10round_2.l0 k1_ x1 x11 1 (x6.set ((x11.n).toNat) 1))) else none) else none)) else (if 0 ≤ x11.n then (if x11.n < (x6.length : Int) then (if (x6.getD ((x11.n).toNat) (0 : Int)) > 0 then some ((decide ((x6.getD ((x11.n).toNat) (0 : Int)) = 2)), x6) else (spec_l10round_2.l1 k1_ x1 x11 1 (x6.set ((x11.n).toNat) 1))) else none) else none)))
end
theorem spec_l10round_2.all : ∀ (K : Nat), (∀ (k : Nat), k < K → ∀ (w : World) (H : Hp) (x1 : List Cell) (A2 : Option Addr) (c3 : Nat) (x6 : List Int) (A7 : Option Addr) (c8 : Nat) (F10 : Foot) (x11 : Cell) (A12 : Option Addr) (c13 : Nat) (h4 : Rd st36 H A2 x1) (l5 : x1.length ≤ c3) (h9 : Row tInt 3 H (hp w) F10 A7 c8 x6) (h14 : Rd tByte H A12 x11.text) (l15 : x11.text.length ≤ c13) (S : Own [F10] H w) (r : Bool × (List Int)) (M : spec_l10round_2.f k x1 x6 x11 = some r), Calls Try.prog 65 #[.slice A2 x1.length c3, .slice A7 x6.length c8, .agg #[.int .i64 x11.kind, .int .i64 x11.n, .slice A12 x11.text.length c13]] w (fun e e_w => ∃ (F_1 : Foot) (H_ : Hp), e = .returned (.bool r.1) ∧ r.2.length = x6.length ∧ Row tInt 3 H_ (hp e_w) F_1 A7 c8 r.2 ∧ St (anyOf [F10]) H w [F_1] H_ e_w)) := by
  intro K
  induction K with
  | zero => intro k hk; omega
  | succ K ih =>
    intro k hk w H x1 A2 c3 x6 A7 c8 F10 x11 A12 c13 h4 l5 h9 h14 l15 S r M
    rcases k with _ | k1_
    · rw [spec_l10round_2.f] at M
      cases M
    rw [spec_l10round_2.f] at M
    refine enter (l := [.slice A2 x1.length c3, .slice A7 x6.length c8, .agg #[.int .i64 x11.kind, .int .i64 x11.n, .slice A12 x11.text.length c13]]) 92 Try.func65 rfl rfl rfl ?_
    have S0_ := S.st
    refine wp_seq (wR ?_)
    refine lW 5 (nB #[.int .i64 x11.kind, .int .i64 x11.n, .slice A12 x11.text.length c13] 36 S0_) ?_
    rintro _ w16 ⟨g17, rfl, b18, S19, K20⟩
    replace h9 := h9.move (K20.at 0 rfl)
    refine lV 6 (eA (.bool false)) (wN (then_n (wp_seq (wp_seq ?_))))
    refine region_still (by kernel_rfl) (by kernel_rfl) S19 ?_
    intro w21 S22 K23
    replace b18 := K23.blk 0 rfl b18
    replace h9 := h9.move (K23.at 1 rfl)
    refine sV 8 (eD g17 0 0 1 Try.underlying36) (sV 9 (eL ⟨g17, 0 + 0, none⟩ (.int .i64 x11.kind) Try.underlying3 (blk_cell b18 rfl)) (sV 10 (eEq .i64 x11.kind 0) (sV 11 (eM (.bool (decide (x11.kind = 0)))) ?_)))
    by_cases q24 : x11.kind = 0
    · replace M := ifp q24 M
      refine sG 12 11 (bT q24) (eM (.slice A2 x1.length c3)) (sG 13 11 (bT q24) (eD g17 0 1 1 Try.underlying36) (sG 14 11 (bT q24) (eL ⟨g17, 0 + 1, none⟩ (.int .i64 x11.n) Try.underlying3 (blk_cell b18 rfl)) ?_))
      obtain ⟨q25, M⟩ := chk M
      obtain ⟨q26, M⟩ := chk M
      obtain ⟨b27, o28, e29⟩ := Rd.addr h4 (show (x11.n).toNat < x1.length by omega)
      obtain ⟨y30, r31, k32⟩ := Rd.at h4 e29 (getD_some z36 (show (x11.n).toNat < x1.length by omega))
      obtain ⟨A33, c34, rfl, l35, h36⟩ := st36_open r31
      refine sG 15 11 (bT q24) (eI b27 o28 x1.length c3 3 x11.n .i64 Try.underlying32 e29 q25 q26) (sG 16 11 (bT q24) (eD b27 (o28 + (x11.n : Int).toNat * 3) 0 1 Try.underlying36) (sG 17 11 (bT q24) (eL ⟨b27, o28 + (x11.n : Int).toNat * 3 + 0, none⟩ (.int .i64 ((x1.getD ((x11.n).toNat) z36).kind)) Try.underlying3 (hpx (S22.inv.cell (k32 0 _ rfl)))) (sG 18 11 (bT q24) (eEq .i64 (x1.getD ((x11.n).toNat) z36).kind 0) (sV 19 (eT (.bool (decide (((x1.getD ((x11.n).toNat) z36).kind) = 0))) (bT q24)) (sV 20 (eM (.bool (decide (((x1.getD ((x11.n).toNat) z36).kind) = 0)))) ?_)))))
      by_cases q37 : ((x1.getD ((x11.n).toNat) z36).kind) = 0
      · replace M := ifp q37 M
        refine sG 21 20 (bT q37) (eM (.slice A2 x1.length c3)) (sG 22 20 (bT q37) (eD g17 0 1 1 Try.underlying36) (sG 23 20 (bT q37) (eL ⟨g17, 0 + 1, none⟩ (.int .i64 x11.n) Try.underlying3 (blk_cell b18 rfl)) ?_))
        obtain ⟨b38, o39, e40⟩ := Rd.addr h4 (show (x11.n).toNat < x1.length by omega)
        obtain ⟨y41, r42, k43⟩ := Rd.at h4 e40 (getD_some z36 (show (x11.n).toNat < x1.length by omega))
        obtain ⟨A44, c45, rfl, l46, h47⟩ := st36_open r42
        refine sG 24 20 (bT q37) (eI b38 o39 x1.length c3 3 x11.n .i64 Try.underlying32 e40 q25 q26) (sG 25 20 (bT q37) (eD b38 (o39 + (x11.n : Int).toNat * 3) 1 1 Try.underlying36) (sG 26 20 (bT q37) (eL ⟨b38, o39 + (x11.n : Int).toNat * 3 + 1, none⟩ (.int .i64 ((x1.getD ((x11.n).toNat) z36).n)) Try.underlying3 (hpx (S22.inv.cell (k43 1 _ rfl)))) (sG 27 20 (bT q37) (eD g17 0 1 1 Try.underlying36) (sG 28 20 (bT q37) (eL ⟨g17, 0 + 1, none⟩ (.int .i64 x11.n) Try.underlying3 (blk_cell b18 rfl)) (sG 29 20 (bT q37) (eEq .i64 (x1.getD ((x11.n).toNat) z36).n x11.n) (sV 30 (eT (.bool (decide (((x1.getD ((x11.n).toNat) z36).n) = x11.n))) (bT q37)) (wpStill_nil ?_)))))))
        refine then_n ?_
        by_cases q48 : ((x1.getD ((x11.n).toNat) z36).n) = x11.n
        · replace M := ifp q48 M
          refine cT (bT q48) (wp_seq (wR (lV 6 (eA (.bool true)) (wN (then_n (wp_ret (then_r ?_)))))))
          obtain rfl := Option.some.inj M
          have S49 := S22.pulls [F10, (is g17)] [1] rfl
          have S50 := St.first (Fa := [F10]) (Fr := [(is g17)]) S49
          exact ret1 rfl rfl  (show _ = .bool true from (by kernel_rfl)) ⟨F10, H, rfl, rfl, h9, S50⟩
        replace M := ifn q48 M
        refine cF (bF q48) (wp_skip (then_n (wp_seq (wp_seq (wR (lV 31 (eD g17 0 0 1 Try.underlying36) (lV 32 (eL ⟨g17, 0 + 0, none⟩ (.int .i64 x11.kind) Try.underlying3 (blk_cell b18 rfl)) ?_)))))))
        refine lV 33 (eNe .i64 x11.kind 0) (lV 34 (eM (.bool (decide (x11.kind ≠ 0)))) ?_)
        by_cases q51 : x11.kind ≠ 0
        · replace M := ifp q51 M
          refine lG 35 34 (bT q51) (eD g17 0 0 1 Try.underlying36) (lG 36 34 (bT q51) (eL ⟨g17, 0 + 0, none⟩ (.int .i64 x11.kind) Try.underlying3 (blk_cell b18 rfl)) (lG 37 34 (bT q51) (eNe .i64 x11.kind 4) (lV 38 (eT (.bool (decide (x11.kind ≠ 4))) (bT q51)) (wN (then_n ?_)))))
          by_cases q52 : x11.kind ≠ 4
          · replace M := ifp q52 M
            refine cT (bT q52) (wp_seq (wR (lV 6 (eA (.bool true)) (wN (then_n (wp_ret (then_r ?_)))))))
            obtain rfl := Option.some.inj M
            have S53 := S22.pulls [F10, (is g17)] [1] rfl
            have S54 := St.first (Fa := [F10]) (Fr := [(is g17)]) S53
            exact ret1 rfl rfl  (show _ = .bool true from (by kernel_rfl)) ⟨F10, H, rfl, rfl, h9, S54⟩
          replace M := ifn q52 M
          refine cF (bF q52) (wp_skip (then_n (wp_seq (wp_seq (wR (lV 39 (eM (.slice A7 x6.length c8)) (lV 40 (eD g17 0 1 1 Try.underlying36) ?_)))))))
          refine lV 41 (eL ⟨g17, 0 + 1, none⟩ (.int .i64 x11.n) Try.underlying3 (blk_cell b18 rfl)) ?_
          obtain ⟨q55, M⟩ := chk M
          obtain ⟨b56, e58⟩ := Row.addr h9 (show (x11.n).toNat < x6.length by omega)
          refine lV 42 (eI b56 0 x6.length c8 1 x11.n .i64 Try.underlying23 e58 q25 q55) (lV 43 (eL ⟨b56, 0 + (x11.n : Int).toNat * 1, none⟩ (.int .i64 (x6.getD ((x11.n).toNat) (0 : Int))) Try.underlying3 (hpx (Row.pick (j := 0) (u := .int .i64 (x6.getD ((x11.n).toNat) (0 : Int))) h9 e58 (getD_some (0 : Int) (show (x11.n).toNat < x6.length by omega)) (fun _ _ o_ => by rw [show _ = _ from o_]; rfl)))) (lV 44 (e_gtr (k := .i64) (a := (x6.getD ((x11.n).toNat) (0 : Int))) (b := 0) (by kernel_rfl) rfl) (wN (then_n ?_))))
          by_cases q59 : (x6.getD ((x11.n).toNat) (0 : Int)) > 0
          · replace M := ifp q59 M
            refine cT (bT q59) (wp_seq (wR (lV 45 (eM (.slice A7 x6.length c8)) (lV 46 (eD g17 0 1 1 Try.underlying36) (lV 47 (eL ⟨g17, 0 + 1, none⟩ (.int .i64 x11.n) Try.underlying3 (blk_cell b18 rfl)) ?_)))))
            obtain ⟨b60, e62⟩ := Row.addr h9 (show (x11.n).toNat < x6.length by omega)
            refine lV 48 (eI b60 0 x6.length c8 1 x11.n .i64 Try.underlying23 e62 q25 q55) (lV 49 (eL ⟨b60, 0 + (x11.n : Int).toNat * 1, none⟩ (.int .i64 (x6.getD ((x11.n).toNat) (0 : Int))) Try.underlying3 (hpx (Row.pick (j := 0) (u := .int .i64 (x6.getD ((x11.n).toNat) (0 : Int))) h9 e62 (getD_some (0 : Int) (show (x11.n).toNat < x6.length by omega)) (fun _ _ o_ => by rw [show _ = _ from o_]; rfl)))) (lV 50 (eEq .i64 (x6.getD ((x11.n).toNat) (0 : Int)) 2) (lV 6 (eA (.bool (decide ((x6.getD ((x11.n).toNat) (0 : Int)) = 2)))) (wN (then_n (wp_ret (then_r ?_)))))))
            obtain rfl := Option.some.inj M
            have S63 := S22.pulls [F10, (is g17)] [1] rfl
            have S64 := St.first (Fa := [F10]) (Fr := [(is g17)]) S63
            exact ret1 rfl rfl  (show _ = .bool (decide ((x6.getD ((x11.n).toNat) (0 : Int)) = 2)) from (by kernel_rfl)) ⟨F10, H, rfl, rfl, h9, S64⟩
          replace M := ifn q59 M
          refine cF (bF q59) (wp_skip (then_n (wp_seq (wR (lV 51 (eM (.slice A7 x6.length c8)) (lV 52 (eD g17 0 1 1 Try.underlying36) (lV 53 (eL ⟨g17, 0 + 1, none⟩ (.int .i64 x11.n) Try.underlying3 (blk_cell b18 rfl)) ?_)))))))
          obtain ⟨b65, e67⟩ := Row.addr h9 (show (x11.n).toNat < x6.length by omega)
          refine lV 54 (eI b65 0 x6.length c8 1 x11.n .i64 Try.underlying23 e67 q25 q55) ?_
          have S68 := S22.pulls [F10, (is g17)] [1] rfl
          have S69 := S68.unit
          have S70 := S69.pulls [F10, no, (is g17)] [1] rfl
          refine lE (e_setel (d := tInt) (b := b65) (i := (x11.n).toNat) (v := .int .i64 1) (vs := [.int .i64 1]) (yv := 1) S70 (by kernel_rfl) e67 rfl rfl (by kernel_rfl) h9 (show (x11.n).toNat < x6.length by omega) rfl) ?_
          rintro w71 ⟨F73, h72, S74, K75⟩
          replace b18 := K75.blk 0 rfl b18
          clear h9
          refine wN (then_n (wp_seq (wp_seq (wR (lV 55 (eD g17 0 0 1 Try.underlying36) (lV 56 (eL ⟨g17, 0 + 0, none⟩ (.int .i64 x11.kind) Try.underlying3 (blk_cell b18 rfl)) (lV 57 (eEq .i64 x11.kind 0) ?_)))))))
          refine wN (then_n (cT (bT q24) (wp_seq (wR (lV 58 (eM (.slice A2 x1.length c3)) (lV 59 (eM (.slice A7 x6.length c8)) (lV 60 (eM (.slice A2 x1.length c3)) ?_)))))))
          refine lV 61 (eD g17 0 1 1 Try.underlying36) (lV 62 (eL ⟨g17, 0 + 1, none⟩ (.int .i64 x11.n) Try.underlying3 (blk_cell b18 rfl)) ?_)
          obtain ⟨b76, o77, e78⟩ := Rd.addr h4 (show (x11.n).toNat < x1.length by omega)
          obtain ⟨y79, r80, k81⟩ := Rd.at h4 e78 (getD_some z36 (show (x11.n).toNat < x1.length by omega))
          obtain ⟨A82, c83, rfl, l84, h85⟩ := st36_open r80
          refine lV 63 (eI b76 o77 x1.length c3 3 x11.n .i64 Try.underlying32 e78 q25 q26) (lV 64 (e_loadS (b := b76) (off := o77 + (x11.n : Int).toNat * 3) (cs := [.int .i64 ((x1.getD ((x11.n).toNat) z36).kind), .int .i64 ((x1.getD ((x11.n).toNat) z36).n), .slice A82 ((x1.getD ((x11.n).toNat) z36).text).length c83]) Try.underlying36 rfl (by kernel_rfl) (by kernel_rfl) (fun j_ u_ e_ => (hpx (S74.inv.cell (k81 j_ u_ e_))))) ?_)
          obtain ⟨t86, u87, M⟩ := bnd M
          refine lC 65 (eC [.tmp 58, .tmp 59, .tmp 64] [.slice A2 x1.length c3, .slice A7 x6.length c8, .agg #[.int .i64 ((x1.getD ((x11.n).toNat) z36).kind), .int .i64 ((x1.getD ((x11.n).toNat) z36).n), .slice A82 ((x1.getD ((x11.n).toNat) z36).text).length c83]] Try.func65) (by have q_ := (ih k1_ (by omega) w71 H x1 A2 c3 (x6.set ((x11.n).toNat) 1) A7 c8 F73 (x1.getD ((x11.n).toNat) z36) A82 c83 h4 l5 h72 h85 l84 (St.own' (Fa := [F73]) (Fr := [(is g17)]) S74) t86 u87); rw [(show (x6.set ((x11.n).toNat) 1).length = x6.length from (List.length_set.trans rfl))] at q_; exact q_) ?_
          rintro _ w88 ⟨F92, H89, rfl, n93, h91, T90⟩
          refine ⟨_, rfl, ?_⟩
          obtain ⟨S94, K95⟩ := St.call (Fa := [F73]) (Fr := [(is g17)]) S74 T90
          replace b18 := K95.blk 0 rfl b18
          have E96 := T90.ext
          refine lV 66 (e_notv (c := t86.1) (by kernel_rfl)) (wN (then_n ?_))
          by_cases q97 : ¬ (t86.1 = true)
          · replace M := ifp q97 M
            refine cT (bT q97) (wp_seq (wR (lV 6 (eA (.bool false)) (wN (then_n (wp_ret (then_r ?_)))))))
            obtain rfl := Option.some.inj M
            have S98 := St.first (Fa := [F92]) (Fr := [(is g17)]) S94
            exact ret1 rfl rfl  (show _ = .bool false from (by kernel_rfl)) ⟨F92, H89, rfl, n93, h91, S98⟩
          replace M := ifn q97 M
          refine cF (bF q97) (wp_skip (then_n (wp_seq (wR (lV 88 (eM (.slice A7 x6.length c8)) (lV 89 (eD g17 0 1 1 Try.underlying36) (lV 90 (eL ⟨g17, 0 + 1, none⟩ (.int .i64 x11.n) Try.underlying3 (blk_cell b18 rfl)) ?_)))))))
          obtain ⟨b99, e101⟩ := Row.addr h91 (show (x11.n).toNat < t86.2.length by have : t86.2.length = x6.length := n93; omega)
          refine lV 91 (eI b99 0 x6.length c8 1 x11.n .i64 Try.underlying23 e101 q25 q55) ?_
          have S102 := S94.unit
          have S103 := S102.pulls [F92, no, (is g17)] [1] rfl
          refine lE (e_setel (d := tInt) (b := b99) (i := (x11.n).toNat) (v := .int .i64 2) (vs := [.int .i64 2]) (yv := 2) S103 (by kernel_rfl) e101 rfl rfl (by kernel_rfl) h91 (show (x11.n).toNat < t86.2.length by have : t86.2.length = x6.length := n93; omega) rfl) ?_
          rintro w104 ⟨F106, h105, S107, K108⟩
          clear h91
          refine wN (then_n (wp_seq (wR (lV 6 (eA (.bool true)) (wN (then_n (wp_ret ?_)))))))
          obtain rfl := Option.some.inj M
          have S109 := St.first (Fa := [F106]) (Fr := [(is g17)]) S107
          exact ret1 rfl rfl  (show _ = .bool true from (by kernel_rfl)) ⟨F106, H89, rfl, (List.length_set.trans n93), h105, S109⟩
        replace M := ifn q51 M
        refine lK 34 false (bF q51) ?_
        refine lK 34 false (bF q51) ?_
        refine lK 34 false (bF q51) ?_
        refine lV 38 (eF (.bool false) (bF q51)) (wN (then_n (cond_f rfl (by kernel_rfl) (wp_skip (then_n (wp_seq (wp_seq ?_)))))))
        refine wR (lV 39 (eM (.slice A7 x6.length c8)) (lV 40 (eD g17 0 1 1 Try.underlying36) (lV 41 (eL ⟨g17, 0 + 1, none⟩ (.int .i64 x11.n) Try.underlying3 (blk_cell b18 rfl)) ?_)))
        obtain ⟨q110, M⟩ := chk M
        obtain ⟨b111, e113⟩ := Row.addr h9 (show (x11.n).toNat < x6.length by omega)
        refine lV 42 (eI b111 0 x6.length c8 1 x11.n .i64 Try.underlying23 e113 q25 q110) (lV 43 (eL ⟨b111, 0 + (x11.n : Int).toNat * 1, none⟩ (.int .i64 (x6.getD ((x11.n).toNat) (0 : Int))) Try.underlying3 (hpx (Row.pick (j := 0) (u := .int .i64 (x6.getD ((x11.n).toNat) (0 : Int))) h9 e113 (getD_some (0 : Int) (show (x11.n).toNat < x6.length by omega)) (fun _ _ o_ => by rw [show _ = _ from o_]; rfl)))) (lV 44 (e_gtr (k := .i64) (a := (x6.getD ((x11.n).toNat) (0 : Int))) (b := 0) (by kernel_rfl) rfl) (wN (then_n ?_))))
        by_cases q114 : (x6.getD ((x11.n).toNat) (0 : Int)) > 0
        · replace M := ifp q114 M
          refine cT (bT q114) (wp_seq (wR (lV 45 (eM (.slice A7 x6.length c8)) (lV 46 (eD g17 0 1 1 Try.underlying36) (lV 47 (eL ⟨g17, 0 + 1, none⟩ (.int .i64 x11.n) Try.underlying3 (blk_cell b18 rfl)) ?_)))))
          obtain ⟨b115, e117⟩ := Row.addr h9 (show (x11.n).toNat < x6.length by omega)
          refine lV 48 (eI b115 0 x6.length c8 1 x11.n .i64 Try.underlying23 e117 q25 q110) (lV 49 (eL ⟨b115, 0 + (x11.n : Int).toNat * 1, none⟩ (.int .i64 (x6.getD ((x11.n).toNat) (0 : Int))) Try.underlying3 (hpx (Row.pick (j := 0) (u := .int .i64 (x6.getD ((x11.n).toNat) (0 : Int))) h9 e117 (getD_some (0 : Int) (show (x11.n).toNat < x6.length by omega)) (fun _ _ o_ => by rw [show _ = _ from o_]; rfl)))) (lV 50 (eEq .i64 (x6.getD ((x11.n).toNat) (0 : Int)) 2) (lV 6 (eA (.bool (decide ((x6.getD ((x11.n).toNat) (0 : Int)) = 2)))) (wN (then_n (wp_ret (then_r ?_)))))))
          obtain rfl := Option.some.inj M
          have S118 := S22.pulls [F10, (is g17)] [1] rfl
          have S119 := St.first (Fa := [F10]) (Fr := [(is g17)]) S118
          exact ret1 rfl rfl  (show _ = .bool (decide ((x6.getD ((x11.n).toNat) (0 : Int)) = 2)) from (by kernel_rfl)) ⟨F10, H, rfl, rfl, h9, S119⟩
        replace M := ifn q114 M
        refine cF (bF q114) (wp_skip (then_n (wp_seq (wR (lV 51 (eM (.slice A7 x6.length c8)) (lV 52 (eD g17 0 1 1 Try.underlying36) (lV 53 (eL ⟨g17, 0 + 1, none⟩ (.int .i64 x11.n) Try.underlying3 (blk_cell b18 rfl)) ?_)))))))
        obtain ⟨b120, e122⟩ := Row.addr h9 (show (x11.n).toNat < x6.length by omega)
        refine lV 54 (eI b120 0 x6.length c8 1 x11.n .i64 Try.underlying23 e122 q25 q110) ?_
        have S123 := S22.pulls [F10, (is g17)] [1] rfl
        have S124 := S123.unit
        have S125 := S124.pulls [F10, no, (is g17)] [1] rfl
        refine lE (e_setel (d := tInt) (b := b120) (i := (x11.n).toNat) (v := .int .i64 1) (vs := [.int .i64 1]) (yv := 1) S125 (by kernel_rfl) e122 rfl rfl (by kernel_rfl) h9 (show (x11.n).toNat < x6.length by omega) rfl) ?_
        rintro w126 ⟨F128, h127, S129, K130⟩
        replace b18 := K130.blk 0 rfl b18
        clear h9
        refine wN (then_n (wp_seq (wp_seq (wR (lV 55 (eD g17 0 0 1 Try.underlying36) (lV 56 (eL ⟨g17, 0 + 0, none⟩ (.int .i64 x11.kind) Try.underlying3 (blk_cell b18 rfl)) (lV 57 (eEq .i64 x11.kind 0) ?_)))))))
        refine wN (then_n (cT (bT q24) (wp_seq (wR (lV 58 (eM (.slice A2 x1.length c3)) (lV 59 (eM (.slice A7 x6.length c8)) (lV 60 (eM (.slice A2 x1.length c3)) ?_)))))))
        refine lV 61 (eD g17 0 1 1 Try.underlying36) (lV 62 (eL ⟨g17, 0 + 1, none⟩ (.int .i64 x11.n) Try.underlying3 (blk_cell b18 rfl)) ?_)
        obtain ⟨b131, o132, e133⟩ := Rd.addr h4 (show (x11.n).toNat < x1.length by omega)
        obtain ⟨y134, r135, k136⟩ := Rd.at h4 e133 (getD_some z36 (show (x11.n).toNat < x1.length by omega))
        obtain ⟨A137, c138, rfl, l139, h140⟩ := st36_open r135
        refine lV 63 (eI b131 o132 x1.length c3 3 x11.n .i64 Try.underlying32 e133 q25 q26) (lV 64 (e_loadS (b := b131) (off := o132 + (x11.n : Int).toNat * 3) (cs := [.int .i64 ((x1.getD ((x11.n).toNat) z36).kind), .int .i64 ((x1.getD ((x11.n).toNat) z36).n), .slice A137 ((x1.getD ((x11.n).toNat) z36).text).length c138]) Try.underlying36 rfl (by kernel_rfl) (by kernel_rfl) (fun j_ u_ e_ => (hpx (S129.inv.cell (k136 j_ u_ e_))))) ?_)
        obtain ⟨t141, u142, M⟩ := bnd M
        refine lC 65 (eC [.tmp 58, .tmp 59, .tmp 64] [.slice A2 x1.length c3, .slice A7 x6.length c8, .agg #[.int .i64 ((x1.getD ((x11.n).toNat) z36).kind), .int .i64 ((x1.getD ((x11.n).toNat) z36).n), .slice A137 ((x1.getD ((x11.n).toNat) z36).text).length c138]] Try.func65) (by have q_ := (ih k1_ (by omega) w126 H x1 A2 c3 (x6.set ((x11.n).toNat) 1) A7 c8 F128 (x1.getD ((x11.n).toNat) z36) A137 c138 h4 l5 h127 h140 l139 (St.own' (Fa := [F128]) (Fr := [(is g17)]) S129) t141 u142); rw [(show (x6.set ((x11.n).toNat) 1).length = x6.length from (List.length_set.trans rfl))] at q_; exact q_) ?_
        rintro _ w143 ⟨F147, H144, rfl, n148, h146, T145⟩
        refine ⟨_, rfl, ?_⟩
        obtain ⟨S149, K150⟩ := St.call (Fa := [F128]) (Fr := [(is g17)]) S129 T145
        replace b18 := K150.blk 0 rfl b18
        have E151 := T145.ext
        refine lV 66 (e_notv (c := t141.1) (by kernel_rfl)) (wN (then_n ?_))
        by_cases q152 : ¬ (t141.1 = true)
        · replace M := ifp q152 M
          refine cT (bT q152) (wp_seq (wR (lV 6 (eA (.bool false)) (wN (then_n (wp_ret (then_r ?_)))))))
          obtain rfl := Option.some.inj M
          have S153 := St.first (Fa := [F147]) (Fr := [(is g17)]) S149
          exact ret1 rfl rfl  (show _ = .bool false from (by kernel_rfl)) ⟨F147, H144, rfl, n148, h146, S153⟩
        replace M := ifn q152 M
        refine cF (bF q152) (wp_skip (then_n (wp_seq (wR (lV 88 (eM (.slice A7 x6.length c8)) (lV 89 (eD g17 0 1 1 Try.underlying36) (lV 90 (eL ⟨g17, 0 + 1, none⟩ (.int .i64 x11.n) Try.underlying3 (blk_cell b18 rfl)) ?_)))))))
        obtain ⟨b154, e156⟩ := Row.addr h146 (show (x11.n).toNat < t141.2.length by have : t141.2.length = x6.length := n148; omega)
        refine lV 91 (eI b154 0 x6.length c8 1 x11.n .i64 Try.underlying23 e156 q25 q110) ?_
        have S157 := S149.unit
        have S158 := S157.pulls [F147, no, (is g17)] [1] rfl
        refine lE (e_setel (d := tInt) (b := b154) (i := (x11.n).toNat) (v := .int .i64 2) (vs := [.int .i64 2]) (yv := 2) S158 (by kernel_rfl) e156 rfl rfl (by kernel_rfl) h146 (show (x11.n).toNat < t141.2.length by have : t141.2.length = x6.length := n148; omega) rfl) ?_
        rintro w159 ⟨F161, h160, S162, K163⟩
        clear h146
        refine wN (then_n (wp_seq (wR (lV 6 (eA (.bool true)) (wN (then_n (wp_ret ?_)))))))
        obtain rfl := Option.some.inj M
        have S164 := St.first (Fa := [F161]) (Fr := [(is g17)]) S162
        exact ret1 rfl rfl  (show _ = .bool true from (by kernel_rfl)) ⟨F161, H144, rfl, (List.length_set.trans n148), h160, S164⟩
      replace M := ifn q37 M
      refine sK 20 false (bF q37) ?_
      refine sK 20 false (bF q37) ?_
      refine sK 20 false (bF q37) ?_
      refine sK 20 false (bF q37) ?_
      refine sK 20 false (bF q37) ?_
      refine sK 20 false (bF q37) ?_
      refine sK 20 false (bF q37) ?_
      refine sK 20 false (bF q37) ?_
      refine sK 20 false (bF q37) ?_
      refine sV 30 (eF (.bool false) (bF q37)) (wpStill_nil (then_n (cond_f rfl (by kernel_rfl) (wp_skip (then_n (wp_seq (wp_seq ?_)))))))
      refine wR (lV 31 (eD g17 0 0 1 Try.underlying36) (lV 32 (eL ⟨g17, 0 + 0, none⟩ (.int .i64 x11.kind) Try.underlying3 (blk_cell b18 rfl)) (lV 33 (eNe .i64 x11.kind 0) (lV 34 (eM (.bool (decide (x11.kind ≠ 0)))) ?_))))
      by_cases q165 : x11.kind ≠ 0
      · replace M := ifp q165 M
        refine lG 35 34 (bT q165) (eD g17 0 0 1 Try.underlying36) (lG 36 34 (bT q165) (eL ⟨g17, 0 + 0, none⟩ (.int .i64 x11.kind) Try.underlying3 (blk_cell b18 rfl)) (lG 37 34 (bT q165) (eNe .i64 x11.kind 4) (lV 38 (eT (.bool (decide (x11.kind ≠ 4))) (bT q165)) (wN (then_n ?_)))))
        by_cases q166 : x11.kind ≠ 4
        · replace M := ifp q166 M
          refine cT (bT q166) (wp_seq (wR (lV 6 (eA (.bool true)) (wN (then_n (wp_ret (then_r ?_)))))))
          obtain rfl := Option.some.inj M
          have S167 := S22.pulls [F10, (is g17)] [1] rfl
          have S168 := St.first (Fa := [F10]) (Fr := [(is g17)]) S167
          exact ret1 rfl rfl  (show _ = .bool true from (by kernel_rfl)) ⟨F10, H, rfl, rfl, h9, S168⟩
        replace M := ifn q166 M
        refine cF (bF q166) (wp_skip (then_n (wp_seq (wp_seq (wR (lV 39 (eM (.slice A7 x6.length c8)) (lV 40 (eD g17 0 1 1 Try.underlying36) ?_)))))))
        refine lV 41 (eL ⟨g17, 0 + 1, none⟩ (.int .i64 x11.n) Try.underlying3 (blk_cell b18 rfl)) ?_
        obtain ⟨q169, M⟩ := chk M
        obtain ⟨b170, e172⟩ := Row.addr h9 (show (x11.n).toNat < x6.length by omega)
        refine lV 42 (eI b170 0 x6.length c8 1 x11.n .i64 Try.underlying23 e172 q25 q169) (lV 43 (eL ⟨b170, 0 + (x11.n : Int).toNat * 1, none⟩ (.int .i64 (x6.getD ((x11.n).toNat) (0 : Int))) Try.underlying3 (hpx (Row.pick (j := 0) (u := .int .i64 (x6.getD ((x11.n).toNat) (0 : Int))) h9 e172 (getD_some (0 : Int) (show (x11.n).toNat < x6.length by omega)) (fun _ _ o_ => by rw [show _ = _ from o_]; rfl)))) (lV 44 (e_gtr (k := .i64) (a := (x6.getD ((x11.n).toNat) (0 : Int))) (b := 0) (by kernel_rfl) rfl) (wN (then_n ?_))))
        by_cases q173 : (x6.getD ((x11.n).toNat) (0 : Int)) > 0
        · replace M := ifp q173 M
          refine cT (bT q173) (wp_seq (wR (lV 45 (eM (.slice A7 x6.length c8)) (lV 46 (eD g17 0 1 1 Try.underlying36) (lV 47 (eL ⟨g17, 0 + 1, none⟩ (.int .i64 x11.n) Try.underlying3 (blk_cell b18 rfl)) ?_)))))
          obtain ⟨b174, e176⟩ := Row.addr h9 (show (x11.n).toNat < x6.length by omega)
          refine lV 48 (eI b174 0 x6.length c8 1 x11.n .i64 Try.underlying23 e176 q25 q169) (lV 49 (eL ⟨b174, 0 + (x11.n : Int).toNat * 1, none⟩ (.int .i64 (x6.getD ((x11.n).toNat) (0 : Int))) Try.underlying3 (hpx (Row.pick (j := 0) (u := .int .i64 (x6.getD ((x11.n).toNat) (0 : Int))) h9 e176 (getD_some (0 : Int) (show (x11.n).toNat < x6.length by omega)) (fun _ _ o_ => by rw [show _ = _ from o_]; rfl)))) (lV 50 (eEq .i64 (x6.getD ((x11.n).toNat) (0 : Int)) 2) (lV 6 (eA (.bool (decide ((x6.getD ((x11.n).toNat) (0 : Int)) = 2)))) (wN (then_n (wp_ret (then_r ?_)))))))
          obtain rfl := Option.some.inj M
          have S177 := S22.pulls [F10, (is g17)] [1] rfl
          have S178 := St.first (Fa := [F10]) (Fr := [(is g17)]) S177
          exact ret1 rfl rfl  (show _ = .bool (decide ((x6.getD ((x11.n).toNat) (0 : Int)) = 2)) from (by kernel_rfl)) ⟨F10, H, rfl, rfl, h9, S178⟩
        replace M := ifn q173 M
        refine cF (bF q173) (wp_skip (then_n (wp_seq (wR (lV 51 (eM (.slice A7 x6.length c8)) (lV 52 (eD g17 0 1 1 Try.underlying36) (lV 53 (eL ⟨g17, 0 + 1, none⟩ (.int .i64 x11.n) Try.underlying3 (blk_cell b18 rfl)) ?_)))))))
        obtain ⟨b179, e181⟩ := Row.addr h9 (show (x11.n).toNat < x6.length by omega)
        refine lV 54 (eI b179 0 x6.length c8 1 x11.n .i64 Try.underlying23 e181 q25 q169) ?_
        have S182 := S22.pulls [F10, (is g17)] [1] rfl
        have S183 := S182.unit
        have S184 := S183.pulls [F10, no, (is g17)] [1] rfl
        refine lE (e_setel (d := tInt) (b := b179) (i := (x11.n).toNat) (v := .int .i64 1) (vs := [.int .i64 1]) (yv := 1) S184 (by kernel_rfl) e181 rfl rfl (by kernel_rfl) h9 (show (x11.n).toNat < x6.length by omega) rfl) ?_
        rintro w185 ⟨F187, h186, S188, K189⟩
        replace b18 := K189.blk 0 rfl b18
        clear h9
        refine wN (then_n (wp_seq (wp_seq (wR (lV 55 (eD g17 0 0 1 Try.underlying36) (lV 56 (eL ⟨g17, 0 + 0, none⟩ (.int .i64 x11.kind) Try.underlying3 (blk_cell b18 rfl)) (lV 57 (eEq .i64 x11.kind 0) ?_)))))))
        refine wN (then_n (cT (bT q24) (wp_seq (wR (lV 58 (eM (.slice A2 x1.length c3)) (lV 59 (eM (.slice A7 x6.length c8)) (lV 60 (eM (.slice A2 x1.length c3)) ?_)))))))
        refine lV 61 (eD g17 0 1 1 Try.underlying36) (lV 62 (eL ⟨g17, 0 + 1, none⟩ (.int .i64 x11.n) Try.underlying3 (blk_cell b18 rfl)) ?_)
        obtain ⟨b190, o191, e192⟩ := Rd.addr h4 (show (x11.n).toNat < x1.length by omega)
        obtain ⟨y193, r194, k195⟩ := Rd.at h4 e192 (getD_some z36 (show (x11.n).toNat < x1.length by omega))
        obtain ⟨A196, c197, rfl, l198, h199⟩ := st36_open r194
        refine lV 63 (eI b190 o191 x1.length c3 3 x11.n .i64 Try.underlying32 e192 q25 q26) (lV 64 (e_loadS (b := b190) (off := o191 + (x11.n : Int).toNat * 3) (cs := [.int .i64 ((x1.getD ((x11.n).toNat) z36).kind), .int .i64 ((x1.getD ((x11.n).toNat) z36).n), .slice A196 ((x1.getD ((x11.n).toNat) z36).text).length c197]) Try.underlying36 rfl (by kernel_rfl) (by kernel_rfl) (fun j_ u_ e_ => (hpx (S188.inv.cell (k195 j_ u_ e_))))) ?_)
        obtain ⟨t200, u201, M⟩ := bnd M
        refine lC 65 (eC [.tmp 58, .tmp 59, .tmp 64] [.slice A2 x1.length c3, .slice A7 x6.length c8, .agg #[.int .i64 ((x1.getD ((x11.n).toNat) z36).kind), .int .i64 ((x1.getD ((x11.n).toNat) z36).n), .slice A196 ((x1.getD ((x11.n).toNat) z36).text).length c197]] Try.func65) (by have q_ := (ih k1_ (by omega) w185 H x1 A2 c3 (x6.set ((x11.n).toNat) 1) A7 c8 F187 (x1.getD ((x11.n).toNat) z36) A196 c197 h4 l5 h186 h199 l198 (St.own' (Fa := [F187]) (Fr := [(is g17)]) S188) t200 u201); rw [(show (x6.set ((x11.n).toNat) 1).length = x6.length from (List.length_set.trans rfl))] at q_; exact q_) ?_
        rintro _ w202 ⟨F206, H203, rfl, n207, h205, T204⟩
        refine ⟨_, rfl, ?_⟩
        obtain ⟨S208, K209⟩ := St.call (Fa := [F187]) (Fr := [(is g17)]) S188 T204
        replace b18 := K209.blk 0 rfl b18
        have E210 := T204.ext
        refine lV 66 (e_notv (c := t200.1) (by kernel_rfl)) (wN (then_n ?_))
        by_cases q211 : ¬ (t200.1 = true)
        · replace M := ifp q211 M
          refine cT (bT q211) (wp_seq (wR (lV 6 (eA (.bool false)) (wN (then_n (wp_ret (then_r ?_)))))))
          obtain rfl := Option.some.inj M
          have S212 := St.first (Fa := [F206]) (Fr := [(is g17)]) S208
          exact ret1 rfl rfl  (show _ = .bool false from (by kernel_rfl)) ⟨F206, H203, rfl, n207, h205, S212⟩
        replace M := ifn q211 M
        refine cF (bF q211) (wp_skip (then_n (wp_seq (wR (lV 88 (eM (.slice A7 x6.length c8)) (lV 89 (eD g17 0 1 1 Try.underlying36) (lV 90 (eL ⟨g17, 0 + 1, none⟩ (.int .i64 x11.n) Try.underlying3 (blk_cell b18 rfl)) ?_)))))))
        obtain ⟨b213, e215⟩ := Row.addr h205 (show (x11.n).toNat < t200.2.length by have : t200.2.length = x6.length := n207; omega)
        refine lV 91 (eI b213 0 x6.length c8 1 x11.n .i64 Try.underlying23 e215 q25 q169) ?_
        have S216 := S208.unit
        have S217 := S216.pulls [F206, no, (is g17)] [1] rfl
        refine lE (e_setel (d := tInt) (b := b213) (i := (x11.n).toNat) (v := .int .i64 2) (vs := [.int .i64 2]) (yv := 2) S217 (by kernel_rfl) e215 rfl rfl (by kernel_rfl) h205 (show (x11.n).toNat < t200.2.length by have : t200.2.length = x6.length := n207; omega) rfl) ?_
        rintro w218 ⟨F220, h219, S221, K222⟩
        clear h205
        refine wN (then_n (wp_seq (wR (lV 6 (eA (.bool true)) (wN (then_n (wp_ret ?_)))))))
        obtain rfl := Option.some.inj M
        have S223 := St.first (Fa := [F220]) (Fr := [(is g17)]) S221
        exact ret1 rfl rfl  (show _ = .bool true from (by kernel_rfl)) ⟨F220, H203, rfl, (List.length_set.trans n207), h219, S223⟩
      replace M := ifn q165 M
      refine lK 34 false (bF q165) ?_
      refine lK 34 false (bF q165) ?_
      refine lK 34 false (bF q165) ?_
      refine lV 38 (eF (.bool false) (bF q165)) (wN (then_n (cond_f rfl (by kernel_rfl) (wp_skip (then_n (wp_seq (wp_seq ?_)))))))
      refine wR (lV 39 (eM (.slice A7 x6.length c8)) (lV 40 (eD g17 0 1 1 Try.underlying36) (lV 41 (eL ⟨g17, 0 + 1, none⟩ (.int .i64 x11.n) Try.underlying3 (blk_cell b18 rfl)) ?_)))
      obtain ⟨q224, M⟩ := chk M
      obtain ⟨b225, e227⟩ := Row.addr h9 (show (x11.n).toNat < x6.length by omega)
      refine lV 42 (eI b225 0 x6.length c8 1 x11.n .i64 Try.underlying23 e227 q25 q224) (lV 43 (eL ⟨b225, 0 + (x11.n : Int).toNat * 1, none⟩ (.int .i64 (x6.getD ((x11.n).toNat) (0 : Int))) Try.underlying3 (hpx (Row.pick (j := 0) (u := .int .i64 (x6.getD ((x11.n).toNat) (0 : Int))) h9 e227 (getD_some (0 : Int) (show (x11.n).toNat < x6.length by omega)) (fun _ _ o_ => by rw [show _ = _ from o_]; rfl)))) (lV 44 (e_gtr (k := .i64) (a := (x6.getD ((x11.n).toNat) (0 : Int))) (b := 0) (by kernel_rfl) rfl) (wN (then_n ?_))))
      by_cases q228 : (x6.getD ((x11.n).toNat) (0 : Int)) > 0
      · replace M := ifp q228 M
        refine cT (bT q228) (wp_seq (wR (lV 45 (eM (.slice A7 x6.length c8)) (lV 46 (eD g17 0 1 1 Try.underlying36) (lV 47 (eL ⟨g17, 0 + 1, none⟩ (.int .i64 x11.n) Try.underlying3 (blk_cell b18 rfl)) ?_)))))
        obtain ⟨b229, e231⟩ := Row.addr h9 (show (x11.n).toNat < x6.length by omega)
        refine lV 48 (eI b229 0 x6.length c8 1 x11.n .i64 Try.underlying23 e231 q25 q224) (lV 49 (eL ⟨b229, 0 + (x11.n : Int).toNat * 1, none⟩ (.int .i64 (x6.getD ((x11.n).toNat) (0 : Int))) Try.underlying3 (hpx (Row.pick (j := 0) (u := .int .i64 (x6.getD ((x11.n).toNat) (0 : Int))) h9 e231 (getD_some (0 : Int) (show (x11.n).toNat < x6.length by omega)) (fun _ _ o_ => by rw [show _ = _ from o_]; rfl)))) (lV 50 (eEq .i64 (x6.getD ((x11.n).toNat) (0 : Int)) 2) (lV 6 (eA (.bool (decide ((x6.getD ((x11.n).toNat) (0 : Int)) = 2)))) (wN (then_n (wp_ret (then_r ?_)))))))
        obtain rfl := Option.some.inj M
        have S232 := S22.pulls [F10, (is g17)] [1] rfl
        have S233 := St.first (Fa := [F10]) (Fr := [(is g17)]) S232
        exact ret1 rfl rfl  (show _ = .bool (decide ((x6.getD ((x11.n).toNat) (0 : Int)) = 2)) from (by kernel_rfl)) ⟨F10, H, rfl, rfl, h9, S233⟩
      replace M := ifn q228 M
      refine cF (bF q228) (wp_skip (then_n (wp_seq (wR (lV 51 (eM (.slice A7 x6.length c8)) (lV 52 (eD g17 0 1 1 Try.underlying36) (lV 53 (eL ⟨g17, 0 + 1, none⟩ (.int .i64 x11.n) Try.underlying3 (blk_cell b18 rfl)) ?_)))))))
      obtain ⟨b234, e236⟩ := Row.addr h9 (show (x11.n).toNat < x6.length by omega)
      refine lV 54 (eI b234 0 x6.length c8 1 x11.n .i64 Try.underlying23 e236 q25 q224) ?_
      have S237 := S22.pulls [F10, (is g17)] [1] rfl
      have S238 := S237.unit
      have S239 := S238.pulls [F10, no, (is g17)] [1] rfl
      refine lE (e_setel (d := tInt) (b := b234) (i := (x11.n).toNat) (v := .int .i64 1) (vs := [.int .i64 1]) (yv := 1) S239 (by kernel_rfl) e236 rfl rfl (by kernel_rfl) h9 (show (x11.n).toNat < x6.length by omega) rfl) ?_
      rintro w240 ⟨F242, h241, S243, K244⟩
      replace b18 := K244.blk 0 rfl b18
      clear h9
      refine wN (then_n (wp_seq (wp_seq (wR (lV 55 (eD g17 0 0 1 Try.underlying36) (lV 56 (eL ⟨g17, 0 + 0, none⟩ (.int .i64 x11.kind) Try.underlying3 (blk_cell b18 rfl)) (lV 57 (eEq .i64 x11.kind 0) ?_)))))))
      refine wN (then_n (cT (bT q24) (wp_seq (wR (lV 58 (eM (.slice A2 x1.length c3)) (lV 59 (eM (.slice A7 x6.length c8)) (lV 60 (eM (.slice A2 x1.length c3)) ?_)))))))
      refine lV 61 (eD g17 0 1 1 Try.underlying36) (lV 62 (eL ⟨g17, 0 + 1, none⟩ (.int .i64 x11.n) Try.underlying3 (blk_cell b18 rfl)) ?_)
      obtain ⟨b245, o246, e247⟩ := Rd.addr h4 (show (x11.n).toNat < x1.length by omega)
      obtain ⟨y248, r249, k250⟩ := Rd.at h4 e247 (getD_some z36 (show (x11.n).toNat < x1.length by omega))
      obtain ⟨A251, c252, rfl, l253, h254⟩ := st36_open r249
      refine lV 63 (eI b245 o246 x1.length c3 3 x11.n .i64 Try.underlying32 e247 q25 q26) (lV 64 (e_loadS (b := b245) (off := o246 + (x11.n : Int).toNat * 3) (cs := [.int .i64 ((x1.getD ((x11.n).toNat) z36).kind), .int .i64 ((x1.getD ((x11.n).toNat) z36).n), .slice A251 ((x1.getD ((x11.n).toNat) z36).text).length c252]) Try.underlying36 rfl (by kernel_rfl) (by kernel_rfl) (fun j_ u_ e_ => (hpx (S243.inv.cell (k250 j_ u_ e_))))) ?_)
      obtain ⟨t255, u256, M⟩ := bnd M
      refine lC 65 (eC [.tmp 58, .tmp 59, .tmp 64] [.slice A2 x1.length c3, .slice A7 x6.length c8, .agg #[.int .i64 ((x1.getD ((x11.n).toNat) z36).kind), .int .i64 ((x1.getD ((x11.n).toNat) z36).n), .slice A251 ((x1.getD ((x11.n).toNat) z36).text).length c252]] Try.func65) (by have q_ := (ih k1_ (by omega) w240 H x1 A2 c3 (x6.set ((x11.n).toNat) 1) A7 c8 F242 (x1.getD ((x11.n).toNat) z36) A251 c252 h4 l5 h241 h254 l253 (St.own' (Fa := [F242]) (Fr := [(is g17)]) S243) t255 u256); rw [(show (x6.set ((x11.n).toNat) 1).length = x6.length from (List.length_set.trans rfl))] at q_; exact q_) ?_
      rintro _ w257 ⟨F261, H258, rfl, n262, h260, T259⟩
      refine ⟨_, rfl, ?_⟩
      obtain ⟨S263, K264⟩ := St.call (Fa := [F242]) (Fr := [(is g17)]) S243 T259
      replace b18 := K264.blk 0 rfl b18
      have E265 := T259.ext
      refine lV 66 (e_notv (c := t255.1) (by kernel_rfl)) (wN (then_n ?_))
      by_cases q266 : ¬ (t255.1 = true)
      · replace M := ifp q266 M
        refine cT (bT q266) (wp_seq (wR (lV 6 (eA (.bool false)) (wN (then_n (wp_ret (then_r ?_)))))))
        obtain rfl := Option.some.inj M
        have S267 := St.first (Fa := [F261]) (Fr := [(is g17)]) S263
        exact ret1 rfl rfl  (show _ = .bool false from (by kernel_rfl)) ⟨F261, H258, rfl, n262, h260, S267⟩
      replace M := ifn q266 M
      refine cF (bF q266) (wp_skip (then_n (wp_seq (wR (lV 88 (eM (.slice A7 x6.length c8)) (lV 89 (eD g17 0 1 1 Try.underlying36) (lV 90 (eL ⟨g17, 0 + 1, none⟩ (.int .i64 x11.n) Try.underlying3 (blk_cell b18 rfl)) ?_)))))))
      obtain ⟨b268, e270⟩ := Row.addr h260 (show (x11.n).toNat < t255.2.length by have : t255.2.length = x6.length := n262; omega)
      refine lV 91 (eI b268 0 x6.length c8 1 x11.n .i64 Try.underlying23 e270 q25 q224) ?_
      have S271 := S263.unit
      have S272 := S271.pulls [F261, no, (is g17)] [1] rfl
      refine lE (e_setel (d := tInt) (b := b268) (i := (x11.n).toNat) (v := .int .i64 2) (vs := [.int .i64 2]) (yv := 2) S272 (by kernel_rfl) e270 rfl rfl (by kernel_rfl) h260 (show (x11.n).toNat < t255.2.length by have : t255.2.length = x6.length := n262; omega) rfl) ?_
      rintro w273 ⟨F275, h274, S276, K277⟩
      clear h260
      refine wN (then_n (wp_seq (wR (lV 6 (eA (.bool true)) (wN (then_n (wp_ret ?_)))))))
      obtain rfl := Option.some.inj M
      have S278 := St.first (Fa := [F275]) (Fr := [(is g17)]) S276
      exact ret1 rfl rfl  (show _ = .bool true from (by kernel_rfl)) ⟨F275, H258, rfl, (List.length_set.trans n262), h274, S278⟩
    replace M := ifn q24 M
    refine sK 11 false (bF q24) ?_
    refine sK 11 false (bF q24) ?_
    refine sK 11 false (bF q24) ?_
    refine sK 11 false (bF q24) ?_
    refine sK 11 false (bF q24) ?_
    refine sK 11 false (bF q24) ?_
    refine sK 11 false (bF q24) ?_
    refine sV 19 (eF (.bool false) (bF q24)) (sV 20 (eM (.bool false)) ?_)
    refine sK 20 false (by kernel_rfl) ?_
    refine sK 20 false (by kernel_rfl) ?_
    refine sK 20 false (by kernel_rfl) ?_
    refine sK 20 false (by kernel_rfl) ?_
    refine sK 20 false (by kernel_rfl) ?_
    refine sK 20 false (by kernel_rfl) ?_
    refine sK 20 false (by kernel_rfl) ?_
    refine sK 20 false (by kernel_rfl) ?_
    refine sK 20 false (by kernel_rfl) ?_
    refine sV 30 (eF (.bool false)) (wpStill_nil (then_n (cond_f rfl (by kernel_rfl) (wp_skip (then_n (wp_seq (wp_seq ?_)))))))
    refine wR (lV 31 (eD g17 0 0 1 Try.underlying36) (lV 32 (eL ⟨g17, 0 + 0, none⟩ (.int .i64 x11.kind) Try.underlying3 (blk_cell b18 rfl)) (lV 33 (eNe .i64 x11.kind 0) (lV 34 (eM (.bool (decide (x11.kind ≠ 0)))) ?_))))
    by_cases q279 : x11.kind ≠ 0
    · replace M := ifp q279 M
      refine lG 35 34 (bT q279) (eD g17 0 0 1 Try.underlying36) (lG 36 34 (bT q279) (eL ⟨g17, 0 + 0, none⟩ (.int .i64 x11.kind) Try.underlying3 (blk_cell b18 rfl)) (lG 37 34 (bT q279) (eNe .i64 x11.kind 4) (lV 38 (eT (.bool (decide (x11.kind ≠ 4))) (bT q279)) (wN (then_n ?_)))))
      by_cases q280 : x11.kind ≠ 4
      · replace M := ifp q280 M
        refine cT (bT q280) (wp_seq (wR (lV 6 (eA (.bool true)) (wN (then_n (wp_ret (then_r ?_)))))))
        obtain rfl := Option.some.inj M
        have S281 := S22.pulls [F10, (is g17)] [1] rfl
        have S282 := St.first (Fa := [F10]) (Fr := [(is g17)]) S281
        exact ret1 rfl rfl  (show _ = .bool true from (by kernel_rfl)) ⟨F10, H, rfl, rfl, h9, S282⟩
      replace M := ifn q280 M
      refine cF (bF q280) (wp_skip (then_n (wp_seq (wp_seq (wR (lV 39 (eM (.slice A7 x6.length c8)) (lV 40 (eD g17 0 1 1 Try.underlying36) ?_)))))))
      refine lV 41 (eL ⟨g17, 0 + 1, none⟩ (.int .i64 x11.n) Try.underlying3 (blk_cell b18 rfl)) ?_
      obtain ⟨q283, M⟩ := chk M
      obtain ⟨q284, M⟩ := chk M
      obtain ⟨b285, e287⟩ := Row.addr h9 (show (x11.n).toNat < x6.length by omega)
      refine lV 42 (eI b285 0 x6.length c8 1 x11.n .i64 Try.underlying23 e287 q283 q284) (lV 43 (eL ⟨b285, 0 + (x11.n : Int).toNat * 1, none⟩ (.int .i64 (x6.getD ((x11.n).toNat) (0 : Int))) Try.underlying3 (hpx (Row.pick (j := 0) (u := .int .i64 (x6.getD ((x11.n).toNat) (0 : Int))) h9 e287 (getD_some (0 : Int) (show (x11.n).toNat < x6.length by omega)) (fun _ _ o_ => by rw [show _ = _ from o_]; rfl)))) (lV 44 (e_gtr (k := .i64) (a := (x6.getD ((x11.n).toNat) (0 : Int))) (b := 0) (by kernel_rfl) rfl) (wN (then_n ?_))))
      by_cases q288 : (x6.getD ((x11.n).toNat) (0 : Int)) > 0
      · replace M := ifp q288 M
        refine cT (bT q288) (wp_seq (wR (lV 45 (eM (.slice A7 x6.length c8)) (lV 46 (eD g17 0 1 1 Try.underlying36) (lV 47 (eL ⟨g17, 0 + 1, none⟩ (.int .i64 x11.n) Try.underlying3 (blk_cell b18 rfl)) ?_)))))
        obtain ⟨b289, e291⟩ := Row.addr h9 (show (x11.n).toNat < x6.length by omega)
        refine lV 48 (eI b289 0 x6.length c8 1 x11.n .i64 Try.underlying23 e291 q283 q284) (lV 49 (eL ⟨b289, 0 + (x11.n : Int).toNat * 1, none⟩ (.int .i64 (x6.getD ((x11.n).toNat) (0 : Int))) Try.underlying3 (hpx (Row.pick (j := 0) (u := .int .i64 (x6.getD ((x11.n).toNat) (0 : Int))) h9 e291 (getD_some (0 : Int) (show (x11.n).toNat < x6.length by omega)) (fun _ _ o_ => by rw [show _ = _ from o_]; rfl)))) (lV 50 (eEq .i64 (x6.getD ((x11.n).toNat) (0 : Int)) 2) (lV 6 (eA (.bool (decide ((x6.getD ((x11.n).toNat) (0 : Int)) = 2)))) (wN (then_n (wp_ret (then_r ?_)))))))
        obtain rfl := Option.some.inj M
        have S292 := S22.pulls [F10, (is g17)] [1] rfl
        have S293 := St.first (Fa := [F10]) (Fr := [(is g17)]) S292
        exact ret1 rfl rfl  (show _ = .bool (decide ((x6.getD ((x11.n).toNat) (0 : Int)) = 2)) from (by kernel_rfl)) ⟨F10, H, rfl, rfl, h9, S293⟩
      replace M := ifn q288 M
      refine cF (bF q288) (wp_skip (then_n (wp_seq (wR (lV 51 (eM (.slice A7 x6.length c8)) (lV 52 (eD g17 0 1 1 Try.underlying36) (lV 53 (eL ⟨g17, 0 + 1, none⟩ (.int .i64 x11.n) Try.underlying3 (blk_cell b18 rfl)) ?_)))))))
      obtain ⟨b294, e296⟩ := Row.addr h9 (show (x11.n).toNat < x6.length by omega)
      refine lV 54 (eI b294 0 x6.length c8 1 x11.n .i64 Try.underlying23 e296 q283 q284) ?_
      have S297 := S22.pulls [F10, (is g17)] [1] rfl
      have S298 := S297.unit
      have S299 := S298.pulls [F10, no, (is g17)] [1] rfl
      refine lE (e_setel (d := tInt) (b := b294) (i := (x11.n).toNat) (v := .int .i64 1) (vs := [.int .i64 1]) (yv := 1) S299 (by kernel_rfl) e296 rfl rfl (by kernel_rfl) h9 (show (x11.n).toNat < x6.length by omega) rfl) ?_
      rintro w300 ⟨F302, h301, S303, K304⟩
      replace b18 := K304.blk 0 rfl b18
      clear h9
      refine wN (then_n (wp_seq (wp_seq (wR (lV 55 (eD g17 0 0 1 Try.underlying36) (lV 56 (eL ⟨g17, 0 + 0, none⟩ (.int .i64 x11.kind) Try.underlying3 (blk_cell b18 rfl)) (lV 57 (eEq .i64 x11.kind 0) ?_)))))))
      refine wN (then_n (cF (bF q24) (wp_seq (wR (lV 7 (eA (.int .i64 1)) (wN (then_n ?_)))))))
      refine wp_block ?_
      refine wp_loop_g (fun k320 a321 w305 => ∃ (f306 : Nat → Value) (H307 : Hp) (x309 : Int) (F310 : Foot) (x311 : List Int), k320 < K ∧ a321 = mk 92 f306 ∧ f306 0 = .slice A2 x1.length c3 ∧ f306 1 = .slice A7 x6.length c8 ∧ f306 5 = .pointer (some ⟨g17, 0, none⟩) ∧ f306 7 = .int .i64 x309 ∧ Row tInt 3 H307 (hp w305) F310 A7 c8 x311 ∧ w305.heap[g17]? = some (.cells #[.int .i64 x11.kind, .int .i64 x11.n, .slice A12 x11.text.length c13] 36 (0, 0)) ∧ x311.length = x6.length ∧ Ext H H307 ∧ St (anyOf [F10]) H w [F310, (is g17)] H307 w305 ∧ spec_l10round_2.l0 k320 x1 x11 x309 x311 = some r) k1_ ⟨_, H, 1, F302, (x6.set ((x11.n).toNat) 1), (by omega), rfl, (by kernel_rfl), (by kernel_rfl), (by kernel_rfl), (by kernel_rfl), h301, b18, (List.length_set.trans rfl), (Ext.refl _), S303, M⟩ ?_
      clear M
      rintro k320 a321 w305 ⟨f306, H307, x309, F310, x311, z318, rfl, e313, e314, e315, e316, h301, b18, n312, Y308, S317, M⟩
      rcases k320 with _ | k322
      · rw [spec_l10round_2.l0] at M
        cases M
      rw [spec_l10round_2.l0] at M
      refine wp_seq (wp_seq (wR (lV 67 (eM (.int .i64 x309) (by exact e316)) (lV 68 (eM (.slice A2 x1.length c3) (by exact e313)) (lV 69 (eD g17 0 1 1 Try.underlying36 (by exact e315)) (lV 70 (eL ⟨g17, 0 + 1, none⟩ (.int .i64 x11.n) Try.underlying3 (blk_cell b18 rfl)) ?_))))))
      obtain ⟨q323, M⟩ := chk M
      obtain ⟨b324, o325, e326⟩ := Rd.addr h4 (show (x11.n).toNat < x1.length by omega)
      obtain ⟨y327, r328, k329⟩ := Rd.at h4 e326 (getD_some z36 (show (x11.n).toNat < x1.length by omega))
      obtain ⟨A330, c331, rfl, l332, h333⟩ := st36_open r328
      refine lV 71 (eI b324 o325 x1.length c3 3 x11.n .i64 Try.underlying32 e326 q283 q323) (lV 72 (eD b324 (o325 + (x11.n : Int).toNat * 3) 1 1 Try.underlying36) (lV 73 (eL ⟨b324, o325 + (x11.n : Int).toNat * 3 + 1, none⟩ (.int .i64 ((x1.getD ((x11.n).toNat) z36).n)) Try.underlying3 (hpx (S317.inv.cell (Y308.cell (k329 1 _ rfl))))) (lV 74 (e_leq (k := .i64) (a := x309) (b := (x1.getD ((x11.n).toNat) z36).n) (by kernel_rfl) (by kernel_rfl)) (wN (then_n ?_)))))
      by_cases q334 : x309 ≤ ((x1.getD ((x11.n).toNat) z36).n)
      · replace M := ifp q334 M
        refine cT (bT q334) (wp_skip (then_n (wp_seq (wp_block (wp_seq (wR (lV 77 (eM (.slice A2 x1.length c3) (by exact e313)) ?_)))))))
        refine lV 78 (eM (.slice A7 x6.length c8) (by exact e314)) (lV 79 (eM (.slice A2 x1.length c3) (by exact e313)) (lV 80 (eD g17 0 1 1 Try.underlying36 (by exact e315)) (lV 81 (eL ⟨g17, 0 + 1, none⟩ (.int .i64 x11.n) Try.underlying3 (blk_cell b18 rfl)) (lV 82 (eM (.int .i64 x309) (by exact e316)) (lV 83 (eAdd .i64 x11.n x309) ?_)))))
        obtain ⟨q335, M⟩ := chk M
        obtain ⟨q336, M⟩ := chk M
        obtain ⟨b337, o338, e339⟩ := Rd.addr h4 (show ((IntKind.i64.wrap (x11.n + x309))).toNat < x1.length by omega)
        obtain ⟨y340, r341, k342⟩ := Rd.at h4 e339 (getD_some z36 (show ((IntKind.i64.wrap (x11.n + x309))).toNat < x1.length by omega))
        obtain ⟨A343, c344, rfl, l345, h346⟩ := st36_open r341
        refine lV 84 (eI b337 o338 x1.length c3 3 (IntKind.i64.wrap (x11.n + x309)) .i64 Try.underlying32 e339 q335 q336) (lV 85 (e_loadS (b := b337) (off := o338 + ((IntKind.i64.wrap (x11.n + x309)) : Int).toNat * 3) (cs := [.int .i64 ((x1.getD (((IntKind.i64.wrap (x11.n + x309))).toNat) z36).kind), .int .i64 ((x1.getD (((IntKind.i64.wrap (x11.n + x309))).toNat) z36).n), .slice A343 ((x1.getD (((IntKind.i64.wrap (x11.n + x309))).toNat) z36).text).length c344]) Try.underlying36 rfl (by kernel_rfl) (by kernel_rfl) (fun j_ u_ e_ => (hpx (S317.inv.cell (Y308.cell (k342 j_ u_ e_)))))) ?_)
        obtain ⟨t347, u348, M⟩ := bnd M
        refine lC 86 (eC [.tmp 77, .tmp 78, .tmp 85] [.slice A2 x1.length c3, .slice A7 x6.length c8, .agg #[.int .i64 ((x1.getD (((IntKind.i64.wrap (x11.n + x309))).toNat) z36).kind), .int .i64 ((x1.getD (((IntKind.i64.wrap (x11.n + x309))).toNat) z36).n), .slice A343 ((x1.getD (((IntKind.i64.wrap (x11.n + x309))).toNat) z36).text).length c344]] Try.func65) (by have q_ := (ih k322 (by omega) w305 H307 x1 A2 c3 x311 A7 c8 F310 (x1.getD (((IntKind.i64.wrap (x11.n + x309))).toNat) z36) A343 c344 (h4.ext Y308) l5 h301 (h346.ext Y308) l345 (St.own' (Fa := [F310]) (Fr := [(is g17)]) S317) t347 u348); rw [(show x311.length = x6.length from n312)] at q_; exact q_) ?_
        rintro _ w349 ⟨F353, H350, rfl, n354, h352, T351⟩
        refine ⟨_, rfl, ?_⟩
        obtain ⟨S355, K356⟩ := St.call (Fa := [F310]) (Fr := [(is g17)]) S317 T351
        replace b18 := K356.blk 0 rfl b18
        have E357 := T351.ext
        refine lV 87 (e_notv (c := t347.1) (by kernel_rfl)) (wN (then_n ?_))
        by_cases q358 : ¬ (t347.1 = true)
        · replace M := ifp q358 M
          refine cT (bT q358) (wp_seq (wR (lV 6 (eA (.bool false)) (wN (then_n (wp_ret (inb_r ?_)))))))
          refine then_r (then_r (inb_r (then_r ?_)))
          obtain rfl := Option.some.inj M
          have S359 := St.first (Fa := [F353]) (Fr := [(is g17)]) S355
          exact ret1 rfl rfl  (show _ = .bool false from (by kernel_rfl)) ⟨F353, H350, rfl, n354, h352, S359⟩
        replace M := ifn q358 M
        refine cF (bF q358) (wp_skip (inb_n (then_n (wR (lV 75 (eM (.int .i64 x309) (by exact e316)) (lV 76 (eAdd .i64 x309 1) (lV 7 (eA (.int .i64 (IntKind.i64.wrap (x309 + 1)))) ?_)))))))
        refine wN (then_n ?_)
        exact ⟨k322, (by omega), _, H350, (IntKind.i64.wrap (x309 + 1)), F353, t347.2, (by omega), rfl, (by exact e313), (by exact e314), (by exact e315), (by kernel_rfl), h352, b18, n354, (Y308.trans E357), S355, M⟩
      replace M := ifn q334 M
      refine cF (bF q334) (wp_exit (then_e (then_e (inb_hit (then_n (wp_seq (wR ?_)))))))
      refine lV 88 (eM (.slice A7 x6.length c8) (by exact e314)) (lV 89 (eD g17 0 1 1 Try.underlying36 (by exact e315)) (lV 90 (eL ⟨g17, 0 + 1, none⟩ (.int .i64 x11.n) Try.underlying3 (blk_cell b18 rfl)) ?_))
      obtain ⟨b360, e362⟩ := Row.addr h301 (show (x11.n).toNat < x311.length by have : x311.length = x6.length := n312; omega)
      refine lV 91 (eI b360 0 x6.length c8 1 x11.n .i64 Try.underlying23 e362 q283 q284) ?_
      have S363 := S317.unit
      have S364 := S363.pulls [F310, no, (is g17)] [1] rfl
      refine lE (e_setel (d := tInt) (b := b360) (i := (x11.n).toNat) (v := .int .i64 2) (vs := [.int .i64 2]) (yv := 2) S364 (by kernel_rfl) e362 rfl rfl (by kernel_rfl) h301 (show (x11.n).toNat < x311.length by have : x311.length = x6.length := n312; omega) rfl) ?_
      rintro w365 ⟨F367, h366, S368, K369⟩
      clear h301
      refine wN (then_n (wp_seq (wR (lV 6 (eA (.bool true)) (wN (then_n (wp_ret ?_)))))))
      obtain rfl := Option.some.inj M
      have S370 := St.first (Fa := [F367]) (Fr := [(is g17)]) S368
      exact ret1 rfl rfl  (show _ = .bool true from (by kernel_rfl)) ⟨F367, H307, rfl, (List.length_set.trans n312), h366, S370⟩
    replace M := ifn q279 M
    refine lK 34 false (bF q279) ?_
    refine lK 34 false (bF q279) ?_
    refine lK 34 false (bF q279) ?_
    refine lV 38 (eF (.bool false) (bF q279)) (wN (then_n (cond_f rfl (by kernel_rfl) (wp_skip (then_n (wp_seq (wp_seq ?_)))))))
    refine wR (lV 39 (eM (.slice A7 x6.length c8)) (lV 40 (eD g17 0 1 1 Try.underlying36) (lV 41 (eL ⟨g17, 0 + 1, none⟩ (.int .i64 x11.n) Try.underlying3 (blk_cell b18 rfl)) ?_)))
    obtain ⟨q371, M⟩ := chk M
    obtain ⟨q372, M⟩ := chk M
    obtain ⟨b373, e375⟩ := Row.addr h9 (show (x11.n).toNat < x6.length by omega)
    refine lV 42 (eI b373 0 x6.length c8 1 x11.n .i64 Try.underlying23 e375 q371 q372) (lV 43 (eL ⟨b373, 0 + (x11.n : Int).toNat * 1, none⟩ (.int .i64 (x6.getD ((x11.n).toNat) (0 : Int))) Try.underlying3 (hpx (Row.pick (j := 0) (u := .int .i64 (x6.getD ((x11.n).toNat) (0 : Int))) h9 e375 (getD_some (0 : Int) (show (x11.n).toNat < x6.length by omega)) (fun _ _ o_ => by rw [show _ = _ from o_]; rfl)))) (lV 44 (e_gtr (k := .i64) (a := (x6.getD ((x11.n).toNat) (0 : Int))) (b := 0) (by kernel_rfl) rfl) (wN (then_n ?_))))
    by_cases q376 : (x6.getD ((x11.n).toNat) (0 : Int)) > 0
    · replace M := ifp q376 M
      refine cT (bT q376) (wp_seq (wR (lV 45 (eM (.slice A7 x6.length c8)) (lV 46 (eD g17 0 1 1 Try.underlying36) (lV 47 (eL ⟨g17, 0 + 1, none⟩ (.int .i64 x11.n) Try.underlying3 (blk_cell b18 rfl)) ?_)))))
      obtain ⟨b377, e379⟩ := Row.addr h9 (show (x11.n).toNat < x6.length by omega)
      refine lV 48 (eI b377 0 x6.length c8 1 x11.n .i64 Try.underlying23 e379 q371 q372) (lV 49 (eL ⟨b377, 0 + (x11.n : Int).toNat * 1, none⟩ (.int .i64 (x6.getD ((x11.n).toNat) (0 : Int))) Try.underlying3 (hpx (Row.pick (j := 0) (u := .int .i64 (x6.getD ((x11.n).toNat) (0 : Int))) h9 e379 (getD_some (0 : Int) (show (x11.n).toNat < x6.length by omega)) (fun _ _ o_ => by rw [show _ = _ from o_]; rfl)))) (lV 50 (eEq .i64 (x6.getD ((x11.n).toNat) (0 : Int)) 2) (lV 6 (eA (.bool (decide ((x6.getD ((x11.n).toNat) (0 : Int)) = 2)))) (wN (then_n (wp_ret (then_r ?_)))))))
      obtain rfl := Option.some.inj M
      have S380 := S22.pulls [F10, (is g17)] [1] rfl
      have S381 := St.first (Fa := [F10]) (Fr := [(is g17)]) S380
      exact ret1 rfl rfl  (show _ = .bool (decide ((x6.getD ((x11.n).toNat) (0 : Int)) = 2)) from (by kernel_rfl)) ⟨F10, H, rfl, rfl, h9, S381⟩
    replace M := ifn q376 M
    refine cF (bF q376) (wp_skip (then_n (wp_seq (wR (lV 51 (eM (.slice A7 x6.length c8)) (lV 52 (eD g17 0 1 1 Try.underlying36) (lV 53 (eL ⟨g17, 0 + 1, none⟩ (.int .i64 x11.n) Try.underlying3 (blk_cell b18 rfl)) ?_)))))))
    obtain ⟨b382, e384⟩ := Row.addr h9 (show (x11.n).toNat < x6.length by omega)
    refine lV 54 (eI b382 0 x6.length c8 1 x11.n .i64 Try.underlying23 e384 q371 q372) ?_
    have S385 := S22.pulls [F10, (is g17)] [1] rfl
    have S386 := S385.unit
    have S387 := S386.pulls [F10, no, (is g17)] [1] rfl
    refine lE (e_setel (d := tInt) (b := b382) (i := (x11.n).toNat) (v := .int .i64 1) (vs := [.int .i64 1]) (yv := 1) S387 (by kernel_rfl) e384 rfl rfl (by kernel_rfl) h9 (show (x11.n).toNat < x6.length by omega) rfl) ?_
    rintro w388 ⟨F390, h389, S391, K392⟩
    replace b18 := K392.blk 0 rfl b18
    clear h9
    refine wN (then_n (wp_seq (wp_seq (wR (lV 55 (eD g17 0 0 1 Try.underlying36) (lV 56 (eL ⟨g17, 0 + 0, none⟩ (.int .i64 x11.kind) Try.underlying3 (blk_cell b18 rfl)) (lV 57 (eEq .i64 x11.kind 0) ?_)))))))
    refine wN (then_n (cF (bF q24) (wp_seq (wR (lV 7 (eA (.int .i64 1)) (wN (then_n ?_)))))))
    refine wp_block ?_
    refine wp_loop_g (fun k408 a409 w393 => ∃ (f394 : Nat → Value) (H395 : Hp) (x397 : Int) (F398 : Foot) (x399 : List Int), k408 < K ∧ a409 = mk 92 f394 ∧ f394 0 = .slice A2 x1.length c3 ∧ f394 1 = .slice A7 x6.length c8 ∧ f394 5 = .pointer (some ⟨g17, 0, none⟩) ∧ f394 7 = .int .i64 x397 ∧ Row tInt 3 H395 (hp w393) F398 A7 c8 x399 ∧ w393.heap[g17]? = some (.cells #[.int .i64 x11.kind, .int .i64 x11.n, .slice A12 x11.text.length c13] 36 (0, 0)) ∧ x399.length = x6.length ∧ Ext H H395 ∧ St (anyOf [F10]) H w [F398, (is g17)] H395 w393 ∧ spec_l10round_2.l1 k408 x1 x11 x397 x399 = some r) k1_ ⟨_, H, 1, F390, (x6.set ((x11.n).toNat) 1), (by omega), rfl, (by kernel_rfl), (by kernel_rfl), (by kernel_rfl), (by kernel_rfl), h389, b18, (List.length_set.trans rfl), (Ext.refl _), S391, M⟩ ?_
    clear M
    rintro k408 a409 w393 ⟨f394, H395, x397, F398, x399, z406, rfl, e401, e402, e403, e404, h389, b18, n400, Y396, S405, M⟩
    rcases k408 with _ | k410
    · rw [spec_l10round_2.l1] at M
      cases M
    rw [spec_l10round_2.l1] at M
    refine wp_seq (wp_seq (wR (lV 67 (eM (.int .i64 x397) (by exact e404)) (lV 68 (eM (.slice A2 x1.length c3) (by exact e401)) (lV 69 (eD g17 0 1 1 Try.underlying36 (by exact e403)) (lV 70 (eL ⟨g17, 0 + 1, none⟩ (.int .i64 x11.n) Try.underlying3 (blk_cell b18 rfl)) ?_))))))
    obtain ⟨q411, M⟩ := chk M
    obtain ⟨b412, o413, e414⟩ := Rd.addr h4 (show (x11.n).toNat < x1.length by omega)
    obtain ⟨y415, r416, k417⟩ := Rd.at h4 e414 (getD_some z36 (show (x11.n).toNat < x1.length by omega))
    obtain ⟨A418, c419, rfl, l420, h421⟩ := st36_open r416
    refine lV 71 (eI b412 o413 x1.length c3 3 x11.n .i64 Try.underlying32 e414 q371 q411) (lV 72 (eD b412 (o413 + (x11.n : Int).toNat * 3) 1 1 Try.underlying36) (lV 73 (eL ⟨b412, o413 + (x11.n : Int).toNat * 3 + 1, none⟩ (.int .i64 ((x1.getD ((x11.n).toNat) z36).n)) Try.underlying3 (hpx (S405.inv.cell (Y396.cell (k417 1 _ rfl))))) (lV 74 (e_leq (k := .i64) (a := x397) (b := (x1.getD ((x11.n).toNat) z36).n) (by kernel_rfl) (by kernel_rfl)) (wN (then_n ?_)))))
    by_cases q422 : x397 ≤ ((x1.getD ((x11.n).toNat) z36).n)
    · replace M := ifp q422 M
      refine cT (bT q422) (wp_skip (then_n (wp_seq (wp_block (wp_seq (wR (lV 77 (eM (.slice A2 x1.length c3) (by exact e401)) ?_)))))))
      refine lV 78 (eM (.slice A7 x6.length c8) (by exact e402)) (lV 79 (eM (.slice A2 x1.length c3) (by exact e401)) (lV 80 (eD g17 0 1 1 Try.underlying36 (by exact e403)) (lV 81 (eL ⟨g17, 0 + 1, none⟩ (.int .i64 x11.n) Try.underlying3 (blk_cell b18 rfl)) (lV 82 (eM (.int .i64 x397) (by exact e404)) (lV 83 (eAdd .i64 x11.n x397) ?_)))))
      obtain ⟨q423, M⟩ := chk M
      obtain ⟨q424, M⟩ := chk M
      obtain ⟨b425, o426, e427⟩ := Rd.addr h4 (show ((IntKind.i64.wrap (x11.n + x397))).toNat < x1.length by omega)
      obtain ⟨y428, r429, k430⟩ := Rd.at h4 e427 (getD_some z36 (show ((IntKind.i64.wrap (x11.n + x397))).toNat < x1.length by omega))
      obtain ⟨A431, c432, rfl, l433, h434⟩ := st36_open r429
      refine lV 84 (eI b425 o426 x1.length c3 3 (IntKind.i64.wrap (x11.n + x397)) .i64 Try.underlying32 e427 q423 q424) (lV 85 (e_loadS (b := b425) (off := o426 + ((IntKind.i64.wrap (x11.n + x397)) : Int).toNat * 3) (cs := [.int .i64 ((x1.getD (((IntKind.i64.wrap (x11.n + x397))).toNat) z36).kind), .int .i64 ((x1.getD (((IntKind.i64.wrap (x11.n + x397))).toNat) z36).n), .slice A431 ((x1.getD (((IntKind.i64.wrap (x11.n + x397))).toNat) z36).text).length c432]) Try.underlying36 rfl (by kernel_rfl) (by kernel_rfl) (fun j_ u_ e_ => (hpx (S405.inv.cell (Y396.cell (k430 j_ u_ e_)))))) ?_)
      obtain ⟨t435, u436, M⟩ := bnd M
      refine lC 86 (eC [.tmp 77, .tmp 78, .tmp 85] [.slice A2 x1.length c3, .slice A7 x6.length c8, .agg #[.int .i64 ((x1.getD (((IntKind.i64.wrap (x11.n + x397))).toNat) z36).kind), .int .i64 ((x1.getD (((IntKind.i64.wrap (x11.n + x397))).toNat) z36).n), .slice A431 ((x1.getD (((IntKind.i64.wrap (x11.n + x397))).toNat) z36).text).length c432]] Try.func65) (by have q_ := (ih k410 (by omega) w393 H395 x1 A2 c3 x399 A7 c8 F398 (x1.getD (((IntKind.i64.wrap (x11.n + x397))).toNat) z36) A431 c432 (h4.ext Y396) l5 h389 (h434.ext Y396) l433 (St.own' (Fa := [F398]) (Fr := [(is g17)]) S405) t435 u436); rw [(show x399.length = x6.length from n400)] at q_; exact q_) ?_
      rintro _ w437 ⟨F441, H438, rfl, n442, h440, T439⟩
      refine ⟨_, rfl, ?_⟩
      obtain ⟨S443, K444⟩ := St.call (Fa := [F398]) (Fr := [(is g17)]) S405 T439
      replace b18 := K444.blk 0 rfl b18
      have E445 := T439.ext
      refine lV 87 (e_notv (c := t435.1) (by kernel_rfl)) (wN (then_n ?_))
      by_cases q446 : ¬ (t435.1 = true)
      · replace M := ifp q446 M
        refine cT (bT q446) (wp_seq (wR (lV 6 (eA (.bool false)) (wN (then_n (wp_ret (inb_r ?_)))))))
        refine then_r (then_r (inb_r (then_r ?_)))
        obtain rfl := Option.some.inj M
        have S447 := St.first (Fa := [F441]) (Fr := [(is g17)]) S443
        exact ret1 rfl rfl  (show _ = .bool false from (by kernel_rfl)) ⟨F441, H438, rfl, n442, h440, S447⟩
      replace M := ifn q446 M
      refine cF (bF q446) (wp_skip (inb_n (then_n (wR (lV 75 (eM (.int .i64 x397) (by exact e404)) (lV 76 (eAdd .i64 x397 1) (lV 7 (eA (.int .i64 (IntKind.i64.wrap (x397 + 1)))) ?_)))))))
      refine wN (then_n ?_)
      exact ⟨k410, (by omega), _, H438, (IntKind.i64.wrap (x397 + 1)), F441, t435.2, (by omega), rfl, (by exact e401), (by exact e402), (by exact e403), (by kernel_rfl), h440, b18, n442, (Y396.trans E445), S443, M⟩
    replace M := ifn q422 M
    refine cF (bF q422) (wp_exit (then_e (then_e (inb_hit (then_n (wp_seq (wR ?_)))))))
    refine lV 88 (eM (.slice A7 x6.length c8) (by exact e402)) (lV 89 (eD g17 0 1 1 Try.underlying36 (by exact e403)) (lV 90 (eL ⟨g17, 0 + 1, none⟩ (.int .i64 x11.n) Try.underlying3 (blk_cell b18 rfl)) ?_))
    obtain ⟨b448, e450⟩ := Row.addr h389 (show (x11.n).toNat < x399.length by have : x399.length = x6.length := n400; omega)
    refine lV 91 (eI b448 0 x6.length c8 1 x11.n .i64 Try.underlying23 e450 q371 q372) ?_
    have S451 := S405.unit
    have S452 := S451.pulls [F398, no, (is g17)] [1] rfl
    refine lE (e_setel (d := tInt) (b := b448) (i := (x11.n).toNat) (v := .int .i64 2) (vs := [.int .i64 2]) (yv := 2) S452 (by kernel_rfl) e450 rfl rfl (by kernel_rfl) h389 (show (x11.n).toNat < x399.length by have : x399.length = x6.length := n400; omega) rfl) ?_
    rintro w453 ⟨F455, h454, S456, K457⟩
    clear h389
    refine wN (then_n (wp_seq (wR (lV 6 (eA (.bool true)) (wN (then_n (wp_ret ?_)))))))
    obtain rfl := Option.some.inj M
    have S458 := St.first (Fa := [F455]) (Fr := [(is g17)]) S456
    exact ret1 rfl rfl  (show _ = .bool true from (by kernel_rfl)) ⟨F455, H395, rfl, (List.length_set.trans n400), h454, S458⟩
theorem spec_l10round_2.calls (k : Nat) (w : World) (H : Hp) (x1 : List Cell) (A2 : Option Addr) (c3 : Nat) (x6 : List Int) (A7 : Option Addr) (c8 : Nat) (F10 : Foot) (x11 : Cell) (A12 : Option Addr) (c13 : Nat) (h4 : Rd st36 H A2 x1) (l5 : x1.length ≤ c3) (h9 : Row tInt 3 H (hp w) F10 A7 c8 x6) (h14 : Rd tByte H A12 x11.text) (l15 : x11.text.length ≤ c13) (S : Own [F10] H w) (r : Bool × (List Int)) (M : spec_l10round_2.f k x1 x6 x11 = some r) :
    Calls Try.prog 65 #[.slice A2 x1.length c3, .slice A7 x6.length c8, .agg #[.int .i64 x11.kind, .int .i64 x11.n, .slice A12 x11.text.length c13]] w (fun e e_w => ∃ (F_1 : Foot) (H_ : Hp), e = .returned (.bool r.1) ∧ r.2.length = x6.length ∧ Row tInt 3 H_ (hp e_w) F_1 A7 c8 r.2 ∧ St (anyOf [F10]) H w [F_1] H_ e_w) := (spec_l10round_2.all (k + 1)) k (Nat.lt_succ_self k) w H x1 A2 c3 x6 A7 c8 F10 x11 A12 c13 h4 l5 h9 h14 l15 S r M

/-! spec_l10valid -/
def spec_l10valid.l3 : Nat → Store → Int → (List Int) → Option Bool
  | 0, _, _, _ => none
  | k147 + 1, x1, x134, x136 => (if x134 < (x1.cells.length : Int) then (if 0 ≤ x134 then (if ((x1.cells.getD ((x134).toNat) z36).kind) ≠ 3 then ((spec_l10round_2.f k147 x1.cells x136 (x1.cells.getD ((x134).toNat) z36)).bind fun t209 => (if ¬ (t209.1 = true) then some false else (spec_l10valid.l3 k147 x1 (IntKind.i64.wrap (x134 + 1)) t209.2))) else (spec_l10valid.l3 k147 x1 (IntKind.i64.wrap (x134 + 1)) x136)) else none) else some true)
def spec_l10valid.l2 : Nat → Store → Int → Option Bool
  | 0, _, _ => none
  | k97 + 1, x1, x88 => (if x88 < (x1.trail.length : Int) then (if 0 ≤ x88 then (if (x1.trail.getD ((x88).toNat) (0 : Int)) < 0 then some false else (if (x1.trail.getD ((x88).toNat) (0 : Int)) ≥ (x1.cells.length : Int) then some false else (if 0 ≤ (x1.trail.getD ((x88).toNat) (0 : Int)) then (if (x1.trail.getD ((x88).toNat) (0 : Int)) < (x1.cells.length : Int) then (if ((x1.cells.getD (((x1.trail.getD ((x88).toNat) (0 : Int))).toNat) z36).kind) = 3 then some false else (spec_l10valid.l2 k97 x1 (IntKind.i64.wrap (x88 + 1)))) else none) else none))) else none) else (if 0 ≤ (x1.cells.length : Int) then (if ((x1.cells.length : Int)).toNat ≤ 35184372088832 then (spec_l10valid.l3 k97 x1 0 (List.replicate ((x1.cells.length : Int)).toNat (0 : Int))) else none) else none))
mutual
def spec_l10valid.l0 : Nat → Store → Int → Int → Option Bool
  | 0, _, _, _ => none
  | k30 + 1, x1, x19, x20 => (if x20 < (x1.cells.length : Int) then (if 0 ≤ x20 then (if ((x1.cells.getD ((x20).toNat) z36).kind) = 3 then (if x19 > 0 then some false else (if ((x1.cells.getD ((x20).toNat) z36).n) < 1 then some false else (if ((x1.cells.getD ((x20).toNat) z36).n) > 20 then some false else (if (((x1.cells.getD ((x20).toNat) z36).text).length : Int) > 100 then some false else (if (IntKind.i64.wrap (x20 + ((x1.cells.getD ((x20).toNat) z36).n))) ≥ (x1.cells.length : Int) then some false else (spec_l10valid.l1 k30 x1 x20 ((x1.cells.getD ((x20).toNat) z36).n))))))) else ((spec_l10word.f x1.cells (x1.cells.getD ((x20).toNat) z36)).bind fun t73 => (if ¬ (t73 = true) then some false else (if x19 > 0 then (spec_l10valid.l1 k30 x1 x20 (IntKind.i64.wrap (x19 - 1))) else (spec_l10valid.l1 k30 x1 x20 x19))))) else none) else (spec_l10valid.l2 k30 x1 0))
def spec_l10valid.l1 : Nat → Store → Int → Int → Option Bool
  | 0, _, _, _ => none
  | k43 + 1, x1, x20, x34 => (spec_l10valid.l0 k43 x1 x34 (IntKind.i64.wrap (x20 + 1)))
end
def spec_l10valid.f (k : Nat) (x1 : Store) : Option Bool := (if (x1.cells.length : Int) > 20000 then some false else (if (x1.trail.length : Int) > 20000 then some false else (spec_l10valid.l0 k x1 0 0)))
theorem spec_l10valid.calls (k : Nat) (w : World) (H : Hp) (x1 : Store) (A2 : Option Addr) (c3 : Nat) (A6 : Option Addr) (c7 : Nat) (h4 : Rd st36 H A2 x1.cells) (l5 : x1.cells.length ≤ c3) (h8 : Rd tInt H A6 x1.trail) (l9 : x1.trail.length ≤ c7) (S : Own [] H w) (r : Bool) (M : spec_l10valid.f k x1 = some r) :
    Calls Try.prog 37 #[.agg #[.slice A2 x1.cells.length c3, .slice A6 x1.trail.length c7]] w (fun e e_w => e = .returned (.bool r) ∧ Chg no w e_w) := by
  rw [spec_l10valid.f] at M
  refine enter (l := [.agg #[.slice A2 x1.cells.length c3, .slice A6 x1.trail.length c7]]) 126 Try.func37 rfl rfl rfl ?_
  have S0_ := S.st
  refine wp_seq (wR ?_)
  refine lW 1 (nB #[.slice A2 x1.cells.length c3, .slice A6 x1.trail.length c7] 34 S0_) ?_
  rintro _ w10 ⟨g11, rfl, b12, S13, K14⟩
  refine lV 2 (eA (.bool false)) (wN (then_n (wp_seq (wR (lV 11 (eD g11 0 0 1 Try.underlying34) (lV 12 (eL ⟨g11, 0 + 0, none⟩ (.slice A2 x1.cells.length c3) Try.underlying32 (blk_cell b12 rfl)) (lV 13 (e_len (A := A2) (n := x1.cells.length) (c := c3) Try.underlying32 (by kernel_rfl)) ?_)))))))
  refine lV 3 (eA (.int .i64 (x1.cells.length : Int))) (wN (then_n (wp_seq (wp_seq (wR (lV 14 (eM (.int .i64 (x1.cells.length : Int))) (lV 15 (e_gtr (k := .i64) (a := (x1.cells.length : Int)) (b := 20000) (by kernel_rfl) rfl) ?_)))))))
  refine lV 16 (eM (.bool (decide ((x1.cells.length : Int) > 20000)))) ?_
  by_cases q15 : (x1.cells.length : Int) > 20000
  · replace M := ifp q15 M
    refine lK 16 true (bT q15) ?_
    refine lK 16 true (bT q15) ?_
    refine lK 16 true (bT q15) ?_
    refine lK 16 true (bT q15) ?_
    refine lV 21 (eT (.bool true) (bT q15)) (wN (then_n (cond_t rfl (by kernel_rfl) (wp_seq (wR (lV 2 (eA (.bool false)) (wN ?_)))))))
    refine then_n (wp_ret (then_r ?_))
    obtain rfl := Option.some.inj M
    exact ret1 rfl rfl  (show _ = .bool false from (by kernel_rfl)) ⟨rfl, S13.chg⟩
  replace M := ifn q15 M
  refine lG 17 16 (bF q15) (eD g11 0 1 1 Try.underlying34) (lG 18 16 (bF q15) (eL ⟨g11, 0 + 1, none⟩ (.slice A6 x1.trail.length c7) Try.underlying23 (blk_cell b12 rfl)) (lG 19 16 (bF q15) (e_len (A := A6) (n := x1.trail.length) (c := c7) Try.underlying23 (by kernel_rfl)) (lG 20 16 (bF q15) (e_gtr (k := .i64) (a := (x1.trail.length : Int)) (b := 20000) (by kernel_rfl) rfl) (lV 21 (eF (.bool (decide ((x1.trail.length : Int) > 20000))) (bF q15)) (wN (then_n ?_))))))
  by_cases q16 : (x1.trail.length : Int) > 20000
  · replace M := ifp q16 M
    refine cT (bT q16) (wp_seq (wR (lV 2 (eA (.bool false)) (wN (then_n (wp_ret (then_r ?_)))))))
    obtain rfl := Option.some.inj M
    exact ret1 rfl rfl  (show _ = .bool false from (by kernel_rfl)) ⟨rfl, S13.chg⟩
  replace M := ifn q16 M
  refine cF (bF q16) (wp_skip (then_n (wp_seq (wR (lV 4 (eA (.int .i64 0)) (wN (then_n ?_)))))))
  refine wp_seq (wp_seq (wR (lV 5 (eA (.int .i64 0)) (wN (then_n (wp_block ?_))))))
  refine wp_loop_g (fun k28 a29 w17 => ∃ (f18 : Nat → Value) (x19 : Int) (x20 : Int), a29 = mk 126 f18 ∧ f18 1 = .pointer (some ⟨g11, 0, none⟩) ∧ f18 3 = .int .i64 (x1.cells.length : Int) ∧ f18 4 = .int .i64 x19 ∧ f18 5 = .int .i64 x20 ∧ w17.heap[g11]? = some (.cells #[.slice A2 x1.cells.length c3, .slice A6 x1.trail.length c7] 34 (0, 0)) ∧ St (anyOf []) H w [(is g11)] H w17 ∧ spec_l10valid.l0 k28 x1 x19 x20 = some r) k ⟨_, 0, 0, rfl, (by kernel_rfl), (by kernel_rfl), (by kernel_rfl), (by kernel_rfl), b12, S13, M⟩ ?_
  clear M
  rintro k28 a29 w17 ⟨f18, x19, x20, rfl, e21, e22, e23, e24, b12, S25, M⟩
  rcases k28 with _ | k30
  · rw [spec_l10valid.l0] at M
    cases M
  rw [spec_l10valid.l0] at M
  refine wp_seq (wp_seq (wR (lV 22 (eM (.int .i64 x20) (by exact e24)) (lV 23 (eM (.int .i64 (x1.cells.length : Int)) (by exact e22)) (lV 24 (eLt .i64 x20 (x1.cells.length : Int)) (wN (then_n ?_)))))))
  by_cases q31 : x20 < (x1.cells.length : Int)
  · replace M := ifp q31 M
    refine cT (bT q31) (wp_skip (then_n ?_))
    refine wp_seq_cut (fun a42 w32 => ∃ (k44 : Nat), k44 ≤ k30 ∧ ∃ (f33 : Nat → Value) (x34 : Int), a42 = mk 126 f33 ∧ f33 1 = .pointer (some ⟨g11, 0, none⟩) ∧ f33 3 = .int .i64 (x1.cells.length : Int) ∧ f33 4 = .int .i64 x34 ∧ f33 5 = .int .i64 x20 ∧ w32.heap[g11]? = some (.cells #[.slice A2 x1.cells.length c3, .slice A6 x1.trail.length c7] 34 (0, 0)) ∧ St (anyOf []) H w [(is g11)] H w32 ∧ spec_l10valid.l1 k44 x1 x20 x34 = some r) ?_ ?_
    · refine wp_block (wp_seq (wR (lV 27 (eD g11 0 0 1 Try.underlying34 (by exact e21)) (lV 28 (eL ⟨g11, 0 + 0, none⟩ (.slice A2 x1.cells.length c3) Try.underlying32 (blk_cell b12 rfl)) (lV 29 (eM (.int .i64 x20) (by exact e24)) ?_)))))
      obtain ⟨q45, M⟩ := chk M
      obtain ⟨b46, o47, e48⟩ := Rd.addr h4 (show (x20).toNat < x1.cells.length by omega)
      obtain ⟨y49, r50, k51⟩ := Rd.at h4 e48 (getD_some z36 (show (x20).toNat < x1.cells.length by omega))
      obtain ⟨A52, c53, rfl, l54, h55⟩ := st36_open r50
      refine lV 30 (eI b46 o47 x1.cells.length c3 3 x20 .i64 Try.underlying32 e48 q45 q31) (lV 31 (e_loadS (b := b46) (off := o47 + (x20 : Int).toNat * 3) (cs := [.int .i64 ((x1.cells.getD ((x20).toNat) z36).kind), .int .i64 ((x1.cells.getD ((x20).toNat) z36).n), .slice A52 ((x1.cells.getD ((x20).toNat) z36).text).length c53]) Try.underlying36 rfl (by kernel_rfl) (by kernel_rfl) (fun j_ u_ e_ => (hpx (S25.inv.cell (k51 j_ u_ e_))))) ?_)
      refine lW 6 (nB #[.int .i64 0, .int .i64 0, .slice none 0 0] 36 S25) ?_
      rintro _ w56 ⟨g57, rfl, b58, S59, K60⟩
      replace b12 := K60.blk 0 rfl b12
      refine lE (eSa g57 0 [.int .i64 ((x1.cells.getD ((x20).toNat) z36).kind), .int .i64 ((x1.cells.getD ((x20).toNat) z36).n), .slice A52 ((x1.cells.getD ((x20).toNat) z36).text).length c53] S59 b58) ?_
      rintro w61 ⟨b62, S63, K64⟩
      replace b12 := K64.blk 0 rfl b12
      clear b58
      refine wN (then_n (wp_seq (wR (lV 32 (eD g57 0 0 1 Try.underlying36) (lV 33 (eL ⟨g57, 0 + 0, none⟩ (.int .i64 ((x1.cells.getD ((x20).toNat) z36).kind)) Try.underlying3 (blk_cell b62 rfl)) (lV 34 (eEq .i64 (x1.cells.getD ((x20).toNat) z36).kind 3) (wN ?_)))))))
      refine then_n ?_
      by_cases q65 : ((x1.cells.getD ((x20).toNat) z36).kind) = 3
      · replace M := ifp q65 M
        refine cT (bT q65) (wp_seq (wp_seq (wR (lV 35 (eM (.int .i64 x19) (by exact e23)) (lV 36 (e_gtr (k := .i64) (a := x19) (b := 0) (by kernel_rfl) rfl) (lV 37 (eM (.bool (decide (x19 > 0)))) ?_))))))
        by_cases q66 : x19 > 0
        · replace M := ifp q66 M
          refine lK 37 true (bT q66) ?_
          refine lK 37 true (bT q66) ?_
          refine lK 37 true (bT q66) ?_
          refine lV 41 (eT (.bool true) (bT q66)) (lV 42 (eM (.bool true)) ?_)
          refine lJ 42 true ?_
          refine lJ 42 true ?_
          refine lJ 42 true ?_
          refine lV 46 (eT (.bool true)) (lV 47 (eM (.bool true)) ?_)
          refine lJ 47 true ?_
          refine lJ 47 true ?_
          refine lJ 47 true ?_
          refine lJ 47 true ?_
          refine lV 52 (eT (.bool true)) (lV 53 (eM (.bool true)) ?_)
          refine lJ 53 true ?_
          refine lJ 53 true ?_
          refine lJ 53 true ?_
          refine lJ 53 true ?_
          refine lJ 53 true ?_
          refine lJ 53 true ?_
          refine lV 60 (eT (.bool true)) (wN (then_n (cond_t rfl (by kernel_rfl) (wp_seq (wR (lV 2 (eA (.bool false)) (wN ?_)))))))
          refine then_n (wp_ret (then_r (inb_r (then_r (then_r (inb_r (then_r ?_)))))))
          obtain rfl := Option.some.inj M
          exact ret1 rfl rfl  (show _ = .bool false from (by kernel_rfl)) ⟨rfl, S63.chg⟩
        replace M := ifn q66 M
        refine lG 38 37 (bF q66) (eD g57 0 1 1 Try.underlying36) (lG 39 37 (bF q66) (eL ⟨g57, 0 + 1, none⟩ (.int .i64 ((x1.cells.getD ((x20).toNat) z36).n)) Try.underlying3 (blk_cell b62 rfl)) (lG 40 37 (bF q66) (eLt .i64 (x1.cells.getD ((x20).toNat) z36).n 1) (lV 41 (eF (.bool (decide (((x1.cells.getD ((x20).toNat) z36).n) < 1))) (bF q66)) (lV 42 (eM (.bool (decide (((x1.cells.getD ((x20).toNat) z36).n) < 1)))) ?_))))
        by_cases q67 : ((x1.cells.getD ((x20).toNat) z36).n) < 1
        · replace M := ifp q67 M
          refine lK 42 true (bT q67) ?_
          refine lK 42 true (bT q67) ?_
          refine lK 42 true (bT q67) ?_
          refine lV 46 (eT (.bool true) (bT q67)) (lV 47 (eM (.bool true)) ?_)
          refine lJ 47 true ?_
          refine lJ 47 true ?_
          refine lJ 47 true ?_
          refine lJ 47 true ?_
          refine lV 52 (eT (.bool true)) (lV 53 (eM (.bool true)) ?_)
          refine lJ 53 true ?_
          refine lJ 53 true ?_
          refine lJ 53 true ?_
          refine lJ 53 true ?_
          refine lJ 53 true ?_
          refine lJ 53 true ?_
          refine lV 60 (eT (.bool true)) (wN (then_n (cond_t rfl (by kernel_rfl) (wp_seq (wR (lV 2 (eA (.bool false)) (wN ?_)))))))
          refine then_n (wp_ret (then_r (inb_r (then_r (then_r (inb_r (then_r ?_)))))))
          obtain rfl := Option.some.inj M
          exact ret1 rfl rfl  (show _ = .bool false from (by kernel_rfl)) ⟨rfl, S63.chg⟩
        replace M := ifn q67 M
        refine lG 43 42 (bF q67) (eD g57 0 1 1 Try.underlying36) (lG 44 42 (bF q67) (eL ⟨g57, 0 + 1, none⟩ (.int .i64 ((x1.cells.getD ((x20).toNat) z36).n)) Try.underlying3 (blk_cell b62 rfl)) (lG 45 42 (bF q67) (e_gtr (k := .i64) (a := (x1.cells.getD ((x20).toNat) z36).n) (b := 20) (by kernel_rfl) rfl) (lV 46 (eF (.bool (decide (((x1.cells.getD ((x20).toNat) z36).n) > 20))) (bF q67)) (lV 47 (eM (.bool (decide (((x1.cells.getD ((x20).toNat) z36).n) > 20)))) ?_))))
        by_cases q68 : ((x1.cells.getD ((x20).toNat) z36).n) > 20
        · replace M := ifp q68 M
          refine lK 47 true (bT q68) ?_
          refine lK 47 true (bT q68) ?_
          refine lK 47 true (bT q68) ?_
          refine lK 47 true (bT q68) ?_
          refine lV 52 (eT (.bool true) (bT q68)) (lV 53 (eM (.bool true)) ?_)
          refine lJ 53 true ?_
          refine lJ 53 true ?_
          refine lJ 53 true ?_
          refine lJ 53 true ?_
          refine lJ 53 true ?_
          refine lJ 53 true ?_
          refine lV 60 (eT (.bool true)) (wN (then_n (cond_t rfl (by kernel_rfl) (wp_seq (wR (lV 2 (eA (.bool false)) (wN ?_)))))))
          refine then_n (wp_ret (then_r (inb_r (then_r (then_r (inb_r (then_r ?_)))))))
          obtain rfl := Option.some.inj M
          exact ret1 rfl rfl  (show _ = .bool false from (by kernel_rfl)) ⟨rfl, S63.chg⟩
        replace M := ifn q68 M
        refine lG 48 47 (bF q68) (eD g57 0 2 1 Try.underlying36) (lG 49 47 (bF q68) (eL ⟨g57, 0 + 2, none⟩ (.slice A52 ((x1.cells.getD ((x20).toNat) z36).text).length c53) Try.underlying26 (blk_cell b62 rfl)) (lG 50 47 (bF q68) (e_len (A := A52) (n := ((x1.cells.getD ((x20).toNat) z36).text).length) (c := c53) Try.underlying26 (by kernel_rfl)) (lG 51 47 (bF q68) (e_gtr (k := .i64) (a := (((x1.cells.getD ((x20).toNat) z36).text).length : Int)) (b := 100) (by kernel_rfl) rfl) (lV 52 (eF (.bool (decide ((((x1.cells.getD ((x20).toNat) z36).text).length : Int) > 100))) (bF q68)) (lV 53 (eM (.bool (decide ((((x1.cells.getD ((x20).toNat) z36).text).length : Int) > 100)))) ?_)))))
        by_cases q69 : (((x1.cells.getD ((x20).toNat) z36).text).length : Int) > 100
        · replace M := ifp q69 M
          refine lK 53 true (bT q69) ?_
          refine lK 53 true (bT q69) ?_
          refine lK 53 true (bT q69) ?_
          refine lK 53 true (bT q69) ?_
          refine lK 53 true (bT q69) ?_
          refine lK 53 true (bT q69) ?_
          refine lV 60 (eT (.bool true) (bT q69)) (wN (then_n (cond_t rfl (by kernel_rfl) (wp_seq (wR (lV 2 (eA (.bool false)) (wN ?_)))))))
          refine then_n (wp_ret (then_r (inb_r (then_r (then_r (inb_r (then_r ?_)))))))
          obtain rfl := Option.some.inj M
          exact ret1 rfl rfl  (show _ = .bool false from (by kernel_rfl)) ⟨rfl, S63.chg⟩
        replace M := ifn q69 M
        refine lG 54 53 (bF q69) (eM (.int .i64 x20) (by exact e24)) (lG 55 53 (bF q69) (eD g57 0 1 1 Try.underlying36) (lG 56 53 (bF q69) (eL ⟨g57, 0 + 1, none⟩ (.int .i64 ((x1.cells.getD ((x20).toNat) z36).n)) Try.underlying3 (blk_cell b62 rfl)) (lG 57 53 (bF q69) (eAdd .i64 x20 (x1.cells.getD ((x20).toNat) z36).n) (lG 58 53 (bF q69) (eM (.int .i64 (x1.cells.length : Int)) (by exact e22)) (lG 59 53 (bF q69) (e_geq (k := .i64) (a := (IntKind.i64.wrap (x20 + ((x1.cells.getD ((x20).toNat) z36).n)))) (b := (x1.cells.length : Int)) (by kernel_rfl) (by kernel_rfl)) (lV 60 (eF (.bool (decide ((IntKind.i64.wrap (x20 + ((x1.cells.getD ((x20).toNat) z36).n))) ≥ (x1.cells.length : Int)))) (bF q69)) (wN ?_)))))))
        refine then_n ?_
        by_cases q70 : (IntKind.i64.wrap (x20 + ((x1.cells.getD ((x20).toNat) z36).n))) ≥ (x1.cells.length : Int)
        · replace M := ifp q70 M
          refine cT (bT q70) (wp_seq (wR (lV 2 (eA (.bool false)) (wN (then_n (wp_ret (then_r ?_)))))))
          refine inb_r (then_r (then_r (inb_r (then_r ?_))))
          obtain rfl := Option.some.inj M
          exact ret1 rfl rfl  (show _ = .bool false from (by kernel_rfl)) ⟨rfl, S63.chg⟩
        replace M := ifn q70 M
        refine cF (bF q70) (wp_skip (then_n (wR (lV 61 (eD g57 0 1 1 Try.underlying36) (lV 62 (eL ⟨g57, 0 + 1, none⟩ (.int .i64 ((x1.cells.getD ((x20).toNat) z36).n)) Try.underlying3 (blk_cell b62 rfl)) (lV 4 (eA (.int .i64 ((x1.cells.getD ((x20).toNat) z36).n))) (wN ?_)))))))
        refine inb_n (then_n ?_)
        have S71 := S63.pulls [(is g11), (is g57)] [1] rfl
        have S72 := St.first (Fa := [(is g11)]) (Fr := [(is g57)]) S71
        exact ⟨k30, (by omega), _, ((x1.cells.getD ((x20).toNat) z36).n), rfl, (by exact e21), (by exact e22), (by kernel_rfl), (by exact e24), b12, S72, M⟩
      replace M := ifn q65 M
      refine cF (bF q65) (wp_seq (wp_seq (wR (lV 63 (eD g11 0 0 1 Try.underlying34 (by exact e21)) (lV 64 (eL ⟨g11, 0 + 0, none⟩ (.slice A2 x1.cells.length c3) Try.underlying32 (blk_cell b12 rfl)) (lV 65 (e_loadS (b := g57) (off := 0) (cs := [.int .i64 ((x1.cells.getD ((x20).toNat) z36).kind), .int .i64 ((x1.cells.getD ((x20).toNat) z36).n), .slice A52 ((x1.cells.getD ((x20).toNat) z36).text).length c53]) Try.underlying36 rfl (by kernel_rfl) (by kernel_rfl) (blk_cells b62 rfl)) ?_))))))
      obtain ⟨t73, u74, M⟩ := bnd M
      refine lC 66 (eC [.tmp 64, .tmp 65] [.slice A2 x1.cells.length c3, .agg #[.int .i64 ((x1.cells.getD ((x20).toNat) z36).kind), .int .i64 ((x1.cells.getD ((x20).toNat) z36).n), .slice A52 ((x1.cells.getD ((x20).toNat) z36).text).length c53]] Try.func38) (spec_l10word.calls w61 H x1.cells A2 c3 (x1.cells.getD ((x20).toNat) z36) A52 c53 h4 l5 h55 l54 S63.own0 t73 u74) ?_
      rintro _ w75 ⟨rfl, C76⟩
      refine ⟨_, rfl, ?_⟩
      obtain ⟨S77, K78⟩ := S63.still C76
      replace b12 := K78.blk 1 rfl b12
      refine lV 67 (e_notv (c := t73) (by kernel_rfl)) (wN (then_n ?_))
      by_cases q79 : ¬ (t73 = true)
      · replace M := ifp q79 M
        refine cT (bT q79) (wp_seq (wR (lV 2 (eA (.bool false)) (wN (then_n (wp_ret (then_r ?_)))))))
        refine inb_r (then_r (then_r (inb_r (then_r ?_))))
        obtain rfl := Option.some.inj M
        exact ret1 rfl rfl  (show _ = .bool false from (by kernel_rfl)) ⟨rfl, S77.chg⟩
      replace M := ifn q79 M
      refine cF (bF q79) (wp_skip (then_n (wp_seq (wR (lV 68 (eM (.int .i64 x19) (by exact e23)) (lV 69 (e_gtr (k := .i64) (a := x19) (b := 0) (by kernel_rfl) rfl) (wN ?_)))))))
      refine then_n ?_
      by_cases q80 : x19 > 0
      · replace M := ifp q80 M
        refine cT (bT q80) (wR (lV 70 (eM (.int .i64 x19) (by exact e23)) (lV 71 (e_sub (k := .i64) (a := x19) (b := 1) (by kernel_rfl) rfl) (lV 4 (eA (.int .i64 (IntKind.i64.wrap (x19 - 1)))) (wN (inb_n (then_n ?_)))))))
        have S81 := S77.pulls [(is g11), (is g57)] [1] rfl
        have S82 := St.first (Fa := [(is g11)]) (Fr := [(is g57)]) S81
        exact ⟨k30, (by omega), _, (IntKind.i64.wrap (x19 - 1)), rfl, (by exact e21), (by exact e22), (by kernel_rfl), (by exact e24), b12, S82, M⟩
      replace M := ifn q80 M
      refine cF (bF q80) (wp_skip (inb_n (then_n ?_)))
      have S83 := S77.pulls [(is g11), (is g57)] [1] rfl
      have S84 := St.first (Fa := [(is g11)]) (Fr := [(is g57)]) S83
      exact ⟨k30, (by omega), _, x19, rfl, (by exact e21), (by exact e22), (by exact e23), (by exact e24), b12, S84, M⟩
    clear M
    rintro a42 w32 ⟨k44, z85, f33, x34, rfl, e35, e36, e37, e38, b12, S39, M⟩
    rcases k44 with _ | k43
    · rw [spec_l10valid.l1] at M
      cases M
    rw [spec_l10valid.l1] at M
    refine wR (lV 25 (eM (.int .i64 x20) (by exact e38)) (lV 26 (eAdd .i64 x20 1) (lV 5 (eA (.int .i64 (IntKind.i64.wrap (x20 + 1)))) (wN (then_n ?_)))))
    exact ⟨k43, (by omega), _, x34, (IntKind.i64.wrap (x20 + 1)), rfl, (by exact e35), (by exact e36), (by exact e37), (by kernel_rfl), b12, S39, M⟩
  replace M := ifn q31 M
  refine cF (bF q31) (wp_exit (then_e (then_e (inb_hit (then_n (wp_seq (wp_seq ?_)))))))
  refine wR (lV 7 (eA (.int .i64 0)) (wN (then_n (wp_block ?_))))
  refine wp_loop_g (fun k95 a96 w86 => ∃ (f87 : Nat → Value) (x88 : Int), k95 ≤ k30 ∧ a96 = mk 126 f87 ∧ f87 1 = .pointer (some ⟨g11, 0, none⟩) ∧ f87 3 = .int .i64 (x1.cells.length : Int) ∧ f87 7 = .int .i64 x88 ∧ w86.heap[g11]? = some (.cells #[.slice A2 x1.cells.length c3, .slice A6 x1.trail.length c7] 34 (0, 0)) ∧ St (anyOf []) H w [(is g11)] H w86 ∧ spec_l10valid.l2 k95 x1 x88 = some r) k30 ⟨_, 0, (by omega), rfl, (by exact e21), (by exact e22), (by kernel_rfl), b12, S25, M⟩ ?_
  clear M
  rintro k95 a96 w86 ⟨f87, x88, z94, rfl, e89, e90, e91, b12, S92, M⟩
  rcases k95 with _ | k97
  · rw [spec_l10valid.l2] at M
    cases M
  rw [spec_l10valid.l2] at M
  refine wp_seq (wp_seq (wR (lV 72 (eM (.int .i64 x88) (by exact e91)) (lV 73 (eD g11 0 1 1 Try.underlying34 (by exact e89)) (lV 74 (eL ⟨g11, 0 + 1, none⟩ (.slice A6 x1.trail.length c7) Try.underlying23 (blk_cell b12 rfl)) (lV 75 (e_len (A := A6) (n := x1.trail.length) (c := c7) Try.underlying23 (by kernel_rfl)) (lV 76 (eLt .i64 x88 (x1.trail.length : Int)) ?_)))))))
  refine wN (then_n ?_)
  by_cases q98 : x88 < (x1.trail.length : Int)
  · replace M := ifp q98 M
    refine cT (bT q98) (wp_skip (then_n (wp_seq (wp_block (wp_seq (wR (lV 79 (eD g11 0 1 1 Try.underlying34 (by exact e89)) ?_)))))))
    refine lV 80 (eL ⟨g11, 0 + 1, none⟩ (.slice A6 x1.trail.length c7) Try.underlying23 (blk_cell b12 rfl)) (lV 81 (eM (.int .i64 x88) (by exact e91)) ?_)
    obtain ⟨q99, M⟩ := chk M
    obtain ⟨b100, o101, e102⟩ := Rd.addr h8 (show (x88).toNat < x1.trail.length by omega)
    obtain ⟨y103, r104, k105⟩ := Rd.at h8 e102 (getD_some (0 : Int) (show (x88).toNat < x1.trail.length by omega))
    obtain rfl := r104
    refine lV 82 (eI b100 o101 x1.trail.length c7 1 x88 .i64 Try.underlying23 e102 q99 q98) (lV 83 (eL ⟨b100, o101 + (x88 : Int).toNat * 1, none⟩ (.int .i64 (x1.trail.getD ((x88).toNat) (0 : Int))) Try.underlying3 (hpx (S92.inv.cell (k105 0 _ rfl)))) (lV 8 (eA (.int .i64 (x1.trail.getD ((x88).toNat) (0 : Int)))) (wN (then_n (wp_seq (wR (lV 84 (eM (.int .i64 (x1.trail.getD ((x88).toNat) (0 : Int)))) ?_)))))))
    refine lV 85 (eLt .i64 (x1.trail.getD ((x88).toNat) (0 : Int)) 0) (lV 86 (eM (.bool (decide ((x1.trail.getD ((x88).toNat) (0 : Int)) < 0)))) ?_)
    by_cases q106 : (x1.trail.getD ((x88).toNat) (0 : Int)) < 0
    · replace M := ifp q106 M
      refine lK 86 true (bT q106) ?_
      refine lK 86 true (bT q106) ?_
      refine lK 86 true (bT q106) ?_
      refine lV 90 (eT (.bool true) (bT q106)) (lV 91 (eM (.bool true)) ?_)
      refine lJ 91 true ?_
      refine lJ 91 true ?_
      refine lJ 91 true ?_
      refine lJ 91 true ?_
      refine lJ 91 true ?_
      refine lJ 91 true ?_
      refine lJ 91 true ?_
      refine lV 99 (eT (.bool true)) (wN (then_n (cond_t rfl (by kernel_rfl) (wp_seq (wR (lV 2 (eA (.bool false)) (wN ?_)))))))
      refine then_n (wp_ret (inb_r (then_r (then_r (inb_r (then_r ?_))))))
      obtain rfl := Option.some.inj M
      exact ret1 rfl rfl  (show _ = .bool false from (by kernel_rfl)) ⟨rfl, S92.chg⟩
    replace M := ifn q106 M
    refine lG 87 86 (bF q106) (eM (.int .i64 (x1.trail.getD ((x88).toNat) (0 : Int)))) (lG 88 86 (bF q106) (eM (.int .i64 (x1.cells.length : Int)) (by exact e90)) (lG 89 86 (bF q106) (e_geq (k := .i64) (a := (x1.trail.getD ((x88).toNat) (0 : Int))) (b := (x1.cells.length : Int)) (by kernel_rfl) (by kernel_rfl)) (lV 90 (eF (.bool (decide ((x1.trail.getD ((x88).toNat) (0 : Int)) ≥ (x1.cells.length : Int)))) (bF q106)) (lV 91 (eM (.bool (decide ((x1.trail.getD ((x88).toNat) (0 : Int)) ≥ (x1.cells.length : Int))))) ?_))))
    by_cases q107 : (x1.trail.getD ((x88).toNat) (0 : Int)) ≥ (x1.cells.length : Int)
    · replace M := ifp q107 M
      refine lK 91 true (bT q107) ?_
      refine lK 91 true (bT q107) ?_
      refine lK 91 true (bT q107) ?_
      refine lK 91 true (bT q107) ?_
      refine lK 91 true (bT q107) ?_
      refine lK 91 true (bT q107) ?_
      refine lK 91 true (bT q107) ?_
      refine lV 99 (eT (.bool true) (bT q107)) (wN (then_n (cond_t rfl (by kernel_rfl) (wp_seq (wR (lV 2 (eA (.bool false)) (wN ?_)))))))
      refine then_n (wp_ret (inb_r (then_r (then_r (inb_r (then_r ?_))))))
      obtain rfl := Option.some.inj M
      exact ret1 rfl rfl  (show _ = .bool false from (by kernel_rfl)) ⟨rfl, S92.chg⟩
    replace M := ifn q107 M
    refine lG 92 91 (bF q107) (eD g11 0 0 1 Try.underlying34 (by exact e89)) (lG 93 91 (bF q107) (eL ⟨g11, 0 + 0, none⟩ (.slice A2 x1.cells.length c3) Try.underlying32 (blk_cell b12 rfl)) (lG 94 91 (bF q107) (eM (.int .i64 (x1.trail.getD ((x88).toNat) (0 : Int)))) ?_))
    obtain ⟨q108, M⟩ := chk M
    obtain ⟨q109, M⟩ := chk M
    obtain ⟨b110, o111, e112⟩ := Rd.addr h4 (show ((x1.trail.getD ((x88).toNat) (0 : Int))).toNat < x1.cells.length by omega)
    obtain ⟨y113, r114, k115⟩ := Rd.at h4 e112 (getD_some z36 (show ((x1.trail.getD ((x88).toNat) (0 : Int))).toNat < x1.cells.length by omega))
    obtain ⟨A116, c117, rfl, l118, h119⟩ := st36_open r114
    refine lG 95 91 (bF q107) (eI b110 o111 x1.cells.length c3 3 (x1.trail.getD ((x88).toNat) (0 : Int)) .i64 Try.underlying32 e112 q108 q109) (lG 96 91 (bF q107) (eD b110 (o111 + ((x1.trail.getD ((x88).toNat) (0 : Int)) : Int).toNat * 3) 0 1 Try.underlying36) (lG 97 91 (bF q107) (eL ⟨b110, o111 + ((x1.trail.getD ((x88).toNat) (0 : Int)) : Int).toNat * 3 + 0, none⟩ (.int .i64 ((x1.cells.getD (((x1.trail.getD ((x88).toNat) (0 : Int))).toNat) z36).kind)) Try.underlying3 (hpx (S92.inv.cell (k115 0 _ rfl)))) (lG 98 91 (bF q107) (eEq .i64 (x1.cells.getD (((x1.trail.getD ((x88).toNat) (0 : Int))).toNat) z36).kind 3) (lV 99 (eF (.bool (decide (((x1.cells.getD (((x1.trail.getD ((x88).toNat) (0 : Int))).toNat) z36).kind) = 3))) (bF q107)) (wN (then_n ?_))))))
    by_cases q120 : ((x1.cells.getD (((x1.trail.getD ((x88).toNat) (0 : Int))).toNat) z36).kind) = 3
    · replace M := ifp q120 M
      refine cT (bT q120) (wp_seq (wR (lV 2 (eA (.bool false)) (wN (then_n (wp_ret (inb_r ?_)))))))
      refine then_r (then_r (inb_r (then_r ?_)))
      obtain rfl := Option.some.inj M
      exact ret1 rfl rfl  (show _ = .bool false from (by kernel_rfl)) ⟨rfl, S92.chg⟩
    replace M := ifn q120 M
    refine cF (bF q120) (wp_skip (inb_n (then_n (wR (lV 77 (eM (.int .i64 x88) (by exact e91)) (lV 78 (eAdd .i64 x88 1) (lV 7 (eA (.int .i64 (IntKind.i64.wrap (x88 + 1)))) ?_)))))))
    refine wN (then_n ?_)
    exact ⟨k97, (by omega), _, (IntKind.i64.wrap (x88 + 1)), (by omega), rfl, (by exact e89), (by exact e90), (by kernel_rfl), b12, S92, M⟩
  replace M := ifn q98 M
  refine cF (bF q98) (wp_exit (then_e (then_e (inb_hit (then_n (wp_seq (wR ?_)))))))
  refine lV 100 (eM (.int .i64 (x1.cells.length : Int)) (by exact e90)) ?_
  obtain ⟨q121, M⟩ := chk M
  obtain ⟨q122, M⟩ := chk M
  refine lW 101 (e_make (d := tInt) (k := .i64) (k2 := .i64) (n := (x1.cells.length : Int)) (z := .int .i64 0) (zx := (0 : Int)) (bytes := 8) S92 Try.underlying23 (by kernel_rfl) rfl (by decide) (fun _ => rfl) (by kernel_rfl) (by kernel_rfl) q121 (by omega) (by omega)) ?_
  rintro _ w123 ⟨A124, c125, F126, rfl, h127, S128, K129⟩
  replace b12 := K129.blk 0 rfl b12
  refine lV 9 (eA (.slice A124 (((x1.cells.length : Int)).toNat) c125)) (wN (then_n (wp_seq (wp_seq (wR (lV 10 (eA (.int .i64 0)) (wN ?_)))))))
  refine then_n (wp_block ?_)
  refine wp_loop_g (fun k145 a146 w130 => ∃ (f131 : Nat → Value) (H132 : Hp) (x134 : Int) (F135 : Foot) (x136 : List Int), k145 ≤ k97 ∧ a146 = mk 126 f131 ∧ f131 1 = .pointer (some ⟨g11, 0, none⟩) ∧ f131 3 = .int .i64 (x1.cells.length : Int) ∧ f131 9 = .slice A124 (((x1.cells.length : Int)).toNat) c125 ∧ f131 10 = .int .i64 x134 ∧ Row tInt 3 H132 (hp w130) F135 A124 c125 x136 ∧ w130.heap[g11]? = some (.cells #[.slice A2 x1.cells.length c3, .slice A6 x1.trail.length c7] 34 (0, 0)) ∧ x136.length = ((x1.cells.length : Int)).toNat ∧ Ext H H132 ∧ St (anyOf []) H w [F135, (is g11)] H132 w130 ∧ spec_l10valid.l3 k145 x1 x134 x136 = some r) k97 ⟨_, H, 0, F126, (List.replicate ((x1.cells.length : Int)).toNat (0 : Int)), (by omega), rfl, (by exact e89), (by exact e90), (by kernel_rfl), (by kernel_rfl), h127, b12, List.length_replicate, (Ext.refl _), S128, M⟩ ?_
  clear M
  rintro k145 a146 w130 ⟨f131, H132, x134, F135, x136, z144, rfl, e138, e139, e140, e141, h127, b12, n137, Y133, S142, M⟩
  rcases k145 with _ | k147
  · rw [spec_l10valid.l3] at M
    cases M
  rw [spec_l10valid.l3] at M
  refine wp_seq (wp_seq (wR (lV 102 (eM (.int .i64 x134) (by exact e141)) (lV 103 (eM (.int .i64 (x1.cells.length : Int)) (by exact e139)) (lV 104 (eLt .i64 x134 (x1.cells.length : Int)) (wN (then_n ?_)))))))
  by_cases q148 : x134 < (x1.cells.length : Int)
  · replace M := ifp q148 M
    refine cT (bT q148) (wp_skip (then_n (wp_seq (wp_block (wp_seq ?_)))))
    refine region_mix (S := (fun (L_ : Array Bool) (w_ : World) => Ext H132 (hp w_) ∧ (∀ b_, (is g11) b_ → hp w_ b_ = hp w130 b_))) (by kernel_rfl) S142 ?_
    intro w149 S150 K151 hc152
    have o153 := b12
    have hs154 : (fun (L_ : Array Bool) (w_ : World) => Ext H132 (hp w_) ∧ (∀ b_, (is g11) b_ → hp w_ b_ = hp w130 b_)) (Array.replicate 19 false) w149 := ⟨S150.inv, (fun b_ h_ => K151.at 1 rfl b_ h_)⟩
    replace h127 := h127.move (K151.at 0 rfl)
    replace b12 := K151.blk 1 rfl b12
    refine xV 0 107 rfl hc152 hs154 (fun L_ w_ hc_ hu_ hs_ => eD g11 0 0 1 Try.underlying34 (by exact e138)) ?_; intro hc155 hs156
    refine xV 1 108 rfl hc155 hs156 (fun L_ w_ hc_ hu_ hs_ => eL ⟨g11, 0 + 0, none⟩ (.slice A2 x1.cells.length c3) Try.underlying32 (blk_cell ((hs_.2 _ rfl).trans o153) rfl)) ?_; intro hc157 hs158
    refine xO 2 hc157 ?_
    refine yO 2 109 rfl hs158 (eM (.int .i64 x134) (by exact e141)) ?_; intro hc159 hs160
    obtain ⟨q161, M⟩ := chk M
    obtain ⟨b162, o163, e164⟩ := Rd.addr h4 (show (x134).toNat < x1.cells.length by omega)
    obtain ⟨y165, r166, k167⟩ := Rd.at h4 e164 (getD_some z36 (show (x134).toNat < x1.cells.length by omega))
    obtain ⟨A168, c169, rfl, l170, h171⟩ := st36_open r166
    refine xO 3 hc159 ?_
    refine yO 3 110 rfl hs160 (eI b162 o163 x1.cells.length c3 3 x134 .i64 Try.underlying32 e164 q161 q148) ?_; intro hc172 hs173
    refine xO 4 hc172 ?_
    refine yO 4 111 rfl hs173 (eD b162 (o163 + (x134 : Int).toNat * 3) 0 1 Try.underlying36) ?_; intro hc174 hs175
    refine xO 5 hc174 ?_
    refine yO 5 112 rfl hs175 (eL ⟨b162, o163 + (x134 : Int).toNat * 3 + 0, none⟩ (.int .i64 ((x1.cells.getD ((x134).toNat) z36).kind)) Try.underlying3 (hpx (S150.inv.cell (Y133.cell (k167 0 _ rfl))))) ?_; intro hc176 hs177
    refine xO 6 hc176 ?_
    refine yO 6 113 rfl hs177 (eNe .i64 (x1.cells.getD ((x134).toNat) z36).kind 3) ?_; intro hc178 hs179
    refine xO 7 hc178 ?_
    refine yO 7 114 rfl hs179 (eM (.bool (decide (((x1.cells.getD ((x134).toNat) z36).kind) ≠ 3)))) ?_; intro hc180 hs181
    by_cases q182 : ((x1.cells.getD ((x134).toNat) z36).kind) ≠ 3
    · replace M := ifp q182 M
      refine xvg (i := 8) (d := 115) (t := 114) rfl rfl rfl rfl (by kernel_rfl) (bT q182) (by kernel_rfl) (by kernel_rfl) (fun _ _ => Iff.rfl) hc180 hs181 (fun L_ w_ hc_ hu_ hs_ => eD g11 0 0 1 Try.underlying34 (by exact e138)) ?_; intro hc183 hs184
      refine xvg (i := 9) (d := 116) (t := 114) rfl rfl rfl rfl (by kernel_rfl) (bT q182) (by kernel_rfl) (by kernel_rfl) (fun _ _ => Iff.rfl) hc183 hs184 (fun L_ w_ hc_ hu_ hs_ => eL ⟨g11, 0 + 0, none⟩ (.slice A2 x1.cells.length c3) Try.underlying32 (blk_cell ((hs_.2 _ rfl).trans o153) rfl)) ?_; intro hc185 hs186
      refine xvg (i := 10) (d := 117) (t := 114) rfl rfl rfl rfl (by kernel_rfl) (bT q182) (by kernel_rfl) (by kernel_rfl) (fun _ _ => Iff.rfl) hc185 hs186 (fun L_ w_ hc_ hu_ hs_ => eM (.slice A124 (((x1.cells.length : Int)).toNat) c125) (by exact e140)) ?_; intro hc187 hs188
      refine xvg (i := 11) (d := 118) (t := 114) rfl rfl rfl rfl (by kernel_rfl) (bT q182) (by kernel_rfl) (by kernel_rfl) (fun _ _ => Iff.rfl) hc187 hs188 (fun L_ w_ hc_ hu_ hs_ => eD g11 0 0 1 Try.underlying34 (by exact e138)) ?_; intro hc189 hs190
      refine xvg (i := 12) (d := 119) (t := 114) rfl rfl rfl rfl (by kernel_rfl) (bT q182) (by kernel_rfl) (by kernel_rfl) (fun _ _ => Iff.rfl) hc189 hs190 (fun L_ w_ hc_ hu_ hs_ => eL ⟨g11, 0 + 0, none⟩ (.slice A2 x1.cells.length c3) Try.underlying32 (blk_cell ((hs_.2 _ rfl).trans o153) rfl)) ?_; intro hc191 hs192
      refine xO 13 hc191 ?_
      refine yo (i := 13) (d := 120) rfl rfl (wanted_t (d := 114) rfl rfl (by kernel_rfl) (bT q182)) (by kernel_rfl) (by kernel_rfl) (fun _ _ => Iff.rfl) hs192 (eM (.int .i64 x134) (by exact e141)) ?_; intro hc193 hs194
      obtain ⟨b195, o196, e197⟩ := Rd.addr h4 (show (x134).toNat < x1.cells.length by omega)
      obtain ⟨y198, r199, k200⟩ := Rd.at h4 e197 (getD_some z36 (show (x134).toNat < x1.cells.length by omega))
      obtain ⟨A201, c202, rfl, l203, h204⟩ := st36_open r199
      refine xO 14 hc193 ?_
      refine yo (i := 14) (d := 121) rfl rfl (wanted_t (d := 114) rfl rfl (by kernel_rfl) (bT q182)) (by kernel_rfl) (by kernel_rfl) (fun _ _ => Iff.rfl) hs194 (eI b195 o196 x1.cells.length c3 3 x134 .i64 Try.underlying32 e197 q161 q148) ?_; intro hc205 hs206
      refine xO 15 hc205 ?_
      refine yo (i := 15) (d := 122) rfl rfl (wanted_t (d := 114) rfl rfl (by kernel_rfl) (bT q182)) (by kernel_rfl) (by kernel_rfl) (fun _ _ => Iff.rfl) hs206 (e_loadS (b := b195) (off := o196 + (x134 : Int).toNat * 3) (cs := [.int .i64 ((x1.cells.getD ((x134).toNat) z36).kind), .int .i64 ((x1.cells.getD ((x134).toNat) z36).n), .slice A201 ((x1.cells.getD ((x134).toNat) z36).text).length c202]) Try.underlying36 rfl (by kernel_rfl) (by kernel_rfl) (fun j_ u_ e_ => (hpx (S150.inv.cell (Y133.cell (k200 j_ u_ e_)))))) ?_; intro hc207 hs208
      obtain ⟨t209, u210, M⟩ := bnd M
      refine xO 16 hc207 ?_
      refine yc (i := 16) rfl (wanted_t (d := 114) rfl rfl (by kernel_rfl) (bT q182)) (by kernel_rfl) (by kernel_rfl) (eC [.tmp 116, .tmp 117, .tmp 122] [.slice A2 x1.cells.length c3, .slice A124 (((x1.cells.length : Int)).toNat) c125, .agg #[.int .i64 ((x1.cells.getD ((x134).toNat) z36).kind), .int .i64 ((x1.cells.getD ((x134).toNat) z36).n), .slice A201 ((x1.cells.getD ((x134).toNat) z36).text).length c202]] Try.func65) (by have q_ := (spec_l10round_2.calls k147 w149 H132 x1.cells A2 c3 x136 A124 c125 F135 (x1.cells.getD ((x134).toNat) z36) A201 c202 (h4.ext Y133) l5 h127 (h204.ext Y133) l203 (St.own' (Fa := [F135]) (Fr := [(is g11)]) S150) t209 u210); rw [(show x136.length = ((x1.cells.length : Int)).toNat from n137)] at q_; exact q_) ?_
      rintro hc217 _ w211 ⟨F215, H212, rfl, n216, h214, T213⟩
      refine ⟨_, rfl, ?_⟩
      obtain ⟨S218, K219⟩ := St.call (Fa := [F135]) (Fr := [(is g11)]) S150 T213
      replace b12 := K219.blk 0 rfl b12
      have E220 := T213.ext
      refine ⟨⟨(Ext.trans E220 S218.inv), (fun b_ h_ => (K219.at 0 rfl b_ h_).trans (hs208.2 b_ h_))⟩, fun hs221 => ?_⟩
      refine xO 17 hc217 ?_
      refine yo (i := 17) (d := 124) rfl rfl (wanted_t (d := 114) rfl rfl (by kernel_rfl) (bT q182)) (by kernel_rfl) (by kernel_rfl) (fun _ _ => Iff.rfl) hs221 (e_notv (c := t209.1) (by kernel_rfl)) ?_; intro hc222 hs223
      refine xO 18 hc222 ?_
      refine yO 18 125 rfl hs223 (eT (.bool (decide (¬ (t209.1 = true)))) (bT q182)) ?_; intro hc224 hs225
      refine xn (by kernel_rfl) ?_ _
      refine then_n ?_
      by_cases q226 : ¬ (t209.1 = true)
      · replace M := ifp q226 M
        refine cT (bT q226) (wp_seq (wR (lV 2 (eA (.bool false)) (wN (then_n (wp_ret (inb_r ?_)))))))
        refine then_r (then_r (inb_r (then_r ?_)))
        obtain rfl := Option.some.inj M
        exact ret1 rfl rfl  (show _ = .bool false from (by kernel_rfl)) ⟨rfl, S218.chg⟩
      replace M := ifn q226 M
      refine cF (bF q226) (wp_skip (inb_n (then_n (wR (lV 105 (eM (.int .i64 x134) (by exact e141)) (lV 106 (eAdd .i64 x134 1) (lV 10 (eA (.int .i64 (IntKind.i64.wrap (x134 + 1)))) ?_)))))))
      refine wN (then_n ?_)
      exact ⟨k147, (by omega), _, H212, (IntKind.i64.wrap (x134 + 1)), F215, t209.2, (by omega), rfl, (by exact e138), (by exact e139), (by exact e140), (by kernel_rfl), h214, b12, n216, (Y133.trans E220), S218, M⟩
    replace M := ifn q182 M
    refine xskip (i := 8) (t := 114) (c := false) rfl rfl rfl rfl (by kernel_rfl) (bF q182) rfl (by kernel_rfl) (fun _ _ => Iff.rfl) hc180 hs181 ?_
    intro hc227 hs228
    refine xskip (i := 9) (t := 114) (c := false) rfl rfl rfl rfl (by kernel_rfl) (bF q182) rfl (by kernel_rfl) (fun _ _ => Iff.rfl) hc227 hs228 ?_
    intro hc229 hs230
    refine xskip (i := 10) (t := 114) (c := false) rfl rfl rfl rfl (by kernel_rfl) (bF q182) rfl (by kernel_rfl) (fun _ _ => Iff.rfl) hc229 hs230 ?_
    intro hc231 hs232
    refine xskip (i := 11) (t := 114) (c := false) rfl rfl rfl rfl (by kernel_rfl) (bF q182) rfl (by kernel_rfl) (fun _ _ => Iff.rfl) hc231 hs232 ?_
    intro hc233 hs234
    refine xskip (i := 12) (t := 114) (c := false) rfl rfl rfl rfl (by kernel_rfl) (bF q182) rfl (by kernel_rfl) (fun _ _ => Iff.rfl) hc233 hs234 ?_
    intro hc235 hs236
    refine xskip (i := 13) (t := 114) (c := false) rfl rfl rfl rfl (by kernel_rfl) (bF q182) rfl (by kernel_rfl) (fun _ _ => Iff.rfl) hc235 hs236 ?_
    intro hc237 hs238
    refine xskip (i := 14) (t := 114) (c := false) rfl rfl rfl rfl (by kernel_rfl) (bF q182) rfl (by kernel_rfl) (fun _ _ => Iff.rfl) hc237 hs238 ?_
    intro hc239 hs240
    refine xskip (i := 15) (t := 114) (c := false) rfl rfl rfl rfl (by kernel_rfl) (bF q182) rfl (by kernel_rfl) (fun _ _ => Iff.rfl) hc239 hs240 ?_
    intro hc241 hs242
    refine xskip (i := 16) (t := 114) (c := false) rfl rfl rfl rfl (by kernel_rfl) (bF q182) rfl (by kernel_rfl) (fun _ _ => Iff.rfl) hc241 hs242 ?_
    intro hc243 hs244
    refine xskip (i := 17) (t := 114) (c := false) rfl rfl rfl rfl (by kernel_rfl) (bF q182) rfl (by kernel_rfl) (fun _ _ => Iff.rfl) hc243 hs244 ?_
    intro hc245 hs246
    refine xO 18 hc245 ?_
    refine yO 18 125 rfl hs246 (eF (.bool false) (bF q182)) ?_; intro hc247 hs248
    refine xn (by kernel_rfl) ?_ _
    refine then_n (cond_f rfl (by kernel_rfl) (wp_skip (inb_n (then_n (wR (lV 105 (eM (.int .i64 x134) (by exact e141)) (lV 106 (eAdd .i64 x134 1) ?_)))))))
    refine lV 10 (eA (.int .i64 (IntKind.i64.wrap (x134 + 1)))) (wN (then_n ?_))
    exact ⟨k147, (by omega), _, H132, (IntKind.i64.wrap (x134 + 1)), F135, x136, (by omega), rfl, (by exact e138), (by exact e139), (by exact e140), (by kernel_rfl), h127, b12, n137, Y133, S150, M⟩
  replace M := ifn q148 M
  refine cF (bF q148) (wp_exit (then_e (then_e (inb_hit (then_n (wp_seq (wR ?_)))))))
  refine lV 2 (eA (.bool true)) (wN (then_n (wp_ret ?_)))
  obtain rfl := Option.some.inj M
  exact ret1 rfl rfl  (show _ = .bool true from (by kernel_rfl)) ⟨rfl, S142.chg⟩

/-! spec_ValidStore -/
def spec_ValidStore.f (k : Nat) (x1 : Store) (x10 : Cell) : Option Bool := ((spec_l10valid.f k x1).bind fun t25 => (if t25 = true then ((spec_l10word.f x1.cells x10).bind fun t32 => some t32) else some false))
theorem spec_ValidStore.calls (k : Nat) (w : World) (H : Hp) (x1 : Store) (A2 : Option Addr) (c3 : Nat) (A6 : Option Addr) (c7 : Nat) (x10 : Cell) (A11 : Option Addr) (c12 : Nat) (h4 : Rd st36 H A2 x1.cells) (l5 : x1.cells.length ≤ c3) (h8 : Rd tInt H A6 x1.trail) (l9 : x1.trail.length ≤ c7) (h13 : Rd tByte H A11 x10.text) (l14 : x10.text.length ≤ c12) (S : Own [] H w) (r : Bool) (M : spec_ValidStore.f k x1 x10 = some r) :
    Calls Try.prog 11 #[.agg #[.slice A2 x1.cells.length c3, .slice A6 x1.trail.length c7], .agg #[.int .i64 x10.kind, .int .i64 x10.n, .slice A11 x10.text.length c12]] w (fun e e_w => e = .returned (.bool r) ∧ Chg no w e_w) := by
  rw [spec_ValidStore.f] at M
  refine enter (l := [.agg #[.slice A2 x1.cells.length c3, .slice A6 x1.trail.length c7], .agg #[.int .i64 x10.kind, .int .i64 x10.n, .slice A11 x10.text.length c12]]) 13 Try.func11 rfl rfl rfl ?_
  have S0_ := S.st
  refine wp_seq (wR ?_)
  refine lW 2 (nB #[.slice A2 x1.cells.length c3, .slice A6 x1.trail.length c7] 34 S0_) ?_
  rintro _ w15 ⟨g16, rfl, b17, S18, K19⟩
  refine lW 3 (nB #[.int .i64 x10.kind, .int .i64 x10.n, .slice A11 x10.text.length c12] 36 S18) ?_
  rintro _ w20 ⟨g21, rfl, b22, S23, K24⟩
  replace b17 := K24.blk 0 rfl b17
  refine lV 4 (eA (.bool false)) (wN (then_n (wp_seq (wR (lV 5 (e_loadS (b := g16) (off := 0) (cs := [.slice A2 x1.cells.length c3, .slice A6 x1.trail.length c7]) Try.underlying34 rfl (by kernel_rfl) (by kernel_rfl) (blk_cells b17 rfl)) ?_)))))
  obtain ⟨t25, u26, M⟩ := bnd M
  refine lC 6 (eC [.tmp 5] [.agg #[.slice A2 x1.cells.length c3, .slice A6 x1.trail.length c7]] Try.func37) (spec_l10valid.calls k w20 H x1 A2 c3 A6 c7 h4 l5 h8 l9 S23.own0 t25 u26) ?_
  rintro _ w27 ⟨rfl, C28⟩
  refine ⟨_, rfl, ?_⟩
  obtain ⟨S29, K30⟩ := S23.still C28
  replace b22 := K30.blk 0 rfl b22
  replace b17 := K30.blk 1 rfl b17
  refine lV 7 (eM (.bool t25)) ?_
  by_cases q31 : t25 = true
  · replace M := ifp q31 M
    refine lG 8 7 (bvt q31 (by kernel_rfl)) (eD g16 0 0 1 Try.underlying34) (lG 9 7 (bvt q31 (by kernel_rfl)) (eL ⟨g16, 0 + 0, none⟩ (.slice A2 x1.cells.length c3) Try.underlying32 (blk_cell b17 rfl)) (lG 10 7 (bvt q31 (by kernel_rfl)) (e_loadS (b := g21) (off := 0) (cs := [.int .i64 x10.kind, .int .i64 x10.n, .slice A11 x10.text.length c12]) Try.underlying36 rfl (by kernel_rfl) (by kernel_rfl) (blk_cells b22 rfl)) ?_))
    obtain ⟨t32, u33, M⟩ := bnd M
    refine lcallg (d := 11) (t := 7) rfl (by kernel_rfl) rfl (bvt q31 (by kernel_rfl)) rfl (by kernel_rfl) (eC [.tmp 9, .tmp 10] [.slice A2 x1.cells.length c3, .agg #[.int .i64 x10.kind, .int .i64 x10.n, .slice A11 x10.text.length c12]] Try.func38) (spec_l10word.calls w27 H x1.cells A2 c3 x10 A11 c12 h4 l5 h13 l14 S29.own0 t32 u33) ?_
    rintro _ w34 ⟨rfl, C35⟩
    refine ⟨_, rfl, ?_⟩
    obtain ⟨S36, K37⟩ := S29.still C35
    refine lV 12 (eT (.bool t32) (bvt q31 (by kernel_rfl))) (lV 4 (eA (.bool t32)) (wN (then_n (wp_ret ?_))))
    obtain rfl := Option.some.inj M
    exact ret1 rfl rfl  (show _ = .bool t32 from (by kernel_rfl)) ⟨rfl, S36.chg⟩
  replace M := ifn q31 M
  refine lK 7 false (bvf q31 (by kernel_rfl)) ?_
  refine lK 7 false (bvf q31 (by kernel_rfl)) ?_
  refine lK 7 false (bvf q31 (by kernel_rfl)) ?_
  refine lK 7 false (bvf q31 (by kernel_rfl)) ?_
  refine lV 12 (eF (.bool false) (bvf q31 (by kernel_rfl))) (lV 4 (eA (.bool false)) (wN (then_n (wp_ret ?_))))
  obtain rfl := Option.some.inj M
  exact ret1 rfl rfl  (show _ = .bool false from (by kernel_rfl)) ⟨rfl, S29.chg⟩

/-! spec_l10open -/
structure GL10heap where
  cells_ : List Cell
  trail_ : List Int
  pairs_ : Int
  deriving Inhabited
def spec_l10open.f (x1 : Store) : Option GL10heap := (if 0 + x1.cells.length ≤ 3518437208883 then (if 0 + x1.trail.length ≤ 17592186044416 then some (⟨x1.cells, x1.trail, 0⟩ : GL10heap) else none) else none)
theorem spec_l10open.calls (w : World) (H : Hp) (x1 : Store) (A2 : Option Addr) (c3 : Nat) (A6 : Option Addr) (c7 : Nat) (h4 : Rd st36 H A2 x1.cells) (l5 : x1.cells.length ≤ c3) (h8 : Rd tInt H A6 x1.trail) (l9 : x1.trail.length ≤ c7) (S : Own [] H w) (r : GL10heap) (M : spec_l10open.f x1 = some r) :
    Calls Try.prog 47 #[.agg #[.slice A2 x1.cells.length c3, .slice A6 x1.trail.length c7]] w (fun e e_w => ∃ (g_1 : Nat) (A_1 : Option Addr) (c_1 : Nat) (F_1 : Foot) (A_2 : Option Addr) (c_2 : Nat) (F_2 : Foot) (H_ : Hp), e = .returned (.pointer (some ⟨g_1, 0, none⟩)) ∧ Row (ro st36) 36 H_ (hp e_w) F_1 A_1 c_1 r.cells_ ∧ Row tInt 3 H_ (hp e_w) F_2 A_2 c_2 r.trail_ ∧ e_w.heap[g_1]? = some (.cells #[.slice A_1 r.cells_.length c_1, .slice A_2 r.trail_.length c_2, .int .i64 r.pairs_] 91 (0, 0)) ∧ St (anyOf []) H w [(is g_1), F_1, F_2] H_ e_w) := by
  rw [spec_l10open.f] at M
  refine enter (l := [.agg #[.slice A2 x1.cells.length c3, .slice A6 x1.trail.length c7]]) 27 Try.func47 rfl rfl rfl ?_
  have S0_ := S.st
  refine wp_seq (wR ?_)
  refine lW 1 (nB #[.slice A2 x1.cells.length c3, .slice A6 x1.trail.length c7] 34 S0_) ?_
  rintro _ w10 ⟨g11, rfl, b12, S13, K14⟩
  refine lV 2 (eA (.pointer none)) (wN (then_n (wp_seq (wR (lV 4 (show _ = Result.ok (Next.value (.agg #[.slice none 0 0, .slice none 0 0, .int .i64 0])) w10 from by kernel_rfl) ?_)))))
  refine lW 5 (nB #[.slice none 0 0, .slice none 0 0, .int .i64 0] 91 S13) ?_
  rintro _ w15 ⟨g16, rfl, b17, S18, K19⟩
  replace b12 := K19.blk 0 rfl b12
  refine lV 3 (eA (.pointer (some ⟨g16, 0, none⟩))) (wN (then_n (wp_seq ?_)))
  refine region_mix (S := (fun (L_ : Array Bool) (w_ : World) => Ext H (hp w_) ∧ (L_.getD 10 true = false → (∀ b_, (is g16) b_ → hp w_ b_ = hp w15 b_)))) (by kernel_rfl) S18 ?_
  intro w20 S21 K22 hc23
  have o24 := b17
  have hs25 : (fun (L_ : Array Bool) (w_ : World) => Ext H (hp w_) ∧ (L_.getD 10 true = false → (∀ b_, (is g16) b_ → hp w_ b_ = hp w15 b_))) (Array.replicate 11 false) w20 := ⟨S21.inv, (fun _ => (fun b_ h_ => K22.at 0 rfl b_ h_))⟩
  replace b17 := K22.blk 0 rfl b17
  replace b12 := K22.blk 1 rfl b12
  refine xW 0 6 rfl (fun L_ w_ => by simp only [getD_set_ne true (show (0 : Nat) ≠ 10 by decide)]) hc23 hs25 (fun L_ w_ hc_ hu_ hs_ => eM (.pointer (some ⟨g16, 0, none⟩))) ?_; intro hc26 hs27
  refine xW 1 7 rfl (fun L_ w_ => by simp only [getD_set_ne true (show (1 : Nat) ≠ 10 by decide)]) hc26 hs27 (fun L_ w_ hc_ hu_ hs_ => eM (.pointer (some ⟨g16, 0, none⟩))) ?_; intro hc28 hs29
  refine xW 2 8 rfl (fun L_ w_ => by simp only [getD_set_ne true (show (2 : Nat) ≠ 10 by decide)]) hc28 hs29 (fun L_ w_ hc_ hu_ hs_ => eN ⟨g16, 0, none⟩) ?_; intro hc30 hs31
  refine xW 3 9 rfl (fun L_ w_ => by simp only [getD_set_ne true (show (3 : Nat) ≠ 10 by decide)]) hc30 hs31 (fun L_ w_ hc_ hu_ hs_ => eD g16 0 0 1 Try.underlying91) ?_; intro hc32 hs33
  refine xW 4 10 rfl (fun L_ w_ => by simp only [getD_set_ne true (show (4 : Nat) ≠ 10 by decide)]) hc32 hs33 (fun L_ w_ hc_ hu_ hs_ => eL ⟨g16, 0 + 0, none⟩ (.slice none 0 0) Try.underlying32 (blk_cell (((hs_.2 (unl 9 10 4 hc_ hu_ (by kernel_rfl))) _ rfl).trans o24) rfl)) ?_; intro hc34 hs35
  refine xO 5 hc34 ?_
  refine yP 5 11 rfl (fun L_ w_ => by simp only [getD_set_ne true (show (5 : Nat) ≠ 10 by decide)]) hs35 (eD g11 0 0 1 Try.underlying34) ?_; intro hc36 hs37
  refine xO 6 hc36 ?_
  refine yP 6 12 rfl (fun L_ w_ => by simp only [getD_set_ne true (show (6 : Nat) ≠ 10 by decide)]) hs37 (eL ⟨g11, 0 + 0, none⟩ (.slice A2 x1.cells.length c3) Try.underlying32 (blk_cell b12 rfl)) ?_; intro hc38 hs39
  obtain ⟨y40, h41, h42⟩ := Rd.news (d := (ro st36)) (ro_ro _) S21 (Rd.toro h4)
  obtain ⟨q43, M⟩ := chk M
  have S44 := S21.unit
  have S45 := S44.unit
  have S46 := S45.pulls [no, no, (is g16), (is g11)] [1] rfl
  refine xO 7 hc38 ?_
  refine yE 7 13 rfl (e_append (d := (ro st36)) (n := 0) (xs := []) (cap := 0) (A := none) (ys := x1.cells) (A2 := A2) (c2 := c3) (z := .agg #[.int .i64 0, .int .i64 0, .slice none 0 0]) (bytes := 40) S46 Try.underlying32 (by kernel_rfl) rfl (by decide) (by kernel_rfl) rfl (by kernel_rfl) (Row.nil _ _ _ _ no) h41 h42 (show (0 + x1.cells.length) * 40 ≤ _ by first | omega | (simp only [List.length_cons, List.length_nil]; omega)) (by decide)) ?_
  rintro hc54 _ w47 ⟨A48, c49, F50, rfl, h51, S52, K53⟩
  replace b17 := K53.blk 0 rfl b17
  replace b12 := K53.blk 1 rfl b12
  refine ⟨⟨S52.inv, (fun q_ => (fun b_ h_ => (K53.at 0 rfl b_ h_).trans ((hs39.2 (by decide +kernel)) b_ h_)))⟩, fun hs55 => ?_⟩
  replace h51 : Row (ro st36) 36 H (hp w47) F50 A48 c49 x1.cells := h51
  refine xO 8 hc54 ?_
  refine yP 8 14 rfl (fun L_ w_ => by simp only [getD_set_ne true (show (8 : Nat) ≠ 10 by decide)]) hs55 (eN ⟨g16, 0, none⟩) ?_; intro hc56 hs57
  refine xO 9 hc56 ?_
  refine yP 9 15 rfl (fun L_ w_ => by simp only [getD_set_ne true (show (9 : Nat) ≠ 10 by decide)]) hs57 (eD g16 0 0 1 Try.underlying91) ?_; intro hc58 hs59
  have S60 := S52.pulls [(is g16), F50, (is g11)] [1] rfl
  refine xO 10 hc58 ?_
  refine yS 10 rfl (eS g16 (0 + 0) (.slice A48 x1.cells.length c49) #[.slice A48 x1.cells.length c49, .slice none 0 0, .int .i64 0] [.slice A48 x1.cells.length c49] S60 b17) ?_
  rintro hc65 w61 ⟨b62, S63, K64⟩
  replace h51 := h51.move (K64.at 0 rfl)
  replace b12 := K64.blk 1 rfl b12
  refine ⟨⟨S63.inv, (fun q_ => absurd q_ (by decide +kernel))⟩, fun hs66 => ?_⟩
  clear b17
  refine xn (by kernel_rfl) ?_ _
  refine then_n (wp_seq ?_)
  refine region_mix (S := (fun (L_ : Array Bool) (w_ : World) => Ext H (hp w_) ∧ (L_.getD 10 true = false → (∀ b_, (is g16) b_ → hp w_ b_ = hp w61 b_)))) (by kernel_rfl) S63 ?_
  intro w67 S68 K69 hc70
  have o71 := b62
  have hs72 : (fun (L_ : Array Bool) (w_ : World) => Ext H (hp w_) ∧ (L_.getD 10 true = false → (∀ b_, (is g16) b_ → hp w_ b_ = hp w61 b_))) (Array.replicate 11 false) w67 := ⟨S68.inv, (fun _ => (fun b_ h_ => K69.at 0 rfl b_ h_))⟩
  replace b62 := K69.blk 0 rfl b62
  replace h51 := h51.move (K69.at 1 rfl)
  replace b12 := K69.blk 2 rfl b12
  refine xW 0 16 rfl (fun L_ w_ => by simp only [getD_set_ne true (show (0 : Nat) ≠ 10 by decide)]) hc70 hs72 (fun L_ w_ hc_ hu_ hs_ => eM (.pointer (some ⟨g16, 0, none⟩))) ?_; intro hc73 hs74
  refine xW 1 17 rfl (fun L_ w_ => by simp only [getD_set_ne true (show (1 : Nat) ≠ 10 by decide)]) hc73 hs74 (fun L_ w_ hc_ hu_ hs_ => eM (.pointer (some ⟨g16, 0, none⟩))) ?_; intro hc75 hs76
  refine xW 2 18 rfl (fun L_ w_ => by simp only [getD_set_ne true (show (2 : Nat) ≠ 10 by decide)]) hc75 hs76 (fun L_ w_ hc_ hu_ hs_ => eN ⟨g16, 0, none⟩) ?_; intro hc77 hs78
  refine xW 3 19 rfl (fun L_ w_ => by simp only [getD_set_ne true (show (3 : Nat) ≠ 10 by decide)]) hc77 hs78 (fun L_ w_ hc_ hu_ hs_ => eD g16 0 1 1 Try.underlying91) ?_; intro hc79 hs80
  refine xW 4 20 rfl (fun L_ w_ => by simp only [getD_set_ne true (show (4 : Nat) ≠ 10 by decide)]) hc79 hs80 (fun L_ w_ hc_ hu_ hs_ => eL ⟨g16, 0 + 1, none⟩ (.slice none 0 0) Try.underlying23 (blk_cell (((hs_.2 (unl 9 10 4 hc_ hu_ (by kernel_rfl))) _ rfl).trans o71) rfl)) ?_; intro hc81 hs82
  refine xO 5 hc81 ?_
  refine yP 5 21 rfl (fun L_ w_ => by simp only [getD_set_ne true (show (5 : Nat) ≠ 10 by decide)]) hs82 (eD g11 0 1 1 Try.underlying34) ?_; intro hc83 hs84
  refine xO 6 hc83 ?_
  refine yP 6 22 rfl (fun L_ w_ => by simp only [getD_set_ne true (show (6 : Nat) ≠ 10 by decide)]) hs84 (eL ⟨g11, 0 + 1, none⟩ (.slice A6 x1.trail.length c7) Try.underlying23 (blk_cell b12 rfl)) ?_; intro hc85 hs86
  obtain ⟨y87, h88, h89⟩ := Rd.news (d := tInt) (ro_scal _ _) S68 h8
  obtain ⟨q90, M⟩ := chk M
  have S91 := S68.unit
  have S92 := S91.unit
  have S93 := S92.pulls [no, no, (is g16), F50, (is g11)] [1] rfl
  refine xO 7 hc85 ?_
  refine yE 7 23 rfl (e_append (d := tInt) (n := 0) (xs := []) (cap := 0) (A := none) (ys := x1.trail) (A2 := A6) (c2 := c7) (z := .int .i64 0) (bytes := 8) S93 Try.underlying23 (by kernel_rfl) rfl (by decide) (by kernel_rfl) rfl (by kernel_rfl) (Row.nil _ _ _ _ no) h88 h89 (show (0 + x1.trail.length) * 8 ≤ _ by first | omega | (simp only [List.length_cons, List.length_nil]; omega)) (by decide)) ?_
  rintro hc101 _ w94 ⟨A95, c96, F97, rfl, h98, S99, K100⟩
  replace b62 := K100.blk 0 rfl b62
  replace h51 := h51.move (K100.at 1 rfl)
  refine ⟨⟨S99.inv, (fun q_ => (fun b_ h_ => (K100.at 0 rfl b_ h_).trans ((hs86.2 (by decide +kernel)) b_ h_)))⟩, fun hs102 => ?_⟩
  replace h98 : Row tInt 3 H (hp w94) F97 A95 c96 x1.trail := h98
  refine xO 8 hc101 ?_
  refine yP 8 24 rfl (fun L_ w_ => by simp only [getD_set_ne true (show (8 : Nat) ≠ 10 by decide)]) hs102 (eN ⟨g16, 0, none⟩) ?_; intro hc103 hs104
  refine xO 9 hc103 ?_
  refine yP 9 25 rfl (fun L_ w_ => by simp only [getD_set_ne true (show (9 : Nat) ≠ 10 by decide)]) hs104 (eD g16 0 1 1 Try.underlying91) ?_; intro hc105 hs106
  have S107 := S99.pulls [(is g16), F97, F50, (is g11)] [1] rfl
  refine xO 10 hc105 ?_
  refine yS 10 rfl (eS g16 (0 + 1) (.slice A95 x1.trail.length c96) #[.slice A48 x1.cells.length c49, .slice A95 x1.trail.length c96, .int .i64 0] [.slice A95 x1.trail.length c96] S107 b62) ?_
  rintro hc112 w108 ⟨b109, S110, K111⟩
  replace h98 := h98.move (K111.at 0 rfl)
  replace h51 := h51.move (K111.at 1 rfl)
  refine ⟨⟨S110.inv, (fun q_ => absurd q_ (by decide +kernel))⟩, fun hs113 => ?_⟩
  clear b62
  refine xn (by kernel_rfl) ?_ _
  refine then_n (wp_seq (wR (lV 26 (eM (.pointer (some ⟨g16, 0, none⟩))) (lV 2 (eA (.pointer (some ⟨g16, 0, none⟩))) (wN (then_n (wp_ret ?_)))))))
  obtain rfl := Option.some.inj M
  have S116 := S110.pulls [(is g16), F50, F97, (is g11)] [1, 2, 2] rfl
  have S117 := St.first (Fa := [(is g16), F50, F97]) (Fr := [(is g11)]) S116
  exact ret1 rfl rfl  (show _ = .pointer (some ⟨g16, 0, none⟩) from (by kernel_rfl)) ⟨g16, A48, c49, F50, A95, c96, F97, H, rfl, h51, h98, b109, S117⟩
end Go.Proofs.Ytnigifmkjmbfiaa
