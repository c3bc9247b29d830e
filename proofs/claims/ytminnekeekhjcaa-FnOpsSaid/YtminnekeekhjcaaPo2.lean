import Derived.Test.YtminnekeekhjcaaPo1
namespace Go.Proofs.Ytminnekeekhjcaa
open Go.Sx Go.Sy
set_option linter.unusedVariables false
set_option linter.unusedSimpArgs false
set_option linter.unusedSectionVars false
/-! ### spec.l3put takes its table and the new operator for itself -/
def sameO (n o : Sy.Op) : Bool := decide (o.name = n.name) && decide (preO o = preO n)
def badO (n o : Sy.Op) : Bool := sameO n o && !decide (decide (o.typ ≤ 2) = decide (n.typ ≤ 2))
def pgo (n : Sy.Op) : List Sy.Op → Bool → List Sy.Op
  | [], d => if d then [] else [n]
  | x :: xs, d => if sameO n x then pgo n xs d else if !d && ltO n x then n :: x :: pgo n xs true else x :: pgo n xs d
def pgoA (n : OpA) : List OpA → Bool → List OpA
  | [], d => if d then [] else [n]
  | x :: xs, d => if sameO (fg n) (fg x) then pgoA n xs d else if !d && ltO (fg n) (fg x) then n :: x :: pgoA n xs true else x :: pgoA n xs d
theorem pgoA_fg (n : OpA) : ∀ (xs : List OpA) (d : Bool), (pgoA n xs d).map fg = pgo (fg n) (xs.map fg) d
  | [], d => by rw [pgoA, List.map_nil, pgo]; cases d <;> rfl
  | x :: xs, d => by
    rw [pgoA, List.map_cons, pgo]
    by_cases h : sameO (fg n) (fg x) = true
    · rw [if_pos h, if_pos h, pgoA_fg n xs d]
    · rw [if_neg h, if_neg h]
      by_cases h2 : (!d && ltO (fg n) (fg x)) = true
      · rw [if_pos h2, if_pos h2, List.map_cons, List.map_cons, pgoA_fg n xs true]
      · rw [if_neg h2, if_neg h2, List.map_cons, pgoA_fg n xs d]
theorem mem_pgoA {n o : OpA} : ∀ {xs : List OpA} {d : Bool}, o ∈ pgoA n xs d → o ∈ xs ∨ (o = n ∧ d = false)
  | [], d, h => by
    rw [pgoA] at h
    cases d
    · exact .inr ⟨by simpa using h, rfl⟩
    · simp at h
  | x :: xs, d, h => by
    rw [pgoA] at h
    split at h
    · exact (mem_pgoA h).imp (.tail _) id
    · split at h
      · rename_i h2
        have hd : d = false := by cases d <;> simp_all
        rcases List.mem_cons.1 h with rfl | h
        · exact .inr ⟨rfl, hd⟩
        rcases List.mem_cons.1 h with rfl | h
        · exact .inl (.head _)
        · exact (mem_pgoA h).imp (.tail _) (fun h => by cases h.2)
      · rcases List.mem_cons.1 h with rfl | h
        · exact .inl (.head _)
        · exact (mem_pgoA h).imp (.tail _) id
theorem pgoA_pw {R : OpA → OpA → Prop} (hs : ∀ a b, R a b → R b a) {n : OpA} : ∀ {xs : List OpA} {d : Bool}, xs.Pairwise R → (∀ x, x ∈ xs → R n x) → (pgoA n xs d).Pairwise R
  | [], d, _, _ => by rw [pgoA]; cases d <;> simp
  | x :: xs, d, hp, hn => by
    have hp' := List.pairwise_cons.1 hp
    have ih : ∀ d, (pgoA n xs d).Pairwise R := fun d => pgoA_pw hs hp'.2 (fun y hy => hn y (.tail _ hy))
    have hx : ∀ d y, y ∈ pgoA n xs d → R x y := fun d y hy => by
      rcases mem_pgoA hy with h | ⟨rfl, _⟩
      · exact hp'.1 y h
      · exact hs _ _ (hn x (.head _))
    rw [pgoA]
    split
    · exact ih d
    · split
      · refine List.pairwise_cons.2 ⟨fun y hy => ?_, List.pairwise_cons.2 ⟨hx true, ih true⟩⟩
        rcases List.mem_cons.1 hy with rfl | hy
        · exact hn _ (.head _)
        · rcases mem_pgoA hy with h | ⟨_, h⟩
          · exact hn _ (.tail _ h)
          · cases h
      · exact List.pairwise_cons.2 ⟨hx d, ih d⟩
theorem getAt {α : Type} {xs : List α} {i : Nat} {z : α} (hi : i < xs.length) : xs.getD i z = xs[i] := by
  rw [List.getD_eq_getElem?_getD, List.getElem?_eq_getElem hi]; rfl
theorem wrapN {i : Nat} (h : i + 1 ≤ 9223372036854775807) : IntKind.i64.wrap ((i : Int) + 1) = ((i + 1 : Nat) : Int) := by
  rw [wrap_id (by omega) (by omega)]; omega
theorem blEq {a b : List UInt8} (h1 : Go.Op.bytesLess a b = false) (h2 : Go.Op.bytesLess b a = false) : a = b := bl_eq h1 h2
theorem lprefixA_val (t : Int) : l3prefixA.f t = some (decide (t = 3) || decide (t = 4)) := by
  unfold l3prefixA.f
  by_cases h : t = 3 <;> simp [h]
theorem putA_loop (n : OpA) (xs : List OpA) (hl : xs.length ≤ 1000) : ∀ (m i k : Nat) (out : List OpA) (d : Bool), i + m = xs.length → out.length ≤ 2 * i + 2 → 2 * m + 1 < k →
    l3putA.l0 k xs n out d (i : Int) = some (out ++ pgoA n (xs.drop i) d) := by
  intro m
  induction m with
  | zero =>
    intro i k out d h1 h2 hk
    obtain ⟨k, rfl⟩ : ∃ q, k = q + 1 := ⟨k - 1, by omega⟩
    rw [l3putA.l0, if_neg (by omega), List.drop_of_length_le (by omega), pgoA]
    cases d
    · rw [if_pos (by simp), if_pos (by omega)]; rfl
    · rw [if_neg (by simp)]; simp
  | succ m ih =>
    intro i k out d h1 h2 hk
    obtain ⟨k, rfl⟩ : ∃ q, k = q + 2 := ⟨k - 2, by omega⟩
    have hi : i < xs.length := by omega
    have l1 : ∀ (o : List OpA) (d : Bool), o.length ≤ 2 * i + 3 → l3putA.l1 (k + 1) xs n (i : Int) o d = some (o ++ xs[i] :: pgoA n (xs.drop (i + 1)) d) := fun o d ho => by
      rw [l3putA.l1, if_pos (by omega), Int.toNat_natCast, getAt hi, wrapN (by omega), ih (i + 1) k _ d (by omega) (by rw [List.length_append]; simp; omega) (by omega), List.append_assoc]
      rfl
    have l2 : ∀ (o : List OpA) (d : Bool), o.length ≤ 2 * i + 3 → l3putA.l2 (k + 1) xs n (i : Int) o d = some (o ++ xs[i] :: pgoA n (xs.drop (i + 1)) d) := fun o d ho => by
      rw [l3putA.l2, if_pos (by omega), Int.toNat_natCast, getAt hi, wrapN (by omega), ih (i + 1) k _ d (by omega) (by rw [List.length_append]; simp; omega) (by omega), List.append_assoc]
      rfl
    have hl2 : (out ++ [n]).length ≤ 2 * i + 3 := by rw [List.length_append]; simp; omega
    have hpre : ∀ o : OpA, (decide (o.typ = 3) || decide (o.typ = 4)) = preO (fg o) := fun _ => rfl
    rw [l3putA.l0, if_pos (by omega), if_pos (by omega), Int.toNat_natCast, getAt hi, List.drop_eq_getElem_cons hi]
    simp only [lprefixA_val, hpre, Option.bind_some]
    by_cases hn : xs[i].name = n.name
    · rw [if_pos hn]
      by_cases hp : preO (fg xs[i]) = preO (fg n)
      · rw [if_pos hp, wrapN (by omega), ih (i + 1) (k + 1) out d (by omega) (by omega) (by omega), pgoA, if_pos (by simp [sameO, fg, hn]; exact hp)]
      · rw [if_neg hp]
        have hs : sameO (fg n) (fg xs[i]) = false := by simp [sameO, hp]
        have hb : (!(Go.Op.bytesLess xs[i].name n.name || xs[i].name == n.name)) = false := by rw [hn]; simp
        have hlt : ltO (fg n) (fg xs[i]) = preO (fg n) := by
          unfold ltO
          rw [if_neg (by simp [fg, hn])]
          revert hp
          cases preO (fg xs[i]) <;> cases preO (fg n) <;> simp
        rw [hb]
        cases d
        · rw [if_pos (by simp), if_neg (by simp)]
          cases hq : preO (fg n)
          · rw [if_neg (by simp), l1 _ _ (by omega), pgoA, hs, hlt, hq]; rfl
          · rw [if_pos rfl, if_pos (by omega), l1 _ _ hl2, pgoA, hs, hlt, hq, List.append_assoc]; rfl
        · rw [if_neg (by simp), l1 _ _ (by omega), pgoA, hs]; rfl
    · rw [if_neg hn]
      have hs : sameO (fg n) (fg xs[i]) = false := by simp [sameO, fg, hn]
      have hlt : (!(Go.Op.bytesLess xs[i].name n.name || xs[i].name == n.name)) = ltO (fg n) (fg xs[i]) := by
        unfold ltO
        rw [if_pos (fun e => hn e.symm)]
        show _ = Go.Op.bytesLess n.name xs[i].name
        have he : (xs[i].name == n.name) = false := by simpa using hn
        rw [he, Bool.or_false]
        cases h1 : Go.Op.bytesLess xs[i].name n.name
        · cases h2 : Go.Op.bytesLess n.name xs[i].name
          · exact absurd (bl_eq h1 h2) hn
          · rfl
        · rw [bl_asym h1]; rfl
      rw [hlt]
      cases d
      · rw [if_pos (by simp)]
        cases hq : ltO (fg n) (fg xs[i])
        · rw [if_neg (by simp), l2 _ _ (by omega), pgoA, hs, hq]; rfl
        · rw [if_pos rfl, if_pos (by omega), l2 _ _ hl2, pgoA, hs, hq, List.append_assoc]; rfl
      · rw [if_neg (by simp), l2 _ _ (by omega), pgoA, hs]; rfl

def nf (y : OpA) : Foot := fun b => bk y.adr = some b
theorem tight {H X : Hp} {F : Foot} {A : Option Addr} {c : Nat} {xs : List UInt8} (h : Row tByte 5 H X F A c xs) : Row tByte 5 H X (fun b => bk A = some b) A c xs ∧ ∀ b, bk A = some b → F b := by
  rcases h with ⟨rfl, rfl, rfl⟩ | ⟨g, cur, fr, rfl, h2, h3, h4, h5, h6, h7, h8⟩
  · exact ⟨.inl ⟨rfl, rfl, rfl⟩, fun b hb => by cases hb⟩
  · refine ⟨.inr ⟨g, cur, fr, rfl, rfl, h3, h4, h5, h6, h7, elsO_mono (fun b hb => hb.elim) (elsO_oo (oo_scal _ _) h8)⟩, fun b hb => ?_⟩
    injection hb with hb
    exact hb ▸ h2
theorem ghosts {H X : Hp} : ∀ {xs : List Sy.Op} {F : Foot} {cs : List Value}, elsO st45 H X F xs cs → ∃ ys : List OpA, ys.map fg = xs ∧ (∀ y, y ∈ ys → Row tByte 5 H X (nf y) y.adr y.cap y.name) ∧ ys.Pairwise (fun p q => Dj (nf p) (nf q)) ∧ (∀ y, y ∈ ys → ∀ b, nf y b → F b) ∧ ∀ HF, Ext H HF → (∀ b o, F b → X b = some o → HF b = some o) → elsR stA HF ys cs
  | [], F, cs, h => by cases h; exact ⟨[], rfl, by simp, .nil, by simp, fun _ _ _ => rfl⟩
  | x :: xs, F, cs, h => by
    obtain ⟨c, cs', F1, F2, rfl, h1, h2, h3, h4⟩ := h
    obtain ⟨ys, a1, a2, a3, a4, a5⟩ := ghosts h2
    obtain ⟨A0, c0, F0, rfl, r, s⟩ := st45_openO h1
    obtain ⟨r1, r2⟩ := tight r
    refine ⟨⟨x.name, x.pri, x.typ, A0, c0⟩ :: ys, by rw [List.map_cons, a1]; rfl, fun y hy => ?_, List.pairwise_cons.2 ⟨fun q hq b hb hb2 => h3 b (s b (r2 b hb)) (a4 q hq b hb2), a3⟩, fun y hy b hb => ?_, fun HF hE hF => ?_⟩
    · rcases List.mem_cons.1 hy with rfl | hy
      · exact r1
      · exact a2 y hy
    · rcases List.mem_cons.1 hy with rfl | hy
      · exact h4 b (.inl (s b (r2 b hb)))
      · exact h4 b (.inr (a4 y hy b hb))
    · exact ⟨_, cs', rfl, ⟨rfl, r.le, r.frz hE (fun b o hb => hF b o (h4 b (.inl (s b hb))))⟩, a5 HF hE (fun b o hb => hF b o (h4 b (.inr hb)))⟩
theorem own_of {H H' X X' : Hp} : ∀ {ys : List OpA} {F F' : Foot} {cs : List Value}, elsO (ro stA) H' X' F' ys cs → (∀ y, y ∈ ys → Row tByte 5 H X (nf y) y.adr y.cap y.name) → ys.Pairwise (fun p q => Dj (nf p) (nf q)) → (∀ y, y ∈ ys → ∀ b, nf y b → F b) → elsO st45 H X F (ys.map fg) cs
  | [], F, F', cs, h, _, _, _ => by cases h; rfl
  | y :: ys, F, F', cs, h, hr, hp, hF => by
    obtain ⟨c, cs', F1, F2, rfl, h1, h2, h3, h4⟩ := h
    have hp' := List.pairwise_cons.1 hp
    have h1' : stR H' y c := h1
    rw [h1'.1]
    refine ⟨_, cs', nf y, fun b => F b ∧ ¬ nf y b, rfl, st45_mkO (x := fg y) (hr y (.head _)), own_of h2 (fun z hz => hr z (.tail _ hz)) hp'.2 (fun z hz b hb => ⟨hF z (.tail _ hz) b hb, fun hb2 => hp'.1 z hz b hb2 hb⟩), fun b hb hb2 => hb2.2 hb, fun b hb => ?_⟩
    rcases hb with hb | hb
    · exact hF y (.head _) b hb
    · exact hb.1
def spec_l3put.f (k : Nat) (xs : List Sy.Op) (n : Sy.Op) : Option (List Sy.Op) := if xs.length ≤ 1000 ∧ 3000 ≤ k then some (pgo n xs (decide (n.pri = 0))) else none
theorem spec_l3put.calls (k : Nat) (w : World) (H : Hp) (x1 : List Sy.Op) (A2 : Option Addr) (c3 : Nat) (F4 : Foot) (x5 : Sy.Op) (A6 : Option Addr) (c7 : Nat) (F8 : Foot) (h9 : Row st45 45 H (hp w) F4 A2 c3 x1) (h10 : Row tByte 5 H (hp w) F8 A6 c7 x5.name) (S : Own [F4, F8] H w) (r : List Sy.Op) (M : spec_l3put.f k x1 x5 = some r) :
    Calls Try.prog 30 #[.slice A2 x1.length c3, .agg #[.slice A6 x5.name.length c7, .int .i64 x5.pri, .int .i64 x5.typ]] w (fun e e_w => ∃ (A_1 : Option Addr) (c_1 : Nat) (F_1 : Foot) (H_ : Hp), e = .returned (.slice A_1 r.length c_1) ∧ Row st45 45 H_ (hp e_w) F_1 A_1 c_1 r ∧ St (anyOf [F4, F8]) H w [F_1] H_ e_w) := by
  unfold spec_l3put.f at M
  by_cases hg : x1.length ≤ 1000 ∧ 3000 ≤ k
  case neg => rw [if_neg hg] at M; cases M
  rw [if_pos hg] at M
  injection M with M
  have S0 := S.st
  have hdj : Dj F4 F8 := S0.dj
  have S1 := S0.join
  obtain ⟨HF, S2, hE, hz⟩ := S1.freeze
  obtain ⟨t1, t2⟩ := tight h10
  -- the ghosts
  have gh : ∃ ys : List OpA, ys.map fg = x1 ∧ Rd stA HF A2 ys ∧ (∀ y, y ∈ ys → Row tByte 5 H (hp w) (nf y) y.adr y.cap y.name) ∧ ys.Pairwise (fun p q => Dj (nf p) (nf q)) ∧ ∀ y, y ∈ ys → ∀ b, nf y b → F4 b := by
    rcases h9 with ⟨rfl, rfl, rfl⟩ | ⟨g, cur, fr, rfl, h2, h3, h4, h5, h6, h7, h8⟩
    · exact ⟨[], rfl, Rd.nil _ _ _, by simp, .nil, by simp⟩
    · obtain ⟨ys, a1, a2, a3, a4, a5⟩ := ghosts h8
      have hl : ys.length = x1.length := by rw [← a1, List.length_map]
      refine ⟨ys, a1, ⟨by omega, .inr ⟨g, 0, _, rfl, fun j u hj => ?_, a5 HF hE (fun b o hb => hz b o (.inl hb.1))⟩⟩, a2, a3, fun y hy b hb => (a4 y hy b hb).1⟩
      rw [Nat.zero_add, cell_of (hz g _ (.inl h2) h3)]
      rw [List.getElem?_take] at hj
      split at hj
      · simpa using hj
      · cases hj
  obtain ⟨ys, a1, a2, a3, a4, a5⟩ := gh
  have hl : ys.length = x1.length := by rw [← a1, List.length_map]
  obtain ⟨n, hn⟩ : ∃ n : OpA, n = ⟨x5.name, x5.pri, x5.typ, A6, c7⟩ := ⟨_, rfl⟩
  have fn : fg n = x5 := by rw [hn]; rfl
  have MA : l3putA.f k ys n = some (pgoA n ys (decide (n.pri = 0))) := by
    have := putA_loop n ys (by omega) ys.length 0 k [] (decide (n.pri = 0)) (by omega) (by simp) (by omega)
    rw [l3putA.f]; simpa using this
  have hc := l3putA.calls k w HF ys A2 c3 n A6 c7 a2 (by rw [hl]; exact h9.le) (by rw [hn]; exact h10.frz hE (fun b o hb => hz b o (.inr hb))) (by rw [hn]; exact h10.le) (by rw [hn]; exact ⟨rfl, rfl⟩) S2.own0 _ MA
  rw [hl, hn] at hc
  refine Calls.mono hc ?_
  rintro e e_w ⟨A_1, c_1, F_1, H_, rfl, hR, T⟩
  have T' := (St.call (Fa := []) (Fr := []) S2 T).1
  obtain ⟨H2, S3, hE2, mv⟩ := St.thaw S1 hz T' T.ext hE T.size
  have S4 := S3.join
  have hfr : (pgoA n ys (decide (n.pri = 0))).map fg = r := by rw [pgoA_fg, a1, fn, ← M]; rw [hn]
  have hln : (pgoA n ys (decide (n.pri = 0))).length = r.length := by rw [← hfr, List.length_map]
  have names : ∀ y, y ∈ pgoA n ys (decide (n.pri = 0)) → Row tByte 5 H2 (hp e_w) (nf y) y.adr y.cap y.name ∧ ∀ b, nf y b → or2 F4 F8 b := fun y hy => by
    rcases mem_pgoA hy with h | ⟨rfl, _⟩
    · have q : ∀ b, nf y b → or2 F4 F8 b := fun b hb => .inl (a5 y h b hb)
      exact ⟨((a3 y h).move (fun b hb => mv b (q b hb))).ext hE2, q⟩
    · have q : ∀ b, nf y b → or2 F4 F8 b := fun b hb => .inr (t2 b (by rw [hn] at hb; exact hb))
      exact ⟨(Row.move (fun b hb => mv b (q b hb)) (by rw [hn]; exact t1)).ext hE2, q⟩
  have pw : (pgoA n ys (decide (n.pri = 0))).Pairwise (fun p q => Dj (nf p) (nf q)) := pgoA_pw (fun a b h => h.symm) a4 (fun x hx b hb hb2 => hdj b (a5 x hx b hb2) (t2 b (by rw [hn] at hb; exact hb)))
  rw [hn] at hfr hln names pw
  refine ⟨A_1, c_1, or2 (or2 F4 F8) F_1, H2, by rw [hln], ?_, S4⟩
  rcases hR with ⟨h1, h2, h3⟩ | ⟨g, cur, fr, h1, h2, h3, h4, h5, h6, h7, h8⟩
  · exact .inl ⟨h1, h2, by rw [← hfr, h3]; rfl⟩
  · refine .inr ⟨g, cur, fr, h1, .inr h2, h3, h4, by rw [← hln]; exact h5, h6, h7, ?_⟩
    rw [← hfr, List.length_map]
    refine own_of h8 (fun y hy => (names y hy).1) pw (fun y hy b hb => ⟨.inl ((names y hy).2 b hb), fun hbg => ?_⟩)
    exact S3.dj b ((names y hy).2 b hb) (hbg ▸ h2)
end Go.Proofs.Ytminnekeekhjcaa
