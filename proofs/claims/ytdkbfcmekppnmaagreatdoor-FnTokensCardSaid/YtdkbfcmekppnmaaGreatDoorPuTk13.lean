import Derived.Test.YtdkbfcmekppnmaaGreatDoorPuTk12
import Derived.Test.YtdkbfcmekppnmaaGreatDoorPuTk6
namespace Go.Proofs.YtdkbfcmekppnmaaGreatDoor
open Go.Sx Go.Sy
set_option linter.unusedVariables false
set_option linter.unusedSimpArgs false
set_option linter.unusedSectionVars false
set_option maxRecDepth 4000
set_option maxHeartbeats 4000000
section
variable {α β : Type}
theorem Ev.pos {c : Prop} [Decidable c] {g h : Nat → Option β} {r : β} (hc : c) (H : Ev g r) : Ev (fun k => if c then g k else h k) r := Ev.of (fun k => if_pos hc) H
theorem Ev.neg {c : Prop} [Decidable c] {g h : Nat → Option β} {r : β} (hc : ¬ c) (H : Ev h r) : Ev (fun k => if c then g k else h k) r := Ev.of (fun k => if_neg hc) H
end
theorem sameB_self (s : List UInt8) (hl : s.length ≤ 1000000) : Ev (fun k => laws_sameB.f k s s) true := by
 refine Ev.of (fun k => by rw [laws_sameB.f, if_neg (by simp)]) ?_
 have key : ∀ (m i : Nat), s.length - i = m → i ≤ s.length → Ev (fun k => laws_sameB.l0 k s s (i : Int)) true := by
  intro m
  induction m with
  | zero =>
   intro i h1 h2
   exact Ev.succ (h := fun _ => some true) (fun k => by rw [laws_sameB.l0, if_neg (by omega)]) (Ev.ret _)
  | succ m ih =>
   intro i h1 h2
   exact Ev.succ (fun k => by rw [laws_sameB.l0, if_pos (by omega), if_pos (by omega), if_pos (by omega), if_neg (by simp), wrap_nat (by omega)]) (ih (i + 1) (by omega) (by omega))
 exact key s.length 0 rfl (Nat.zero_le _)
theorem name_ev (x : List UInt8) (hx : x.length ≤ 1048576) : Ev (fun k => laws_FnTokens.l0 k x) true := by
 obtain ⟨n, en, hn⟩ := drawQ_te x hx
 have eq : Ev (fun k => impl_QuoteAtom.f k n) (quoteOf n) := ⟨2001, fun k hk => quote_i n k (by omega) (by omega)⟩
 have ql := quote_len n
 refine Ev.succ (fun k => by rw [laws_FnTokens.l0]) (Ev.bind en (Ev.bind en (Ev.bind eq ?_)))
 by_cases h : 100 < n.length
 ·refine Ev.pos (by omega) (Ev.of (h := fun _ => some true) (fun k => ?_) (Ev.ret _))
  have : quoteOf n = [] := by unfold quoteOf; rw [if_pos h]
  rw [this]; rfl
 refine Ev.neg (by omega) ?_
 by_cases h1 : n = [91, 93]
 ·refine Ev.pos h1 ?_
  have : quoteOf n = n := by rw [h1]; decide +kernel
  rw [this]
  exact Ev.bind (sameB_self n (by omega)) (Ev.ret _)
 refine Ev.neg h1 ?_
 by_cases h2 : n = [123, 125]
 ·refine Ev.pos h2 ?_
  have : quoteOf n = n := by rw [h2]; decide +kernel
  rw [this]
  exact Ev.bind (sameB_self n (by omega)) (Ev.ret _)
 refine Ev.neg h2 (Ev.bind (a := ([⟨1, 0, ((quoteOf n).length : Int), n, 0⟩], 0, 0)) ⟨70001, fun k hk => quote_token n (by omega) h1 h2 k (by omega)⟩ ?_)
 refine Ev.pos rfl (Ev.pos rfl (Ev.pos (by simp) (Ev.pos rfl (Ev.bind (sameB_self n (by omega)) (Ev.pos rfl ?_)))))
 exact Ev.of (h := fun _ => some true) (fun k => congrArg some (decide_eq_true rfl)) (Ev.ret _)
theorem loop_ev (x : List UInt8) (hx : x.length ≤ 1048576) (t25 : List Token × Int × Int) (h25 : t25.2.1 = 0) (s : List UInt8) (r : List Token) (hl : s.length ≤ 10000) (hr : r.length ≤ 10000) :
  ∀ (ts : List Token) (e i : Nat), i + ts.length = r.length → r.drop i = ts → LXR s e ts → Ev (fun k => laws_FnTokens.l1 k x t25 s r (e : Int) (i : Int)) true := by
 have GE : ∀ e p : Nat, GAP s e p → Ev (fun k => impl_Lex.f k (([] : List UInt8) ++ ((s.drop ((e : Int).toNat)).take ((p : Int).toNat - (e : Int).toNat)))) ([], 0, 0) := fun e p hg =>
  ⟨70001, fun k hk => by rw [List.nil_append, Int.toNat_natCast, Int.toNat_natCast]; exact hg.2.2 k (by omega)⟩
 have LE : ∀ a b : Nat, 0 + ((s.drop ((a : Int).toNat)).take b).length ≤ 140737488355328 := fun a b => by rw [List.length_take, List.length_drop]; omega
 intro ts
 induction ts with
 | nil =>
  intro e i hi hd hg
  obtain ⟨g1, g2, g3⟩ := id hg
  rw [List.length_nil, Nat.add_zero] at hi
  refine Ev.succ (fun k => by rw [laws_FnTokens.l1, if_pos (by omega), if_pos h25, if_neg (by omega)]) ?_
  refine Ev.succ (fun k => by rw [laws_FnTokens.l2, if_pos (by omega), if_pos (by omega), if_pos (by omega), if_pos (LE _ _)]) (Ev.bind (GE e s.length hg) ?_)
  exact Ev.neg (by simp) (Ev.neg (by simp) (Ev.pos (by omega) (name_ev x hx)))
 | cons t ts ih =>
  intro e i hi hd hg
  obtain ⟨p, n, hgap, f1, f2, f3, f4, f5, one, rest⟩ := hg
  rw [List.length_cons] at hi
  have hi' : i < r.length := by omega
  have ht : r.getD i z28 = t := by
   rw [List.drop_eq_getElem_cons hi'] at hd
   injection hd with h1 _
   rw [List.getD_eq_getElem?_getD, List.getElem?_eq_getElem hi', ← h1]; rfl
  have hd' : r.drop (i + 1) = ts := by
   rw [List.drop_eq_getElem_cons hi'] at hd
   injection hd with _ h2
  have g1 := hgap.1
  have g2 := hgap.2.1
  have wp : IntKind.i64.wrap (t.place + t.size) = ((p + n : Nat) : Int) := by rw [f1, f2, wa (by omega) (by omega)]
  have wq : IntKind.i64.wrap ((p : Int) + t.size) = ((p + n : Nat) : Int) := by rw [f2, wa (by omega) (by omega)]
  have NX := ih (p + n) (i + 1) (by omega) hd' rest
  refine Ev.succ (fun k => by rw [laws_FnTokens.l1, if_pos (by omega), if_pos h25, if_pos (by omega), if_pos (by omega), Int.toNat_natCast, ht, if_neg (by omega), if_neg (by omega), wp, if_neg (by omega), f1]) ?_
  refine Ev.succ (fun k => by rw [laws_FnTokens.l2, if_pos (by omega), if_pos (by omega), if_pos (by omega), if_pos (LE _ _)]) (Ev.bind (GE e p hgap) ?_)
  simp only [Int.toNat_natCast, ht, wq, w1 (show i ≤ 1000000 by omega)]
  refine Ev.neg (by simp) (Ev.neg (by simp) (Ev.neg (by omega) (Ev.pos (by omega) (Ev.pos (by omega) ?_))))
  by_cases k6 : t.kind = 6
  ·exact Ev.pos k6 NX
  refine Ev.neg k6 ?_
  by_cases k7 : t.kind = 7
  ·exact Ev.pos k7 NX
  refine Ev.neg k7 (Ev.pos (by omega) (Ev.pos (by omega) (Ev.pos (by omega) (Ev.pos (by have := LE p (p + n - p); rwa [Int.toNat_natCast] at this) ?_))))
  have en : p + n - p = n := by omega
  have tl := f5
  have GO : (¬ (t.kind = 1 ∧ n = 1 ∧ ((s.getD p 0).toNat : Int) = 46)) → Ev (fun k => impl_Lex.f k (([] : List UInt8) ++ ((s.drop p).take (p + n - p)))) ([re t], 0, 0) := fun hd => ⟨70001, fun k hk => by rw [List.nil_append, en]; exact one k6 k7 hd k (by omega)⟩
  have same : Ev (fun k => laws_sameB.f k (re t).text t.text) true := sameB_self t.text (by omega)
  by_cases a1 : t.kind = 1
  ·by_cases a2 : t.size = 1
   ·by_cases a3 : ((s.getD p 0).toNat : Int) = 46
    ·obtain ⟨r', c', q', e1, _⟩ := lex_all ((s.drop p).take (p + n - p))
     refine Ev.bind (a := (r', c', q')) ⟨70001, fun k hk => by rw [List.nil_append]; exact e1 k (by omega)⟩ (Ev.pos a1 (Ev.pos a2 (Ev.pos (by omega) (Ev.neg (fun q => q a3) NX))))
    ·refine Ev.bind (GO (fun q => a3 q.2.2)) (Ev.pos a1 (Ev.pos a2 (Ev.pos (by omega) (Ev.pos a3 ?_))))
     exact Ev.neg (by simp) (Ev.neg (by simp) (Ev.pos (by simp) (Ev.neg (by simp [re]) (Ev.neg (by simp [re]) (Ev.bind same (Ev.neg (by simp) NX))))))
   ·refine Ev.bind (GO (fun q => a2 (by omega))) (Ev.pos a1 (Ev.neg a2 ?_))
    exact Ev.neg (by simp) (Ev.neg (by simp) (Ev.pos (by simp) (Ev.neg (by simp [re]) (Ev.neg (by simp [re]) (Ev.bind same (Ev.neg (by simp) NX))))))
  ·refine Ev.bind (GO (fun q => a1 q.1)) (Ev.neg a1 ?_)
   exact Ev.neg (by simp) (Ev.neg (by simp) (Ev.pos (by simp) (Ev.neg (by simp [re]) (Ev.neg (by simp [re]) (Ev.bind same (Ev.neg (by simp) NX))))))
theorem FnTokens_plain (x : List UInt8) : ∃ k, laws_FnTokens.f k x = some true := by
 have key : Ev (fun k => laws_FnTokens.f k x) true := by
  by_cases h : (x.length : Int) > 1048576
  ·exact Ev.of (h := fun _ => some true) (fun k => by rw [laws_FnTokens.f, if_pos h]) (Ev.ret _)
  obtain ⟨s, es, hs⟩ := drawLex_te x (by omega)
  obtain ⟨r, c, q, e1, e2, e3, e4⟩ := lex_all s
  refine Ev.of (fun k => by rw [laws_FnTokens.f, if_neg h]) (Ev.bind es (Ev.bind (a := (r, c, q)) ⟨70001, fun k hk => e2 k (by omega)⟩ (Ev.bind es (Ev.bind (a := (r, c, q)) ⟨70001, fun k hk => e1 k (by omega)⟩ ?_))))
  refine Ev.neg (by simp) (Ev.neg (by simp) (Ev.neg (by simp) ?_))
  by_cases hc : c = 0
  ·obtain ⟨l1, l2⟩ := e4 hc
   exact loop_ev x (by omega) (r, c, q) hc s r l1 e3.1 r 0 0 (by omega) rfl l2
  ·exact Ev.succ (fun k => by rw [laws_FnTokens.l1, if_pos (by omega), if_neg hc]) (name_ev x (by omega))
 obtain ⟨K, hK⟩ := key
 exact ⟨K, hK K (Nat.le_refl _)⟩
end Go.Proofs.YtdkbfcmekppnmaaGreatDoor
