import Derived.Test.YtminnekeekhjcaaPuSo3
namespace Go.Proofs.Ytminnekeekhjcaa
open Go.Sx Go.Sy
set_option linter.unusedVariables false
set_option linter.unusedSimpArgs false
set_option linter.unusedSectionVars false
set_option maxRecDepth 8000
/-! ### the order is a strict weak one -/
theorem bytesLess_lt : ∀ (x y : List UInt8), Go.Op.bytesLess x y = decide (x < y)
  | [], [] => by simp [Go.Op.bytesLess]
  | _ :: _, [] => by simp [Go.Op.bytesLess]
  | [], _ :: _ => by simp [Go.Op.bytesLess]
  | a :: x, b :: y => by
    rw [Go.Op.bytesLess, bytesLess_lt x y]
    simp only [List.cons_lt_cons_iff]
    by_cases h1 : a < b <;> by_cases h2 : a = b <;> by_cases h3 : x < y <;> simp [h1, h2, h3]
theorem bl_str : Go.Op.bytesLess = Sort.ltStr := by
  funext x y
  rw [bytesLess_lt]; rfl
theorem bl_irrefl (x : List UInt8) : Go.Op.bytesLess x x = false := by rw [bl_str]; exact Sort.swo_ltStr.irrefl x
theorem bl_trans {x y z : List UInt8} (h : Go.Op.bytesLess x y = true) (h2 : Go.Op.bytesLess y z = true) : Go.Op.bytesLess x z = true := by
  rw [bl_str] at *; exact Sort.swo_ltStr.trans x y z h h2
theorem bl_ntrans {x y z : List UInt8} (h : Go.Op.bytesLess x y = false) (h2 : Go.Op.bytesLess y z = false) : Go.Op.bytesLess x z = false := by
  rw [bl_str] at *; exact Sort.swo_ltStr.ntrans x y z h h2
theorem bl_asym {x y : List UInt8} (h : Go.Op.bytesLess x y = true) : Go.Op.bytesLess y x = false := by
  cases h2 : Go.Op.bytesLess y x
  · rfl
  · have := bl_trans h h2
    rw [bl_irrefl] at this; cases this
theorem bl_eq : ∀ {x y : List UInt8}, Go.Op.bytesLess x y = false → Go.Op.bytesLess y x = false → x = y
  | [], [], _, _ => rfl
  | [], _ :: _, h, _ => by simp [Go.Op.bytesLess] at h
  | _ :: _, [], _, h => by simp [Go.Op.bytesLess] at h
  | a :: x, b :: y, h, h2 => by
    simp only [Go.Op.bytesLess, Bool.or_eq_false_iff, Bool.and_eq_false_iff, decide_eq_false_iff_not, beq_eq_false_iff_ne] at h h2
    have hab : a = b := UInt8.toNat_inj.1 (by
      have q1 := h.1; have q2 := h2.1
      rw [UInt8.lt_iff_toNat_lt] at q1 q2
      omega)
    subst hab
    have e := bl_eq (x := x) (y := y) (h.2.resolve_left (fun h => h rfl)) (h2.2.resolve_left (fun h => h rfl))
    rw [e]
theorem swoO : Sort.SWO ltO where
  irrefl := fun x => by unfold ltO; rw [if_neg (by simp)]; cases preO x <;> rfl
  trans := fun x y z h h2 => by
    unfold ltO at *
    by_cases e1 : x.name = y.name
    · by_cases e2 : y.name = z.name
      · rw [if_neg (by simp [e1])] at h
        rw [if_neg (by simp [e2])] at h2
        rw [if_neg (by simp [e1, e2])]
        cases hx : preO x <;> cases hy : preO y <;> cases hz : preO z <;> simp_all
      · rw [if_pos e2] at h2
        rw [if_pos (by rw [e1]; exact e2), e1]; exact h2
    · rw [if_pos e1] at h
      by_cases e2 : y.name = z.name
      · rw [if_pos (by rw [← e2]; exact e1), ← e2]; exact h
      · rw [if_pos e2] at h2
        have h3 := bl_trans h h2
        have : x.name ≠ z.name := fun e => by rw [e, bl_irrefl] at h3; cases h3
        rw [if_pos this]; exact h3
  ntrans := fun x y z h h2 => by
    unfold ltO at *
    by_cases e1 : x.name = y.name
    · by_cases e2 : y.name = z.name
      · rw [if_neg (by simp [e1])] at h
        rw [if_neg (by simp [e2])] at h2
        rw [if_neg (by simp [e1, e2])]
        cases hx : preO x <;> cases hy : preO y <;> cases hz : preO z <;> simp_all
      · rw [if_pos e2] at h2
        rw [if_pos (by rw [e1]; exact e2), e1]; exact h2
    · rw [if_pos e1] at h
      by_cases e2 : y.name = z.name
      · rw [if_pos (by rw [← e2]; exact e1), ← e2]; exact h
      · rw [if_pos e2] at h2
        have h3 := bl_ntrans h h2
        by_cases e3 : x.name = z.name
        · exfalso
          rw [← e3] at h2
          exact e1 (bl_eq h h2)
        · rw [if_pos e3]; exact h3
/-! ### pdqsort -/
theorem perm_size {a b : Nat} {d d' : Array Sy.Op} (h : Sort.PermIn a b d d') : d'.size = d.size := h.1
theorem pdq_ex : ∀ (n a b lim : Nat) (wb wp : Bool) (D : Array Sy.Op), b - a ≤ n → a ≤ b → b ≤ D.size → D.size ≤ 1000 → lim ≤ 1000 → Sort.Below ltO a b D →
    ∃ D', Ev (fun k => sort_pdqsort_func.l0 k a b lim wb wp D.toList) D'.toList ∧ Sort.PermIn a b D D' ∧ Sort.SortedIn ltO a b D' := by
  intro n
  induction n with
  | zero =>
    intro a b lim wb wp D hn hab hb hN hl hB
    have e0 : IntKind.i64.wrap ((b : Int) - (a : Int)) = ((b - a : Nat) : Int) := ws2 (by omega) (by omega)
    obtain ⟨p1, p2⟩ := Sort.insertionSort_holds swoO D a b hab hb
    refine ⟨_, Ev.succ (fun k => ?_) (ins_val D hN a b hab hb), p1, p2⟩
    rw [sort_pdqsort_func.l0, e0, if_pos (by omega)]
    cases sort_insertionSort_func.f k D.toList a b <;> rfl
  | succ n ih =>
    intro a b lim wb wp D hn hab hb hN hl hB
    have e0 : IntKind.i64.wrap ((b : Int) - (a : Int)) = ((b - a : Nat) : Int) := ws2 (by omega) (by omega)
    by_cases h12 : b - a ≤ 12
    · obtain ⟨p1, p2⟩ := Sort.insertionSort_holds swoO D a b hab hb
      refine ⟨_, Ev.succ (fun k => ?_) (ins_val D hN a b hab hb), p1, p2⟩
      rw [sort_pdqsort_func.l0, e0, if_pos (by omega)]
      cases sort_insertionSort_func.f k D.toList a b <;> rfl
    by_cases hlim : lim = 0
    · subst hlim
      obtain ⟨p1, p2⟩ := Sort.heapSort_holds swoO D a b hab hb
      refine ⟨_, Ev.succ (fun k => ?_) (heap_val D hN a b (by omega) hb), p1, p2⟩
      rw [sort_pdqsort_func.l0, e0, if_neg (by omega), if_pos (by omega)]
      cases sort_heapSort_func.f k D.toList a b <;> rfl
    -- behind the scan
    have L3 : ∀ (lim : Nat) (p : Nat) (D3 : Array Sy.Op), lim ≤ 1000 → a ≤ p → p < b → D3.size = D.size → Sort.Below ltO a b D3 →
        ∃ D', Ev (fun k => sort_pdqsort_func.l3 k a b wb wp lim p D3.toList) D'.toList ∧ Sort.PermIn a b D3 D' ∧ Sort.SortedIn ltO a b D' := by
      intro lim p D3 hl hp1 hp2 hs3 hB3
      -- the partition
      have part : ∃ D', Ev (fun k => (sort_partition_func.f k D3.toList a b p).bind fun t => (if (IntKind.i64.wrap (t.1 - (a : Int))) < (IntKind.i64.wrap ((b : Int) - t.1)) then ((sort_pdqsort_func.f k t.2.2 a t.1 lim).bind fun t3 => (sort_pdqsort_func.l0 k (IntKind.i64.wrap (t.1 + 1)) b lim (decide ((IntKind.i64.wrap (t.1 - (a : Int))) ≥ (IntKind.i64.wrap (Int.tdiv (IntKind.i64.wrap ((b : Int) - (a : Int))) 8)))) t.2.1 t3)) else ((sort_pdqsort_func.f k t.2.2 (IntKind.i64.wrap (t.1 + 1)) b lim).bind fun t3 => (sort_pdqsort_func.l0 k a t.1 lim (decide ((IntKind.i64.wrap ((b : Int) - t.1)) ≥ (IntKind.i64.wrap (Int.tdiv (IntKind.i64.wrap ((b : Int) - (a : Int))) 8)))) t.2.1 t3)))) D'.toList ∧ Sort.PermIn a b D3 D' ∧ Sort.SortedIn ltO a b D' := by
        obtain ⟨r1, r2, r3, r4, r5, r6, r7⟩ := Sort.round_part swoO (Sort.partition_holds ltO) (d3 := D3) (d4 := (Sort.partition ltO D3 a b p).2.2) (mid := (Sort.partition ltO D3 a b p).1) (ap := (Sort.partition ltO D3 a b p).2.1) hp1 hp2 (by omega) hB3 rfl
        have hp := part_f D3 (by omega) a b p hp1 hp2 (by omega)
        generalize (Sort.partition ltO D3 a b p).1 = mid at *
        generalize (Sort.partition ltO D3 a b p).2.1 = ap at *
        generalize (Sort.partition ltO D3 a b p).2.2 = D4 at *
        have w1 : IntKind.i64.wrap ((mid : Int) - (a : Int)) = ((mid - a : Nat) : Int) := ws2 (by omega) (by omega)
        have w2 : IntKind.i64.wrap ((b : Int) - (mid : Int)) = ((b - mid : Nat) : Int) := ws2 (by omega) (by omega)
        by_cases hc : mid - a < b - mid
        · obtain ⟨DL, eL, pL, sL⟩ := ih a mid lim true true D4 (by omega) r1 (by omega) (by omega) hl r4
          obtain ⟨q1, q2⟩ := r6 DL pL sL
          have hsL := perm_size pL
          obtain ⟨DR, eR, pR, sR⟩ := ih (mid + 1) b lim (decide ((IntKind.i64.wrap ((mid : Int) - (a : Int))) ≥ (IntKind.i64.wrap (Int.tdiv (IntKind.i64.wrap ((b : Int) - (a : Int))) 8)))) ap DL (by omega) (by omega) (by omega) (by omega) hl q1
          obtain ⟨z1, z2⟩ := q2 DR pR sR
          refine ⟨DR, Ev.bind hp ?_, z1, z2⟩
          refine Ev.of (fun k => ?_) (Ev.bind (Ev.succ (g := fun k => sort_pdqsort_func.f k D4.toList a mid lim) (fun k => by rw [sort_pdqsort_func.f]) eL) eR)
          rw [if_pos (by rw [w1, w2]; omega), wi (by omega)]
        · obtain ⟨DL, eL, pL, sL⟩ := ih (mid + 1) b lim true true D4 (by omega) (by omega) (by omega) (by omega) hl r5
          obtain ⟨q1, q2⟩ := r7 DL pL sL
          have hsL := perm_size pL
          obtain ⟨DR, eR, pR, sR⟩ := ih a mid lim (decide ((IntKind.i64.wrap ((b : Int) - (mid : Int))) ≥ (IntKind.i64.wrap (Int.tdiv (IntKind.i64.wrap ((b : Int) - (a : Int))) 8)))) ap DL (by omega) (by omega) (by omega) (by omega) hl q1
          obtain ⟨z1, z2⟩ := q2 DR pR sR
          refine ⟨DR, Ev.bind hp ?_, z1, z2⟩
          refine Ev.of (fun k => ?_) (Ev.bind (Ev.succ (g := fun k => sort_pdqsort_func.f k D4.toList ((mid + 1 : Nat) : Int) b lim) (fun k => by rw [sort_pdqsort_func.f]) eL) eR)
          rw [if_neg (by rw [w1, w2]; omega), wi (by omega)]
      by_cases ha : a > 0
      · have e1 : IntKind.i64.wrap ((a : Int) - 1) = ((a - 1 : Nat) : Int) := by rw [wr (by omega) (by omega)]; omega
        by_cases hless : ltO D3[a - 1]! D3[p]! = true
        · obtain ⟨D', eD, p1, p2⟩ := part
          refine ⟨D', Ev.succ (fun k => ?_) eD, p1, p2⟩
          rw [sort_pdqsort_func.l3, if_pos (by omega), e1, less_val D3 (by omega) (by omega), Option.bind_some, if_neg (by simp [hless])]
        · have hless' : ltO D3[a - 1]! D3[p]! = false := by simpa using hless
          obtain ⟨r1, r2, r3, r4, r5⟩ := Sort.round_eq swoO (Sort.partitionEqual_holds ltO) (d3 := D3) (d4 := (Sort.partitionEqual ltO D3 a b p).2) (mid := (Sort.partitionEqual ltO D3 a b p).1) ha hp1 hp2 (by omega) hB3 hless' rfl
          have hp := partEq_f D3 (by omega) a b p hp1 hp2 (by omega)
          generalize (Sort.partitionEqual ltO D3 a b p).1 = mid at *
          generalize (Sort.partitionEqual ltO D3 a b p).2 = D4 at *
          obtain ⟨DR, eR, pR, sR⟩ := ih mid b lim wb wp D4 (by omega) r2 (by omega) (by omega) hl r4
          obtain ⟨z1, z2⟩ := r5 DR pR sR
          refine ⟨DR, Ev.succ (fun k => ?_) (Ev.bind (h := fun k t => sort_pdqsort_func.l0 k t.1 b lim wb wp t.2) hp eR), z1, z2⟩
          rw [sort_pdqsort_func.l3, if_pos (by omega), e1, less_val D3 (by omega) (by omega), Option.bind_some, if_pos (by simpa using hless)]
      · obtain ⟨D', eD, p1, p2⟩ := part
        refine ⟨D', Ev.succ (fun k => ?_) eD, p1, p2⟩
        rw [sort_pdqsort_func.l3, if_neg (by omega)]
    -- the scan
    have L2 : ∀ (lim : Nat) (p : Nat) (h : Int) (D2 : Array Sy.Op), lim ≤ 1000 → a ≤ p → p < b → D2.size = D.size → Sort.Below ltO a b D2 →
        ∃ D', Ev (fun k => sort_pdqsort_func.l2 k a b wb wp lim p h D2.toList) D'.toList ∧ Sort.PermIn a b D2 D' ∧ Sort.SortedIn ltO a b D' := by
      intro lim p h D2 hl hp1 hp2 hs2 hB2
      have plain : ∀ c : Bool, (∀ k, sort_pdqsort_func.l2 (k + 1) a b wb wp lim p h D2.toList = sort_pdqsort_func.l3 k a b wb wp lim p D2.toList) → ∃ D', Ev (fun k => sort_pdqsort_func.l2 k a b wb wp lim p h D2.toList) D'.toList ∧ Sort.PermIn a b D2 D' ∧ Sort.SortedIn ltO a b D' := by
        intro _ he
        obtain ⟨D', eD, p1, p2⟩ := L3 lim p D2 hl hp1 hp2 hs2 hB2
        exact ⟨D', Ev.succ he eD, p1, p2⟩
      cases hwb : wb with
      | false => subst hwb; exact plain true (fun k => by rw [sort_pdqsort_func.l2, if_neg (by simp)])
      | true =>
        subst hwb
        cases hwp : wp with
        | false => subst hwp; exact plain true (fun k => by rw [sort_pdqsort_func.l2, if_pos rfl, if_neg (by simp)])
        | true =>
          subst hwp
          by_cases hh : h = 1
          · obtain ⟨p1, p2⟩ := Sort.partialInsertionSort_holds (lt := ltO) swoO D2 a b (by omega) (by omega) hB2
            have hv := par_f D2 (by omega) a b (by omega) (by omega)
            have hs := perm_size p1
            cases hf : (Sort.partialInsertionSort ltO D2 a b).2 with
            | true =>
              rw [hf] at hv p2
              refine ⟨_, Ev.succ (fun k => ?_) (Ev.bind hv (h := fun k t => if t.1 = true then some t.2 else (sort_pdqsort_func.l3 k a b true true lim p t.2)) (Ev.of (fun k => if_pos rfl) (Ev.ret _))), p1, p2 rfl⟩
              rw [sort_pdqsort_func.l2, if_pos rfl, if_pos rfl, if_pos hh]
            | false =>
              rw [hf] at hv
              obtain ⟨D', eD, q1, q2⟩ := L3 lim p _ hl hp1 hp2 (hs.trans hs2) (hB2.perm (by omega) p1)
              refine ⟨D', Ev.succ (fun k => ?_) (Ev.bind hv (h := fun k t => if t.1 = true then some t.2 else (sort_pdqsort_func.l3 k a b true true lim p t.2)) (Ev.of (fun k => if_neg (by simp)) eD)), Sort.permIn_trans _ _ _ _ _ p1 q1, q2⟩
              rw [sort_pdqsort_func.l2, if_pos rfl, if_pos rfl, if_pos hh]
          · exact plain true (fun k => by rw [sort_pdqsort_func.l2, if_pos rfl, if_pos rfl, if_neg hh])
    -- the pivot
    have L1 : ∀ (lim : Nat) (D1 : Array Sy.Op), lim ≤ 1000 → D1.size = D.size → Sort.Below ltO a b D1 →
        ∃ D', Ev (fun k => sort_pdqsort_func.l1 k a b wb wp lim D1.toList) D'.toList ∧ Sort.PermIn a b D1 D' ∧ Sort.SortedIn ltO a b D' := by
      intro lim D1 hl hs1 hB1
      obtain ⟨c1, c2⟩ := Sort.choosePivot_holds ltO D1 a b (by omega)
      have hv := fun k => pivot_val k D1 (by omega) a b (by omega) (by omega)
      cases hh : (Sort.choosePivot ltO D1 a b).2 with
      | decreasing =>
        have rp := Sort.reverseRange_holds D1 a b hab (by omega)
        have hs := perm_size rp
        obtain ⟨D', eD, q1, q2⟩ := L2 lim ((b - 1) - ((Sort.choosePivot ltO D1 a b).1 - a)) 1 _ hl (by omega) (by omega) (hs.trans hs1) (hB1.perm (by omega) rp)
        refine ⟨D', Ev.succ (fun k => ?_) (Ev.bind (rev_f D1 (by omega) a b (by omega) (by omega)) eD), Sort.permIn_trans _ _ _ _ _ rp q1, q2⟩
        have w1 : IntKind.i64.wrap ((b : Int) - 1) = ((b - 1 : Nat) : Int) := by rw [wr (by omega) (by omega)]; omega
        have w2 : IntKind.i64.wrap (((Sort.choosePivot ltO D1 a b).1 : Int) - (a : Int)) = (((Sort.choosePivot ltO D1 a b).1 - a : Nat) : Int) := ws2 (by omega) (by omega)
        rw [sort_pdqsort_func.l1, hv, Option.bind_some, hh]
        refine (if_pos rfl).trans ?_
        show ((sort_reverseRange_func.f k D1.toList a b).bind fun t157 => sort_pdqsort_func.l2 k a b wb wp lim (IntKind.i64.wrap (IntKind.i64.wrap ((b : Int) - 1) - IntKind.i64.wrap (((Sort.choosePivot ltO D1 a b).1 : Int) - (a : Int)))) 1 t157) = _
        rw [w1, w2, ws2 (by omega) (by omega)]
      | increasing =>
        obtain ⟨D', eD, q1, q2⟩ := L2 lim _ 1 D1 hl c1 c2 hs1 hB1
        refine ⟨D', Ev.succ (fun k => ?_) eD, q1, q2⟩
        rw [sort_pdqsort_func.l1, hv, Option.bind_some, hh, if_neg (by simp [hintI])]
        rfl
      | unknown =>
        obtain ⟨D', eD, q1, q2⟩ := L2 lim _ 0 D1 hl c1 c2 hs1 hB1
        refine ⟨D', Ev.succ (fun k => ?_) eD, q1, q2⟩
        rw [sort_pdqsort_func.l1, hv, Option.bind_some, hh, if_neg (by simp [hintI])]
        rfl
    cases hwb : wb with
    | true =>
      subst hwb
      obtain ⟨D', eD, q1, q2⟩ := L1 lim D hl rfl hB
      refine ⟨D', Ev.succ (fun k => ?_) eD, q1, q2⟩
      rw [sort_pdqsort_func.l0, e0, if_neg (by omega), if_neg (by omega), if_neg (by simp)]
    | false =>
      subst hwb
      obtain ⟨D1, eB, pB⟩ := break_f D hN a b (by omega) hb
      obtain ⟨D', eD, q1, q2⟩ := L1 (lim - 1) D1 (by omega) (perm_size pB) (hB.perm hb pB)
      refine ⟨D', Ev.succ (fun k => ?_) (Ev.bind eB eD), Sort.permIn_trans _ _ _ _ _ pB q1, q2⟩
      have w1 : IntKind.i64.wrap ((lim : Int) - 1) = ((lim - 1 : Nat) : Int) := by rw [wr (by omega) (by omega)]; omega
      rw [sort_pdqsort_func.l0, e0, if_neg (by omega), if_neg (by omega), if_pos (by simp), w1]
/-- pdqsort_func over the whole of a list -/
theorem pdq_sorts (x : List Sy.Op) (hN : x.length ≤ 1000) (lim : Nat) (hl : lim ≤ 1000) : ∃ y, Ev (fun k => sort_pdqsort_func.f k x 0 (x.length : Int) (lim : Int)) y ∧ y.Perm x ∧ y.Pairwise (fun p q => ltO q p = false) := by
  obtain ⟨D', eD, p1, p2⟩ := pdq_ex (x.toArray.size + 1) 0 x.toArray.size lim true true x.toArray (by omega) (by omega) (Nat.le_refl _) (by simpa using hN) hl (.inl rfl)
  have hs := perm_size p1
  refine ⟨D'.toList, Ev.succ (fun k => ?_) eD, ?_, ?_⟩
  · rw [sort_pdqsort_func.f]
    simp
  · have h3 := p1.2.2
    have hl2 : D'.toList.length = x.length := by simpa using hs
    have h4 : (D'.extract 0 x.toArray.size).toList = D'.toList := by simp [← hl2]
    have h5 : (x.toArray.extract 0 x.toArray.size).toList = x := by simp
    rw [h4, h5] at h3
    exact h3
  · rw [List.pairwise_iff_getElem]
    intro i j hi hj hij
    have hi' : i < D'.size := by simpa using hi
    have hj' : j < D'.size := by simpa using hj
    have := p2 i j (by omega) hij (by rw [← hs]; exact hj')
    rw [getElem!_pos D' i hi', getElem!_pos D' j hj'] at this
    simpa using this
end Go.Proofs.Ytminnekeekhjcaa
