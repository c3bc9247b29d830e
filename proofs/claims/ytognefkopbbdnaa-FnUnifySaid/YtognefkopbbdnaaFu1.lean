import Derived.Test.YtognefkopbbdnaaFu0
import Derived.Test.YtognefkopbbdnaaY21
import Derived.Shelf.Sort.Plain
import Derived.Shelf.Slices.In.SortNone2
namespace Go.Proofs.Ytognefkopbbdnaa
open Go.Sx Go.Sy Go.RowKit Go.Shelf Go.Sort
set_option maxRecDepth 100000
set_option maxHeartbeats 1000000
set_option linter.unusedVariables false
set_option linter.unusedSimpArgs false
/-! ### sort.Ints by the library's contract -/
def srtRen : Ren :=
{
  f := fun x =>
    match x with
    | 191 => 92
    | 189 => 121
    | 125 => 130
    | 257 => 129
    | 128 => 144
    | 129 => 145
    | 294 => 135
    | 295 => 136
    | 296 => 137
    | 297 => 138
    | 298 => 139
    | 299 => 140
    | 216 => 141
    | 300 => 142
    | 301 => 143
    | 328 => 146
    | 329 => 147
    | 330 => 148
    | 331 => 149
    | 332 => 150
    | 215 => 151
    | 343 => 152
    | n => n,
  t := fun x =>
    match x with
    | 28 => 32
    | 0 => 0
    | 3 => 3
    | 46 => 159
    | 51 => 173
    | 53 => 175
    | 4 => 4
    | 183 => 166
    | 182 => 165
    | 131 => 154
    | 5 => 5
    | 9 => 9
    | 218 => 176
    | 222 => 180
    | 228 => 183
    | 229 => 29
    | n => n,
  g := fun x =>
    have n := x;
    n }
theorem srtLays : Lays.n191 Try.prog srtRen :=
{ mixed := Eq.refl true, f125 := Eq.trans Try.func130 (congrArg some (Eq.refl (Body.n125 srtRen))),
  f128 := Eq.trans Try.func144 (congrArg some (Eq.refl (Body.n128 srtRen))),
  f129 := Eq.trans Try.func145 (congrArg some (Eq.refl (Body.n129 srtRen))),
  f189 := Eq.trans Try.func121 (congrArg some (Eq.refl (Body.n189 srtRen))),
  f191 := Eq.trans Try.func92 (congrArg some (Eq.refl (Body.n191 srtRen))),
  f215 := Eq.trans Try.func151 (congrArg some (Eq.refl (Body.n215 srtRen))),
  f216 := Eq.trans Try.func141 (congrArg some (Eq.refl (Body.n216 srtRen))),
  f257 := Eq.trans Try.func129 (congrArg some (Eq.refl (Body.n257 srtRen))),
  f294 := Eq.trans Try.func135 (congrArg some (Eq.refl (Body.n294 srtRen))),
  f295 := Eq.trans Try.func136 (congrArg some (Eq.refl (Body.n295 srtRen))),
  f296 := Eq.trans Try.func137 (congrArg some (Eq.refl (Body.n296 srtRen))),
  f297 := Eq.trans Try.func138 (congrArg some (Eq.refl (Body.n297 srtRen))),
  f298 := Eq.trans Try.func139 (congrArg some (Eq.refl (Body.n298 srtRen))),
  f299 := Eq.trans Try.func140 (congrArg some (Eq.refl (Body.n299 srtRen))),
  f300 := Eq.trans Try.func142 (congrArg some (Eq.refl (Body.n300 srtRen))),
  f301 := Eq.trans Try.func143 (congrArg some (Eq.refl (Body.n301 srtRen))),
  f328 := Eq.trans Try.func146 (congrArg some (Eq.refl (Body.n328 srtRen))),
  f329 := Eq.trans Try.func147 (congrArg some (Eq.refl (Body.n329 srtRen))),
  f330 := Eq.trans Try.func148 (congrArg some (Eq.refl (Body.n330 srtRen))),
  f331 := Eq.trans Try.func149 (congrArg some (Eq.refl (Body.n331 srtRen))),
  f332 := Eq.trans Try.func150 (congrArg some (Eq.refl (Body.n332 srtRen))),
  f343 := Eq.trans Try.func152 (congrArg some (Eq.refl (Body.n343 srtRen))), t0 := Try.underlying0,
  a0 := Try.isAgg0, z0 := Try.sizeOf0, v0 := Try.zeroValue0, t3 := Try.underlying3, a3 := Try.isAgg3, z3 := Try.sizeOf3,
  v3 := Try.zeroValue3, t4 := Try.underlying4, a4 := Try.isAgg4, z4 := Try.sizeOf4, v4 := Try.zeroValue4,
  t5 := Try.underlying5, a5 := Try.isAgg5, z5 := Try.sizeOf5, v5 := Try.zeroValue5, t9 := Try.underlying9,
  a9 := Try.isAgg9, z9 := Try.sizeOf9, v9 := Try.zeroValue9, t28 := Try.underlying32, a28 := Try.isAgg32,
  z28 := Try.sizeOf32, v28 := Try.zeroValue32, t46 := Try.underlying159, a46 := Try.isAgg159, z46 := Try.sizeOf159,
  v46 := Try.zeroValue159, t51 := Try.underlying173, a51 := Try.isAgg173, z51 := Try.sizeOf173, v51 := Try.zeroValue173,
  t53 := Try.underlying175, a53 := Try.isAgg175, z53 := Try.sizeOf175, v53 := Try.zeroValue175,
  t131 := Try.underlying154, a131 := Try.isAgg154, z131 := Try.sizeOf154, v131 := Try.zeroValue154,
  t182 := Try.underlying165, a182 := Try.isAgg165, z182 := Try.sizeOf165, v182 := Try.zeroValue165,
  t183 := Try.underlying166, a183 := Try.isAgg166, z183 := Try.sizeOf166, v183 := Try.zeroValue166,
  t218 := Try.underlying176, a218 := Try.isAgg176, z218 := Try.sizeOf176, v218 := Try.zeroValue176,
  t222 := Try.underlying180, a222 := Try.isAgg180, z222 := Try.sizeOf180, v222 := Try.zeroValue180,
  t228 := Try.underlying183, a228 := Try.isAgg183, z228 := Try.sizeOf183, v228 := Try.zeroValue183,
  t229 := Try.underlying29, a229 := Try.isAgg29, z229 := Try.sizeOf29, v229 := Try.zeroValue29 }
theorem elsO_ints {H X : Hp} : ∀ {xs : List Int} {F : Foot} {cs : List Value}, elsO tInt H X F xs cs → cs = xs.map (Value.int .i64)
  | [], _, cs, h => h
  | x :: xs, _, cs, h => by
    obtain ⟨c, cs', F1, F2, rfl, h1, h2, _, _⟩ := h
    have h1' : c = [.int .i64 x] := h1
    rw [h1', elsO_ints h2]; rfl
theorem ints_elsO {H X : Hp} {F : Foot} : ∀ (xs : List Int), elsO tInt H X F xs (xs.map (Value.int .i64))
  | [] => rfl
  | x :: xs => ⟨[.int .i64 x], _, no, F, rfl, rfl, ints_elsO xs, fun _ h => h.elim, fun b hb => hb.elim False.elim id⟩
theorem putRow_at (w : World) (n g : Nat) (ys : List Int) (os : Array Obj) (cur : Array Value) (e : TypeId) (fr : Nat × Nat) (hg : w.heap[g]? = some (.cells cur e fr)) :
    (grow (putRow (Value.int .i64) (Sort.ahead w n) g 0 ys.toArray) os).heap[g]? = some (.cells (putCells (Value.int .i64) 0 ys.toArray cur) e fr) := by
  have hlt := heap_lt hg
  have h2 : (putRow (Value.int .i64) (Sort.ahead w n) g 0 ys.toArray).heap[g]? = some (.cells (putCells (Value.int .i64) 0 ys.toArray cur) e fr) := by
    show (w.heap.modify g (onCells (putCells (Value.int .i64) 0 ys.toArray)))[g]? = _
    rw [Array.getElem?_modify, if_pos rfl, hg]; rfl
  have hlt2 := heap_lt h2
  show ((putRow (Value.int .i64) (Sort.ahead w n) g 0 ys.toArray).heap ++ os)[g]? = _
  rw [Array.getElem?_append_left hlt2, h2]
theorem putRow_else (w : World) (n g b : Nat) (ys : List Int) (os : Array Obj) (hb : b < w.heap.size) (hne : b ≠ g) :
    (grow (putRow (Value.int .i64) (Sort.ahead w n) g 0 ys.toArray) os).heap[b]? = w.heap[b]? := by
  have h2 : (putRow (Value.int .i64) (Sort.ahead w n) g 0 ys.toArray).heap[b]? = w.heap[b]? := by
    show (w.heap.modify g (onCells (putCells (Value.int .i64) 0 ys.toArray)))[b]? = _
    rw [Array.getElem?_modify, if_neg (fun h => hne h.symm)]
  have hs : (putRow (Value.int .i64) (Sort.ahead w n) g 0 ys.toArray).heap.size = w.heap.size := by
    show (w.heap.modify g _).size = _
    exact Array.size_modify
  show ((putRow (Value.int .i64) (Sort.ahead w n) g 0 ys.toArray).heap ++ os)[b]? = _
  rw [Array.getElem?_append_left (by rw [hs]; exact hb), h2]
theorem putRow_size (w : World) (n g : Nat) (ys : List Int) (os : Array Obj) : w.heap.size ≤ (grow (putRow (Value.int .i64) (Sort.ahead w n) g 0 ys.toArray) os).heap.size := by
  show w.heap.size ≤ ((w.heap.modify g _) ++ os).size
  rw [Array.size_append, Array.size_modify]; omega
def isort (xs : List Int) : List Int := xs.mergeSort fun x y => decide (x ≤ y)
theorem isort_len (xs : List Int) : (isort xs).length = xs.length := List.length_mergeSort xs
theorem isort_perm {xs ys : List Int} (h : xs.Perm ys) : isort xs = isort ys := by
  have tr : ∀ a b c : Int, decide (a ≤ b) = true → decide (b ≤ c) = true → decide (a ≤ c) = true := fun a b c h1 h2 => by simp only [decide_eq_true_eq] at *; omega
  have to : ∀ a b : Int, (decide (a ≤ b) || decide (b ≤ a)) = true := fun a b => by simp only [Bool.or_eq_true, decide_eq_true_eq]; omega
  unfold isort
  refine List.Perm.eq_of_pairwise (le := fun a b => decide (a ≤ b) = true) (fun a b _ _ h1 h2 => ?_) (List.pairwise_mergeSort tr to xs) (List.pairwise_mergeSort tr to ys) (((List.mergeSort_perm xs _).trans h).trans (List.mergeSort_perm ys _).symm)
  simp only [decide_eq_true_eq] at h1 h2
  omega
def skeys (m : List (Int × Tm)) : List Int := isort (m.map (·.1))
theorem skeys_perm {m : List (Int × Tm)} {vs : List Int} (h : vs.Perm (m.map (·.1))) : isort vs = skeys m := isort_perm h
theorem skeys_len (m : List (Int × Tm)) : (skeys m).length = m.length := by unfold skeys; rw [isort_len, List.length_map]
theorem sort_Ints_ok (w : World) (H : Hp) (x1 : List Int) (A2 : Option Addr) (c3 : Nat) (F4 : Foot) (h5 : Row tInt 3 H (hp w) F4 A2 c3 x1) (hlen : x1.length ≤ 1000000) (S : Own [F4] H w) :
    Calls Try.prog 92 #[.slice A2 x1.length c3] w (fun e e_w => ∃ (F_1 : Foot) (H_ : Hp), e = .returned (.tuple #[]) ∧ Row tInt 3 H_ (hp e_w) F_1 A2 c3 (isort x1) ∧ St (anyOf [F4]) H w [F_1] H_ e_w) := by
  by_cases h0 : x1 = []
  · subst h0
    refine Calls.mono (Any.sort_Ints_none srtLays A2 c3 w) ?_
    rintro e e_w ⟨rfl, rfl⟩
    exact ⟨F4, H, rfl, by unfold isort; rw [List.mergeSort_nil]; exact h5, S.st⟩
  rcases h5 with ⟨_, _, h⟩ | ⟨g, cur, fr, rfl, k2, k3, k4, k5, k6, k7, k8⟩
  · exact absurd h h0
  have hcs := elsO_ints k8
  have hsz : tInt.sz = 1 := rfl
  rw [hsz, Nat.mul_one] at hcs k7
  have hb : w.heap[g]? = some (.cells cur 3 fr) := k3
  have hlt := heap_lt hb
  have hcur : ∀ j, j < x1.length → cur[j]? = some (.int .i64 (x1.getD j 0)) := fun j hj => by
    have : (cur.toList.take x1.length)[j]? = some (.int .i64 (x1.getD j 0)) := by
      rw [hcs, List.getElem?_map, List.getElem?_eq_getElem hj, List.getD_eq_getElem?_getD, List.getElem?_eq_getElem hj]; rfl
    rw [List.getElem?_take, if_pos hj] at this
    simpa using this
  have hH : Holds (Value.int .i64) w g 0 x1.toArray := fun j hj => by
    have hj' : j < x1.length := by simpa using hj
    refine ⟨?_, ?_⟩
    · rw [Nat.zero_add]
      have : w.cell? ⟨g, j, none⟩ = cur[j]? := cell_of_row w g j cur 3 fr hb
      rw [this, hcur j hj']
      rw [getElem!_pos _ j hj]
      simp [List.getD_eq_getElem?_getD, List.getElem?_eq_getElem hj']
    · unfold World.frozen?
      simp only [hb]
      have := k4 j (by omega)
      rw [Nat.zero_add]
      simp only [Bool.and_eq_false_iff, decide_eq_false_iff_not]
      by_cases q : fr.1 ≤ j
      · exact .inr (fun h => this ⟨q, h⟩)
      · exact .inl q
  refine Calls.mono (Any.sort_Ints srtLays g 0 c3 x1 w hH hlt (by omega)) ?_
  rintro e e_w ⟨rfl, n, os, rfl⟩
  show ∃ (F_1 : Foot) (H_ : Hp), _ ∧ Row tInt 3 H_ (hp (grow (putRow (Value.int .i64) (Sort.ahead w n) g 0 (isort x1).toArray) os)) F_1 _ c3 (isort x1) ∧ St (anyOf [F4]) H w [F_1] H_ (grow (putRow (Value.int .i64) (Sort.ahead w n) g 0 (isort x1).toArray) os)
  have hC : Chg F4 w (grow (putRow (Value.int .i64) (Sort.ahead w n) g 0 (isort x1).toArray) os) := ⟨rfl, rfl, rfl, putRow_size w n g _ os, fun b hb hn => putRow_else w n g b _ os hb (fun h => hn (h ▸ k2))⟩
  obtain ⟨S', K'⟩ := S.st.step (G := F4) hC (fun b hb => ⟨by
    have h1 := (S.own F4 (.head _) b hb).1
    have h2 := putRow_size w n g (isort x1) os
    show b < (grow (putRow (Value.int .i64) (Sort.ahead w n) g 0 (isort x1).toArray) os).heap.size
    omega, .inl hb⟩)
  have hsz2 : (putCells (Value.int .i64) 0 (isort x1).toArray cur).size = cur.size := by unfold putCells; exact Array.size_mapIdx
  refine ⟨F4, H, rfl, .inr ⟨g, _, fr, rfl, k2, putRow_at w n g _ os cur 3 fr hb, by rw [hsz2]; exact k4, by rw [isort_len]; exact k5, k6, by rw [hsz2, hsz, Nat.mul_one]; exact k7, ?_⟩, S'⟩
  rw [hsz, Nat.mul_one]
  have : (putCells (Value.int .i64) 0 (isort x1).toArray cur).toList.take (isort x1).length = (isort x1).map (Value.int .i64) := by
    apply List.ext_getElem?
    intro j
    rw [List.getElem?_take, List.getElem?_map]
    by_cases hj : j < (isort x1).length
    · rw [if_pos hj, List.getElem?_eq_getElem hj, Array.getElem?_toList]
      unfold putCells
      rw [Array.getElem?_mapIdx]
      have hjc : j < cur.size := by rw [isort_len] at hj; omega
      rw [Array.getElem?_eq_getElem hjc]
      simp [hj, List.getElem?_eq_getElem hj]
    · rw [if_neg hj, List.getElem?_eq_none (by omega)]; rfl
  rw [this]
  exact ints_elsO _
end Go.Proofs.Ytognefkopbbdnaa
