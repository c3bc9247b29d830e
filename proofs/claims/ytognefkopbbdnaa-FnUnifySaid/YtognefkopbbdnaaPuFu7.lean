import Derived.Test.YtognefkopbbdnaaPuFu6
namespace Go.Proofs.Ytognefkopbbdnaa
open Go.Sx Go.Sy
set_option linter.unusedVariables false
set_option linter.unusedSimpArgs false
set_option linter.unusedSectionVars false
set_option maxRecDepth 4000
/-! ### trees to cells -/
mutual
theorem put_flat : ∀ (t : Tm) (k : Nat) (acc : List Cell), Wf t → 4 * (flat t).length < k → acc.length + (flat t).length ≤ 1000000 → impl_node_put_2.f k t acc = some (acc ++ flat t)
  | .mk kd n s us, k, acc, hw, hk, hl => by
    obtain ⟨k, rfl⟩ : ∃ q, k = q + 3 := ⟨k - 3, by simp [flat] at hk; omega⟩
    simp only [flat, List.length_cons] at hk hl
    simp only [Wf] at hw
    obtain ⟨w0, w1, w2, w6⟩ := hw
    have ht := w0.text
    have e0 : impl_node_put_2.f (k + 3) (Tm.mk kd n s us) acc = impl_node_put_2.l0 (k + 2) (Tm.mk kd n s us) acc s := by
      rw [impl_node_put_2.f]
      show (if kd ≥ 2 then (if s.length ≤ 9223372036854775807 then impl_node_put_2.l0 (k + 2) _ acc s else none) else impl_node_put_2.l0 (k + 2) _ acc []) = _
      by_cases h : kd ≥ 2
      · rw [if_pos h, if_pos (Nat.le_trans ht (by decide))]
      · rw [if_neg h]
        rcases w0 with ⟨_, _, _, h1⟩ | ⟨_, _, _, h1⟩ | ⟨h1, _⟩ | ⟨h1, _⟩
        · have : s = [] := h1
          rw [this]
        · have : s = [] := h1
          rw [this]
        · exact absurd (show kd = 2 from h1) (by omega)
        · exact absurd (show kd = 3 from h1) (by omega)
    rw [e0, impl_node_put_2.l0, if_pos (by omega)]
    have := put_flats us [] k (Tm.mk kd n s us) (acc ++ [⟨kd, n, s⟩]) rfl w6 (by omega) (by simp; omega) (by have := flats_len us; simp; omega)
    simp only [List.length_nil] at this
    exact this.trans (by simp [flat])
theorem put_flats : ∀ (us vs : List Tm) (k : Nat) (t : Tm) (acc : List Cell), t.args = vs ++ us → Wfs us → 4 * (flats us).length + 2 < k + 1 → acc.length + (flats us).length ≤ 1000000 → vs.length + us.length ≤ 1000000 →
    impl_node_put_2.l1 (k + 1) t acc (vs.length : Int) = some (acc ++ flats us)
  | [], vs, k, t, acc, ha, hw, hk, hl, hv => by
    rw [impl_node_put_2.l1, ha, if_neg (by simp)]; simp [flats]
  | u :: us, vs, k, t, acc, ha, hw, hk, hl, hv => by
    simp only [Wfs] at hw
    simp only [flats, List.length_append] at hk hl
    have hp := flat_pos u
    simp only [List.length_cons] at hv
    obtain ⟨k, rfl⟩ : ∃ q, k = q + 1 := ⟨k - 1, by omega⟩
    rw [impl_node_put_2.l1, ha, if_pos (by simp; omega), if_pos (by omega)]
    have hg : (vs ++ u :: us).getD ((vs.length : Int)).toNat (Tm.mk 0 0 [] []) = u := by
      rw [Int.toNat_natCast, List.getD_eq_getElem?_getD, List.getElem?_append_right (by omega), Nat.sub_self]; rfl
    rw [hg, impl_node_cut_2.f, put_flat u k acc hw.1 (by omega) (by omega), Option.bind_some, Option.bind_some, wrap_nat (by omega)]
    have := put_flats us (vs ++ [u]) k t (acc ++ flat u) (by rw [ha]; simp) hw.2 (by omega) (by simp; omega) (by simp; omega)
    rw [show ((vs ++ [u]).length : Int) = ((vs.length + 1 : Nat) : Int) by simp] at this
    rw [this]; simp [flats]
end
theorem cells_flat (t : Tm) (k : Nat) (hw : Wf t) (hl : (flat t).length ≤ 100000) (hk : 400000 < k) : impl_node_cells.f k t = some (flat t) := by
  rw [impl_node_cells.f, put_flat t k [] hw (by omega) (by simp; omega)]; simp
/-! ### a substitution that is valid -/
def OkSub (xs : List Binding) : Prop := ∀ j (h : j < xs.length), okT xs[j].term = true ∧ 0 ≤ xs[j].var ∧ xs[j].var ≤ 1000000 ∧ ∀ i (hi : i < j), (xs[i]'(Nat.lt_trans hi h)).var < xs[j].var
theorem sub_valid (xs : List Binding) (hb : ∀ x, x ∈ xs → x.term.length ≤ 1048576) (hl : xs.length ≤ 1000) : ∀ (m k i : Nat), xs.length - i = m → i ≤ xs.length → m + 1100000 < k → ∃ b, spec_l5valid.l0 k xs (i : Int) = some b ∧ impl_validSub.l0 k xs (i : Int) = some b ∧
    (b = true → ∀ j (h : j < xs.length), i ≤ j → okT xs[j].term = true ∧ 0 ≤ xs[j].var ∧ xs[j].var ≤ 1000000 ∧ ∀ q, j = q + 1 → ∀ hq : q < xs.length, xs[q].var < xs[j].var) := by
  intro m
  induction m with
  | zero =>
    intro k i h1 h2 h3
    obtain ⟨k, rfl⟩ : ∃ q, k = q + 1 := ⟨k - 1, by omega⟩
    rw [spec_l5valid.l0, impl_validSub.l0, if_neg (by omega), if_neg (by omega)]
    exact ⟨true, rfl, rfl, fun _ j h h4 => by omega⟩
  | succ m ih =>
    intro k i h1 h2 h3
    obtain ⟨k, rfl⟩ : ∃ q, k = q + 1 := ⟨k - 1, by omega⟩
    have hi : i < xs.length := by omega
    have hbi := hb _ (List.getElem_mem hi)
    rw [spec_l5valid.l0, impl_validSub.l0, if_pos (show (i : Int) < (xs.length : Int) by omega), if_pos (show (0 : Int) ≤ (i : Int) by omega), if_pos (show (i : Int) < (xs.length : Int) by omega), if_pos (show (0 : Int) ≤ (i : Int) by omega), Int.toNat_natCast, getD_at hi, valid_val _ _ (by omega) (by omega), valid_val' _ _ (by omega) (by omega), Option.bind_some, Option.bind_some, wrap_nat (by omega)]
    by_cases c1 : xs[i].var < 0
    · rw [if_pos c1, if_pos c1]; exact ⟨false, rfl, rfl, fun h => by cases h⟩
    rw [if_neg c1, if_neg c1]
    by_cases c2 : xs[i].var > 1000000
    · rw [if_pos c2, if_pos c2]; exact ⟨false, rfl, rfl, fun h => by cases h⟩
    rw [if_neg c2, if_neg c2]
    obtain ⟨b, e1, e2, e3⟩ := ih k (i + 1) (by omega) (by omega) (by omega)
    rw [e1, e2]
    by_cases c3 : (i : Int) > 0
    · have hw : IntKind.i64.wrap ((i : Int) - 1) = ((i - 1 : Nat) : Int) := by rw [wrap_id (by omega) (by omega)]; omega
      have hi1 : i - 1 < xs.length := by omega
      rw [if_pos c3, hw, if_pos (show (0 : Int) ≤ ((i - 1 : Nat) : Int) by omega), if_pos (show ((i - 1 : Nat) : Int) < (xs.length : Int) by omega), Int.toNat_natCast, getD_at hi1]
      by_cases c4 : xs[i - 1].var ≥ xs[i].var
      · rw [if_pos c4]; exact ⟨false, rfl, rfl, fun h => by cases h⟩
      · rw [if_neg c4]
        cases hv : okT xs[i].term with
        | false => exact ⟨false, rfl, rfl, fun h => by cases h⟩
        | true =>
          rw [if_neg (by simp)]
          refine ⟨b, rfl, rfl, fun hbt j h h4 => ?_⟩
          rcases Nat.lt_or_ge i j with h5 | h5
          · exact e3 hbt j h h5
          · obtain rfl : i = j := by omega
            exact ⟨hv, by omega, by omega, fun q hq hq2 => by
              have : i - 1 = q := by omega
              subst this; omega⟩
    · rw [if_neg c3]
      cases hv : okT xs[i].term with
      | false => exact ⟨false, rfl, rfl, fun h => by cases h⟩
      | true =>
        rw [if_neg (by simp)]
        refine ⟨b, rfl, rfl, fun hbt j h h4 => ?_⟩
        rcases Nat.lt_or_ge i j with h5 | h5
        · exact e3 hbt j h h5
        · obtain rfl : i = j := by omega
          exact ⟨hv, by omega, by omega, fun q hq hq2 => by omega⟩
theorem sub_ok (xs : List Binding) (k : Nat) (hb : ∀ x, x ∈ xs → x.term.length ≤ 1048576) (hk : 2000000 < k) : ∃ b, spec_l5valid.f k xs = some b ∧ impl_validSub.f k xs = some b ∧ (b = true → xs.length ≤ 1000 ∧ OkSub xs) := by
  rw [spec_l5valid.f, impl_validSub.f]
  by_cases h : (xs.length : Int) > 1000
  · rw [if_pos h, if_pos h]; exact ⟨false, rfl, rfl, fun h => by cases h⟩
  rw [if_neg h, if_neg h]
  obtain ⟨b, e1, e2, e3⟩ := sub_valid xs hb (by omega) xs.length k 0 rfl (by omega) (by omega)
  refine ⟨b, e1, e2, fun hbt => ⟨by omega, fun j hj => ?_⟩⟩
  have f := e3 hbt
  obtain ⟨g1, g2, g3, _⟩ := f j hj (Nat.zero_le _)
  refine ⟨g1, g2, g3, fun i hi => ?_⟩
  have key : ∀ d i (hd : i + d + 1 < xs.length), (xs[i]'(by omega)).var < (xs[i + d + 1]'hd).var := by
    intro d
    induction d with
    | zero => intro i hd; exact (f (i + 0 + 1) hd (Nat.zero_le _)).2.2.2 i rfl (by omega)
    | succ d ih =>
      intro i hd
      have a := ih i (by omega)
      have b := (f (i + (d + 1) + 1) hd (Nat.zero_le _)).2.2.2 (i + d + 1) (by omega) (by omega)
      omega
  have := key (j - i - 1) i (by omega)
  have e : i + (j - i - 1) + 1 = j := by omega
  simp only [e] at this
  exact this
def lk : List Binding → Int → Option (List Cell)
  | [], _ => none
  | b :: bs, v => if b.var = v then some b.term else lk bs v
theorem lk_none : ∀ (bs : List Binding) (v : Int), (∀ b, b ∈ bs → b.var ≠ v) → lk bs v = none
  | [], v, _ => rfl
  | b :: bs, v, h => by rw [lk, if_neg (h b (.head _))]; exact lk_none bs v fun c hc => h c (.tail _ hc)
theorem lk_app : ∀ (ds bs : List Binding) (v : Int), lk (ds ++ bs) v = (lk ds v).or (lk bs v)
  | [], bs, v => rfl
  | a :: ds, bs, v => by
    simp only [List.cons_append, lk]
    split
    · rfl
    · exact lk_app ds bs v
theorem lk_at (xs : List Binding) (h : OkSub xs) (j : Nat) (hj : j < xs.length) : lk xs xs[j].var = some xs[j].term := by
  have e : xs = xs.take j ++ xs[j] :: xs.drop (j + 1) := by rw [← List.drop_eq_getElem_cons hj, List.take_append_drop]
  have : lk (xs.take j ++ xs[j] :: xs.drop (j + 1)) xs[j].var = some xs[j].term := by
    rw [lk_app, lk_none (xs.take j) xs[j].var (fun b hb => ?_)]
    · rw [lk, if_pos rfl]; rfl
    · obtain ⟨i, hi, rfl⟩ := List.getElem_of_mem hb
      rw [List.length_take] at hi
      rw [List.getElem_take]
      have := (h j hj).2.2.2 i (by omega)
      omega
  rw [← e] at this
  exact this
theorem index_val (xs : List Binding) (v : Int) (k : Nat) (h : OkSub xs) (hl : xs.length ≤ 1000) (hk : 1001 < k) : ∃ r, spec_l5index.f k xs v = some r ∧ ((∃ (j : Nat) (hj : j < xs.length), r = (j : Int) ∧ xs[j].var = v) ∨ (r = -1 ∧ ∀ b, b ∈ xs → b.var ≠ v)) := by
  rw [spec_l5index.f]
  have key : ∀ (d k lo hi : Nat), hi - lo = d → lo ≤ hi → hi ≤ xs.length → d < k → (∀ i (q : i < xs.length), i < lo → xs[i].var < v) → (∀ i (q : i < xs.length), hi ≤ i → v ≤ xs[i].var) →
      ∃ r, spec_l5index.l0 k xs v (lo : Int) (hi : Int) = some r ∧ ((∃ (j : Nat) (hj : j < xs.length), r = (j : Int) ∧ xs[j].var = v) ∨ (r = -1 ∧ ∀ b, b ∈ xs → b.var ≠ v)) := by
    intro d
    induction d using Nat.strongRecOn with
    | _ d ih =>
      intro k lo hi h1 h2 h3 h4 h5 h6
      obtain ⟨k, rfl⟩ : ∃ q, k = q + 1 := ⟨k - 1, by omega⟩
      rw [spec_l5index.l0]
      by_cases hlt : (lo : Int) < (hi : Int)
      · have hm : IntKind.i64.wrap (Int.tdiv (IntKind.i64.wrap ((lo : Int) + (hi : Int))) 2) = (((lo + hi) / 2 : Nat) : Int) := by
          rw [wrap_id (n := (lo : Int) + (hi : Int)) (by omega) (by omega)]
          have : Int.tdiv ((lo : Int) + (hi : Int)) 2 = (((lo + hi) / 2 : Nat) : Int) := rfl
          rw [this, wrap_id (by omega) (by omega)]
        have hmid : (lo + hi) / 2 < xs.length := by omega
        rw [if_pos hlt, hm, if_pos (by omega), if_pos (by omega), Int.toNat_natCast, getD_at hmid]
        by_cases hv : xs[(lo + hi) / 2].var < v
        · rw [if_pos hv, wrap_nat (by omega)]
          refine ih (hi - ((lo + hi) / 2 + 1)) (by omega) k ((lo + hi) / 2 + 1) hi rfl (by omega) h3 (by omega) (fun i q hi2 => ?_) h6
          rcases Nat.lt_or_ge i ((lo + hi) / 2) with h7 | h7
          · have := (h _ hmid).2.2.2 i h7; omega
          · have : i = (lo + hi) / 2 := by omega
            subst this; exact hv
        · rw [if_neg hv]
          refine ih ((lo + hi) / 2 - lo) (by omega) k lo ((lo + hi) / 2) rfl (by omega) (by omega) (by omega) h5 (fun i q hi2 => ?_)
          rcases Nat.lt_or_ge ((lo + hi) / 2) i with h7 | h7
          · have := (h i q).2.2.2 _ h7; omega
          · have : i = (lo + hi) / 2 := by omega
            subst this; omega
      · rw [if_neg hlt]
        have none_ : (∀ (q : lo < xs.length), xs[lo].var ≠ v) → ∀ b, b ∈ xs → b.var ≠ v := fun hq b hb => by
          obtain ⟨i, hi2, rfl⟩ := List.getElem_of_mem hb
          rcases Nat.lt_or_ge i lo with h7 | h7
          · have := h5 i hi2 h7; omega
          · rcases Nat.lt_or_ge lo i with h8 | h8
            · have a := (h i hi2).2.2.2 lo h8
              have b := h6 lo (by omega) (by omega)
              omega
            · have : i = lo := by omega
              subst this; exact hq hi2
        by_cases hlo : (lo : Int) < (xs.length : Int)
        · have hlo' : lo < xs.length := by omega
          rw [if_pos hlo, if_pos (by omega), Int.toNat_natCast, getD_at hlo']
          by_cases hv : xs[lo].var = v
          · rw [if_pos hv]; exact ⟨_, rfl, .inl ⟨lo, hlo', rfl, hv⟩⟩
          · rw [if_neg hv]; exact ⟨_, rfl, .inr ⟨rfl, none_ fun _ => hv⟩⟩
        · rw [if_neg hlo]; exact ⟨_, rfl, .inr ⟨rfl, none_ fun q => by omega⟩⟩
  exact key xs.length k 0 xs.length rfl (by omega) (by omega) (by omega) (fun i q h => by omega) (fun i q h => by omega)
/-! ### FnExactApply -/
def rep (bs : List Binding) (c : Cell) : List Cell := if c.kind = 0 then (lk bs c.n).getD [c] else [c]
def apl (bs : List Binding) : List Cell → List Cell → List Cell × Int
  | [], out => (out, 0)
  | c :: cs, out => if ((out ++ rep bs c).length : Int) > 2000 then ([], 3) else apl bs cs (out ++ rep bs c)
theorem lk_ok {bs : List Binding} (h : OkSub bs) {v : Int} {t : List Cell} (ht : lk bs v = some t) : okT t = true := by
  have : ∀ l : List Binding, (∀ b, b ∈ l → okT b.term = true) → ∀ t, lk l v = some t → okT t = true := by
    intro l
    induction l with
    | nil => intro _ t h; cases h
    | cons b l ih =>
      intro hb t h
      rw [lk] at h
      split at h
      · injection h with h; subst h; exact hb b (.head _)
      · exact ih (fun c hc => hb c (.tail _ hc)) t h
  exact this bs (fun b hb => by obtain ⟨i, hi, rfl⟩ := List.getElem_of_mem hb; exact (h i hi).1) t ht
theorem rep_ok {bs : List Binding} (h : OkSub bs) {c : Cell} (hc : Okc c) : (rep bs c).length ≤ 2000 ∧ ∀ d, d ∈ rep bs c → Okc d := by
  have one : ([c] : List Cell).length ≤ 2000 ∧ ∀ d, d ∈ [c] → Okc d := ⟨by simp, fun d hd => by rw [List.mem_singleton.1 hd]; exact hc⟩
  unfold rep
  split
  · cases hl : lk bs c.n with
    | none => exact one
    | some t =>
      obtain ⟨h1, u, rfl, hw⟩ := (okT_iff t).1 (lk_ok h hl)
      exact ⟨h1, flat_ok u hw⟩
  · exact one
theorem apl_ok (bs : List Binding) (h : OkSub bs) : ∀ (cs out : List Cell), (∀ c, c ∈ cs → Okc c) → (∀ c, c ∈ out → Okc c) → out.length ≤ 2000 → (apl bs cs out).1.length ≤ 2000 ∧ ∀ d, d ∈ (apl bs cs out).1 → Okc d
  | [], out, _, h2, h3 => ⟨h3, h2⟩
  | c :: cs, out, h1, h2, h3 => by
    rw [apl]
    split
    · exact ⟨by simp, fun d hd => by cases hd⟩
    · refine apl_ok bs h cs _ (fun d hd => h1 d (.tail _ hd)) (fun d hd => ?_) (by omega)
      rcases List.mem_append.1 hd with hd | hd
      · exact h2 d hd
      · exact (rep_ok h (h1 c (.head _))).2 d hd
theorem spec_apply (bs : List Binding) (t : List Cell) (hl : bs.length ≤ 1000) (h : OkSub bs) (ht : t.length ≤ 2000) (hok : ∀ c, c ∈ t → Okc c) : ∀ (m k i : Nat) (out : List Cell), t.length - i = m → i ≤ t.length → 2 * m + 10000 < k → out.length ≤ 2000 → spec_Apply.l0 k bs t out (i : Int) = some (apl bs (t.drop i) out) := by
  intro m
  induction m with
  | zero =>
    intro k i out h1 h2 h3 h4
    obtain ⟨k, rfl⟩ : ∃ q, k = q + 1 := ⟨k - 1, by omega⟩
    rw [spec_Apply.l0, if_neg (by omega), List.drop_of_length_le (by omega)]; rfl
  | succ m ih =>
    intro k i out h1 h2 h3 h4
    obtain ⟨k, rfl⟩ : ∃ q, k = q + 2 := ⟨k - 2, by omega⟩
    have hi : i < t.length := by omega
    have hci := hok _ (List.getElem_mem hi)
    have one : spec_Apply.l1 (k + 1) bs t out (i : Int) (-1) = if ((out ++ [t[i]]).length : Int) > 2000 then some ([], 3) else some (apl bs (t.drop (i + 1)) (out ++ [t[i]])) := by
      have cut : (t.drop (i : Int).toNat).take (((i + 1 : Nat) : Int).toNat - (i : Int).toNat) = [t[i]] := by
        rw [Int.toNat_natCast, Int.toNat_natCast, Nat.add_sub_cancel_left, List.drop_eq_getElem_cons hi]; rfl
      rw [spec_Apply.l1, if_neg (by omega), if_pos (by omega), wrap_nat (by omega), if_pos (by omega), if_pos (by omega), cut, l2copy_val _ _ (by simp) (fun c hc => by rw [List.mem_singleton.1 hc]; exact Nat.le_trans hci.text (by decide)) (by simp; omega), Option.bind_some, if_pos (by simp; omega)]
      split
      · rfl
      · rename_i hq
        exact ih k (i + 1) _ (by omega) (by omega) (by omega) (by omega)
    rw [spec_Apply.l0, if_pos (by omega), if_pos (by omega), Int.toNat_natCast, getD_at hi, List.drop_eq_getElem_cons hi, apl]
    by_cases hk : t[i].kind = 0
    · obtain ⟨r, e1, e2⟩ := index_val bs t[i].n (k + 1) h hl (by omega)
      rw [if_pos hk, e1, Option.bind_some]
      rcases e2 with ⟨j, hj, rfl, e3⟩ | ⟨rfl, e3⟩
      · have hlk : lk bs t[i].n = some bs[j].term := by rw [← e3]; exact lk_at bs h j hj
        have hrep : rep bs t[i] = bs[j].term := by unfold rep; rw [if_pos hk, hlk]; rfl
        have hjo := rep_ok h hci
        rw [hrep] at hjo ⊢
        rw [spec_Apply.l1, if_pos (by omega), if_pos (by omega), if_pos (by omega), Int.toNat_natCast, getD_at hj, l2copy_val _ _ (by omega) (fun c hc => Nat.le_trans (hjo.2 c hc).text (by decide)) (by omega), Option.bind_some, if_pos (by omega), wrap_nat (by omega)]
        split
        · rfl
        · exact ih k (i + 1) _ (by omega) (by omega) (by omega) (by omega)
      · have hrep : rep bs t[i] = [t[i]] := by unfold rep; rw [if_pos hk, lk_none bs _ e3]; rfl
        rw [one, hrep]
        split <;> rfl
    · have hrep : rep bs t[i] = [t[i]] := by unfold rep; rw [if_neg hk]
      rw [if_neg hk, one, hrep]
      split <;> rfl
theorem impl_map (bs : List Binding) (t : List Cell) (hl : bs.length ≤ 1000) (h : OkSub bs) : ∀ (m k i : Nat) (M : List (Int × List Cell)), bs.length - i = m → i ≤ bs.length → m < k → (∀ v, mget M v = lk (bs.take i) v) → ∃ M', impl_Apply.l0 k bs t (i : Int) M = impl_Apply.l1 (k - m - 1) t M' [] 0 ∧ ∀ v, mget M' v = lk bs v := by
  intro m
  induction m with
  | zero =>
    intro k i M h1 h2 h3 h4
    obtain ⟨k, rfl⟩ : ∃ q, k = q + 1 := ⟨k - 1, by omega⟩
    rw [impl_Apply.l0, if_neg (by omega)]
    rw [List.take_of_length_le (by omega)] at h4
    exact ⟨M, rfl, h4⟩
  | succ m ih =>
    intro k i M h1 h2 h3 h4
    obtain ⟨k, rfl⟩ : ∃ q, k = q + 1 := ⟨k - 1, by omega⟩
    have hi : i < bs.length := by omega
    rw [impl_Apply.l0, if_pos (by omega), if_pos (by omega), Int.toNat_natCast, getD_at hi, wrap_nat (by omega)]
    obtain ⟨M', e1, e2⟩ := ih k (i + 1) (mset M bs[i].var bs[i].term) (by omega) (by omega) (by omega) (fun v => by
      rw [mget_mset, List.take_add_one, List.getElem?_eq_getElem hi, lk_app, h4 v]
      by_cases hv : v = bs[i].var
      · rw [if_pos hv, lk_none (bs.take i) v (fun b hb => ?_)]
        · simp [lk, hv]
        · obtain ⟨j, hj, rfl⟩ := List.getElem_of_mem hb
          rw [List.length_take] at hj
          rw [List.getElem_take]
          have := (h i hi).2.2.2 j (by omega)
          omega
      · rw [if_neg hv]
        have : ¬ bs[i].var = v := fun q => hv q.symm
        simp [lk, this])
    exact ⟨M', by rw [e1]; congr 1; omega, e2⟩
theorem impl_apply (bs : List Binding) (t : List Cell) (M : List (Int × List Cell)) (h : OkSub bs) (hM : ∀ v, mget M v = lk bs v) (ht : t.length ≤ 2000) (hok : ∀ c, c ∈ t → Okc c) : ∀ (m k i : Nat) (out : List Cell), t.length - i = m → i ≤ t.length → m + 500000 < k → out.length ≤ 2000 → impl_Apply.l1 k t M out (i : Int) = some (apl bs (t.drop i) out) := by
  intro m
  induction m with
  | zero =>
    intro k i out h1 h2 h3 h4
    obtain ⟨k, rfl⟩ : ∃ q, k = q + 1 := ⟨k - 1, by omega⟩
    rw [impl_Apply.l1, if_neg (by omega), List.drop_of_length_le (by omega)]; rfl
  | succ m ih =>
    intro k i out h1 h2 h3 h4
    obtain ⟨k, rfl⟩ : ∃ q, k = q + 1 := ⟨k - 1, by omega⟩
    have hi : i < t.length := by omega
    have hci := hok _ (List.getElem_mem hi)
    have htx := hci.text
    rw [impl_Apply.l1, if_pos (by omega), if_pos (by omega), Int.toNat_natCast, getD_at hi, List.drop_eq_getElem_cons hi, apl, wrap_nat (by omega), hM]
    have one : (if 0 + t[i].text.length ≤ 140737488355328 then (if out.length + 1 ≤ 3518437208883 then (if ((out ++ [t[i]]).length : Int) > 2000 then some ([], 3) else impl_Apply.l1 k t M (out ++ [t[i]]) ((i + 1 : Nat) : Int)) else none) else none) = if ((out ++ [t[i]]).length : Int) > 2000 then some (([] : List Cell), (3 : Int)) else some (apl bs (t.drop (i + 1)) (out ++ [t[i]])) := by
      rw [if_pos (by omega), if_pos (by omega)]
      split
      · rfl
      · exact ih k (i + 1) _ (by omega) (by omega) (by omega) (by omega)
    cases hl : lk bs t[i].n with
    | none =>
      have hrep : rep bs t[i] = [t[i]] := by
        unfold rep; split
        · rw [hl]; rfl
        · rfl
      rw [if_neg (by simp), one, hrep]
      split <;> rfl
    | some u =>
      rw [if_pos (by simp)]
      by_cases hk : t[i].kind = 0
      · have hrep : rep bs t[i] = u := by unfold rep; rw [if_pos hk, hl]; rfl
        obtain ⟨b1, w, rfl, b3⟩ := (okT_iff u).1 (lk_ok h hl)
        rw [if_pos hk, Option.getD_some, tree_flat w k b3 b1 (by omega), Option.bind_some, cells_flat w k b3 (by omega) (by omega), Option.bind_some, if_pos (by omega), hrep]
        split
        · rfl
        · exact ih k (i + 1) _ (by omega) (by omega) (by omega) (by omega)
      · have hrep : rep bs t[i] = [t[i]] := by unfold rep; rw [if_neg hk]
        rw [if_neg hk, one, hrep]
        split <;> rfl
theorem apply_eq (bs : List Binding) (xs : List Cell) (k : Nat) (hb : ∀ x, x ∈ bs → x.term.length ≤ 1048576) (hx : xs.length ≤ 1048576) (hk : 3000000 < k) : ∃ r : List Cell × Int, impl_Apply.f k bs xs = some r ∧ spec_Apply.f k bs xs = some r ∧ wCells r.1 ≤ 1048576 := by
  have w0 : wCells ([] : List Cell) ≤ 1048576 := by simp [wCells, wts]
  obtain ⟨b, e1, e2, e3⟩ := sub_ok bs k hb (by omega)
  rw [impl_Apply.f, spec_Apply.f, e1, e2, Option.bind_some, Option.bind_some]
  cases b with
  | false => exact ⟨([], 1), rfl, rfl, w0⟩
  | true =>
    obtain ⟨hl, hs⟩ := e3 rfl
    simp only [valid_val xs k (by omega) (by omega), valid_val' xs k (by omega) (by omega), Option.bind_some, eq_self, not_true_eq_false, if_false]
    cases hv : okT xs with
    | false => exact ⟨([], 1), rfl, rfl, w0⟩
    | true =>
      obtain ⟨a1, t, rfl, a3⟩ := (okT_iff xs).1 hv
      have hok := flat_ok t a3
      simp only [eq_self, not_true_eq_false, if_false]
      obtain ⟨M', f1, f2⟩ := impl_map bs (flat t) hl hs bs.length k 0 [] rfl (by omega) (by omega) (fun v => by simp [mget, lk])
      have g1 := impl_apply bs (flat t) M' hs f2 a1 hok (flat t).length (k - bs.length - 1) 0 [] rfl (by omega) (by omega) (by simp)
      have g2 := spec_apply bs (flat t) hl hs a1 hok (flat t).length k 0 [] rfl (by omega) (by omega) (by simp)
      rw [show ((0 : Nat) : Int) = 0 from rfl] at f1 g1 g2
      rw [List.drop_zero] at g1 g2
      obtain ⟨q1, q2⟩ := apl_ok bs hs (flat t) [] hok (fun c hc => by cases hc) (by simp)
      have := wCells_ok q2
      exact ⟨apl bs (flat t) [], by rw [f1, g1], g2, by omega⟩
theorem l2find_val (vs : List Int) (x : Int) (k : Nat) (hl : vs.length ≤ 1048576) (hk : vs.length < k) : ∃ r, spec_l2find.f k vs x = some r ∧ (r < 0 ↔ x ∉ vs) := by
  rw [spec_l2find.f]
  have key : ∀ (m k i : Nat), vs.length - i = m → i ≤ vs.length → m < k → ∃ r, spec_l2find.l0 k vs x (i : Int) = some r ∧ (r < 0 ↔ x ∉ vs.drop i) := by
    intro m
    induction m with
    | zero =>
      intro k i h1 h2 h3
      obtain ⟨k, rfl⟩ : ∃ q, k = q + 1 := ⟨k - 1, by omega⟩
      rw [spec_l2find.l0, if_neg (by omega), List.drop_of_length_le (by omega)]
      exact ⟨-1, rfl, by simp⟩
    | succ m ih =>
      intro k i h1 h2 h3
      obtain ⟨k, rfl⟩ : ∃ q, k = q + 1 := ⟨k - 1, by omega⟩
      have hi : i < vs.length := by omega
      rw [spec_l2find.l0, if_pos (by omega), if_pos (by omega), Int.toNat_natCast, getD_at hi, List.drop_eq_getElem_cons hi]
      by_cases h : vs[i] = x
      · rw [if_pos h]; exact ⟨i, rfl, by simp [h]⟩
      · rw [if_neg h, wrap_nat (by omega)]
        obtain ⟨r, e1, e2⟩ := ih k (i + 1) (by omega) (by omega) (by omega)
        exact ⟨r, e1, e2.trans ⟨fun a b => (List.mem_cons.1 b).elim (fun q => h q.symm) a, fun a b => a (.tail _ b)⟩⟩
  exact key vs.length k 0 rfl (by omega) hk
/-! ### numbering the variables -/
def num : List Int → Int → Nat
  | [], _ => 0
  | x :: xs, v => if x = v then 0 else num xs v + 1
theorem num_eq {x v : Int} {xs : List Int} (h : x = v) : num (x :: xs) v = 0 := by simp [num, h]
theorem num_ne {x v : Int} {xs : List Int} (h : ¬ x = v) : num (x :: xs) v = num xs v + 1 := by simp [num, h]
theorem num_app : ∀ (vs ws : List Int) (v : Int), v ∈ vs → num (vs ++ ws) v = num vs v
  | [], ws, v, h => by cases h
  | x :: vs, ws, v, h => by
    by_cases hx : x = v
    · simp [num, hx]
    · have h2 : v ∈ vs := (List.mem_cons.1 h).elim (fun q => absurd q.symm hx) id
      simp [num, hx, num_app vs ws v h2]
theorem num_new : ∀ (vs : List Int) (v : Int), v ∉ vs → num (vs ++ [v]) v = vs.length
  | [], v, _ => by simp [num]
  | x :: vs, v, h => by
    have h1 : ¬ x = v := fun q => h (List.mem_cons.2 (.inl q.symm))
    have h2 : v ∉ vs := fun q => h (.tail _ q)
    simp [num, h1, num_new vs v h2]
theorem num_lt : ∀ (vs : List Int) (v : Int), v ∈ vs → num vs v < vs.length
  | [], v, h => by cases h
  | x :: vs, v, h => by
    by_cases hx : x = v
    · simp [num, hx]
    · have h2 : v ∈ vs := (List.mem_cons.1 h).elim (fun q => absurd q.symm hx) id
      have := num_lt vs v h2
      simp [num, hx]; exact this
theorem l2find_num (vs : List Int) (x : Int) (k : Nat) (hl : vs.length ≤ 1048576) (hk : vs.length < k) (hx : x ∈ vs) : spec_l2find.f k vs x = some (num vs x : Int) := by
  rw [spec_l2find.f]
  have key : ∀ (m k i : Nat), vs.length - i = m → i ≤ vs.length → m < k → x ∈ vs.drop i → spec_l2find.l0 k vs x (i : Int) = some ((i + num (vs.drop i) x : Nat) : Int) := by
    intro m
    induction m with
    | zero =>
      intro k i h1 h2 h3 h4
      rw [List.drop_of_length_le (by omega)] at h4; cases h4
    | succ m ih =>
      intro k i h1 h2 h3 h4
      obtain ⟨k, rfl⟩ : ∃ q, k = q + 1 := ⟨k - 1, by omega⟩
      have hi : i < vs.length := by omega
      rw [spec_l2find.l0, if_pos (by omega), if_pos (by omega), Int.toNat_natCast, getD_at hi]
      rw [List.drop_eq_getElem_cons hi] at h4 ⊢
      by_cases h : vs[i] = x
      · rw [if_pos h, num_eq h]; rfl
      · rw [if_neg h, wrap_nat (by omega), ih k (i + 1) (by omega) (by omega) (by omega) ((List.mem_cons.1 h4).elim (fun q => absurd q.symm h) id)]
        rw [num_ne h]; congr 2; omega
  have := key vs.length k 0 rfl (by omega) hk hx
  simpa using this
/-! ### FnExactTermVars -/
def addV (acc : List Int) (c : Cell) : List Int := if c.kind = 0 ∧ c.n ∉ acc then acc ++ [c.n] else acc
def varsC (xs : List Cell) (acc : List Int) : List Int := xs.foldl addV acc
theorem addV_len (acc : List Int) (c : Cell) : (addV acc c).length ≤ acc.length + 1 := by unfold addV; split <;> simp
theorem varsC_len : ∀ (xs : List Cell) (acc : List Int), (varsC xs acc).length ≤ acc.length + xs.length
  | [], acc => by simp [varsC]
  | x :: xs, acc => by
    have := varsC_len xs (addV acc x)
    have := addV_len acc x
    simp only [varsC, List.foldl_cons, List.length_cons] at *
    omega
theorem varsC_app (a b : List Cell) (acc : List Int) : varsC (a ++ b) acc = varsC b (varsC a acc) := by simp [varsC]
def ren (vs : List Int) (c : Cell) : Cell := if c.kind = 0 then { c with n := (num vs c.n : Int) } else c
theorem addV_pre (acc : List Int) (c : Cell) : ∃ ws, addV acc c = acc ++ ws := by unfold addV; split <;> first | exact ⟨_, rfl⟩ | exact ⟨[], by simp⟩
theorem varsC_pre : ∀ (xs : List Cell) (acc : List Int), ∃ ws, varsC xs acc = acc ++ ws
  | [], acc => ⟨[], by simp [varsC]⟩
  | x :: xs, acc => by
    obtain ⟨a, ha⟩ := addV_pre acc x
    obtain ⟨b, hb⟩ := varsC_pre xs (addV acc x)
    exact ⟨a ++ b, by show varsC xs (addV acc x) = _; rw [hb, ha, List.append_assoc]⟩
theorem addV_mem (acc : List Int) (c : Cell) (h : c.kind = 0) : c.n ∈ addV acc c := by
  unfold addV
  by_cases h2 : c.n ∈ acc
  · rw [if_neg (fun q => q.2 h2)]; exact h2
  · rw [if_pos ⟨h, h2⟩]; simp
theorem varsC_mem : ∀ (xs : List Cell) (acc : List Int) (c : Cell), c ∈ xs → c.kind = 0 → c.n ∈ varsC xs acc
  | [], acc, c, h, _ => by cases h
  | x :: xs, acc, c, h, hk => by
    show c.n ∈ varsC xs (addV acc x)
    rcases List.mem_cons.1 h with rfl | h
    · obtain ⟨ws, e⟩ := varsC_pre xs (addV acc c)
      rw [e]; exact List.mem_append_left _ (addV_mem acc c hk)
    · exact varsC_mem xs (addV acc x) c h hk
theorem ren_ext (xs : List Cell) (vs ws : List Int) (h : ∀ c, c ∈ xs → c.kind = 0 → c.n ∈ vs) : xs.map (ren (vs ++ ws)) = xs.map (ren vs) := by
  apply List.map_congr_left
  intro c hc
  unfold ren
  by_cases hk : c.kind = 0
  · rw [if_pos hk, if_pos hk, num_app vs ws _ (h c hc hk)]
  · rw [if_neg hk, if_neg hk]
/-- the map holds the numbers of those seen -/
def NumOK (m : List (Int × Int)) (acc : List Int) : Prop := m.length = acc.length ∧ ∀ v, mget m v = if v ∈ acc then some (num acc v : Int) else none
theorem mset_len {m : List (Int × Int)} {v x : Int} (h : mget m v = none) : (mset m v x).length = m.length + 1 := by
  induction m with
  | nil => rfl
  | cons p m ih =>
    unfold mget at h
    by_cases hp : p.1 = v
    · rw [if_pos hp] at h; cases h
    · rw [if_neg hp] at h
      unfold mset
      rw [if_neg hp, List.length_cons, List.length_cons, ih h]
theorem count_val (m : List (Int × Int)) (acc : List Int) (v : Int) (h : NumOK m acc) (hl : acc.length ≤ 100000) : ∃ m', impl_counter_c1.f v m 0 = some (Tm.mk 0 (num (addV acc ⟨0, v, []⟩) v : Int) [] [], m') ∧ NumOK m' (addV acc ⟨0, v, []⟩) := by
  rw [impl_counter_c1.f]
  have hv := h.2 v
  by_cases hm : v ∈ acc
  · rw [if_pos hm] at hv
    have ea : addV acc ⟨0, v, []⟩ = acc := by unfold addV; rw [if_neg (fun q => q.2 hm)]
    rw [hv, if_pos (c := (some (num acc v : Int)).isSome = true) rfl, impl_variable.f, ea]
    exact ⟨m, rfl, h⟩
  · rw [if_neg hm] at hv
    have ea : addV acc ⟨0, v, []⟩ = acc ++ [v] := by unfold addV; rw [if_pos ⟨rfl, hm⟩]
    have e : IntKind.i64.wrap (0 + (m.length : Int)) = (acc.length : Int) := by have := h.1; rw [wrap_id (by omega) (by omega)]; omega
    rw [hv, if_neg (by simp), impl_variable.f, e, ea, num_new acc v hm]
    refine ⟨_, rfl, by rw [mset_len hv, h.1]; simp, fun j => ?_⟩
    rw [mget_mset]
    by_cases hj : j = v
    · subst hj; rw [if_pos rfl, if_pos (by simp), num_new acc j hm]
    · rw [if_neg hj, h.2 j]
      by_cases hja : j ∈ acc
      · rw [if_pos hja, if_pos (by simp [hja]), num_app acc [v] j hja]
      · rw [if_neg hja, if_neg (by simp [hja, hj])]
mutual
theorem mapped_flat : ∀ (t : Tm) (k : Nat) (m : List (Int × Int)) (acc : List Int), Wf t → 4 * (flat t).length < k → (flat t).length + acc.length ≤ 100000 → NumOK m acc →
    ∃ t' m', impl_node_mapped.f k t m 0 = some (t', m') ∧ NumOK m' (varsC (flat t) acc) ∧ flat t' = (flat t).map (ren (varsC (flat t) acc)) ∧ Wf t'
  | .mk kd n s us, k, m, acc, hw, hk, hl, hs => by
    simp only [flat, List.length_cons] at hk hl
    simp only [Wf] at hw
    obtain ⟨w0, w1, w2, w6⟩ := hw
    obtain ⟨k, rfl⟩ : ∃ q, k = q + 3 := ⟨k - 3, by omega⟩
    rw [impl_node_mapped.f]
    show ∃ t' m', (if kd = 0 then (impl_counter_c1.f n m 0).bind fun t24 => some (t24.1, t24.2) else (if kd = 3 then impl_node_mapped.l0 (k + 2) (Tm.mk kd n s us) 0 0 m [] else some (Tm.mk kd n s us, m))) = some (t', m') ∧ _
    by_cases h0 : kd = 0
    · subst h0
      have hu : us = [] := w2 (by omega)
      have hs0 : s = [] := by
        rcases w0 with ⟨_, _, _, h⟩ | ⟨h, _⟩ | ⟨h, _⟩ | ⟨h, _⟩
        · exact h
        all_goals exact absurd (show (0 : Int) = _ from h) (by decide)
      subst hu; subst hs0
      obtain ⟨m', e1, e2⟩ := count_val m acc n hs (by omega)
      rw [if_pos rfl, e1, Option.bind_some]
      have hmem := addV_mem acc ⟨0, n, []⟩ rfl
      have hlen := addV_len acc ⟨0, n, []⟩
      have hnl := num_lt _ _ hmem
      refine ⟨_, m', rfl, e2, by simp [flat, flats, varsC, ren], ?_⟩
      simp only [Wf, Wfs]
      exact ⟨.inl ⟨rfl, by show (0 : Int) ≤ (num (addV acc ⟨0, n, []⟩) n : Int); omega, by show (num (addV acc ⟨0, n, []⟩) n : Int) ≤ 1000000; have : num (addV acc ⟨0, n, []⟩) n < (addV acc ⟨0, n, []⟩).length := hnl; omega, rfl⟩, by simp, by simp, trivial⟩
    rw [if_neg h0]
    have ea : addV acc ⟨kd, n, s⟩ = acc := by unfold addV; rw [if_neg (fun q => h0 q.1)]
    have ev : varsC (flat (Tm.mk kd n s us)) acc = varsC (flats us) acc := by
      simp only [flat]
      show varsC (flats us) (addV acc ⟨kd, n, s⟩) = _
      rw [ea]
    rw [ev]
    by_cases h3 : kd = 3
    · rw [if_pos h3]
      subst h3
      obtain ⟨us', m', e1, e2, e3, e4, e5⟩ := mapped_flats us [] (k + 1) (Tm.mk 3 n s us) m acc [] rfl w6 (by omega) (by omega) hs (by have := flats_len us; simp; omega) rfl
      refine ⟨Tm.mk 3 n s us', m', by have := e1; simp only [List.nil_append] at this; exact this, e2, ?_, ?_⟩
      · simp only [flat, List.map_cons, e3]
        congr 1
      · simp only [Wf]
        refine ⟨w0, fun _ => ?_, fun h => ?_, e4⟩
        · rw [e5]; exact w1 rfl
        · simp at h
    · rw [if_neg h3]
      have hu : us = [] := w2 h3
      subst hu
      refine ⟨_, m, rfl, hs, by simp [flat, flats, ren, h0], ?_⟩
      simp only [Wf]
      exact ⟨w0, w1, fun _ => trivial, w6⟩
theorem mapped_flats : ∀ (us vs : List Tm) (k : Nat) (t : Tm) (m : List (Int × Int)) (acc : List Int) (out : List Tm), t.args = vs ++ us → Wfs us → 4 * (flats us).length + 1 < k + 1 → (flats us).length + acc.length ≤ 100000 → NumOK m acc → vs.length + us.length ≤ 1000000 → out.length = vs.length →
    ∃ us' m', impl_node_mapped.l0 (k + 1) t 0 (vs.length : Int) m out = some (Tm.mk 3 t.n t.text (out ++ us'), m') ∧ NumOK m' (varsC (flats us) acc) ∧ flats us' = (flats us).map (ren (varsC (flats us) acc)) ∧ Wfs us' ∧ us'.length = us.length
  | [], vs, k, t, m, acc, out, ha, hw, hk, hl, hs, hv, ho => by
    rw [impl_node_mapped.l0, ha, if_neg (by simp)]
    exact ⟨[], m, by simp, hs, by simp [flats], by simp [Wfs], rfl⟩
  | u :: us, vs, k, t, m, acc, out, ha, hw, hk, hl, hs, hv, ho => by
    simp only [Wfs] at hw
    simp only [flats, List.length_append] at hk hl ⊢
    have hp := flat_pos u
    simp only [List.length_cons] at hv
    obtain ⟨k, rfl⟩ : ∃ q, k = q + 1 := ⟨k - 1, by omega⟩
    rw [impl_node_mapped.l0, ha, if_pos (by simp; omega), if_pos (by omega)]
    have hg : (vs ++ u :: us).getD ((vs.length : Int)).toNat (Tm.mk 0 0 [] []) = u := by
      rw [Int.toNat_natCast, List.getD_eq_getElem?_getD, List.getElem?_append_right (by omega), Nat.sub_self]; rfl
    obtain ⟨u', m1, e1, e2, e3, e4⟩ := mapped_flat u (k + 1) m acc hw.1 (by omega) (by omega) hs
    have hq := varsC_len (flat u) acc
    rw [hg, e1, Option.bind_some, if_pos (by omega), wrap_nat (by omega)]
    obtain ⟨us', m2, f1, f2, f3, f4, f5⟩ := mapped_flats us (vs ++ [u]) k t m1 (varsC (flat u) acc) (out ++ [u']) (by rw [ha]; simp) hw.2 (by omega) (by omega) e2 (by simp; omega) (by simp [ho])
    rw [show ((vs ++ [u]).length : Int) = ((vs.length + 1 : Nat) : Int) by simp] at f1
    refine ⟨u' :: us', m2, by rw [f1]; simp, by rw [varsC_app]; exact f2, ?_, by simp only [Wfs]; exact ⟨e4, f4⟩, by simp [f5]⟩
    simp only [flats]
    rw [varsC_app, List.map_append, f3, e3]
    congr 1
    obtain ⟨ws, ew⟩ := varsC_pre (flats us) (varsC (flat u) acc)
    rw [ew, ren_ext _ _ _ (fun c hc hk => varsC_mem (flat u) acc c hc hk)]
end
theorem renumbered_val (t : Tm) (k : Nat) (hw : Wf t) (hl : (flat t).length ≤ 2000) (hk : 9000 < k) : ∃ t', impl_renumbered.f k t = some t' ∧ flat t' = (flat t).map (ren (varsC (flat t) [])) ∧ Wf t' := by
  obtain ⟨t', m', e1, _, e3, e4⟩ := mapped_flat t k [] [] hw (by omega) (by simp; omega) ⟨rfl, fun v => by simp [mget]⟩
  rw [impl_renumbered.f, impl_counter.f, Option.bind_some, e1]
  exact ⟨t', rfl, e3, e4⟩
end Go.Proofs.Ytognefkopbbdnaa
