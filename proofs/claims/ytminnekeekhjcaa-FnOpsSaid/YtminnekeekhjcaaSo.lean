import Derived.Test.YtminnekeekhjcaaWkSo2
import Derived.Lib.ReflectliteSlice
import Derived.Laws.Externs
import Derived.WalkKit
import Derived.ProofKit
namespace Go.Proofs.Ytminnekeekhjcaa
open Go.Sx Go.Sy Go.RowKit
set_option linter.unusedVariables false
set_option linter.unusedSimpArgs false
set_option maxRecDepth 100000
/-! ### sort.Slice, and the program's call of it -/
noncomputable def opT : TypeInfo := (Try.prog.info? 45).get (by kernel_rfl)
noncomputable def opsT : TypeInfo := (Try.prog.info? 25).get (by kernel_rfl)
theorem opK (n : Nat) (h2 : 2 ≤ n) : Lib.swapperK n opT 25 = 9 := by
  have a : opT.hasPointers = true := by kernel_rfl
  have b : opT.bytes = 40 := by kernel_rfl
  have c : (n == 0) = false := by simp; omega
  have d : (n == 1) = false := by simp; omega
  simp [Lib.swapperK, a, b, c, d]
/-- Swapper, and what its literal does -/
theorem swapper_ok (A : Option Addr) (n c : Nat) : ∃ sf sb, (∀ w, (Extern.ReflectliteSwapper.swapper "internal/reflectlite" (Extern.ReflectliteValue.valueError "Swapper") #[.iface 25 (.slice A n c)]).run Try.prog w = .ok (.func (.func sf) #[] sb) w) ∧ SwOK Try.prog st45 45 sf sb A c n := by
  have hke : ∀ w, (Extern.Rtype.kind 45).run Try.prog w = .ok 25 w := fun w => by kernel_rfl
  have hi : Try.prog.info? 25 = some opsT := by kernel_rfl
  have hie : Try.prog.info? 45 = some opT := by kernel_rfl
  have hd : opsT.desc = .slice 45 := by kernel_rfl
  by_cases h2 : 2 ≤ n
  · refine ⟨62, #[.slice A n c, typeHandle Try.prog 45], fun w => ?_, ?_⟩
    · have := Lib.run_swapper_slice (P := Try.prog) 25 45 opsT opT hi hd hie 25 hke A n c 62 (by rw [opK n h2]; kernel_rfl) w
      rw [opK n h2] at this
      simpa using this
    · exact SwOK.of (gS := false) hie (fun _ => by kernel_rfl) (by kernel_rfl) (by decide)
        (fun args W => run_callFunc_extern Try.func62 (by kernel_rfl) (by kernel_rfl) (by kernel_rfl) (e := Extern.ReflectliteSwapper.swap false) (by kernel_rfl) args W)
  by_cases h1 : n = 1
  · subst h1
    refine ⟨55, #[], fun w => ?_, ?_⟩
    · have := Lib.run_swapper_slice (P := Try.prog) 25 45 opsT opT hi hd hie 25 hke A 1 c 55 (by kernel_rfl) w
      simpa [Lib.swapperK] using this
    · intro P0 H0 w0 F Fs H w xs S HO hn i j hi hj
      obtain rfl : i = 0 := by omega
      obtain rfl : j = 0 := by omega
      refine ⟨w, by kernel_rfl, ?_, S, fun _ _ _ _ => rfl⟩
      have : swL xs 0 0 = xs := by
        rcases xs with _ | ⟨x, _ | _⟩
        · rfl
        · rfl
        · simp at hn
      rw [this]; exact HO
  · obtain rfl : n = 0 := by omega
    refine ⟨54, #[], fun w => ?_, fun _ _ _ _ _ _ _ _ _ _ _ i j hi _ => by omega⟩
    have := Lib.run_swapper_slice (P := Try.prog) 25 45 opsT opT hi hd hie 25 hke A 0 c 54 (by kernel_rfl) w
    simpa [Lib.swapperK] using this
theorem slice_walk (A : Option Addr) (n c g : Nat) (sf : FuncId) (sb : Array Value) (lim : Int) (w : World) (H : Hp) (hH : Ext H (hp w)) (hn : n ≤ 1000)
    (hsw : ∀ w, (Extern.ReflectliteSwapper.swapper "internal/reflectlite" (Extern.ReflectliteValue.valueError "Swapper") #[.iface 25 (.slice A n c)]).run Try.prog w = .ok (.func (.func sf) #[] sb) w)
    (hlen : bits_Len.f (n : Int) = some lim) (R : World → Prop)
    (hp' : ∀ w1, Chg no w w1 → Calls Try.prog 53 #[.agg #[.func (.func 48) #[] #[.pointer (some ⟨g, 0, none⟩)], .func (.func sf) #[] sb], .int .i64 0, .int .i64 n, .int .i64 lim] w1 fun e w' => e = .returned (.tuple #[]) ∧ R w') :
    Calls Try.prog 47 #[.iface 25 (.slice A n c), .func (.func 48) #[] #[.pointer (some ⟨g, 0, none⟩)]] w fun e w' => e = .returned (.tuple #[]) ∧ R w' := by
  have hi : Try.prog.info? 25 = some opsT := by kernel_rfl
  have hd : opsT.desc = .slice 45 := by kernel_rfl
  have hv := Lib.run_valueOf_slice (P := Try.prog) 25 45 opsT hi hd A n c w
  have hl := fun a w ha => Lib.run_valueLen_slice (P := Try.prog) 25 45 opsT hi hd (by kernel_rfl) a A n c w ha
  have hg : Try.prog.globals.size = 0 := by kernel_rfl
  simp only [typeHandle, hg] at hv hl
  have wr : IntKind.u64.wrap (n : Int) = n := by simp [IntKind.wrap, IntKind.bits, IntKind.signed]; omega
  have hz : ∀ w, (zeroValue 70).run Try.prog w = .ok (.agg #[.pointer none, .pointer none, .int .u64 0]) w := fun w => by kernel_rfl
  go_enter Try.func47, Try.ntmps47
  go_wp2
  rw [run_callFunc_extern Try.func49 (by kernel_rfl) (by kernel_rfl) (by kernel_rfl) (e := fun args => Extern.ReflectliteValue.unpack (args.getD 0 (.tuple #[]))) (by kernel_rfl),
    show Sem.run Try.prog ((fun args : Array Value => Extern.ReflectliteValue.unpack (args.getD 0 (.tuple #[]))) #[.iface 25 (.slice A n c)]) w = _ from hv]
  simp only [Result.andThen]
  rw [Oper.upon_value]
  go_wp2
  rw [run_callFunc_extern Try.func50 (by kernel_rfl) (by kernel_rfl) (by kernel_rfl) (e := Extern.ReflectliteSwapper.swapper "internal/reflectlite" (Extern.ReflectliteValue.valueError "Swapper")) (by kernel_rfl), hsw]
  simp only [Result.andThen]
  rw [Oper.upon_value]
  go_wp2
  rw [run_callFunc_extern Try.func51 (by kernel_rfl) (by kernel_rfl) (by kernel_rfl) (e := Extern.ReflectliteValue.method (Extern.ReflectliteValue.valueError "reflectlite.Value.Len" 0) Extern.ReflectliteValue.len) (by kernel_rfl),
    hl _ _ (by simp)]
  simp only [Result.andThen]
  rw [Oper.upon_value]
  have C1 : Chg no w ((w.alloc (.cells #[.slice A n c] 25)).alloc (.cells #[.pointer (some ⟨0, 25, none⟩), .pointer (some ⟨w.heap.size, 0, none⟩), .int .u64 151] 70)) := (Chg.alloc _ _).trans (Chg.alloc _ _)
  have hb := bits_Len.calls ((w.alloc (.cells #[.slice A n c] 25)).alloc (.cells #[.pointer (some ⟨0, 25, none⟩), .pointer (some ⟨w.heap.size, 0, none⟩), .int .u64 151] 70)) H (n : Int)
    ((Own.nil hH).st.still C1).1.own0 lim hlen
  go_wp2_with (first
    | (go_at_call 52; refine hb.mono ?_; rintro e w' ⟨rfl, hC⟩)
    | (go_at_call 53; refine (hp' _ (C1.trans hC)).mono ?_; rintro e w' ⟨rfl, hR⟩))
  go_end0
  exact ⟨rfl, hR⟩
/-- sort.Slice as sortOps calls it -/
def impl_sortOps.f (k : Nat) (x1 : List Sy.Op) : Option (List Sy.Op) := (if x1.length ≤ 1000 then ((bits_Len.f (x1.length : Int)).bind fun l => sort_pdqsort_func.f k x1 0 (x1.length : Int) l) else none)
theorem impl_sortOps.calls (k : Nat) (w : World) (H : Hp) (x1 : List Sy.Op) (A2 : Option Addr) (c3 : Nat) (F4 : Foot) (h5 : Row st45 45 H (hp w) F4 A2 c3 x1) (S : Own [F4] H w) (r : List Sy.Op) (M : impl_sortOps.f k x1 = some r) :
    Calls Try.prog 32 #[.slice A2 x1.length c3] w (fun e e_w => ∃ (F_1 : Foot) (H_ : Hp), e = .returned (.tuple #[]) ∧ r.length = x1.length ∧ Row st45 45 H_ (hp e_w) F_1 A2 c3 r ∧ St (anyOf [F4]) H w [F_1] H_ e_w) := by
  rw [impl_sortOps.f] at M
  obtain ⟨hn, M⟩ := chk M
  obtain ⟨lim, hlim, M⟩ := bnd M
  obtain ⟨sf, sb, hsw, hok⟩ := swapper_ok A2 x1.length c3
  obtain ⟨S1, K1⟩ := S.st.alloc (.cells #[.slice A2 x1.length c3] 25)
  have S2 := S1.pull (F := F4) (Fr := [is w.heap.size]) 1 rfl rfl
  have h6 : Row st45 45 H (hp (w.alloc (.cells #[.slice A2 x1.length c3] 25))) F4 A2 c3 x1 := h5.move (K1.at 0 rfl)
  have b7 : (w.alloc (.cells #[.slice A2 x1.length c3] 25)).heap[w.heap.size]? = some (.cells #[.slice A2 x1.length c3] 25 (0, 0)) := heap_alloc_new w _
  have hs := slice_walk A2 x1.length c3 w.heap.size sf sb lim (w.alloc (.cells #[.slice A2 x1.length c3] 25)) H S2.inv hn hsw hlim
    (fun e_w => ∃ (F_1 : Foot) (H_ : Hp), r.length = x1.length ∧ Row st45 45 H_ (hp e_w) F_1 A2 c3 r ∧ St (anyOf [F4]) H w [F_1] H_ e_w) (fun w1 C => by
      obtain ⟨S3, K3⟩ := S2.still C
      have S4 : St (anyOf [F4]) H w ([F4, is w.heap.size] ++ []) H w1 := S3
      refine (sort_pdqsort_func.calls k w1 H x1 A2 c3 F4 w.heap.size sf sb 0 (x1.length : Int) lim (h6.move (K3.at 0 rfl)) (K3.blk 1 rfl b7) hok S4.own' r M).mono ?_
      rintro e w' ⟨F1, H2, rfl, q1, q2, q3, T⟩
      obtain ⟨S5, K5⟩ := S4.call T
      have S6 : St (anyOf [F4]) H w [F1, is w.heap.size] H2 w' := S5
      exact ⟨rfl, F1, H2, q1, q2, (S6.pull (F := is w.heap.size) (Fr := [F1]) 1 rfl rfl).drop⟩)
  have cc : (w.alloc (.cells #[.slice A2 x1.length c3] 25)).cell? ⟨w.heap.size, 0, none⟩ = some (.slice A2 x1.length c3) := blk_cell b7 rfl
  go_enter Try.func32, Try.ntmps32
  go_wp2_with (first
    | (go_at_call 47; refine hs.mono ?_; rintro e w' ⟨rfl, hR⟩))
  go_end0
  obtain ⟨F1, H2, q1, q2, q3⟩ := hR
  exact ⟨F1, H2, rfl, q1, q2, q3⟩
#print axioms impl_sortOps.calls
end Go.Proofs.Ytminnekeekhjcaa
