import Derived.Test.YtdkbfcmekppnmaaGreatDoorProg
import Derived.Test.YtdkbfcmekppnmaaGreatDoorY16
import Derived.WalkKit
import Derived.ProofKit
import Derived.KernelRfl
import Derived.Laws.IdiomStrings
namespace Go.Proofs.YtdkbfcmekppnmaaGreatDoor
open Go.Sx Go.Sy Go.RowKit
set_option maxRecDepth 100000
theorem tzi : (IntKind.u64.wrap (bits BinOp.and IntKind.u64 16 (IntKind.u64.wrap (-16)) * 285870213051353865) / 288230376151711744).toNat = 15 := by decide +kernel
theorem tz64 (w : World) (h : w.cell? ⟨2, 15, none⟩ = some (.int .u8 4)) : Calls Tryz.prog 106 #[.int .u64 16] w fun e w' => e = .returned (.int .i64 4) ∧ w' = w := by
  have h' : w.cell? ⟨2, (IntKind.u64.wrap (bits BinOp.and IntKind.u64 16 (IntKind.u64.wrap (-16)) * 285870213051353865) / 288230376151711744).toNat, none⟩ = some (.int .u8 4) := by rw [tzi]; exact h
  have hr : 0 ≤ IntKind.u64.wrap (bits BinOp.and IntKind.u64 16 (IntKind.u64.wrap (-16)) * 285870213051353865) / 288230376151711744 ∧ IntKind.u64.wrap (bits BinOp.and IntKind.u64 16 (IntKind.u64.wrap (-16)) * 285870213051353865) / 288230376151711744 < 64 := by decide +kernel
  go_enter Tryz.func106, Tryz.ntmps106
  go_wp2
  go_ret
  exact ⟨rfl, rfl⟩
theorem tz (w : World) (h : w.cell? ⟨2, 15, none⟩ = some (.int .u8 4)) : Calls Tryz.prog 104 #[.int .u64 16] w fun e w' => e = .returned (.int .i64 4) ∧ w' = w := by
  go_enter Tryz.func104, Tryz.ntmps104
  go_wp2_with (first
    | (go_at_call 106; refine (tz64 _ h).mono ?_; rintro e w' ⟨rfl, rfl⟩)
    | go_in)
  go_ret
  exact ⟨rfl, rfl⟩
theorem pow2 (w : World) : Calls Tryz.prog 103 #[.int .i64 16] w fun e w' => e = .returned (.bool true) ∧ w' = w := by
  go_enter Tryz.func103, Tryz.ntmps103
  go_wp2
  go_ret
  exact ⟨by rw [show (bits BinOp.and IntKind.i64 16 15 == 0) = true by decide +kernel]; rfl, rfl⟩
theorem cell_alloc {w : World} {o : Obj} {a : Addr} {v : Value} (h : w.cell? a = some v) : (w.alloc o).cell? a = some v := by
  unfold World.cell? at h ⊢
  cases hb : w.heap[a.block]? with
  | none => rw [hb] at h; cases h
  | some ob =>
    have hl := (Array.getElem?_eq_some_iff.1 hb).1
    rw [Below.heap_alloc w o a.block hl, hb]; rw [hb] at h; exact h
def hexd (n : Nat) : List UInt8 := [([48, 49, 50, 51, 52, 53, 54, 55, 56, 57, 97, 98, 99, 100, 101, 102] : List UInt8).getD n 0]
theorem conv1 (w : World) (u : UInt8) : (convert 22 9 (.slice (some ⟨w.heap.size, 64, none⟩) 1 1)).run Tryz.prog (w.alloc (.cells ((Array.replicate 65 (Value.int .u8 0)).setIfInBounds 64 (.int .u8 (u.toNat : Int))) 119)) = .ok (str [u]) (w.alloc (.cells ((Array.replicate 65 (Value.int .u8 0)).setIfInBounds 64 (.int .u8 (u.toNat : Int))) 119)) := by
  refine run_convert_bytes_back (P := Tryz.prog) _ 22 9 5 ⟨w.heap.size, 64, none⟩ 1 [u] Tryz.underlying22 Tryz.underlying5 Tryz.underlying9 (fun j hj => ?_)
  have : j = 0 := by simpa using hj
  subst this
  rw [addr_add]
  refine blk_cell (heap_alloc_new w _) ?_
  show ((Array.replicate 65 (Value.int .u8 0)).setIfInBounds 64 (.int .u8 (u.toNat : Int)))[64]? = some (.int .u8 (u.toNat : Int))
  rw [Array.getElem?_setIfInBounds, if_pos rfl, if_pos (by rw [Array.size_replicate]; decide)]
theorem fbits (n : Nat) (hn : n < 16) (w : World) (h : w.cell? ⟨2, 15, none⟩ = some (.int .u8 4)) : Calls Tryz.prog 96 #[.slice none 0 0, .int .u64 n, .int .i64 16, .bool false, .bool false] w fun e w' => e = .returned (.tuple #[.slice none 0 0, str (hexd n)]) ∧ Chg no w w' := by
  have hz : ∀ w, (zeroValue 119).run Tryz.prog w = .ok (.agg (Array.replicate 65 (.int .u8 0))) w := fun w => by kernel_rfl
  go_enter Tryz.func96, Tryz.ntmps96
  go_wp2_with (first
    | (go_at_call 103; refine (pow2 _).mono ?_; rintro e w' ⟨rfl, rfl⟩)
    | (go_at_call 104; refine (tz _ (cell_alloc h)).mono ?_; rintro e w' ⟨rfl, rfl⟩)
    | go_in)
  have hn' : ¬ ((n : Int) ≥ 16) := by omega
  refine wp_loop_g (fun _ a' w' => a' = _ ∧ w' = _) 0 ⟨rfl, rfl⟩ ?_
  rintro k a' w' ⟨rfl, rfl⟩
  go_wp2
  rw [conv1]
  simp only [Result.andThen]
  rw [Oper.upon_value]
  go_wp2
  refine bodyPost_ret (results_tmp2 rfl _ _ _) rfl ⟨?_, Chg.alloc _ _⟩
  have hc : n = 0 ∨ n = 1 ∨ n = 2 ∨ n = 3 ∨ n = 4 ∨ n = 5 ∨ n = 6 ∨ n = 7 ∨ n = 8 ∨ n = 9 ∨ n = 10 ∨ n = 11 ∨ n = 12 ∨ n = 13 ∨ n = 14 ∨ n = 15 := by omega
  rcases hc with rfl | rfl | rfl | rfl | rfl | rfl | rfl | rfl | rfl | rfl | rfl | rfl | rfl | rfl | rfl | rfl <;> rfl
theorem fint2 (n : Nat) (hn : n < 16) (w : World) (h : w.cell? ⟨2, 15, none⟩ = some (.int .u8 4)) : Calls Tryz.prog 81 #[.int .i64 n, .int .i64 16] w fun e w' => e = .returned (str (hexd n)) ∧ Chg no w w' := by
  have hw : IntKind.u64.wrap (n : Int) = n := by simp [IntKind.wrap, IntKind.bits, IntKind.signed]; omega
  have hlt : ¬ ((n : Int) < 0) := by omega
  go_enter Tryz.func81, Tryz.ntmps81
  go_wp2_with (first
    | (go_at_call 96; refine (fbits n hn _ h).mono ?_; rintro e w' ⟨rfl, hC⟩))
  go_ret
  exact ⟨rfl, hC⟩
theorem fint (n : Nat) (hn : n < 16) (w : World) (h : w.cell? ⟨2, 15, none⟩ = some (.int .u8 4)) : Calls Tryz.prog 72 #[.int .i64 n, .int .i64 16] w fun e w' => e = .returned (str (hexd n)) ∧ Chg no w w' := by
  go_enter Tryz.func72, Tryz.ntmps72
  go_wp2_with (first
    | (go_at_call 81; refine (fint2 n hn _ h).mono ?_; rintro e w' ⟨rfl, hC⟩))
  go_ret
  exact ⟨rfl, hC⟩
def Laid (H : Hp) : Prop := H.cell 2 15 = some (.int .u8 4)
theorem Laid.ext {H H' : Hp} (h : Laid H) (E : Ext H H') : Laid H' := E.cell h
def strconv_FormatInt.f (n b : Int) : Option (List UInt8) := if 0 ≤ n ∧ n < 16 ∧ b = 16 then some (hexd n.toNat) else none
theorem strconv_FormatInt.calls (w : World) (H : Hp) (x1 x2 : Int) (hL_ : Laid H) (S : Own [] H w) (r : List UInt8) (M : strconv_FormatInt.f x1 x2 = some r) :
    Calls Tryz.prog 72 #[.int .i64 x1, .int .i64 x2] w (fun e e_w => e = .returned (str r) ∧ Chg no w e_w) := by
  unfold strconv_FormatInt.f at M
  obtain ⟨⟨h1, h2, h3⟩, M2⟩ := chk M
  clear M
  subst h3
  obtain rfl := Option.some.inj M2
  have e : x1 = (x1.toNat : Int) := (Int.toNat_of_nonneg h1).symm
  rw [e]
  exact fint x1.toNat (by omega) w ((hp_cell w _ _).symm.trans (S.inv.cell hL_))
end Go.Proofs.YtdkbfcmekppnmaaGreatDoor
