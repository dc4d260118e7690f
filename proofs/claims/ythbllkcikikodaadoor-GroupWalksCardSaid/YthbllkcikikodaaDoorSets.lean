/- The walks of group's functions on sets of slots, and of the reference's, over this seat's program. -/
import Derived.Test.YthbllkcikikodaaDoorFns
namespace Go.Proofs.YthbllkcikikodaaDoor
open Go Go.RowKit
set_option linter.unusedVariables false
set_option maxRecDepth 100000
set_option linter.unusedSimpArgs false

/-! ### Sets of slots -/
def firstF (n : Nat) : Nat := ((List.range 8).find? fun i => n.testBit i).getD 8
def nextF (n : Nat) : Nat := n &&& ((n + 255) % 256)
def cntF (n : Nat) : Nat := ((List.range 8).filter fun i => n.testBit i).length

theorem tz_any (x : Nat) (hx : x < 256) (w : World) : Calls Tryd.prog 27 #[.int .u8 (x : Int)] w fun e w' => e = .returned (.int .i64 (firstF x : Nat)) ∧ w = w' := by
  go_enter Tryd.func27, Tryd.ntmps27
  go_wp2
  go_ret
  refine ⟨ret_int ?_, rfl⟩
  clear w
  obtain ⟨n, rfl⟩ : ∃ n : Fin 256, x = n.val := ⟨⟨x, hx⟩, rfl⟩
  clear hx
  rename_i h
  revert n
  decide +kernel

theorem first_any (x : Nat) (hx : x < 256) (w : World) : Calls Tryd.prog 9 #[.int .u8 (x : Int)] w fun e w' => e = .returned (.int .i64 (firstF x : Nat)) ∧ w = w' := by
  have H := Lib.hid hx
  clear hx
  go_enter Tryd.func9, Tryd.ntmps9
  go_wp2_with (go_at_call 27; refine (tz_any _ H.out _).mono ?_; rintro e w' ⟨rfl, rfl⟩)
  go_ret
  exact ⟨ret_int (by with_reducible rfl), rfl⟩
theorem next_bits : ∀ n : Fin 256, bits .and .u8 ((n.val : Nat) : Int) (((n.val : Int) - 1) % 256) = ((nextF n.val : Nat) : Int) := by decide +kernel
theorem next_any (x : Nat) (hx : x < 256) (w : World) : Calls Tryd.prog 11 #[.int .u8 (x : Int)] w fun e w' => e = .returned (.int .u8 (nextF x : Nat)) ∧ w = w' := by
  have H := Lib.hid hx
  clear hx
  go_enter Tryd.func11, Tryd.ntmps11
  go_wp2
  go_ret
  exact ⟨ret_int (next_bits ⟨x, H.out⟩), rfl⟩
theorem sets_all : ∀ n : Fin 256, nextF n.val < 256 ∧ (n.val ≠ 0 → nextF n.val < n.val ∧ cntF (nextF n.val) + 1 = cntF n.val ∧ firstF n.val ≤ 7) ∧ cntF 0 = 0 ∧ cntF n.val ≤ 8 ∧ firstF n.val ≤ 8 := by decide +kernel
theorem slots_any (x : Nat) (w : World) : Calls Tryd.prog 28 #[.int .u8 (x : Int)] w fun e w' => e = .returned (.func (.func 31) #[] #[.pointer (some ⟨w.heap.size, 0, none⟩)]) ∧ w' = w.alloc (.cells #[.int .u8 (x : Int)] 5) := by
  go_enter Tryd.func28, Tryd.ntmps28
  go_wp2
  go_ret
  exact ⟨rfl, rfl⟩
end Go.Proofs.YthbllkcikikodaaDoor
