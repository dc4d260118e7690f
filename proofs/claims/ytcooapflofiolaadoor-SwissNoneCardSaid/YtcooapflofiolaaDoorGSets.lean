/- The walks of group's functions on sets of slots, and of the reference's, over this seat's program. -/
import Derived.Test.YtcooapflofiolaaDoorGFns
namespace Go.Proofs.YtcooapflofiolaaDoor
open Go Go.RowKit
set_option linter.unusedVariables false
set_option maxRecDepth 100000
set_option linter.unusedSimpArgs false

/-! ### Sets of slots -/
theorem tz_any (x : Nat) (hx : x < 256) (w : World) : Calls Tryd.prog 119 #[.int .u8 (x : Int)] w fun e w' => e = .returned (.int .i64 (firstF x : Nat)) ∧ w = w' := by
  go_enter Tryd.func119, Tryd.ntmps119
  go_wp2
  go_ret
  refine ⟨ret_int ?_, rfl⟩
  clear w
  obtain ⟨n, rfl⟩ : ∃ n : Fin 256, x = n.val := ⟨⟨x, hx⟩, rfl⟩
  clear hx
  rename_i h
  revert n
  decide +kernel

theorem first_any (x : Nat) (hx : x < 256) (w : World) : Calls Tryd.prog 103 #[.int .u8 (x : Int)] w fun e w' => e = .returned (.int .i64 (firstF x : Nat)) ∧ w = w' := by
  have H := Lib.hid hx
  clear hx
  go_enter Tryd.func103, Tryd.ntmps103
  go_wp2_with (go_at_call 119; refine (tz_any _ H.out _).mono ?_; rintro e w' ⟨rfl, rfl⟩)
  go_ret
  exact ⟨ret_int (by with_reducible rfl), rfl⟩
theorem next_bits : ∀ n : Fin 256, bits .and .u8 ((n.val : Nat) : Int) (((n.val : Int) - 1) % 256) = ((nextF n.val : Nat) : Int) := by decide +kernel
theorem next_any (x : Nat) (hx : x < 256) (w : World) : Calls Tryd.prog 102 #[.int .u8 (x : Int)] w fun e w' => e = .returned (.int .u8 (nextF x : Nat)) ∧ w = w' := by
  have H := Lib.hid hx
  clear hx
  go_enter Tryd.func102, Tryd.ntmps102
  go_wp2
  go_ret
  exact ⟨ret_int (next_bits ⟨x, H.out⟩), rfl⟩
end Go.Proofs.YtcooapflofiolaaDoor
