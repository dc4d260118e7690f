/- The walks of siphash's rounds and of the reference's, over this seat's program. -/
import Derived.Test.YtcooapflofiolaaDoorProg
import Derived.Test.YtcooapflofiolaaDoorSPlain
import Derived.WalkKit
import Derived.Lib.Hide
import Derived.Deep.QuietTactic
import Derived.BigQuiet
import Derived.RangeFuncBox
import Derived.Laws.ResultCell
import Derived.Deep.RegionWith
import Derived.Deep.RegionHeld3
import Derived.StillTailTactics
namespace Go.Proofs.YtcooapflofiolaaDoor.Sip
open Go Go.RowKit
set_option linter.unusedVariables false
set_option linter.unusedSimpArgs false
set_option maxRecDepth 100000

theorem ret_int {k : IntKind} {a b : Int} (h : a = b) : Ending.returned (.int k a) = .returned (.int k b) := by rw [h]

theorem and63 (k : Nat) (hk : k < 64) : bits .and .u64 (k : Int) 63 = (k : Int) := by
  have := bits_and_u64_nat k 63 (by omega) (by omega)
  rw [show ((63 : Nat) : Int) = 63 from rfl] at this
  rw [this, show (63 : Nat) = 2 ^ 6 - 1 from rfl, Nat.and_two_pow_sub_one_eq_mod]; omega
theorem rot_any (x : BitVec 64) (k : Nat) (hk : k < 64) (w : World) : Calls Tryd.prog 127 #[.int .u64 (U x), .int .i64 (k : Int)] w fun e w' => e = .returned (.int .u64 (U (x.rotateLeft k))) ∧ w = w' := by
  have h63 := and63 k hk
  obtain ⟨hx0, hx1⟩ := U_range x
  have HR := Lib.hid (U_rot x k hk)
  clear hx1
  go_enter Tryd.func127, Tryd.ntmps127
  go_wp2
  go_ret
  exact ⟨ret_int HR.out, rfl⟩
theorem half_any (x y : BitVec 64) (k : Nat) (hk : k < 64) (w : World) : Calls Tryd.prog 126 #[.int .u64 (U x), .int .u64 (U y), .int .i64 (k : Int)] w fun e w' => e = .returned (.tuple #[.int .u64 (U (x + y)), .int .u64 (U (y.rotateLeft k ^^^ (x + y)))]) ∧ w = w' := by
  have h1 := U_add x y
  have h2 := U_xor (y.rotateLeft k) (x + y)
  go_enter Tryd.func126, Tryd.ntmps126
  go_wp2_with (go_at_call 127; refine (rot_any y k hk _).mono ?_; rintro e w' ⟨rfl, rfl⟩)
  go_ret2
  exact ⟨rfl, rfl⟩
def arr (v : St) : Value := .agg #[.int .u64 (U v.a), .int .u64 (U v.b), .int .u64 (U v.c), .int .u64 (U v.d)]
theorem round_any (v : St) (w : World) : Calls Tryd.prog 113 #[arr v] w fun e w' => e = .returned (arr (rnd v)) ∧ Below w.heap.size w w' := by
  unfold arr
  go_enter Tryd.func113, Tryd.ntmps113
  go_wp2_with fail
  refine (half_any v.a v.b 13 (by omega) _).mono ?_
  rintro e w' ⟨rfl, rfl⟩
  go_wp2_with fail
  refine (rot_any _ 32 (by omega) _).mono ?_
  rintro e w' ⟨rfl, rfl⟩
  go_wp2_with fail
  refine (half_any v.c v.d 16 (by omega) _).mono ?_
  rintro e w' ⟨rfl, rfl⟩
  go_wp2_with fail
  refine (half_any _ _ 21 (by omega) _).mono ?_
  rintro e w' ⟨rfl, rfl⟩
  go_wp2_with fail
  refine (half_any _ _ 17 (by omega) _).mono ?_
  rintro e w' ⟨rfl, rfl⟩
  go_wp2_with fail
  refine (rot_any _ 32 (by omega) _).mono ?_
  rintro e w' ⟨rfl, rfl⟩
  go_wp2
  refine bodyPost_ret (v := .agg #[.int .u64 (U (rnd v).a), .int .u64 (U (rnd v).b), .int .u64 (U (rnd v).c), .int .u64 (U (rnd v).d)]) ?_ rfl ⟨rfl, ?_⟩
  · simp [results, Tryd.results113, go_sem, rnd]
  · exact ((Below.refl _ w).alloc (Nat.le_refl _) _).alloc (by simp) _
theorem rotl_any (x : BitVec 64) (k : Nat) (hk : k < 64) (w : World) : Calls Tryd.prog 128 #[.int .u64 (U x), .int .u64 (k : Int)] w fun e w' => e = .returned (.int .u64 (U (x.rotateLeft k))) ∧ w = w' := by
  obtain ⟨hx0, hx1⟩ := U_range x
  have HR := Lib.hid (U_rot x k hk)
  clear hx1
  go_enter Tryd.func128, Tryd.ntmps128
  go_wp2
  go_ret
  exact ⟨ret_int HR.out, rfl⟩
end Go.Proofs.YtcooapflofiolaaDoor.Sip
