/- siphash.Split and Sum as numbers; what a walk keeps. -/
import Derived.Test.YtcooapflofiolaaDoorSwMem
import Derived.WalkMore
import Derived.Deep.DeepCutAuto
import Derived.Deep.RegionLaw
import Derived.OpenShut
import Derived.Outline
namespace Go.Proofs.YtcooapflofiolaaDoor
open Go Go.RowKit Go.Shelf
attribute [local go_sem] Oper.semAt_some
set_option linter.unusedVariables false
set_option linter.unusedSimpArgs false
set_option maxRecDepth 100000
set_option maxHeartbeats 4000000
theorem split_any (c a b : Nat) (hc : c = 128 * a + b) (hb : b < 128) (hl : c < 18446744073709551616) (w : World) : Calls Tryd.prog 98 #[.int .u64 (c : Int)] w fun e w' => e = .returned (.tuple #[.int .u64 (a : Int), .int .u8 (b : Int)]) ∧ w = w' := by
  have e1 := bits_and_u64_nat c 127 (by omega) (by omega)
  rw [show ((127 : Nat) : Int) = 127 from rfl, show (127 : Nat) = 2 ^ 7 - 1 from rfl, Nat.and_two_pow_sub_one_eq_mod] at e1
  have e2 : (c : Int) / 128 = (a : Int) := by omega
  have e3 : (2 : Nat) ^ 7 = 128 := rfl
  rw [e3, show c % 128 = b by omega] at e1
  have E1 := Lib.hid e1
  have E2 := Lib.hid e2
  have HB := Lib.hid hb
  clear e1 e2 hc hb hl e3
  go_enter Tryd.func98, Tryd.ntmps98
  go_wp2
  go_ret2
  have e4 : (b : Int) % 256 = (b : Int) := by have := HB.out; omega
  rw [E1.out, E2.out, e4]
  exact ⟨rfl, rfl⟩
/-- A hash, parted: where and what. -/
theorem hash_parts (k0 k1 : BitVec 64) (key : ByteArray) : ∃ c a b : Nat, hashN k0 k1 key = c ∧ hashN k0 k1 key / 128 = a ∧ hashN k0 k1 key % 128 = b ∧ c = 128 * a + b ∧ b < 128 ∧ c < 18446744073709551616 :=
  ⟨_, _, _, rfl, rfl, rfl, by omega, Nat.mod_lt _ (by decide), hashN_lt _ _ _⟩
theorem sum_n (k0 k1 : BitVec 64) (s : ByteArray) (hs : s.size ≤ maxLen) {c : Nat} (hc : hashN k0 k1 s = c) (w : World) : Calls Tryd.prog 99 #[.agg #[.int .u64 (Sip.U k0), .int .u64 (Sip.U k1)], .string s] w fun e w' => e = .returned (.int .u64 (c : Int)) ∧ Below w.heap.size w w' := by
  subst hc; exact Sip.sum_any k0 k1 s hs w
end Go.Proofs.YtcooapflofiolaaDoor
