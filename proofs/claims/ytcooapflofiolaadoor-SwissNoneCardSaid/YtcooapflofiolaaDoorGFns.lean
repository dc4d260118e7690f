/- The walks of the functions of group and of its reference, over this seat's program. -/
import Derived.Test.YtcooapflofiolaaDoorGBase
import Derived.Test.YtcooapflofiolaaDoorSwPlain
import Derived.Lib.Hide
import Derived.Deep.QuietTactic
import Derived.BigQuiet
namespace Go.Proofs.YtcooapflofiolaaDoor
open Go Go.RowKit
set_option linter.unusedVariables false
set_option maxRecDepth 100000
set_option linter.unusedSimpArgs false

theorem ret_int {k : IntKind} {a b : Int} (h : a = b) : Ending.returned (.int k a) = .returned (.int k b) := by rw [h]

/-! ### What the functions answer, over a word's bytes -/
def ix (i : Int) : Nat := (i % 8).toNat
theorem ix_lt (i : Int) : ix i < 8 := by unfold ix; omega
theorem and7 (i : Int) : bits .and .i64 i 7 = (ix i : Int) := by
  have h1 : (BitVec.ofInt 64 i).toNat = (i % 18446744073709551616).toNat := by rw [BitVec.toNat_ofInt]; rfl
  show IntKind.i64.wrap ((BitVec.ofInt 64 i &&& BitVec.ofInt 64 7).toNat : Int) = _
  rw [BitVec.toNat_and, h1, show (BitVec.ofInt 64 7).toNat = 2 ^ 3 - 1 from rfl, Nat.and_two_pow_sub_one_eq_mod, IntWalk.i64_in _ (by omega)]
  unfold ix; omega
theorem bits_andNot_u64 (a b : Nat) (ha : a < 18446744073709551616) (hb : b < 18446744073709551616) : bits .andNot .u64 (a : Int) (b : Int) = ((andNotN a b : Nat) : Int) := by
  have h1 : (BitVec.ofInt 64 (a : Int)).toNat = a := by
    rw [BitVec.ofInt_natCast, BitVec.toNat_ofNat]; exact Nat.mod_eq_of_lt (by omega)
  have h2 : (BitVec.ofInt 64 (b : Int)).toNat = b := by
    rw [BitVec.ofInt_natCast, BitVec.toNat_ofNat]; exact Nat.mod_eq_of_lt (by omega)
  show IntKind.u64.wrap ((BitVec.ofInt 64 (a : Int) &&& ~~~BitVec.ofInt 64 (b : Int)).toNat : Int) = _
  have h3 : andNotN a b ≤ a := Nat.and_le_left
  rw [BitVec.toNat_and, BitVec.toNat_not, h1, h2, IntWalk.u64_in]
  · rfl
  · have : a &&& (2 ^ 64 - 1 - b) ≤ a := Nat.and_le_left
    omega
theorem u64_max : IntKind.u64.max = 18446744073709551615 := rfl

theorem gather_any (x : Nat) (hx : x < 18446744073709551616) (w : World) : Calls Tryd.prog 117 #[.int .u64 (x : Int)] w fun e w' => e = .returned (.int .u8 (gatherN x : Nat)) ∧ w = w' := by
  have H := Lib.hid hx
  clear hx
  go_enter Tryd.func117, Tryd.ntmps117
  go_wp2
  go_ret
  refine ⟨ret_int ?_, rfl⟩
  have e := bits_and_u64_nat x 9259542123273814144 H.out (by omega)
  rw [show ((9259542123273814144 : Nat) : Int) = 9259542123273814144 from rfl] at e
  rw [e, IntKind.wrap_u64]
  unfold gatherN
  generalize x &&& 9259542123273814144 = a
  rw [Int.natCast_emod, Int.natCast_ediv, Int.natCast_emod, Int.natCast_mul, Int.natCast_ediv]
  rfl
theorem zeros_any (x : Nat) (hx : x < 18446744073709551616) (w : World) : Calls Tryd.prog 118 #[.int .u64 (x : Int)] w fun e w' => e = .returned (.int .u64 (zerosN x : Nat)) ∧ w = w' := by
  have H := Lib.hid hx
  clear hx
  go_enter Tryd.func118, Tryd.ntmps118
  go_wp2
  go_ret
  refine ⟨ret_int ?_, rfl⟩
  have hl : (x &&& 9187201950435737471) ≤ 9187201950435737471 := Nat.and_le_right
  have e := bits_and_u64_nat x 9187201950435737471 H.out (by omega)
  rw [show ((9187201950435737471 : Nat) : Int) = 9187201950435737471 from rfl] at e
  have e2 : IntKind.u64.wrap (((x &&& 9187201950435737471 : Nat) : Int) + 9187201950435737471) = (((x &&& 9187201950435737471) + 9187201950435737471 : Nat) : Int) := by
    rw [IntWalk.u64_in _ (by omega)]; omega
  have h3 : ((x &&& 9187201950435737471) + 9187201950435737471) ||| x < 2 ^ 64 := Nat.or_lt_two_pow (by omega) (by have := H.out; omega)
  have e3 := bits_or_u64_nat ((x &&& 9187201950435737471) + 9187201950435737471) x (by omega) H.out
  have h4 : (((x &&& 9187201950435737471) + 9187201950435737471) ||| x) ||| 9187201950435737471 < 2 ^ 64 := Nat.or_lt_two_pow h3 (by omega)
  have e4 := bits_or_u64_nat (((x &&& 9187201950435737471) + 9187201950435737471) ||| x) 9187201950435737471 (by omega) (by omega)
  rw [show ((9187201950435737471 : Nat) : Int) = 9187201950435737471 from rfl] at e4
  have e5 := bits_xor_u64_nat 18446744073709551615 ((((x &&& 9187201950435737471) + 9187201950435737471) ||| x) ||| 9187201950435737471) (by omega) (by omega)
  rw [show ((18446744073709551615 : Nat) : Int) = IntKind.u64.max from rfl] at e5
  rw [e, e2, e3, e4, e5]
  rfl
theorem zerosN_lt (x : Nat) (hx : x < 18446744073709551616) : zerosN x < 18446744073709551616 := by
  have h := wd_lt (l := (bys x).map zb) ⟨rfl, fun b hb => by obtain ⟨a, ha, rfl⟩ := List.mem_map.1 hb; exact zb_lt (bys_lt x a ha)⟩
  rwa [← zeros_wd (B8.bys x), wd_bys hx] at h
theorem match_any (x h : Nat) (hx : x < 18446744073709551616) (hh : h < 256) (w : World) : Calls Tryd.prog 101 #[.int .u64 (x : Int), .int .u8 (h : Int)] w fun e w' => e = .returned (.int .u8 (mch x h : Nat)) ∧ w = w' := by
  have H := Lib.hid hx
  have e := bits_xor_u64_nat x (72340172838076673 * h) hx (by omega)
  have hy : x ^^^ (72340172838076673 * h) < 2 ^ 64 := Nat.xor_lt_two_pow (by omega) (by omega)
  rw [show ((72340172838076673 * h : Nat) : Int) = 72340172838076673 * (h : Int) by simp] at e
  have hm : gatherN (zerosN (x ^^^ (72340172838076673 * h))) = mch x h := by
    have := match_wd (B8.bys x) hh
    rw [wd_bys hx] at this
    exact this
  generalize x ^^^ (72340172838076673 * h) = y at *
  have HY : Hid (y < 18446744073709551616) := hy
  have HM := Lib.hid hm
  clear hx hy hm
  go_enter Tryd.func101, Tryd.ntmps101
  go_wp2_with (first | (go_at_call 118; refine (zeros_any _ HY.out _).mono ?_; rintro e w' ⟨rfl, rfl⟩) | (go_at_call 117; refine (gather_any _ (zerosN_lt _ HY.out) _).mono ?_; rintro e w' ⟨rfl, rfl⟩))
  go_ret
  exact ⟨ret_int (by rw [HM.out]), rfl⟩
theorem empties_any (x : Nat) (hx : x < 18446744073709551616) (w : World) : Calls Tryd.prog 67 #[.int .u64 (x : Int)] w fun e w' => e = .returned (.int .u8 (mch x 128 : Nat)) ∧ w = w' := by
  have H := Lib.hid hx
  clear hx
  go_enter Tryd.func67, Tryd.ntmps67
  go_wp2_with (go_at_call 101; refine (match_any _ 128 H.out (by omega) _).mono ?_; rintro e w' ⟨rfl, rfl⟩)
  go_ret
  exact ⟨ret_int (by with_reducible rfl), rfl⟩
theorem free_any (x : Nat) (hx : x < 18446744073709551616) (w : World) : Calls Tryd.prog 104 #[.int .u64 (x : Int)] w fun e w' => e = .returned (.int .u8 (fre x : Nat)) ∧ w = w' := by
  have H := Lib.hid hx
  clear hx
  go_enter Tryd.func104, Tryd.ntmps104
  go_wp2_with fail
  refine (match_any _ 128 H.out (by omega) _).mono ?_
  rintro e w' ⟨rfl, rfl⟩
  go_wp2_with fail
  refine (match_any _ 254 H.out (by omega) _).mono ?_
  rintro e w' ⟨rfl, rfl⟩
  go_wp2
  go_ret
  refine ⟨ret_int ?_, rfl⟩
  have h1 := mch_lt x 128
  have h2 := mch_lt x 254
  have e := (bits_nat .u8 8 (by decide) wraps_u8 (mch x 128) (mch x 254) h1 h2).2
  rw [e]
  unfold mch fre
  rw [setOf_or]
  intro b hb
  simp at hb ⊢
  omega
theorem get_any (x : Nat) (i : Int) (hx : x < 18446744073709551616) (w : World) (hS : Sh w) : Calls Tryd.prog 105 #[.int .u64 (x : Int), .int .i64 i] w fun e w' => e = .returned (.int .u8 (gt x (ix i) : Nat)) ∧ w = w' := by
  have hi := and7 i
  have hk := ix_lt i
  have H := Lib.hid hx
  generalize ix i = k at *
  have hc := hS k hk
  clear hx
  go_enter Tryd.func105, Tryd.ntmps105
  go_wp2
  go_ret
  refine ⟨ret_int ?_, rfl⟩
  have := get_wd (B8.bys x) k hk
  rw [wd_bys H.out] at this
  unfold gt
  rw [← this]
  simp
theorem set_any (x c : Nat) (i : Int) (hx : x < 18446744073709551616) (hcc : c < 256) (w : World) (hS : Sh w) : Calls Tryd.prog 68 #[.int .u64 (x : Int), .int .i64 i, .int .u8 (c : Int)] w fun e w' => e = .returned (.int .u64 (st x (ix i) c : Nat)) ∧ w = w' := by
  have hi := and7 i
  have hk := ix_lt i
  have H := Lib.hid hx
  generalize ix i = k at *
  have hc := hS k hk
  clear hx
  go_enter Tryd.func68, Tryd.ntmps68
  go_wp2
  go_ret
  refine ⟨ret_int ?_, rfl⟩
  have hs := set_wd (B8.bys x) k hk hcc
  rw [wd_bys H.out] at hs
  have hp : 2 ^ (8 * k) ≤ 2 ^ 56 := Nat.pow_le_pow_right (by decide) (by omega)
  have e1 : IntKind.u64.wrap (255 * 2 ^ (8 * k)) = ((255 * 2 ^ (8 * k) : Nat) : Int) := by
    rw [show (255 * 2 ^ (8 * k) : Int) = ((255 * 2 ^ (8 * k) : Nat) : Int) by push_cast; rfl]
    exact IntWalk.u64_in _ (by omega)
  have hq : c * 2 ^ (8 * k) ≤ 255 * 2 ^ 56 := Nat.mul_le_mul (by omega) hp
  have e2 : IntKind.u64.wrap ((c : Int) * 2 ^ (8 * k)) = ((c * 2 ^ (8 * k) : Nat) : Int) := by
    rw [show ((c : Int) * 2 ^ (8 * k)) = ((c * 2 ^ (8 * k) : Nat) : Int) by push_cast; rfl]
    exact IntWalk.u64_in _ (by omega)
  have hx := H.out
  have e3 := bits_andNot_u64 x (255 * 2 ^ (8 * k)) hx (by omega)
  have e4 := bits_or_u64_nat (andNotN x (255 * 2 ^ (8 * k))) (c * 2 ^ (8 * k)) (Nat.lt_of_le_of_lt Nat.and_le_left hx) (by omega)
  rw [e1, e2, e3, e4, hs]
  rfl
theorem full_any (x : Nat) (hx : x < 18446744073709551616) (w : World) : Calls Tryd.prog 110 #[.int .u64 (x : Int)] w fun e w' => e = .returned (.int .u8 (ful x : Nat)) ∧ w = w' := by
  have H := Lib.hid hx
  have e5 := bits_xor_u64_nat 18446744073709551615 x (by omega) hx
  rw [show ((18446744073709551615 : Nat) : Int) = IntKind.u64.max from rfl] at e5
  have hy : 18446744073709551615 ^^^ x < 2 ^ 64 := Nat.xor_lt_two_pow (by omega) (by omega)
  have hm : gatherN (18446744073709551615 ^^^ x) = ful x := by
    have := full_wd (B8.bys x)
    rwa [wd_bys hx] at this
  generalize 18446744073709551615 ^^^ x = y at *
  have HY : Hid (y < 18446744073709551616) := hy
  have HM := Lib.hid hm
  clear hx hy hm
  go_enter Tryd.func110, Tryd.ntmps110
  go_wp2_with fail
  refine (gather_any _ HY.out _).mono ?_
  rintro e w' ⟨rfl, rfl⟩
  go_wp2
  go_ret
  exact ⟨ret_int (by rw [HM.out]), rfl⟩
end Go.Proofs.YtcooapflofiolaaDoor
