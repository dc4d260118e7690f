/- The walks of the reference's functions on groups, over this seat's program. -/
import Derived.Test.YtcooapflofiolaaDoorGSets
namespace Go.Proofs.YtcooapflofiolaaDoor
open Go Go.RowKit
set_option linter.unusedVariables false
set_option maxRecDepth 100000
set_option linter.unusedSimpArgs false

theorem tmod8_cases (i : Int) : (0 ≤ i ∧ i.tmod 8 = i % 8) ∨ (i < 0 ∧ i.tmod 8 = -((-i) % 8)) := by
  rcases Int.lt_or_le i 0 with h | h
  · right
    refine ⟨h, ?_⟩
    have : i = -(-i) := by omega
    rw [this, Int.neg_tmod, Int.tmod_eq_emod_of_nonneg (by omega)]; simp
  · exact .inl ⟨h, Int.tmod_eq_emod_of_nonneg h⟩
theorem tmod8 (i : Int) : (i.tmod 8 < 0 → i.tmod 8 + 8 = (ix i : Int)) ∧ (¬ i.tmod 8 < 0 → i.tmod 8 = (ix i : Int)) := by
  unfold ix; rcases tmod8_cases i with ⟨h, e⟩ | ⟨h, e⟩ <;> rw [e] <;> omega
theorem tmod8_b (i : Int) : -8 < i.tmod 8 ∧ i.tmod 8 < 8 := by
  rcases tmod8_cases i with ⟨h, e⟩ | ⟨h, e⟩ <;> rw [e] <;> omega
theorem refget_any (x : Nat) (i : Int) (hx : x < 18446744073709551616) (w : World) : Calls Tryd.prog 80 #[.int .u64 (x : Int), .int .i64 i] w fun e w' => e = .returned (.int .u8 (gt x (ix i) : Nat)) ∧ w = w' := by
  have hk := ix_lt i
  obtain ⟨h1, h2⟩ := tmod8 i
  have hb := tmod8_b i
  have HF : Hid (x / 2 ^ (8 * ix i) % 256 = gt x (ix i)) := by
    have := get_wd (B8.bys x) (ix i) hk
    rw [wd_bys hx] at this
    exact this
  generalize ix i = k at *
  by_cases hn : i.tmod 8 < 0
  · have h3 := h1 hn
    have hd : decide (i.tmod 8 < 0) = true := decide_eq_true hn
    clear h1 h2 hn hx
    go_enter Tryd.func80, Tryd.ntmps80
    go_wp2
    go_ret
    refine ⟨ret_int ?_, rfl⟩
    rw [← HF.out]
    simp
  · have h3 := h2 hn
    have hd : decide (i.tmod 8 < 0) = false := decide_eq_false hn
    clear h1 h2 hn hx
    go_enter Tryd.func80, Tryd.ntmps80
    go_wp2
    go_ret
    refine ⟨ret_int ?_, rfl⟩
    rw [← HF.out]
    simp
theorem st_bits (x c k : Nat) (hx : x < 18446744073709551616) (hk : k < 8) (hcc : c < 256) :
    bits BinOp.or IntKind.u64 (bits BinOp.andNot IntKind.u64 (↑x) (IntKind.u64.wrap (255 * 2 ^ (8 * k)))) (IntKind.u64.wrap ((c : Int) * 2 ^ (8 * k))) = ((st x k c : Nat) : Int) := by
  have hs := set_wd (B8.bys x) k hk hcc
  rw [wd_bys hx] at hs
  have hp : 2 ^ (8 * k) ≤ 2 ^ 56 := Nat.pow_le_pow_right (by decide) (by omega)
  have e1 : IntKind.u64.wrap (255 * 2 ^ (8 * k)) = ((255 * 2 ^ (8 * k) : Nat) : Int) := by
    rw [show (255 * 2 ^ (8 * k) : Int) = ((255 * 2 ^ (8 * k) : Nat) : Int) by push_cast; rfl]
    exact IntWalk.u64_in _ (by omega)
  have hq : c * 2 ^ (8 * k) ≤ 255 * 2 ^ 56 := Nat.mul_le_mul (by omega) hp
  have e2 : IntKind.u64.wrap ((c : Int) * 2 ^ (8 * k)) = ((c * 2 ^ (8 * k) : Nat) : Int) := by
    rw [show ((c : Int) * 2 ^ (8 * k)) = ((c * 2 ^ (8 * k) : Nat) : Int) by push_cast; rfl]
    exact IntWalk.u64_in _ (by omega)
  have e3 := bits_andNot_u64 x (255 * 2 ^ (8 * k)) hx (by omega)
  have e4 := bits_or_u64_nat (andNotN x (255 * 2 ^ (8 * k))) (c * 2 ^ (8 * k)) (Nat.lt_of_le_of_lt Nat.and_le_left hx) (by omega)
  rw [e1, e2, e3, e4, hs]
  rfl
theorem refset_any (x c : Nat) (i : Int) (hx : x < 18446744073709551616) (hcc : c < 256) (w : World) : Calls Tryd.prog 77 #[.int .u64 (x : Int), .int .i64 i, .int .u8 (c : Int)] w fun e w' => e = .returned (.int .u64 (st x (ix i) c : Nat)) ∧ w = w' := by
  have hk := ix_lt i
  obtain ⟨h1, h2⟩ := tmod8 i
  have hb := tmod8_b i
  have HF := Lib.hid (st_bits x c (ix i) hx hk hcc)
  generalize ix i = k at *
  by_cases hn : i.tmod 8 < 0
  · have h3 := h1 hn
    have hd : decide (i.tmod 8 < 0) = true := decide_eq_true hn
    clear h1 h2 hn hx
    go_enter Tryd.func77, Tryd.ntmps77
    go_wp2
    go_ret
    exact ⟨ret_int HF.out, rfl⟩
  · have h3 := h2 hn
    have hd : decide (i.tmod 8 < 0) = false := decide_eq_false hn
    clear h1 h2 hn hx
    go_enter Tryd.func77, Tryd.ntmps77
    go_wp2
    go_ret
    exact ⟨ret_int HF.out, rfl⟩

theorem ix_nat {k : Nat} (hk : k < 8) : ix (k : Int) = k := by unfold ix; omega
theorem bys_nth (x k : Nat) : (bys x).getD k 0 = gt x k := rfl
/-- A bit more. -/
theorem or_u8 {a k : Nat} (ha : a < 2 ^ k) (hk : k < 8) : bits .or .u8 (a : Int) ((2 : Int) ^ k % 256) = ((a + 2 ^ k : Nat) : Int) := by
  have hp : 2 ^ k ≤ 2 ^ 7 := Nat.pow_le_pow_right (by decide) (by omega)
  have e : ((2 : Int) ^ k % 256) = ((2 ^ k : Nat) : Int) := by
    rw [show ((2 : Int) ^ k) = ((2 ^ k : Nat) : Int) by push_cast; rfl]; omega
  rw [e, (bits_nat .u8 8 (by decide) wraps_u8 a (2 ^ k) (by omega) (by omega)).2, or_bit ha]
theorem take_lt (p : Nat → Bool) (x : Nat) {k : Nat} (hk : k ≤ 8) : setOf p ((bys x).take k) < 2 ^ k := by
  have := @setOf_lt p ((bys x).take k)
  rwa [List.length_take, bys_len, Nat.min_eq_left hk] at this
set_option maxHeartbeats 1000000 in
theorem refmatch_any (x h : Nat) (hx : x < 18446744073709551616) (hh : h < 256) (w : World) : Calls Tryd.prog 35 #[.int .u64 (x : Int), .int .u8 (h : Int)] w fun e w' => e = .returned (.int .u8 (mch x h : Nat)) ∧ w = w' := by
  have HX := Lib.hid hx
  clear hx
  go_enter Tryd.func35, Tryd.ntmps35
  go_wp2
  go_loop [5, 6] (fun o t => ∃ k : Nat, k ≤ 8 ∧ t = .int .i64 k ∧ o = .int .u8 (setOf (fun b => b == h) ((bys x).take k) : Nat)) (fun _ t => 8 - (intOf t).toNat)
  case atStart => exact ⟨0, by omega, rfl, rfl⟩
  case round =>
    obtain ⟨k, hk, rfl, rfl⟩ := hrel
    by_cases hlt : k < 8
    · have hs := setOf_take_succ (fun b => b == h) (bys x) k (by rw [bys_len]; exact hlt)
      rw [bys_nth] at hs
      have hsl := take_lt (fun b => b == h) x hk
      have HOR := Lib.hid (or_u8 hsl hlt)
      have HIX := Lib.hid (ix_nat hlt)
      generalize setOf (fun b => b == h) ((bys x).take k) = o at *
      by_cases he : gt x k = h
      · have he1 : ((h : Int) == (h : Int)) = true := by simp
        have HS : Hid (setOf (fun b => b == h) ((bys x).take (k + 1)) = o + 2 ^ k) := by show _ = _; rw [hs]; simp [he]
        have HE := Lib.hid he
        clear hs he
        go_wp2_with (go_at_call 80; refine (refget_any x _ HX.out _).mono ?_; rintro e w' ⟨rfl, rfl⟩; rw [HIX.out, HE.out])
        go_round
        case rel => exact ⟨k + 1, hlt, by simp, by rw [HS.out, HOR.out]⟩
        case measure => simp [intOf]; omega
      · have he1 : ((gt x k : Int) == (h : Int)) = false := by rw [beq_eq_false_iff_ne]; omega
        have HS : Hid (setOf (fun b => b == h) ((bys x).take (k + 1)) = o) := by
          show _ = _
          have e0 : (gt x k == h) = false := beq_eq_false_iff_ne.2 he
          rw [hs, e0]; simp
        clear hs he
        go_wp2_with (go_at_call 80; refine (refget_any x _ HX.out _).mono ?_; rintro e w' ⟨rfl, rfl⟩; rw [HIX.out])
        go_round
        case rel => exact ⟨k + 1, hlt, by simp, by rw [HS.out]⟩
        case measure => simp [intOf]; omega
    · have hd : decide ((k : Int) < 8) = false := decide_eq_false (by omega)
      go_wp2
      go_ret
      obtain rfl : k = 8 := by omega
      exact ⟨rfl, rfl⟩
theorem reffree_any (x : Nat) (hx : x < 18446744073709551616) (w : World) : Calls Tryd.prog 34 #[.int .u64 (x : Int)] w fun e w' => e = .returned (.int .u8 (fre x : Nat)) ∧ w = w' := by
  have H := Lib.hid hx
  clear hx
  go_enter Tryd.func34, Tryd.ntmps34
  go_wp2_with fail
  refine (refmatch_any _ 128 H.out (by omega) _).mono ?_
  rintro e w' ⟨rfl, rfl⟩
  go_wp2_with fail
  refine (refmatch_any _ 254 H.out (by omega) _).mono ?_
  rintro e w' ⟨rfl, rfl⟩
  go_wp2
  go_ret
  refine ⟨ret_int ?_, rfl⟩
  have h1 := mch_lt x 128
  have h2 := mch_lt x 254
  have e := (bits_nat .u8 8 (by decide) wraps_u8 (mch x 128) (mch x 254) h1 h2).2
  rw [e]
  unfold mch fre
  rw [setOf_or]
  intro b hb
  simp at hb ⊢
  omega
set_option maxHeartbeats 1000000 in
theorem reffull_any (x : Nat) (hx : x < 18446744073709551616) (w : World) : Calls Tryd.prog 33 #[.int .u64 (x : Int)] w fun e w' => e = .returned (.int .u8 (ful x : Nat)) ∧ w = w' := by
  have HX := Lib.hid hx
  clear hx
  go_enter Tryd.func33, Tryd.ntmps33
  go_wp2
  go_loop [3, 4] (fun o t => ∃ k : Nat, k ≤ 8 ∧ t = .int .i64 k ∧ o = .int .u8 (setOf (fun b => decide (b < 128)) ((bys x).take k) : Nat)) (fun _ t => 8 - (intOf t).toNat)
  case atStart => exact ⟨0, by omega, rfl, rfl⟩
  case round =>
    obtain ⟨k, hk, rfl, rfl⟩ := hrel
    by_cases hlt : k < 8
    · have hs := setOf_take_succ (fun b => decide (b < 128)) (bys x) k (by rw [bys_len]; exact hlt)
      rw [bys_nth] at hs
      have hsl := take_lt (fun b => decide (b < 128)) x hk
      have HOR := Lib.hid (or_u8 hsl hlt)
      have HIX := Lib.hid (ix_nat hlt)
      generalize setOf (fun b => decide (b < 128)) ((bys x).take k) = o at *
      by_cases he : gt x k < 128
      · have he1 : decide ((gt x k : Int) < 128) = true := decide_eq_true (by omega)
        have HS : Hid (setOf (fun b => decide (b < 128)) ((bys x).take (k + 1)) = o + 2 ^ k) := by show _ = _; rw [hs]; simp [he]
        clear hs
        go_wp2_with (go_at_call 80; refine (refget_any x _ HX.out _).mono ?_; rintro e w' ⟨rfl, rfl⟩; rw [HIX.out])
        go_round
        case rel => exact ⟨k + 1, hlt, by simp, by rw [HS.out, HOR.out]⟩
        case measure => simp [intOf]; omega
      · have he1 : decide ((gt x k : Int) < 128) = false := decide_eq_false (by omega)
        have HS : Hid (setOf (fun b => decide (b < 128)) ((bys x).take (k + 1)) = o) := by show _ = _; rw [hs]; simp [he]
        clear hs
        go_wp2_with (go_at_call 80; refine (refget_any x _ HX.out _).mono ?_; rintro e w' ⟨rfl, rfl⟩; rw [HIX.out])
        go_round
        case rel => exact ⟨k + 1, hlt, by simp, by rw [HS.out]⟩
        case measure => simp [intOf]; omega
    · have hd : decide ((k : Int) < 8) = false := decide_eq_false (by omega)
      go_wp2
      go_ret
      obtain rfl : k = 8 := by omega
      exact ⟨rfl, rfl⟩

/-! ### The reference's sets of slots -/
def FirstAt (x k : Nat) : Prop := ∀ j, j < k → x.testBit j = false
theorem first_found : ∀ x : Fin 256, ∀ k : Fin 8, (∀ j : Fin 8, j.val < k.val → x.val.testBit j.val = false) → x.val.testBit k.val = true → firstF x.val = k.val := by decide +kernel
theorem first_none : ∀ x : Fin 256, (∀ j : Fin 8, x.val.testBit j.val = false) → firstF x.val = 8 := by decide +kernel
theorem bit_i : ∀ x : Fin 256, ∀ k : Fin 8, bits .and .u8 ((x.val : Int) / 2 ^ k.val) 1 = (((x.val.testBit k.val).toNat : Nat) : Int) := by decide +kernel
set_option maxHeartbeats 1000000 in
theorem reffirst_any (x : Nat) (hx : x < 256) (w : World) : Calls Tryd.prog 109 #[.int .u8 (x : Int)] w fun e w' => e = .returned (.int .i64 (firstF x : Nat)) ∧ w = w' := by
  have HX := Lib.hid hx
  clear hx
  go_enter Tryd.func109, Tryd.ntmps109
  go_wp2
  go_loop [3] (fun t => ∃ k : Nat, k ≤ 8 ∧ t = .int .i64 k ∧ Hid (FirstAt x k)) (fun t => 8 - (intOf t).toNat)
  case atStart => exact ⟨0, by omega, rfl, (by intro j hj; omega)⟩
  case round =>
    obtain ⟨k, hk, rfl, HF⟩ := hrel
    by_cases hlt : k < 8
    · have hb := bit_i ⟨x, HX.out⟩ ⟨k, hlt⟩
      simp only at hb
      cases ht : x.testBit k with
      | true =>
        rw [ht] at hb
        have HT := Lib.hid ht
        clear ht
        go_wp2
        go_ret
        exact ⟨ret_int (by rw [first_found ⟨x, HX.out⟩ ⟨k, hlt⟩ (fun j hj => HF.out j.val hj) HT.out]), rfl⟩
      | false =>
        rw [ht] at hb
        have HT := Lib.hid ht
        clear ht
        go_wp2
        go_round
        case rel =>
          refine ⟨k + 1, hlt, by simp, fun j hj => ?_⟩
          rcases Nat.lt_or_ge j k with h2 | h2
          · exact HF.out j h2
          · obtain rfl : j = k := by omega
            exact HT.out
        case measure => simp [intOf]; omega
    · have hd : decide ((k : Int) < 8) = false := decide_eq_false (by omega)
      go_wp2
      go_ret
      obtain rfl : k = 8 := by omega
      exact ⟨ret_int (by rw [first_none ⟨x, HX.out⟩ (fun j => HF.out j.val j.isLt)]; rfl), rfl⟩
theorem next_andnot : ∀ x : Fin 256, x.val ≠ 0 → bits .andNot .u8 (x.val : Int) ((2 : Int) ^ (firstF x.val) % 256) = ((nextF x.val : Nat) : Int) := by decide +kernel
def CntAt (x k : Nat) : Nat := ((List.range k).filter fun i => x.testBit i).length
theorem cntAt_succ (x k : Nat) : CntAt x (k + 1) = CntAt x k + (x.testBit k).toNat := by
  unfold CntAt
  rw [List.range_succ, List.filter_append, List.length_append]
  cases h : x.testBit k <;> simp [h]
theorem cntAt_le (x k : Nat) : CntAt x k ≤ k := by
  unfold CntAt
  have := List.length_filter_le (fun i => x.testBit i) (List.range k)
  simpa using this
set_option maxHeartbeats 1000000 in
theorem refcount_any (x : Nat) (hx : x < 256) (w : World) : Calls Tryd.prog 32 #[.int .u8 (x : Int)] w fun e w' => e = .returned (.int .i64 (cntF x : Nat)) ∧ w = w' := by
  have HX := Lib.hid hx
  clear hx
  go_enter Tryd.func32, Tryd.ntmps32
  go_wp2
  go_loop [3, 4] (fun o t => ∃ k : Nat, k ≤ 8 ∧ t = .int .i64 k ∧ o = .int .i64 (CntAt x k : Nat)) (fun _ t => 8 - (intOf t).toNat)
  case atStart => exact ⟨0, by omega, rfl, rfl⟩
  case round =>
    obtain ⟨k, hk, rfl, rfl⟩ := hrel
    have hle := cntAt_le x k
    by_cases hlt : k < 8
    · have hb := bit_i ⟨x, HX.out⟩ ⟨k, hlt⟩
      simp only at hb
      have HC := Lib.hid (cntAt_succ x k)
      have hbl : (x.testBit k).toNat ≤ 1 := Bool.toNat_le _
      generalize CntAt x k = c at *
      generalize (x.testBit k).toNat = bb at *
      go_wp2
      go_round
      case rel => exact ⟨k + 1, hlt, by simp, by rw [HC.out]; simp⟩
      case measure => simp [intOf]; omega
    · have hd : decide ((k : Int) < 8) = false := decide_eq_false (by omega)
      go_wp2
      go_ret
      obtain rfl : k = 8 := by omega
      exact ⟨rfl, rfl⟩
end Go.Proofs.YtcooapflofiolaaDoor
