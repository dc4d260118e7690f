/- The walks of the plain functions of this seat's program. -/
import Derived.Test.YtcooapflofiolaaDoorPGather
namespace Go.Proofs.YtcooapflofiolaaDoor
open Go Go.RowKit Go.Shelf
set_option linter.unusedVariables false
set_option linter.unusedSimpArgs false

set_option maxHeartbeats 1000000 in
theorem need_any (n : Int) (w : World) : Calls Tryd.prog 62 #[.int .i64 n] w fun e w' => e = .returned (.int .i64 (needF n)) ∧ w = w' := by
  go_enter Tryd.func62, Tryd.ntmps62
  go_wp2
  go_loop [3] (fun t => ∃ m : Nat, NeedAt n m ∧ t = .int .i64 m) (fun t => 1024 - (intOf t).toNat)
  case atStart => exact ⟨1, NeedAt.start n, rfl⟩
  case round =>
    obtain ⟨m, hm, rfl⟩ := hrel
    have hb := hm.bounds
    have HM := Lib.hid hm
    clear hm
    by_cases h1 : 7 * (m : Int) < n
    · have h1' : decide (7 * (m : Int) < n) = true := decide_eq_true h1
      by_cases h2 : m * 2 ≤ 1024
      · have h2' : decide (1024 < (m : Int) * 2) = false := decide_eq_false (by omega)
        go_wp2
        go_round
        case rel => exact ⟨m * 2, HM.out.next h1 h2, by simp⟩
        case measure => simp [intOf]; omega
      · have h2' : decide (1024 < (m : Int) * 2) = true := decide_eq_true (by omega)
        go_wp2
        go_ret
        exact ⟨ret_int (HM.out.over h1 h2).symm, rfl⟩
    · have h1' : decide (7 * (m : Int) < n) = false := decide_eq_false h1
      go_wp2
      go_ret
      exact ⟨ret_int (HM.out.ends (by omega)).symm, rfl⟩

set_option maxHeartbeats 1000000 in
theorem refgood_any (g : Int) (w : World) : Calls Tryd.prog 122 #[.int .i64 g] w fun e w' => e = .returned (.bool (goodB g)) ∧ w = w' := by
  go_enter Tryd.func122, Tryd.ntmps122
  go_wp2
  go_loop [3] (fun t => ∃ m : Nat, PowAt g m ∧ t = .int .i64 m) (fun t => 2048 - (intOf t).toNat)
  case atStart => exact ⟨1, PowAt.start g, rfl⟩
  case round =>
    obtain ⟨m, hm, rfl⟩ := hrel
    have hb := hm.bounds
    have HM := Lib.hid hm
    clear hm
    by_cases h1 : m ≤ 1024
    · by_cases h2 : (m : Int) = g
      · have h2' : ((m : Int) == g) = true := beq_iff_eq.2 h2
        have H2 := Lib.hid h2
        clear h2
        go_wp2
        go_ret
        exact ⟨ret_bool (HM.out.found h1 H2.out).symm, rfl⟩
      · have h2' : ((m : Int) == g) = false := beq_eq_false_iff_ne.2 h2
        have H2 := Lib.hid h2
        clear h2
        go_wp2
        go_round
        case rel => exact ⟨m * 2, HM.out.next h1 H2.out, by simp⟩
        case measure => simp [intOf]; omega
    · go_wp2
      go_ret
      exact ⟨ret_bool (HM.out.none h1).symm, rfl⟩

set_option maxHeartbeats 1000000 in
theorem refneed_any (n : Int) (w : World) : Calls Tryd.prog 71 #[.int .i64 n] w fun e w' => e = .returned (.int .i64 (needF n)) ∧ w = w' := by
  go_enter Tryd.func71, Tryd.ntmps71
  go_wp2
  go_loop [3] (fun t => ∃ m : Nat, NeedR n m ∧ t = .int .i64 m) (fun t => 2048 - (intOf t).toNat)
  case atStart => exact ⟨1, NeedR.start n, rfl⟩
  case round =>
    obtain ⟨m, hm, rfl⟩ := hrel
    have hb := hm.bounds
    have HM := Lib.hid hm
    clear hm
    by_cases h1 : m ≤ 1024
    · by_cases h2 : 7 * (m : Int) < n
      · have h2' : decide (n ≤ 7 * (m : Int)) = false := decide_eq_false (by omega)
        go_wp2
        go_round
        case rel => exact ⟨m * 2, HM.out.next h2 h1, by simp⟩
        case measure => simp [intOf]; omega
      · have h2' : decide (n ≤ 7 * (m : Int)) = true := decide_eq_true (by omega)
        go_wp2
        go_ret
        exact ⟨ret_int (HM.out.ends (by omega) h1).symm, rfl⟩
    · go_wp2
      go_ret
      exact ⟨ret_int (HM.out.over h1).symm, rfl⟩

theorem refAt_arith (hn gn k : Nat) (h1 : 1 ≤ (gn : Int)) (h2 : (gn : Int) ≤ 1024) (hk : (k : Int) < gn) :
    wrap64 ((IntKind.u64.wrap ((hn : Int) % gn + (k : Int) * ((k : Int) + 1) / 2)).tmod gn) = ((el ((hn : Int)).toNat ((gn : Int)).toNat k : Nat) : Int) := by
  have hq2 : k * (k + 1) ≤ 1024 * 1025 := Nat.mul_le_mul (by omega) (by omega)
  have e1 : ((hn : Int) % gn + (k : Int) * ((k : Int) + 1) / 2) = ((hn % gn + k * (k + 1) / 2 : Nat) : Int) := by simp
  have e2 : hn % gn < gn := Nat.mod_lt _ (by omega)
  rw [e1, IntWalk.u64_in _ (by omega), Int.tmod_eq_emod_of_nonneg (by omega)]
  have e3 : (((hn % gn + k * (k + 1) / 2 : Nat) : Int) % (gn : Int)) = (((hn % gn + k * (k + 1) / 2) % gn : Nat) : Int) := by simp
  have e4 : (hn % gn + k * (k + 1) / 2) % gn < gn := Nat.mod_lt _ (by omega)
  rw [e3, IntWalk.wrap64_in _ (by omega)]
  simp only [Int.toNat_natCast]
  unfold el
  rw [Nat.mod_add_mod]

set_option maxHeartbeats 1000000 in
theorem refat_any (h i g : Int) (h0 : 0 ≤ h) (h1 : h < 18446744073709551616) (w : World) : Calls Tryd.prog 123 #[.int .u64 h, .int .i64 i, .int .i64 g] w fun e w' => e = .returned (.int .i64 (refAt h i g)) ∧ w = w' := by
  cases hg : goodB g with
  | false =>
    have HF := Lib.hid (refAt_bad (h := h) (i := i) hg)
    have HG := Lib.hid hg
    clear hg
    go_enter Tryd.func123, Tryd.ntmps123
    go_wp2_with (go_at_call 122; refine (refgood_any _ _).mono ?_; rintro e w' ⟨rfl, rfl⟩; rw [HG.out])
    go_ret
    exact ⟨ret_int HF.out.symm, rfl⟩
  | true =>
    have HG := Lib.hid hg
    have hgb := goodB_bounds hg
    by_cases hi : i < 0
    · have HF := Lib.hid (refAt_neg (h := h) (g := g) hi)
      clear hg
      go_enter Tryd.func123, Tryd.ntmps123
      go_wp2_with (go_at_call 122; refine (refgood_any _ _).mono ?_; rintro e w' ⟨rfl, rfl⟩; rw [HG.out])
      go_ret
      exact ⟨ret_int HF.out.symm, rfl⟩
    · by_cases hi2 : g ≤ i
      · have HF := Lib.hid (refAt_big (h := h) (i := i) hi2)
        clear hg
        go_enter Tryd.func123, Tryd.ntmps123
        go_wp2_with (go_at_call 122; refine (refgood_any _ _).mono ?_; rintro e w' ⟨rfl, rfl⟩; rw [HG.out])
        go_ret
        exact ⟨ret_int HF.out.symm, rfl⟩
      · obtain ⟨k, rfl⟩ := Int.eq_ofNat_of_zero_le (show 0 ≤ i by omega)
        obtain ⟨gn, rfl⟩ := Int.eq_ofNat_of_zero_le (show 0 ≤ g by omega)
        obtain ⟨hn, rfl⟩ := Int.eq_ofNat_of_zero_le h0
        have HF := Lib.hid (refAt_el (h := (hn : Int)) (g := (gn : Int)) (i := k) hg (by omega))
        have hq1 : 0 ≤ (k : Int) * ((k : Int) + 1) := Int.mul_nonneg (by omega) (by omega)
        have hq2 : (k : Int) * ((k : Int) + 1) ≤ 1024 * 1025 := Int.mul_le_mul (by omega) (by omega) (by omega) (by omega)
        have H1 := Lib.hid h1
        have hd1 : decide ((k : Int) < 0) = false := decide_eq_false (by omega)
        have hd2 : decide (gn ≤ k) = false := decide_eq_false (by omega)
        clear hg h1
        go_enter Tryd.func123, Tryd.ntmps123
        go_wp2_with (go_at_call 122; refine (refgood_any _ _).mono ?_; rintro e w' ⟨rfl, rfl⟩; rw [HG.out])
        go_ret
        refine ⟨ret_int ?_, rfl⟩
        rw [HF.out]
        exact refAt_arith hn gn k hgb.1 hgb.2 hi2

set_option maxRecDepth 100000 in
set_option maxHeartbeats 2000000 in
theorem refseq_any (h g : Int) (h0 : 0 ≤ h) (h1 : h < 18446744073709551616) (w : World) : Calls Tryd.prog 108 #[.int .u64 h, .int .i64 g] w (GatherPost w (seqL h g)) := by
  have H1 := Lib.hid h1
  clear h1
  cases hg : goodB g with
  | false =>
    have HL := Lib.hid (seqL_bad (h := h) hg)
    have HG := Lib.hid hg
    clear hg
    go_enter Tryd.func108, Tryd.ntmps108
    go_wp2_with (go_at_call 122; refine (refgood_any _ _).mono ?_; rintro e w' ⟨rfl, rfl⟩; rw [HG.out])
    go_ret
    exact ⟨_, rfl, by rw [HL.out]; exact World.ownsRow_nil _ _ _ _, Below.refl _ _⟩
  | true =>
    have hgb := goodB_bounds hg
    obtain ⟨i0, hi, hz0, hz1, hz2⟩ := info_parts Tryd.info3
    obtain ⟨gn, rfl⟩ := Int.eq_ofNat_of_zero_le (show 0 ≤ g by omega)
    have HL := Lib.hid (seqL_good (h := h) hg)
    have HG := Lib.hid hg
    clear hg
    obtain ⟨s, hs⟩ : ∃ s, s = w.heap.size := ⟨_, rfl⟩
    have HS := Lib.hid hs
    clear hs
    go_enter Tryd.func108, Tryd.ntmps108
    go_wp2_with (go_at_call 122; refine (refgood_any _ _).mono ?_; rintro e w' ⟨rfl, rfl⟩; rw [HG.out])
    go_loopw [5, 6] (fun v t wr => ∃ k : Nat, k ≤ gn ∧ t = .int .i64 k ∧ wr.ownsRow s 3 1 v k ((seqN h.toNat gn k).map (Value.int .i64)) ∧ Below s w wr) (fun _ t _ => gn - (intOf t).toNat)
    case atStart => exact ⟨0, Nat.zero_le _, rfl, World.ownsRow_nil _ _ _ _, Below.refl _ _⟩
    case round =>
      obtain ⟨k, hk, rfl, hrow, hB⟩ := hrel
      by_cases hlt : k < gn
      · have HE := Lib.hid (refAt_el (h := h) (i := k) HG.out (by omega))
        have hlt' : decide ((k : Int) < gn) = true := decide_eq_true (by omega)
        go_wp2_with (first | (go_at_call 123; refine (refat_any _ _ _ h0 H1.out _).mono ?_; rintro e w' ⟨rfl, rfl⟩; rw [HE.out]) | (at_builtin; refine wpList_append_own _ rfl _ _ 59 rfl s 3 i0 (.int .i64 0) 1 8 Tryd.underlying59 hi hz0 hz1 hz2 rfl (by decide) _ _ _ rfl (hrow.alloc _) ⟨wr.heap.size, 0, none⟩ 1 1 [.int .i64 (el h.toNat (gn : Int).toNat k : Nat)] rfl rfl (cell_one_new _ _ _) (by simp [Value.oneCell']) (by simp only [maxLen]; omega) (by omega) (by have := hB.size; rw [HS.out]; simp; omega) ?_; intro v' w1 hown' hgrow _))
        refine ⟨⟨k + 1, hlt, by simp, ?_, ?_⟩, by simp [intOf]; omega⟩
        · rw [seqN_succ, List.map_append]; simpa using hown'
        · have hz := hB.size
          have e := HS.out
          exact (hB.alloc (by omega) _).grown hgrow (by simp; omega) (fun j ej => own_blk hrow ej)
      · have hlt' : decide ((k : Int) < gn) = false := decide_eq_false (by omega)
        go_wp2
        go_ret
        obtain rfl : k = gn := by omega
        refine ⟨_, rfl, ?_, by rw [← HS.out]; exact hB⟩
        rw [HL.out, ← HS.out]
        simpa [seqN_length] using hrow
end Go.Proofs.YtcooapflofiolaaDoor
