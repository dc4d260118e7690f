/- The document's examples of quorum; what the reference's Won tells. -/
import Derived.Test.YtlcdidmhokbkfaaFns
namespace Go.Proofs.Ytlcdidmhokbkfaa
open Go Go.RowKit Go.Shelf Go.Sort
set_option linter.unusedVariables false
set_option linter.unusedSimpArgs false
set_option maxRecDepth 100000
set_option maxHeartbeats 1000000
theorem cmt3 : cmt ([5, 2, 9].take 3) = 5 := by simp [cmt, List.mergeSort, List.MergeSort.Internal.splitInTwo, List.merge]
theorem cmt2 : cmt ([5, 2].take 2) = 2 := by simp [cmt, List.mergeSort, List.MergeSort.Internal.splitInTwo, List.merge]
theorem won3 : won 1 1 3 = 0 := by decide +kernel
theorem maj5 : maj 5 = 3 := by decide +kernel
theorem cells3 (w : World) : ∀ j, j < [5, 2, 9].length → (w.alloc (.cells #[.int .i64 5, .int .i64 2, .int .i64 9] 3)).cell? ⟨w.heap.size, 0 + j, none⟩ = some (.int .i64 (([5, 2, 9] : List Int).getD j 0)) := by
  intro j hj
  have h : j = 0 ∨ j = 1 ∨ j = 2 := by simp at hj; omega
  rcases h with rfl | rfl | rfl <;> simp [World.cell?_alloc_new]
theorem cells2 (w : World) : ∀ j, j < [5, 2].length → (w.alloc (.cells #[.int .i64 5, .int .i64 2] 3)).cell? ⟨w.heap.size, 0 + j, none⟩ = some (.int .i64 (([5, 2] : List Int).getD j 0)) := by
  intro j hj
  have h : j = 0 ∨ j = 1 := by simp at hj; omega
  rcases h with rfl | rfl <;> simp [World.cell?_alloc_new]
theorem lives_any (w : World) : Calls Try.prog 13 #[] w fun e w' => e = .returned (.bool true) ∧ Below w.heap.size w w' := by
  have H3 := Lib.hid cmt3
  have H2 := Lib.hid cmt2
  have HW := Lib.hid won3
  have HM := Lib.hid maj5
  go_enter Try.func13, Try.ntmps13
  go_wp2_with fail
  refine (commit_any w.heap.size 0 3 3 [5, 2, 9] _ (by decide) (by decide) (by decide) (cells3 w) (by simp)).mono ?_
  rintro e w2 ⟨rfl, hB2⟩
  rw [H3.out]
  have B2 : Hid (Below w.heap.size w w2) := ((Below.refl _ w).alloc (Nat.le_refl _) _).trans (hB2.mono (by simp))
  clear hB2
  go_wp2_with fail
  refine (commit_any w2.heap.size 0 2 2 [5, 2] _ (by decide) (by decide) (by decide) (cells2 w2) (by simp)).mono ?_
  rintro e w3 ⟨rfl, hB3⟩
  rw [H2.out]
  have B3 : Hid (Below w.heap.size w w3) := (B2.out.alloc B2.out.size _).trans (hB3.mono (by have := B2.out.size; simp; omega))
  clear hB3
  go_wp2_with (first | (go_at_call 11; refine (won_any _ _ _ (by omega) _).mono ?_; rintro e w' ⟨rfl, rfl⟩; rw [HW.out]) | (go_at_call 9; refine (maj_any _ (by omega) _).mono ?_; rintro e w' ⟨rfl, rfl⟩; rw [HM.out]))
  go_ret
  exact ⟨rfl, B3.out⟩
def cutR (k n : Int) : Int := if n < k then (if n < 0 then 0 else n) else (if k < 0 then 0 else k)
theorem refcut_any (k n : Int) (w : World) : Calls Try.prog 19 #[.int .i64 k, .int .i64 n] w fun e w' => e = .returned (.int .i64 (cutR k n)) ∧ w = w' := by
  by_cases h : n < k
  · by_cases h0 : n < 0
    · go_enter Try.func19, Try.ntmps19
      go_wp2
      go_ret
      exact ⟨ret_int (by unfold cutR; (repeat' split) <;> omega), rfl⟩
    · go_enter Try.func19, Try.ntmps19
      go_wp2
      go_ret
      exact ⟨ret_int (by unfold cutR; (repeat' split) <;> omega), rfl⟩
  · by_cases h0 : k < 0
    · go_enter Try.func19, Try.ntmps19
      go_wp2
      go_ret
      exact ⟨ret_int (by unfold cutR; (repeat' split) <;> omega), rfl⟩
    · go_enter Try.func19, Try.ntmps19
      go_wp2
      go_ret
      exact ⟨ret_int (by unfold cutR; (repeat' split) <;> omega), rfl⟩
theorem refwon_any (yes no n : Int) (h : n ≤ 9223372036854775807) (w : World) : Calls Try.prog 12 #[.int .i64 yes, .int .i64 no, .int .i64 n] w fun e w' => e = .returned (.int .i64 (won yes no n)) ∧ w = w' := by
  by_cases h1 : n < 1
  · have HW : Hid (won yes no n = 2) := by show _ = _; simp [won, h1]
    go_enter Try.func12, Try.ntmps12
    go_wp2
    go_ret
    exact ⟨ret_int HW.out.symm, rfl⟩
  · have hb : 0 ≤ cutR no n ∧ cutR no n ≤ n := by unfold cutR; (repeat' split) <;> omega
    have hw : IntKind.i64.wrap (n - cutR no n) = n - cutR no n := IntWalk.i64_in _ (by omega)
    have HW : Hid (won yes no n = if maj n ≤ cutR yes n then 1 else if n - cutR no n < maj n then 2 else 0) := by
      show _ = _
      have hm : 1 ≤ maj n := by unfold maj; split <;> omega
      unfold won
      have e1 : (maj n ≤ min yes n) = (maj n ≤ cutR yes n) := by apply propext; unfold cutR; (repeat' split) <;> omega
      have e2 : min (max no 0) n = cutR no n := by unfold cutR; (repeat' split) <;> omega
      rw [if_neg h1, e2]
      simp only [e1]
    clear hb
    generalize hm : maj n = m at *
    have HM := Lib.hid hm
    generalize hc1 : cutR yes n = y at *
    generalize hc2 : cutR no n = z at *
    have HY := Lib.hid hc1
    have HZ := Lib.hid hc2
    have C1 : ∀ w, Calls Try.prog 19 #[.int .i64 yes, .int .i64 n] w fun e w' => e = .returned (.int .i64 y) ∧ w = w' := fun w => by rw [← HY.out]; exact refcut_any _ _ _
    have C2 : ∀ w, Calls Try.prog 19 #[.int .i64 no, .int .i64 n] w fun e w' => e = .returned (.int .i64 z) ∧ w = w' := fun w => by rw [← HZ.out]; exact refcut_any _ _ _
    have C1 := Lib.hid C1
    have C2 := Lib.hid C2
    clear hm hc1 hc2
    go_enter Try.func12, Try.ntmps12
    go_wp2_with fail
    refine (C1.out _).mono ?_
    rintro e w' ⟨rfl, rfl⟩
    go_wp2_with fail
    refine (refmaj_any n h _).mono ?_
    rintro e w' ⟨rfl, rfl⟩
    rw [HM.out]
    by_cases hy : m ≤ y
    · go_wp2
      go_ret
      exact ⟨ret_int (by rw [HW.out, if_pos hy]), rfl⟩
    · go_wp2_with fail
      refine (C2.out _).mono ?_
      rintro e w' ⟨rfl, rfl⟩
      go_wp2_with (go_at_call 10; refine (refmaj_any n h _).mono ?_; rintro e w' ⟨rfl, rfl⟩; rw [HM.out])
      all_goals
        go_ret
        exact ⟨ret_int (by rw [HW.out, if_neg (by omega)]; split <;> omega), rfl⟩
theorem won_up {a b c : Int} (h0 : 0 ≤ a) (h1 : 0 ≤ b) (h2 : 1 ≤ c) (h : won a b c = 1) : won (a + 1) b c = 1 := by
  unfold won maj at *
  (repeat' split at h) <;> (repeat' split) <;> omega
theorem won_no {a b c : Int} (h0 : 0 ≤ a) (h1 : 0 ≤ b) (h2 : 1 ≤ c) (h : won a b c ≠ 1) : won a (b + 1) c ≠ 1 := by
  unfold won maj at *
  (repeat' split at h) <;> (repeat' split) <;> omega
theorem won_both {a b c : Int} (h0 : 0 ≤ a) (h1 : 0 ≤ b) (h2 : 1 ≤ c) (h : won a b c = 2) (h3 : a + b ≤ c) : won (c - b) b c ≠ 1 := by
  unfold won maj at *
  (repeat' split at h) <;> (repeat' split) <;> omega
theorem won_tie {a b c : Int} (h0 : 0 ≤ a) (h1 : 0 ≤ b) (h2 : 1 ≤ c) (h : won a b c = 0) : a + b ≠ c := by
  unfold won maj at *
  (repeat' split at h) <;> omega
theorem won_all {c : Int} (h2 : 1 ≤ c) : won c 0 c = 1 ∧ won 0 c c = 2 := by
  unfold won maj
  constructor <;> (repeat' split) <;> omega
theorem won_range (a b c : Int) : won a b c = 0 ∨ won a b c = 1 ∨ won a b c = 2 := by
  unfold won; (repeat' split) <;> omega
end Go.Proofs.Ytlcdidmhokbkfaa
