/- Commands: may they be. -/
import Derived.Test.YtbgfpmnicpmieaaEHold
namespace Go.Proofs.Ytbgfpmnicpmieaa
open Go Go.RowKit Go.Shelf Go.Sort
set_option linter.unusedVariables false
set_option linter.unusedSimpArgs false
set_option maxRecDepth 100000
set_option maxHeartbeats 1000000
theorem CM.new (w : World) (k s q : Int) (a b c d : ByteArray) (l : Int) : CM (w.alloc (.cells #[.int .i64 k, .int .i64 s, .int .i64 q, .string a, .string b, .string c, .string d, .int .i64 l] 32)) w.heap.size k s q a b c d l := heap_alloc_new w _
theorem CM.c0 {w B k s q a b c d l} (h : CM w B k s q a b c d l) : w.cell? ⟨B, 0, none⟩ = some (.int .i64 k) := h.c 0
theorem CM.c1 {w B k s q a b c d l} (h : CM w B k s q a b c d l) : w.cell? ⟨B, 1, none⟩ = some (.int .i64 s) := h.c 1
theorem CM.c2 {w B k s q a b c d l} (h : CM w B k s q a b c d l) : w.cell? ⟨B, 2, none⟩ = some (.int .i64 q) := h.c 2
theorem good1 (s q : Int) (a b c d : ByteArray) (l : Int) (w : World) : Calls Try.prog 68 #[cmdV 1 s q a b c d l] w fun e w' => e = .returned (.bool (cmdB 1 s q a b c d l 1 0 0 eB eB eB eB 0)) ∧ Below w.heap.size w w' := by
  have q32 := comEq
  go_enter Try.func68, Try.ntmps68
  go_wp2_with fail
  clear q32
  go_ret
  exact ⟨rfl, (Below.refl _ w).alloc (Nat.le_refl _) _⟩
theorem good2 (s q : Int) (a b c d : ByteArray) (l : Int) (w : World) : Calls Try.prog 68 #[cmdV 2 s q a b c d l] w fun e w' => e = .returned (.bool (decide (0 < s) && cmdB 2 s q a b c d l 2 s 0 eB eB eB eB 0)) ∧ Below w.heap.size w w' := by
  have q32 := comEq
  go_enter Try.func68, Try.ntmps68
  by_cases c1 : 0 < s
  · have d1 : decide (0 < s) = true := decide_eq_true c1
    have D1 := Lib.hid d1
    clear c1
    go_wp2_with fail
    clear q32
    go_ret
    exact ⟨ret_bool (by rw [D1.out]; rfl), (Below.refl _ w).alloc (Nat.le_refl _) _⟩
  · have d1 : decide (0 < s) = false := decide_eq_false c1
    have D1 := Lib.hid d1
    clear c1
    go_wp2_with fail
    clear q32
    go_ret
    exact ⟨ret_bool (by rw [D1.out]; rfl), (Below.refl _ w).alloc (Nat.le_refl _) _⟩
theorem good3 (s q : Int) (a b c d : ByteArray) (l : Int) (w : World) : Calls Try.prog 68 #[cmdV 3 s q a b c d l] w fun e w' => e = .returned (.bool (cmdB 3 s q a b c d l 3 s q a eB c eB 0 && (decide (0 < s) && (decide (0 < q) && (keyB a && valB c))))) ∧ Below w.heap.size w w' := by
  have L1 : Hid (Below w.heap.size w (w.alloc (.cells #[.int .i64 3, .int .i64 s, .int .i64 q, .string a, .string b, .string c, .string d, .int .i64 l] 32))) := (Below.refl _ w).alloc (Nat.le_refl _) _
  have M1 := Lib.hid (CM.new w 3 s q a b c d l)
  have Q32 := Lib.hid comEq
  go_enter Try.func68, Try.ntmps68
  go_wp2_with fail
  refine (fits_put s q a b c d l _).mono ?_
  rintro e w1 ⟨B, F, rfl, hM, hF, hb⟩
  have m0 := (M1.out.keep (Nat.le_refl _) hb)
  have r0 := m0.c0
  have r1 := m0.c1
  have r2 := m0.c2
  have r3 := m0.c3
  have r4 := m0.c4
  have r5 := m0.c5
  have r6 := m0.c6
  have r7 := m0.c7
  have hsz : w.heap.size < w1.heap.size := cell_block_lt r0
  have L2 := Lib.hid (L1.out.trans (hb.mono (by simp)))
  have HM := Lib.hid hM
  have HF := Lib.hid hF
  clear m0 hb hM hF L1 M1
  have q32 : ∀ w, (binOp .eql 32 (cmdV 3 s q a b c d l) (cmdV 3 s q a eB c eB 0)).run Try.prog w = .ok (.bool (cmdB 3 s q a b c d l 3 s q a eB c eB 0)) w := fun w => Q32.out _ _ _ _ _ _ _ _ _ _ _ _ _ _ _ _ w
  clear Q32
  cases c0 : cmdB 3 s q a b c d l 3 s q a eB c eB 0
  · have C0 := Lib.hid c0
    rw [c0] at q32
    clear c0
    go_wp2_with fail
    clear q32
    go_ret
    exact ⟨ret_bool (by rw [C0.out]; rfl), L2.out.alloc (Nat.le_of_lt hsz) _⟩
  have C0 := Lib.hid c0
  rw [c0] at q32
  clear c0
  by_cases c1 : ¬ 0 < s
  · have d1 : decide (0 < s) = false := decide_eq_false c1
    have D1 := Lib.hid d1
    clear c1
    go_wp2_with fail
    clear q32
    go_ret
    exact ⟨ret_bool (by rw [C0.out, D1.out]; rfl), L2.out.alloc (Nat.le_of_lt hsz) _⟩
  have d1 : decide (0 < s) = true := decide_eq_true (Decidable.not_not.1 c1)
  have D1 := Lib.hid d1
  clear c1
  by_cases c2 : ¬ 0 < q
  · have d2 : decide (0 < q) = false := decide_eq_false c2
    have D2 := Lib.hid d2
    clear c2
    go_wp2_with fail
    clear q32
    go_ret
    exact ⟨ret_bool (by rw [C0.out, D1.out, D2.out]; rfl), L2.out.alloc (Nat.le_of_lt hsz) _⟩
  have d2 : decide (0 < q) = true := decide_eq_true (Decidable.not_not.1 c2)
  have D2 := Lib.hid d2
  clear c2
  go_wp2_with fail
  clear q32
  refine (hput_any B F _ _ _ _ _ _ _ _ _ (HM.out.keep (Nat.le_refl _) ((Below.refl _ _).alloc (Nat.le_refl _) _)) (HF.out.keep (Nat.le_refl _) ((Below.refl _ _).alloc (Nat.le_refl _) _))).mono ?_
  rintro e w2 ⟨rfl, rfl⟩
  have HW : Hid ((keyB a && valB c) = (keyB a && valB c)) := rfl
  go_wp2_with fail
  go_ret
  exact ⟨ret_bool (by rw [C0.out, D1.out, D2.out]; rfl), L2.out.alloc (Nat.le_of_lt hsz) _⟩
theorem good4 (s q : Int) (a b c d : ByteArray) (l : Int) (w : World) : Calls Try.prog 68 #[cmdV 4 s q a b c d l] w fun e w' => e = .returned (.bool (cmdB 4 s q a b c d l 4 s q a eB eB eB 0 && (decide (0 < s) && (decide (0 < q) && keyB a)))) ∧ Below w.heap.size w w' := by
  have L1 : Hid (Below w.heap.size w (w.alloc (.cells #[.int .i64 4, .int .i64 s, .int .i64 q, .string a, .string b, .string c, .string d, .int .i64 l] 32))) := (Below.refl _ w).alloc (Nat.le_refl _) _
  have M1 := Lib.hid (CM.new w 4 s q a b c d l)
  have Q32 := Lib.hid comEq
  go_enter Try.func68, Try.ntmps68
  go_wp2_with fail
  refine (fits_get s q a b c d l _).mono ?_
  rintro e w1 ⟨B, F, rfl, hM, hF, hb⟩
  have m0 := (M1.out.keep (Nat.le_refl _) hb)
  have r0 := m0.c0
  have r1 := m0.c1
  have r2 := m0.c2
  have r3 := m0.c3
  have r4 := m0.c4
  have r5 := m0.c5
  have r6 := m0.c6
  have r7 := m0.c7
  have hsz : w.heap.size < w1.heap.size := cell_block_lt r0
  have L2 := Lib.hid (L1.out.trans (hb.mono (by simp)))
  have HM := Lib.hid hM
  have HF := Lib.hid hF
  clear m0 hb hM hF L1 M1
  have q32 : ∀ w, (binOp .eql 32 (cmdV 4 s q a b c d l) (cmdV 4 s q a eB eB eB 0)).run Try.prog w = .ok (.bool (cmdB 4 s q a b c d l 4 s q a eB eB eB 0)) w := fun w => Q32.out _ _ _ _ _ _ _ _ _ _ _ _ _ _ _ _ w
  clear Q32
  cases c0 : cmdB 4 s q a b c d l 4 s q a eB eB eB 0
  · have C0 := Lib.hid c0
    rw [c0] at q32
    clear c0
    go_wp2_with fail
    clear q32
    go_ret
    exact ⟨ret_bool (by rw [C0.out]; rfl), L2.out.alloc (Nat.le_of_lt hsz) _⟩
  have C0 := Lib.hid c0
  rw [c0] at q32
  clear c0
  by_cases c1 : ¬ 0 < s
  · have d1 : decide (0 < s) = false := decide_eq_false c1
    have D1 := Lib.hid d1
    clear c1
    go_wp2_with fail
    clear q32
    go_ret
    exact ⟨ret_bool (by rw [C0.out, D1.out]; rfl), L2.out.alloc (Nat.le_of_lt hsz) _⟩
  have d1 : decide (0 < s) = true := decide_eq_true (Decidable.not_not.1 c1)
  have D1 := Lib.hid d1
  clear c1
  by_cases c2 : ¬ 0 < q
  · have d2 : decide (0 < q) = false := decide_eq_false c2
    have D2 := Lib.hid d2
    clear c2
    go_wp2_with fail
    clear q32
    go_ret
    exact ⟨ret_bool (by rw [C0.out, D1.out, D2.out]; rfl), L2.out.alloc (Nat.le_of_lt hsz) _⟩
  have d2 : decide (0 < q) = true := decide_eq_true (Decidable.not_not.1 c2)
  have D2 := Lib.hid d2
  clear c2
  go_wp2_with fail
  clear q32
  refine (may_any B _ _ _ _ _ _ _ _ _ (HM.out.keep (Nat.le_refl _) ((Below.refl _ _).alloc (Nat.le_refl _) _))).mono ?_
  rintro e w2 ⟨rfl, rfl⟩
  have HW : Hid (keyB a = keyB a) := rfl
  go_wp2_with fail
  go_ret
  exact ⟨ret_bool (by rw [C0.out, D1.out, D2.out]; rfl), L2.out.alloc (Nat.le_of_lt hsz) _⟩
theorem good5 (s q : Int) (a b c d : ByteArray) (l : Int) (w : World) : Calls Try.prog 68 #[cmdV 5 s q a b c d l] w fun e w' => e = .returned (.bool (cmdB 5 s q a b c d l 5 s q a eB eB eB 0 && (decide (0 < s) && (decide (0 < q) && keyB a)))) ∧ Below w.heap.size w w' := by
  have L1 : Hid (Below w.heap.size w (w.alloc (.cells #[.int .i64 5, .int .i64 s, .int .i64 q, .string a, .string b, .string c, .string d, .int .i64 l] 32))) := (Below.refl _ w).alloc (Nat.le_refl _) _
  have M1 := Lib.hid (CM.new w 5 s q a b c d l)
  have Q32 := Lib.hid comEq
  go_enter Try.func68, Try.ntmps68
  go_wp2_with fail
  refine (fits_del s q a b c d l _).mono ?_
  rintro e w1 ⟨B, F, rfl, hM, hF, hb⟩
  have m0 := (M1.out.keep (Nat.le_refl _) hb)
  have r0 := m0.c0
  have r1 := m0.c1
  have r2 := m0.c2
  have r3 := m0.c3
  have r4 := m0.c4
  have r5 := m0.c5
  have r6 := m0.c6
  have r7 := m0.c7
  have hsz : w.heap.size < w1.heap.size := cell_block_lt r0
  have L2 := Lib.hid (L1.out.trans (hb.mono (by simp)))
  have HM := Lib.hid hM
  have HF := Lib.hid hF
  clear m0 hb hM hF L1 M1
  have q32 : ∀ w, (binOp .eql 32 (cmdV 5 s q a b c d l) (cmdV 5 s q a eB eB eB 0)).run Try.prog w = .ok (.bool (cmdB 5 s q a b c d l 5 s q a eB eB eB 0)) w := fun w => Q32.out _ _ _ _ _ _ _ _ _ _ _ _ _ _ _ _ w
  clear Q32
  cases c0 : cmdB 5 s q a b c d l 5 s q a eB eB eB 0
  · have C0 := Lib.hid c0
    rw [c0] at q32
    clear c0
    go_wp2_with fail
    clear q32
    go_ret
    exact ⟨ret_bool (by rw [C0.out]; rfl), L2.out.alloc (Nat.le_of_lt hsz) _⟩
  have C0 := Lib.hid c0
  rw [c0] at q32
  clear c0
  by_cases c1 : ¬ 0 < s
  · have d1 : decide (0 < s) = false := decide_eq_false c1
    have D1 := Lib.hid d1
    clear c1
    go_wp2_with fail
    clear q32
    go_ret
    exact ⟨ret_bool (by rw [C0.out, D1.out]; rfl), L2.out.alloc (Nat.le_of_lt hsz) _⟩
  have d1 : decide (0 < s) = true := decide_eq_true (Decidable.not_not.1 c1)
  have D1 := Lib.hid d1
  clear c1
  by_cases c2 : ¬ 0 < q
  · have d2 : decide (0 < q) = false := decide_eq_false c2
    have D2 := Lib.hid d2
    clear c2
    go_wp2_with fail
    clear q32
    go_ret
    exact ⟨ret_bool (by rw [C0.out, D1.out, D2.out]; rfl), L2.out.alloc (Nat.le_of_lt hsz) _⟩
  have d2 : decide (0 < q) = true := decide_eq_true (Decidable.not_not.1 c2)
  have D2 := Lib.hid d2
  clear c2
  go_wp2_with fail
  clear q32
  refine (may_any B _ _ _ _ _ _ _ _ _ (HM.out.keep (Nat.le_refl _) ((Below.refl _ _).alloc (Nat.le_refl _) _))).mono ?_
  rintro e w2 ⟨rfl, rfl⟩
  have HW : Hid (keyB a = keyB a) := rfl
  go_wp2_with fail
  go_ret
  exact ⟨ret_bool (by rw [C0.out, D1.out, D2.out]; rfl), L2.out.alloc (Nat.le_of_lt hsz) _⟩
theorem good6 (s q : Int) (a b c d : ByteArray) (l : Int) (w : World) : Calls Try.prog 68 #[cmdV 6 s q a b c d l] w fun e w' => e = .returned (.bool (cmdB 6 s q a b c d l 6 s q a b c eB 0 && (decide (0 < s) && (decide (0 < q) && (keyB a && (valB b && valB c)))))) ∧ Below w.heap.size w w' := by
  have L1 : Hid (Below w.heap.size w (w.alloc (.cells #[.int .i64 6, .int .i64 s, .int .i64 q, .string a, .string b, .string c, .string d, .int .i64 l] 32))) := (Below.refl _ w).alloc (Nat.le_refl _) _
  have M1 := Lib.hid (CM.new w 6 s q a b c d l)
  have Q32 := Lib.hid comEq
  go_enter Try.func68, Try.ntmps68
  go_wp2_with fail
  refine (fits_cas s q a b c d l _).mono ?_
  rintro e w1 ⟨B, F, rfl, hM, hF, hb⟩
  have m0 := (M1.out.keep (Nat.le_refl _) hb)
  have r0 := m0.c0
  have r1 := m0.c1
  have r2 := m0.c2
  have r3 := m0.c3
  have r4 := m0.c4
  have r5 := m0.c5
  have r6 := m0.c6
  have r7 := m0.c7
  have hsz : w.heap.size < w1.heap.size := cell_block_lt r0
  have L2 := Lib.hid (L1.out.trans (hb.mono (by simp)))
  have HM := Lib.hid hM
  have HF := Lib.hid hF
  clear m0 hb hM hF L1 M1
  have q32 : ∀ w, (binOp .eql 32 (cmdV 6 s q a b c d l) (cmdV 6 s q a b c eB 0)).run Try.prog w = .ok (.bool (cmdB 6 s q a b c d l 6 s q a b c eB 0)) w := fun w => Q32.out _ _ _ _ _ _ _ _ _ _ _ _ _ _ _ _ w
  clear Q32
  cases c0 : cmdB 6 s q a b c d l 6 s q a b c eB 0
  · have C0 := Lib.hid c0
    rw [c0] at q32
    clear c0
    go_wp2_with fail
    clear q32
    go_ret
    exact ⟨ret_bool (by rw [C0.out]; rfl), L2.out.alloc (Nat.le_of_lt hsz) _⟩
  have C0 := Lib.hid c0
  rw [c0] at q32
  clear c0
  by_cases c1 : ¬ 0 < s
  · have d1 : decide (0 < s) = false := decide_eq_false c1
    have D1 := Lib.hid d1
    clear c1
    go_wp2_with fail
    clear q32
    go_ret
    exact ⟨ret_bool (by rw [C0.out, D1.out]; rfl), L2.out.alloc (Nat.le_of_lt hsz) _⟩
  have d1 : decide (0 < s) = true := decide_eq_true (Decidable.not_not.1 c1)
  have D1 := Lib.hid d1
  clear c1
  by_cases c2 : ¬ 0 < q
  · have d2 : decide (0 < q) = false := decide_eq_false c2
    have D2 := Lib.hid d2
    clear c2
    go_wp2_with fail
    clear q32
    go_ret
    exact ⟨ret_bool (by rw [C0.out, D1.out, D2.out]; rfl), L2.out.alloc (Nat.le_of_lt hsz) _⟩
  have d2 : decide (0 < q) = true := decide_eq_true (Decidable.not_not.1 c2)
  have D2 := Lib.hid d2
  clear c2
  go_wp2_with fail
  clear q32
  refine (hcas_any B F _ _ _ _ _ _ _ _ _ (HM.out.keep (Nat.le_refl _) ((Below.refl _ _).alloc (Nat.le_refl _) _)) (HF.out.keep (Nat.le_refl _) ((Below.refl _ _).alloc (Nat.le_refl _) _))).mono ?_
  rintro e w2 ⟨rfl, rfl⟩
  have HW : Hid ((keyB a && (valB b && valB c)) = (keyB a && (valB b && valB c))) := rfl
  go_wp2_with fail
  go_ret
  exact ⟨ret_bool (by rw [C0.out, D1.out, D2.out]; rfl), L2.out.alloc (Nat.le_of_lt hsz) _⟩
theorem good7 (s q : Int) (a b c d : ByteArray) (l : Int) (w : World) : Calls Try.prog 68 #[cmdV 7 s q a b c d l] w fun e w' => e = .returned (.bool (cmdB 7 s q a b c d l 7 s q a eB eB d l && (decide (0 < s) && (decide (0 < q) && scanB a d l)))) ∧ Below w.heap.size w w' := by
  have L1 : Hid (Below w.heap.size w (w.alloc (.cells #[.int .i64 7, .int .i64 s, .int .i64 q, .string a, .string b, .string c, .string d, .int .i64 l] 32))) := (Below.refl _ w).alloc (Nat.le_refl _) _
  have M1 := Lib.hid (CM.new w 7 s q a b c d l)
  have Q32 := Lib.hid comEq
  go_enter Try.func68, Try.ntmps68
  go_wp2_with fail
  refine (fits_scan s q a b c d l _).mono ?_
  rintro e w1 ⟨B, F, rfl, hM, hF, hb⟩
  have m0 := (M1.out.keep (Nat.le_refl _) hb)
  have r0 := m0.c0
  have r1 := m0.c1
  have r2 := m0.c2
  have r3 := m0.c3
  have r4 := m0.c4
  have r5 := m0.c5
  have r6 := m0.c6
  have r7 := m0.c7
  have hsz : w.heap.size < w1.heap.size := cell_block_lt r0
  have L2 := Lib.hid (L1.out.trans (hb.mono (by simp)))
  have HM := Lib.hid hM
  have HF := Lib.hid hF
  clear m0 hb hM hF L1 M1
  have q32 : ∀ w, (binOp .eql 32 (cmdV 7 s q a b c d l) (cmdV 7 s q a eB eB d l)).run Try.prog w = .ok (.bool (cmdB 7 s q a b c d l 7 s q a eB eB d l)) w := fun w => Q32.out _ _ _ _ _ _ _ _ _ _ _ _ _ _ _ _ w
  clear Q32
  cases c0 : cmdB 7 s q a b c d l 7 s q a eB eB d l
  · have C0 := Lib.hid c0
    rw [c0] at q32
    clear c0
    go_wp2_with fail
    clear q32
    go_ret
    exact ⟨ret_bool (by rw [C0.out]; rfl), L2.out.alloc (Nat.le_of_lt hsz) _⟩
  have C0 := Lib.hid c0
  rw [c0] at q32
  clear c0
  by_cases c1 : ¬ 0 < s
  · have d1 : decide (0 < s) = false := decide_eq_false c1
    have D1 := Lib.hid d1
    clear c1
    go_wp2_with fail
    clear q32
    go_ret
    exact ⟨ret_bool (by rw [C0.out, D1.out]; rfl), L2.out.alloc (Nat.le_of_lt hsz) _⟩
  have d1 : decide (0 < s) = true := decide_eq_true (Decidable.not_not.1 c1)
  have D1 := Lib.hid d1
  clear c1
  by_cases c2 : ¬ 0 < q
  · have d2 : decide (0 < q) = false := decide_eq_false c2
    have D2 := Lib.hid d2
    clear c2
    go_wp2_with fail
    clear q32
    go_ret
    exact ⟨ret_bool (by rw [C0.out, D1.out, D2.out]; rfl), L2.out.alloc (Nat.le_of_lt hsz) _⟩
  have d2 : decide (0 < q) = true := decide_eq_true (Decidable.not_not.1 c2)
  have D2 := Lib.hid d2
  clear c2
  go_wp2_with fail
  clear q32
  refine (hscan_any B _ _ _ _ _ _ _ _ _ (HM.out.keep (Nat.le_refl _) ((Below.refl _ _).alloc (Nat.le_refl _) _))).mono ?_
  rintro e w2 ⟨rfl, rfl⟩
  have HW : Hid (scanB a d l = scanB a d l) := rfl
  go_wp2_with fail
  go_ret
  exact ⟨ret_bool (by rw [C0.out, D1.out, D2.out]; rfl), L2.out.alloc (Nat.le_of_lt hsz) _⟩
theorem goodO (k : Int) (s q : Int) (a b c d : ByteArray) (l : Int) (w : World) (h1 : (k == 1) = false) (h2 : (k == 2) = false) (h3 : (k == 3) = false) (h4 : (k == 4) = false) (h5 : (k == 5) = false) (h6 : (k == 6) = false) (h7 : (k == 7) = false) : Calls Try.prog 68 #[cmdV k s q a b c d l] w fun e w' => e = .returned (.bool (cmdB k s q a b c d l k s q a eB eB eB 0 && (decide (0 < s) && (decide (0 < q) && false)))) ∧ Below w.heap.size w w' := by
  have HH : Hid ((k == 3) = false ∧ (k == 4) = false ∧ (k == 5) = false ∧ (k == 6) = false ∧ (k == 7) = false) := ⟨h3, h4, h5, h6, h7⟩
  clear h3 h4 h5 h6 h7
  have L1 : Hid (Below w.heap.size w (w.alloc (.cells #[.int .i64 k, .int .i64 s, .int .i64 q, .string a, .string b, .string c, .string d, .int .i64 l] 32))) := (Below.refl _ w).alloc (Nat.le_refl _) _
  have M1 := Lib.hid (CM.new w k s q a b c d l)
  have Q32 := Lib.hid comEq
  go_enter Try.func68, Try.ntmps68
  go_wp2_with fail
  refine (fits_other k s q a b c d l _ HH.out.1 HH.out.2.1 HH.out.2.2.1 HH.out.2.2.2.1 HH.out.2.2.2.2).mono ?_
  rintro e w1 ⟨B, F, rfl, hM, hF, hb⟩
  have m0 := (M1.out.keep (Nat.le_refl _) hb)
  have r0 := m0.c0
  have r1 := m0.c1
  have r2 := m0.c2
  have r3 := m0.c3
  have r4 := m0.c4
  have r5 := m0.c5
  have r6 := m0.c6
  have r7 := m0.c7
  have hsz : w.heap.size < w1.heap.size := cell_block_lt r0
  have L2 := Lib.hid (L1.out.trans (hb.mono (by simp)))
  have HM := Lib.hid hM
  have HF := Lib.hid hF
  clear m0 hb hM hF L1 M1
  have q32 : ∀ w, (binOp .eql 32 (cmdV k s q a b c d l) (cmdV k s q a eB eB eB 0)).run Try.prog w = .ok (.bool (cmdB k s q a b c d l k s q a eB eB eB 0)) w := fun w => Q32.out _ _ _ _ _ _ _ _ _ _ _ _ _ _ _ _ w
  clear Q32
  cases c0 : cmdB k s q a b c d l k s q a eB eB eB 0
  · have C0 := Lib.hid c0
    rw [c0] at q32
    clear c0
    go_wp2_with fail
    clear q32
    go_ret
    exact ⟨ret_bool (by rw [C0.out]; rfl), L2.out.alloc (Nat.le_of_lt hsz) _⟩
  have C0 := Lib.hid c0
  rw [c0] at q32
  clear c0
  by_cases c1 : ¬ 0 < s
  · have d1 : decide (0 < s) = false := decide_eq_false c1
    have D1 := Lib.hid d1
    clear c1
    go_wp2_with fail
    clear q32
    go_ret
    exact ⟨ret_bool (by rw [C0.out, D1.out]; rfl), L2.out.alloc (Nat.le_of_lt hsz) _⟩
  have d1 : decide (0 < s) = true := decide_eq_true (Decidable.not_not.1 c1)
  have D1 := Lib.hid d1
  clear c1
  by_cases c2 : ¬ 0 < q
  · have d2 : decide (0 < q) = false := decide_eq_false c2
    have D2 := Lib.hid d2
    clear c2
    go_wp2_with fail
    clear q32
    go_ret
    exact ⟨ret_bool (by rw [C0.out, D1.out, D2.out]; rfl), L2.out.alloc (Nat.le_of_lt hsz) _⟩
  have d2 : decide (0 < q) = true := decide_eq_true (Decidable.not_not.1 c2)
  have D2 := Lib.hid d2
  clear c2
  go_wp2_with fail
  clear q32
  refine (hno_any _).mono ?_
  rintro e w2 ⟨rfl, rfl⟩
  have HW : Hid (false = false) := rfl
  go_wp2_with fail
  go_ret
  exact ⟨ret_bool (by rw [C0.out, D1.out, D2.out]; rfl), L2.out.alloc (Nat.le_of_lt hsz) _⟩
/-- May a command be. -/
def goodC (k s q : Int) (a b c d : ByteArray) (l : Int) : Bool :=
  if k = 1 then cmdB 1 s q a b c d l 1 0 0 eB eB eB eB 0
  else if k = 2 then decide (0 < s) && cmdB 2 s q a b c d l 2 s 0 eB eB eB eB 0
  else if k = 3 then cmdB 3 s q a b c d l 3 s q a eB c eB 0 && (decide (0 < s) && (decide (0 < q) && (keyB a && valB c)))
  else if k = 4 then cmdB 4 s q a b c d l 4 s q a eB eB eB 0 && (decide (0 < s) && (decide (0 < q) && keyB a))
  else if k = 5 then cmdB 5 s q a b c d l 5 s q a eB eB eB 0 && (decide (0 < s) && (decide (0 < q) && keyB a))
  else if k = 6 then cmdB 6 s q a b c d l 6 s q a b c eB 0 && (decide (0 < s) && (decide (0 < q) && (keyB a && (valB b && valB c))))
  else if k = 7 then cmdB 7 s q a b c d l 7 s q a eB eB d l && (decide (0 < s) && (decide (0 < q) && scanB a d l))
  else false
theorem goodC_any (k s q : Int) (a b c d : ByteArray) (l : Int) (w : World) : Calls Try.prog 68 #[cmdV k s q a b c d l] w fun e w' => e = .returned (.bool (goodC k s q a b c d l)) ∧ Below w.heap.size w w' := by
  by_cases h1 : k = 1
  · subst h1; exact good1 s q a b c d l w
  by_cases h2 : k = 2
  · subst h2; exact good2 s q a b c d l w
  by_cases h3 : k = 3
  · subst h3; exact good3 s q a b c d l w
  by_cases h4 : k = 4
  · subst h4; exact good4 s q a b c d l w
  by_cases h5 : k = 5
  · subst h5; exact good5 s q a b c d l w
  by_cases h6 : k = 6
  · subst h6; exact good6 s q a b c d l w
  by_cases h7 : k = 7
  · subst h7; exact good7 s q a b c d l w
  refine (goodO k s q a b c d l w (by simpa using h1) (by simpa using h2) (by simpa using h3) (by simpa using h4) (by simpa using h5) (by simpa using h6) (by simpa using h7)).mono ?_
  rintro e w' ⟨rfl, hb⟩
  refine ⟨ret_bool ?_, hb⟩
  rw [goodC, if_neg h1, if_neg h2, if_neg h3, if_neg h4, if_neg h5, if_neg h6, if_neg h7]
  simp
end Go.Proofs.Ytbgfpmnicpmieaa
