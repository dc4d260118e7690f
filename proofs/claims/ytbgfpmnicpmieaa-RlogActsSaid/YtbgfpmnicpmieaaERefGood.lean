/- Commands: may they be, as the document has it. -/
import Derived.Test.YtbgfpmnicpmieaaEState
namespace Go.Proofs.Ytbgfpmnicpmieaa
open Go Go.RowKit Go.Shelf Go.Sort
set_option linter.unusedVariables false
set_option linter.unusedSimpArgs false
set_option maxRecDepth 100000
set_option maxHeartbeats 1000000
theorem empty_iff (a : ByteArray) : a.toList.isEmpty = decide (a.size = 0) := by
  rw [ByteArray.toList_eq]
  obtain ⟨⟨x⟩⟩ := a
  cases x <;> simp [ByteArray.size]
theorem keyB_eq (a : ByteArray) : keyB a = (decide (1 ≤ (a.size : Int)) && decide ((a.size : Int) ≤ 64)) := by
  rw [keyB, empty_iff]
  by_cases h : a.size = 0
  · rw [decide_eq_true h, decide_eq_false (show ¬ (1 : Int) ≤ (a.size : Int) by omega)]; rfl
  · rw [decide_eq_false h, decide_eq_true (show (1 : Int) ≤ (a.size : Int) by omega)]; rfl
theorem refkey_any (a : ByteArray) (w : World) : Calls Try.prog 77 #[.string a] w fun e w' => e = .returned (.bool (keyB a)) ∧ w = w' := by
  have HK := Lib.hid (keyB_eq a)
  by_cases h : 1 ≤ (a.size : Int)
  · have h1 : decide (1 ≤ (a.size : Int)) = true := decide_eq_true h
    have H1 := Lib.hid h1
    have hn : 1 ≤ a.size := by omega
    have hp : 0 < a.size := by omega
    go_enter Try.func77, Try.ntmps77
    go_wp2_with fail
    go_ret
    exact ⟨ret_bool (by rw [HK.out, H1.out]; rfl), rfl⟩
  · have h1 : decide (1 ≤ (a.size : Int)) = false := decide_eq_false h
    have H1 := Lib.hid h1
    have hn : ¬ 1 ≤ a.size := by omega
    have hp : a.size = 0 := by omega
    have h0 : (a.size : Int) = 0 := by omega
    go_enter Try.func77, Try.ntmps77
    go_wp2_with fail
    go_ret
    exact ⟨ret_bool (by rw [HK.out, H1.out]; rfl), rfl⟩
theorem refvalue_any (a : ByteArray) (w : World) : Calls Try.prog 78 #[.string a] w fun e w' => e = .returned (.bool (valB a)) ∧ w = w' := by
  go_enter Try.func78, Try.ntmps78
  go_wp2_with fail
  go_ret
  exact ⟨rfl, rfl⟩
theorem ref1 (s q : Int) (a b c d : ByteArray) (l : Int) (w : World) : Calls Try.prog 70 #[cmdV 1 s q a b c d l] w fun e w' => e = .returned (.bool (cmdB 1 s q a b c d l 1 0 0 eB eB eB eB 0)) ∧ Below w.heap.size w w' := by
  have q32 := comEq
  go_enter Try.func70, Try.ntmps70
  go_wp2_with fail
  clear q32
  go_ret
  exact ⟨rfl, ((Below.refl _ w).alloc (Nat.le_refl _) _).alloc (by simp) _⟩
theorem ref2 (s q : Int) (a b c d : ByteArray) (l : Int) (w : World) : Calls Try.prog 70 #[cmdV 2 s q a b c d l] w fun e w' => e = .returned (.bool (decide (0 < s) && cmdB 2 s q a b c d l 2 s 0 eB eB eB eB 0)) ∧ Below w.heap.size w w' := by
  have Q32 := Lib.hid comEq
  have q32 : ∀ w, (binOp .eql 32 (cmdV 2 s q a b c d l) (cmdV 2 s 0 eB eB eB eB 0)).run Try.prog w = .ok (.bool (cmdB 2 s q a b c d l 2 s 0 eB eB eB eB 0)) w := fun w => Q32.out _ _ _ _ _ _ _ _ _ _ _ _ _ _ _ _ w
  clear Q32
  have L1 : Hid (Below w.heap.size w ((w.alloc (.cells #[.int .i64 2, .int .i64 s, .int .i64 q, .string a, .string b, .string c, .string d, .int .i64 l] 32)).alloc (.cells #[.int .i64 2, .int .i64 s, .int .i64 0, .string eB, .string eB, .string eB, .string eB, .int .i64 0] 32))) := ((Below.refl _ w).alloc (Nat.le_refl _) _).alloc (by simp) _
  go_enter Try.func70, Try.ntmps70
  cases c0 : cmdB 2 s q a b c d l 2 s 0 eB eB eB eB 0
  · have C0 := Lib.hid c0
    rw [c0] at q32
    clear c0
    go_wp2_with fail
    clear q32
    go_ret
    exact ⟨ret_bool (by simp), L1.out⟩
  · have C0 := Lib.hid c0
    rw [c0] at q32
    clear c0
    have HD : Hid (decide (1 ≤ s) = decide (0 < s)) := by show _ = _; exact decide_eq_decide.2 (by omega)
    go_wp2_with fail
    clear q32
    go_ret
    exact ⟨ret_bool (by rw [HD.out]; simp), L1.out⟩
theorem ref3 (s q : Int) (a b c d : ByteArray) (l : Int) (w : World) : Calls Try.prog 70 #[cmdV 3 s q a b c d l] w fun e w' => e = .returned (.bool (cmdB 3 s q a b c d l 3 s q a eB c eB 0 && (decide (0 < s) && (decide (0 < q) && (keyB a && valB c))))) ∧ Below w.heap.size w w' := by
  have L1 : Hid (∀ o, Below w.heap.size w ((w.alloc (.cells #[.int .i64 3, .int .i64 s, .int .i64 q, .string a, .string b, .string c, .string d, .int .i64 l] 32)).alloc o)) := by
    show ∀ o, _
    exact fun o => ((Below.refl _ w).alloc (Nat.le_refl _) _).alloc (by simp) _
  have Q32 := Lib.hid comEq
  go_enter Try.func70, Try.ntmps70
  go_wp2_with fail
  refine (refkey_any a _).mono ?_
  rintro e w1 ⟨rfl, rfl⟩
  cases ck : keyB a
  · have CK := Lib.hid ck
    clear ck
    go_wp2_with fail
    go_ret
    exact ⟨ret_bool (by rw [CK.out]; simp), L1.out _⟩
  have CK := Lib.hid ck
  clear ck
  go_wp2_with fail
  refine (refvalue_any c _).mono ?_
  rintro e w1 ⟨rfl, rfl⟩
  cases cv : valB c
  · have CV := Lib.hid cv
    clear cv
    go_wp2_with fail
    go_ret
    exact ⟨ret_bool (by rw [CK.out, CV.out]; simp), L1.out _⟩
  have CV := Lib.hid cv
  clear cv

  have q32 : ∀ w, (binOp .eql 32 (cmdV 3 s q a b c d l) (cmdV 3 s q a eB c eB 0)).run Try.prog w = .ok (.bool (cmdB 3 s q a b c d l 3 s q a eB c eB 0)) w := fun w => Q32.out _ _ _ _ _ _ _ _ _ _ _ _ _ _ _ _ w
  clear Q32
  cases c0 : cmdB 3 s q a b c d l 3 s q a eB c eB 0
  · have C0 := Lib.hid c0
    rw [c0] at q32
    clear c0
    go_wp2_with fail
    clear q32
    go_ret
    exact ⟨ret_bool (by rw [C0.out]; rfl), L1.out _⟩
  have C0 := Lib.hid c0
  rw [c0] at q32
  clear c0
  by_cases c1 : ¬ 1 ≤ s
  · have d1 : decide (1 ≤ s) = false := decide_eq_false c1
    have D1 : Hid (decide (0 < s) = false) := by show _ = _; exact decide_eq_false (by omega)
    go_wp2_with fail
    clear q32
    go_ret
    exact ⟨ret_bool (by rw [C0.out, D1.out]; rfl), L1.out _⟩
  have d1 : decide (1 ≤ s) = true := decide_eq_true (Decidable.not_not.1 c1)
  have D1 : Hid (decide (0 < s) = true) := by show _ = _; exact decide_eq_true (by omega)
  have c1' := Decidable.not_not.1 c1
  clear c1
  have HQ : Hid (decide (0 < q) = decide (1 ≤ q)) := by show _ = _; exact decide_eq_decide.2 (by omega)
  go_wp2_with fail
  clear q32
  go_ret
  exact ⟨ret_bool (by rw [C0.out, D1.out, HQ.out, CK.out, CV.out]; simp), L1.out _⟩
theorem ref4 (s q : Int) (a b c d : ByteArray) (l : Int) (w : World) : Calls Try.prog 70 #[cmdV 4 s q a b c d l] w fun e w' => e = .returned (.bool (cmdB 4 s q a b c d l 4 s q a eB eB eB 0 && (decide (0 < s) && (decide (0 < q) && keyB a)))) ∧ Below w.heap.size w w' := by
  have L1 : Hid (∀ o, Below w.heap.size w ((w.alloc (.cells #[.int .i64 4, .int .i64 s, .int .i64 q, .string a, .string b, .string c, .string d, .int .i64 l] 32)).alloc o)) := by
    show ∀ o, _
    exact fun o => ((Below.refl _ w).alloc (Nat.le_refl _) _).alloc (by simp) _
  have Q32 := Lib.hid comEq
  go_enter Try.func70, Try.ntmps70
  go_wp2_with fail
  refine (refkey_any a _).mono ?_
  rintro e w1 ⟨rfl, rfl⟩
  cases ck : keyB a
  · have CK := Lib.hid ck
    clear ck
    go_wp2_with fail
    go_ret
    exact ⟨ret_bool (by rw [CK.out]; simp), L1.out _⟩
  have CK := Lib.hid ck
  clear ck

  have q32 : ∀ w, (binOp .eql 32 (cmdV 4 s q a b c d l) (cmdV 4 s q a eB eB eB 0)).run Try.prog w = .ok (.bool (cmdB 4 s q a b c d l 4 s q a eB eB eB 0)) w := fun w => Q32.out _ _ _ _ _ _ _ _ _ _ _ _ _ _ _ _ w
  clear Q32
  cases c0 : cmdB 4 s q a b c d l 4 s q a eB eB eB 0
  · have C0 := Lib.hid c0
    rw [c0] at q32
    clear c0
    go_wp2_with fail
    clear q32
    go_ret
    exact ⟨ret_bool (by rw [C0.out]; rfl), L1.out _⟩
  have C0 := Lib.hid c0
  rw [c0] at q32
  clear c0
  by_cases c1 : ¬ 1 ≤ s
  · have d1 : decide (1 ≤ s) = false := decide_eq_false c1
    have D1 : Hid (decide (0 < s) = false) := by show _ = _; exact decide_eq_false (by omega)
    go_wp2_with fail
    clear q32
    go_ret
    exact ⟨ret_bool (by rw [C0.out, D1.out]; rfl), L1.out _⟩
  have d1 : decide (1 ≤ s) = true := decide_eq_true (Decidable.not_not.1 c1)
  have D1 : Hid (decide (0 < s) = true) := by show _ = _; exact decide_eq_true (by omega)
  have c1' := Decidable.not_not.1 c1
  clear c1
  have HQ : Hid (decide (0 < q) = decide (1 ≤ q)) := by show _ = _; exact decide_eq_decide.2 (by omega)
  go_wp2_with fail
  clear q32
  go_ret
  exact ⟨ret_bool (by rw [C0.out, D1.out, HQ.out, CK.out]; simp), L1.out _⟩
theorem ref5 (s q : Int) (a b c d : ByteArray) (l : Int) (w : World) : Calls Try.prog 70 #[cmdV 5 s q a b c d l] w fun e w' => e = .returned (.bool (cmdB 5 s q a b c d l 5 s q a eB eB eB 0 && (decide (0 < s) && (decide (0 < q) && keyB a)))) ∧ Below w.heap.size w w' := by
  have L1 : Hid (∀ o, Below w.heap.size w ((w.alloc (.cells #[.int .i64 5, .int .i64 s, .int .i64 q, .string a, .string b, .string c, .string d, .int .i64 l] 32)).alloc o)) := by
    show ∀ o, _
    exact fun o => ((Below.refl _ w).alloc (Nat.le_refl _) _).alloc (by simp) _
  have Q32 := Lib.hid comEq
  go_enter Try.func70, Try.ntmps70
  go_wp2_with fail
  refine (refkey_any a _).mono ?_
  rintro e w1 ⟨rfl, rfl⟩
  cases ck : keyB a
  · have CK := Lib.hid ck
    clear ck
    go_wp2_with fail
    go_ret
    exact ⟨ret_bool (by rw [CK.out]; simp), L1.out _⟩
  have CK := Lib.hid ck
  clear ck

  have q32 : ∀ w, (binOp .eql 32 (cmdV 5 s q a b c d l) (cmdV 5 s q a eB eB eB 0)).run Try.prog w = .ok (.bool (cmdB 5 s q a b c d l 5 s q a eB eB eB 0)) w := fun w => Q32.out _ _ _ _ _ _ _ _ _ _ _ _ _ _ _ _ w
  clear Q32
  cases c0 : cmdB 5 s q a b c d l 5 s q a eB eB eB 0
  · have C0 := Lib.hid c0
    rw [c0] at q32
    clear c0
    go_wp2_with fail
    clear q32
    go_ret
    exact ⟨ret_bool (by rw [C0.out]; rfl), L1.out _⟩
  have C0 := Lib.hid c0
  rw [c0] at q32
  clear c0
  by_cases c1 : ¬ 1 ≤ s
  · have d1 : decide (1 ≤ s) = false := decide_eq_false c1
    have D1 : Hid (decide (0 < s) = false) := by show _ = _; exact decide_eq_false (by omega)
    go_wp2_with fail
    clear q32
    go_ret
    exact ⟨ret_bool (by rw [C0.out, D1.out]; rfl), L1.out _⟩
  have d1 : decide (1 ≤ s) = true := decide_eq_true (Decidable.not_not.1 c1)
  have D1 : Hid (decide (0 < s) = true) := by show _ = _; exact decide_eq_true (by omega)
  have c1' := Decidable.not_not.1 c1
  clear c1
  have HQ : Hid (decide (0 < q) = decide (1 ≤ q)) := by show _ = _; exact decide_eq_decide.2 (by omega)
  go_wp2_with fail
  clear q32
  go_ret
  exact ⟨ret_bool (by rw [C0.out, D1.out, HQ.out, CK.out]; simp), L1.out _⟩
theorem ref6 (s q : Int) (a b c d : ByteArray) (l : Int) (w : World) : Calls Try.prog 70 #[cmdV 6 s q a b c d l] w fun e w' => e = .returned (.bool (cmdB 6 s q a b c d l 6 s q a b c eB 0 && (decide (0 < s) && (decide (0 < q) && (keyB a && (valB b && valB c)))))) ∧ Below w.heap.size w w' := by
  have L1 : Hid (∀ o, Below w.heap.size w ((w.alloc (.cells #[.int .i64 6, .int .i64 s, .int .i64 q, .string a, .string b, .string c, .string d, .int .i64 l] 32)).alloc o)) := by
    show ∀ o, _
    exact fun o => ((Below.refl _ w).alloc (Nat.le_refl _) _).alloc (by simp) _
  have Q32 := Lib.hid comEq
  go_enter Try.func70, Try.ntmps70
  go_wp2_with fail
  refine (refkey_any a _).mono ?_
  rintro e w1 ⟨rfl, rfl⟩
  go_wp2_with fail
  go_region
  all_goals (
    cases ck : keyB a
    · have CK := Lib.hid ck
      clear ck
      go_wp2_with fail
      go_ret
      exact ⟨ret_bool (by rw [CK.out]; simp), (by first | exact L1.out _ | exact (L1.out _).drew)⟩
    have CK := Lib.hid ck
    clear ck
    go_wp2_with fail
    refine (refvalue_any b _).mono ?_
    rintro e w1 ⟨rfl, rfl⟩
    cases cu : valB b
    · have CU := Lib.hid cu
      clear cu
      go_wp2_with fail
      go_ret
      exact ⟨ret_bool (by rw [CK.out, CU.out]; simp), (by first | exact L1.out _ | exact (L1.out _).drew)⟩
    have CU := Lib.hid cu
    clear cu
    go_wp2_with fail
    refine (refvalue_any c _).mono ?_
    rintro e w1 ⟨rfl, rfl⟩
    cases cv : valB c
    · have CV := Lib.hid cv
      clear cv
      go_wp2_with fail
      go_ret
      exact ⟨ret_bool (by rw [CK.out, CU.out, CV.out]; simp), (by first | exact L1.out _ | exact (L1.out _).drew)⟩
    have CV := Lib.hid cv
    clear cv

    have q32 : ∀ w, (binOp .eql 32 (cmdV 6 s q a b c d l) (cmdV 6 s q a b c eB 0)).run Try.prog w = .ok (.bool (cmdB 6 s q a b c d l 6 s q a b c eB 0)) w := fun w => Q32.out _ _ _ _ _ _ _ _ _ _ _ _ _ _ _ _ w
    clear Q32
    cases c0 : cmdB 6 s q a b c d l 6 s q a b c eB 0
    · have C0 := Lib.hid c0
      rw [c0] at q32
      clear c0
      go_wp2_with fail
      clear q32
      go_ret
      exact ⟨ret_bool (by rw [C0.out]; rfl), (by first | exact L1.out _ | exact (L1.out _).drew)⟩
    have C0 := Lib.hid c0
    rw [c0] at q32
    clear c0
    by_cases c1 : ¬ 1 ≤ s
    · have d1 : decide (1 ≤ s) = false := decide_eq_false c1
      have D1 : Hid (decide (0 < s) = false) := by show _ = _; exact decide_eq_false (by omega)
      go_wp2_with fail
      clear q32
      go_ret
      exact ⟨ret_bool (by rw [C0.out, D1.out]; rfl), (by first | exact L1.out _ | exact (L1.out _).drew)⟩
    have d1 : decide (1 ≤ s) = true := decide_eq_true (Decidable.not_not.1 c1)
    have D1 : Hid (decide (0 < s) = true) := by show _ = _; exact decide_eq_true (by omega)
    have c1' := Decidable.not_not.1 c1
    clear c1
    have HQ : Hid (decide (0 < q) = decide (1 ≤ q)) := by show _ = _; exact decide_eq_decide.2 (by omega)
    go_wp2_with fail
    clear q32
    go_ret
    exact ⟨ret_bool (by rw [C0.out, D1.out, HQ.out, CK.out, CU.out, CV.out]; simp), (by first | exact L1.out _ | exact (L1.out _).drew)⟩)
theorem ref7 (s q : Int) (a b c d : ByteArray) (l : Int) (w : World) : Calls Try.prog 70 #[cmdV 7 s q a b c d l] w fun e w' => e = .returned (.bool (cmdB 7 s q a b c d l 7 s q a eB eB d l && (decide (0 < s) && (decide (0 < q) && scanB a d l)))) ∧ Below w.heap.size w w' := by
  have L1 : Hid (∀ o, Below w.heap.size w ((w.alloc (.cells #[.int .i64 7, .int .i64 s, .int .i64 q, .string a, .string b, .string c, .string d, .int .i64 l] 32)).alloc o)) := by
    show ∀ o, _
    exact fun o => ((Below.refl _ w).alloc (Nat.le_refl _) _).alloc (by simp) _
  have Q32 := Lib.hid comEq
  go_enter Try.func70, Try.ntmps70
  go_wp2_with fail
  refine (refkey_any a _).mono ?_
  rintro e w1 ⟨rfl, rfl⟩
  go_wp2_with fail
  go_region
  all_goals (
    have HS : Hid (scanB a d l = (decide ((a.size : Int) ≤ 64) && (decide ((d.size : Int) ≤ 64) && (decide (1 ≤ l) && decide (l ≤ 64))))) := by
      show _ = _
      rw [scanB]
      by_cases h1 : (a.size : Int) ≤ 64
      · by_cases h2 : (d.size : Int) ≤ 64
        · rw [decide_eq_true h1, decide_eq_true h2, decide_eq_true (show max (a.size : Int) d.size ≤ 64 by omega)]; rfl
        · rw [decide_eq_false h2, decide_eq_false (show ¬ max (a.size : Int) d.size ≤ 64 by omega)]; simp
      · rw [decide_eq_false h1, decide_eq_false (show ¬ max (a.size : Int) d.size ≤ 64 by omega)]; simp
    cases ca : decide ((a.size : Int) ≤ 64)
    · have CA := Lib.hid ca
      go_wp2_with fail
      go_ret
      exact ⟨ret_bool (by rw [HS.out, CA.out]; simp), (by first | exact L1.out _ | exact (L1.out _).drew)⟩
    have CA := Lib.hid ca
    cases cd : decide ((d.size : Int) ≤ 64)
    · have CD := Lib.hid cd
      go_wp2_with fail
      go_ret
      exact ⟨ret_bool (by rw [HS.out, CA.out, CD.out]; simp), (by first | exact L1.out _ | exact (L1.out _).drew)⟩
    have CD := Lib.hid cd
    cases ce : decide (1 ≤ l)
    · have CE := Lib.hid ce
      go_wp2_with fail
      go_ret
      exact ⟨ret_bool (by rw [HS.out, CA.out, CD.out, CE.out]; simp), (by first | exact L1.out _ | exact (L1.out _).drew)⟩
    have CE := Lib.hid ce
    cases cf : decide (l ≤ 64)
    · have CF := Lib.hid cf
      go_wp2_with fail
      go_ret
      exact ⟨ret_bool (by rw [HS.out, CA.out, CD.out, CE.out, CF.out]; simp), (by first | exact L1.out _ | exact (L1.out _).drew)⟩
    have CF := Lib.hid cf

    have q32 : ∀ w, (binOp .eql 32 (cmdV 7 s q a b c d l) (cmdV 7 s q a eB eB d l)).run Try.prog w = .ok (.bool (cmdB 7 s q a b c d l 7 s q a eB eB d l)) w := fun w => Q32.out _ _ _ _ _ _ _ _ _ _ _ _ _ _ _ _ w
    clear Q32
    cases c0 : cmdB 7 s q a b c d l 7 s q a eB eB d l
    · have C0 := Lib.hid c0
      rw [c0] at q32
      clear c0
      go_wp2_with fail
      clear q32
      go_ret
      exact ⟨ret_bool (by rw [C0.out]; rfl), (by first | exact L1.out _ | exact (L1.out _).drew)⟩
    have C0 := Lib.hid c0
    rw [c0] at q32
    clear c0
    by_cases c1 : ¬ 1 ≤ s
    · have d1 : decide (1 ≤ s) = false := decide_eq_false c1
      have D1 : Hid (decide (0 < s) = false) := by show _ = _; exact decide_eq_false (by omega)
      go_wp2_with fail
      clear q32
      go_ret
      exact ⟨ret_bool (by rw [C0.out, D1.out]; rfl), (by first | exact L1.out _ | exact (L1.out _).drew)⟩
    have d1 : decide (1 ≤ s) = true := decide_eq_true (Decidable.not_not.1 c1)
    have D1 : Hid (decide (0 < s) = true) := by show _ = _; exact decide_eq_true (by omega)
    have c1' := Decidable.not_not.1 c1
    clear c1
    have HQ : Hid (decide (0 < q) = decide (1 ≤ q)) := by show _ = _; exact decide_eq_decide.2 (by omega)
    go_wp2_with fail
    clear q32
    go_ret
    exact ⟨ret_bool (by rw [C0.out, D1.out, HQ.out, HS.out, CA.out, CD.out, CE.out, CF.out]; simp), (by first | exact L1.out _ | exact (L1.out _).drew)⟩)
theorem refO (k : Int) (s q : Int) (a b c d : ByteArray) (l : Int) (w : World) (h1 : (k == 1) = false) (h2 : (k == 2) = false) (h3 : (k == 3) = false) (h4 : (k == 4) = false) (h5 : (k == 5) = false) (h6 : (k == 6) = false) (h7 : (k == 7) = false) : Calls Try.prog 70 #[cmdV k s q a b c d l] w fun e w' => e = .returned (.bool false) ∧ Below w.heap.size w w' := by
  have L1 : Hid (∀ o, Below w.heap.size w ((w.alloc (.cells #[.int .i64 k, .int .i64 s, .int .i64 q, .string a, .string b, .string c, .string d, .int .i64 l] 32)).alloc o)) := by
    show ∀ o, _
    exact fun o => ((Below.refl _ w).alloc (Nat.le_refl _) _).alloc (by simp) _
  go_enter Try.func70, Try.ntmps70
  go_wp2_with fail
  refine (refkey_any a _).mono ?_
  rintro e w1 ⟨rfl, rfl⟩
  go_wp2_with fail
  go_ret
  exact ⟨rfl, L1.out _⟩
theorem refC_any (k s q : Int) (a b c d : ByteArray) (l : Int) (w : World) : Calls Try.prog 70 #[cmdV k s q a b c d l] w fun e w' => e = .returned (.bool (goodC k s q a b c d l)) ∧ Below w.heap.size w w' := by
  by_cases h1 : k = 1
  · subst h1; exact ref1 s q a b c d l w
  by_cases h2 : k = 2
  · subst h2; exact ref2 s q a b c d l w
  by_cases h3 : k = 3
  · subst h3; exact ref3 s q a b c d l w
  by_cases h4 : k = 4
  · subst h4; exact ref4 s q a b c d l w
  by_cases h5 : k = 5
  · subst h5; exact ref5 s q a b c d l w
  by_cases h6 : k = 6
  · subst h6; exact ref6 s q a b c d l w
  by_cases h7 : k = 7
  · subst h7; exact ref7 s q a b c d l w
  refine (refO k s q a b c d l w (by simpa using h1) (by simpa using h2) (by simpa using h3) (by simpa using h4) (by simpa using h5) (by simpa using h6) (by simpa using h7)).mono ?_
  rintro e w' ⟨rfl, hb⟩
  refine ⟨ret_bool ?_, hb⟩
  rw [goodC, if_neg h1, if_neg h2, if_neg h3, if_neg h4, if_neg h5, if_neg h6, if_neg h7]
end Go.Proofs.Ytbgfpmnicpmieaa
