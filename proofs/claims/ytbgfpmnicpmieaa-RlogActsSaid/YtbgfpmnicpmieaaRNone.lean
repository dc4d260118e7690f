/- A log that no call made. -/
import Derived.Test.YtbgfpmnicpmieaaRLives
namespace Go.Proofs.Ytbgfpmnicpmieaa
open Go Go.RowKit Go.Shelf Go.Sort
set_option linter.unusedVariables false
set_option linter.unusedSimpArgs false
set_option maxRecDepth 100000
set_option maxHeartbeats 1000000
/-- No log, or one that no call made. -/
def NL (w : World) (p : Option Addr) : Prop := p = none ∨ ∃ b, p = some ⟨b, 0, none⟩ ∧ LB w b ⟨0, 0, none, 0, 0, 0, 0, 0, false⟩
theorem NL.keep {w w' : World} {p : Option Addr} {m : Nat} (h : NL w p) (hm : w.heap.size ≤ m) (hb : Below m w w') : NL w' p := by
  rcases h with rfl | ⟨b, rfl, h⟩
  · exact .inl rfl
  · exact .inr ⟨b, rfl, h.below hm hb⟩
theorem none_made {w : World} {p : Option Addr} (h : NL w p) : Calls Try.prog 41 #[.pointer p] w fun e w' => e = .returned (.bool false) ∧ w = w' := by
  rcases h with rfl | ⟨b, rfl, h⟩
  · exact made_nil w
  · exact made_any b _ w h
theorem none_base (p : Option Addr) (w : World) (h : NL w p) : Calls Try.prog 15 #[.pointer p] w fun e w' => e = .returned (.tuple #[.int .i64 0, .int .i64 0]) ∧ Below w.heap.size w w' := by
  have HM := Lib.hid (none_made h)
  clear h
  go_enter Try.func15, Try.ntmps15
  go_wp2_with (go_at_call 41; refine HM.out.mono ?_; rintro e w' ⟨rfl, rfl⟩)
  first | go_ret2 | go_ret
  exact ⟨rfl, Below.refl _ _⟩
theorem none_last (p : Option Addr) (w : World) (h : NL w p) : Calls Try.prog 16 #[.pointer p] w fun e w' => e = .returned (.tuple #[.int .i64 0, .int .i64 0]) ∧ Below w.heap.size w w' := by
  have HM := Lib.hid (none_made h)
  clear h
  go_enter Try.func16, Try.ntmps16
  go_wp2_with (go_at_call 41; refine HM.out.mono ?_; rintro e w' ⟨rfl, rfl⟩)
  first | go_ret2 | go_ret
  exact ⟨rfl, Below.refl _ _⟩
theorem none_term (p : Option Addr) (i : Int) (w : World) (h : NL w p) : Calls Try.prog 13 #[.pointer p, .int .i64 i] w fun e w' => e = .returned (.tuple #[.int .i64 0, .int .i64 1]) ∧ Below w.heap.size w w' := by
  have HM := Lib.hid (none_made h)
  clear h
  go_enter Try.func13, Try.ntmps13
  go_wp2_with (go_at_call 41; refine HM.out.mono ?_; rintro e w' ⟨rfl, rfl⟩)
  first | go_ret2 | go_ret
  exact ⟨rfl, Below.refl _ _⟩
theorem none_newer (p : Option Addr) (i j : Int) (w : World) (h : NL w p) : Calls Try.prog 32 #[.pointer p, .int .i64 i, .int .i64 j] w fun e w' => e = .returned (.bool false) ∧ Below w.heap.size w w' := by
  have HM := Lib.hid (none_made h)
  clear h
  go_enter Try.func32, Try.ntmps32
  go_wp2_with (go_at_call 41; refine HM.out.mono ?_; rintro e w' ⟨rfl, rfl⟩)
  first | go_ret | go_ret2
  exact ⟨rfl, Below.refl _ _⟩
theorem none_hint (p : Option Addr) (i j : Int) (w : World) (h : NL w p) : Calls Try.prog 14 #[.pointer p, .int .i64 i, .int .i64 j] w fun e w' => e = .returned (.int .i64 0) ∧ Below w.heap.size w w' := by
  have HM := Lib.hid (none_made h)
  clear h
  go_enter Try.func14, Try.ntmps14
  go_wp2_with (go_at_call 41; refine HM.out.mono ?_; rintro e w' ⟨rfl, rfl⟩)
  first | go_ret | go_ret2
  exact ⟨rfl, Below.refl _ _⟩
theorem none_committed (p : Option Addr) (w : World) (h : NL w p) : Calls Try.prog 19 #[.pointer p] w fun e w' => e = .returned (.int .i64 0) ∧ Below w.heap.size w w' := by
  have HM := Lib.hid (none_made h)
  clear h
  go_enter Try.func19, Try.ntmps19
  go_wp2_with (go_at_call 41; refine HM.out.mono ?_; rintro e w' ⟨rfl, rfl⟩)
  first | go_ret | go_ret2
  exact ⟨rfl, Below.refl _ _⟩
theorem none_stable (p : Option Addr) (w : World) (h : NL w p) : Calls Try.prog 33 #[.pointer p] w fun e w' => e = .returned (.int .i64 0) ∧ Below w.heap.size w w' := by
  have HM := Lib.hid (none_made h)
  clear h
  go_enter Try.func33, Try.ntmps33
  go_wp2_with (go_at_call 41; refine HM.out.mono ?_; rintro e w' ⟨rfl, rfl⟩)
  first | go_ret | go_ret2
  exact ⟨rfl, Below.refl _ _⟩
theorem none_applied (p : Option Addr) (w : World) (h : NL w p) : Calls Try.prog 22 #[.pointer p] w fun e w' => e = .returned (.int .i64 0) ∧ Below w.heap.size w w' := by
  have HM := Lib.hid (none_made h)
  clear h
  go_enter Try.func22, Try.ntmps22
  go_wp2_with (go_at_call 41; refine HM.out.mono ?_; rintro e w' ⟨rfl, rfl⟩)
  first | go_ret | go_ret2
  exact ⟨rfl, Below.refl _ _⟩
theorem none_slice (p : Option Addr) (i j : Int) (w : World) (h : NL w p) : Calls Try.prog 24 #[.pointer p, .int .i64 i, .int .i64 j] w fun e w' => e = .returned (nS) ∧ Below w.heap.size w w' := by
  have HM := Lib.hid (none_made h)
  clear h
  go_enter Try.func24, Try.ntmps24
  go_wp2_with (go_at_call 41; refine HM.out.mono ?_; rintro e w' ⟨rfl, rfl⟩)
  first | go_ret | go_ret2
  exact ⟨rfl, Below.refl _ _⟩
theorem none_unsure (p : Option Addr) (w : World) (h : NL w p) : Calls Try.prog 34 #[.pointer p] w fun e w' => e = .returned (nS) ∧ Below w.heap.size w w' := by
  have HM := Lib.hid (none_made h)
  clear h
  go_enter Try.func34, Try.ntmps34
  go_wp2_with (go_at_call 41; refine HM.out.mono ?_; rintro e w' ⟨rfl, rfl⟩)
  first | go_ret | go_ret2
  exact ⟨rfl, Below.refl _ _⟩
theorem none_apply (p : Option Addr) (i : Int) (w : World) (h : NL w p) : Calls Try.prog 18 #[.pointer p, .int .i64 i] w fun e w' => e = .returned (nS) ∧ Below w.heap.size w w' := by
  have HM := Lib.hid (none_made h)
  clear h
  go_enter Try.func18, Try.ntmps18
  go_wp2_with (go_at_call 41; refine HM.out.mono ?_; rintro e w' ⟨rfl, rfl⟩)
  first | go_ret | go_ret2
  exact ⟨rfl, Below.refl _ _⟩
theorem none_sure (p : Option Addr) (i : Int) (w : World) (h : NL w p) : Calls Try.prog 29 #[.pointer p, .int .i64 i] w fun e w' => e = .returned (.tuple #[]) ∧ Below w.heap.size w w' := by
  have HM := Lib.hid (none_made h)
  clear h
  go_enter Try.func29, Try.ntmps29
  go_wp2_with (go_at_call 41; refine HM.out.mono ?_; rintro e w' ⟨rfl, rfl⟩)
  refine bodyPost_end (v := .tuple #[]) (by simp [results, Try.results29, go_sem]) rfl ?_
  exact ⟨rfl, Below.refl _ _⟩
theorem none_restore (p : Option Addr) (i j : Int) (w : World) (h : NL w p) : Calls Try.prog 30 #[.pointer p, .int .i64 i, .int .i64 j] w fun e w' => e = .returned (.tuple #[]) ∧ Below w.heap.size w w' := by
  have HM := Lib.hid (none_made h)
  clear h
  go_enter Try.func30, Try.ntmps30
  go_wp2_with (go_at_call 41; refine HM.out.mono ?_; rintro e w' ⟨rfl, rfl⟩)
  refine bodyPost_end (v := .tuple #[]) (by simp [results, Try.results30, go_sem]) rfl ?_
  exact ⟨rfl, Below.refl _ _⟩
theorem none_conf (p : Option Addr) (w : World) (h : NL w p) : Calls Try.prog 28 #[.pointer p] w fun e w' => e = .returned (.tuple #[.agg #[nS, nS], .int .i64 0]) ∧ Below w.heap.size w w' := by
  have L1 : Hid (Below w.heap.size w ((w.alloc (.cells #[nS, nS] 35)).alloc (.cells #[.int .i64 0] 3))) := ((Below.refl _ w).alloc (Nat.le_refl _) _).alloc (by simp) _
  have HM := Lib.hid (none_made (h.keep (Nat.le_refl _) L1.out))
  clear h
  go_enter Try.func28, Try.ntmps28
  go_wp2_with (go_at_call 41; refine HM.out.mono ?_; rintro e w' ⟨rfl, rfl⟩)
  refine bodyPost_ret (v := .tuple #[.agg #[nS, nS], .int .i64 0]) (by simp [results, Try.results28, go_sem]) rfl ⟨rfl, L1.out⟩
theorem none_append (p : Option Addr) (w : World) (h : NL w p) : Calls Try.prog 26 #[.pointer p, nopV 1 1] w fun e w' => e = .returned (.int .i64 1) ∧ Below w.heap.size w w' := by
  have L1 : Hid (Below w.heap.size w (w.alloc (.cells (nopC 1 1).toArray 37))) := (Below.refl _ w).alloc (Nat.le_refl _) _
  have HM := Lib.hid (none_made (h.keep (Nat.le_refl _) L1.out))
  clear h
  go_enter Try.func26, Try.ntmps26
  go_wp2_with (go_at_call 41; refine HM.out.mono ?_; rintro e w' ⟨rfl, rfl⟩)
  go_ret
  exact ⟨rfl, L1.out⟩
theorem none_match (p : Option Addr) (i j : Int) (a : Option Addr) (n c : Nat) (w : World) (h : NL w p) : Calls Try.prog 12 #[.pointer p, .int .i64 i, .int .i64 j, .slice a n c] w fun e w' => e = .returned (.tuple #[.int .i64 0, .bool false]) ∧ Below w.heap.size w w' := by
  have L1 : Hid (Below w.heap.size w (w.alloc (.cells #[.pointer p] 27))) := (Below.refl _ w).alloc (Nat.le_refl _) _
  have HM := Lib.hid (none_term p i _ (h.keep (Nat.le_refl _) L1.out))
  clear h
  go_enter Try.func12, Try.ntmps12
  go_wp2_with (go_at_call 13; refine HM.out.mono ?_; rintro e w' ⟨rfl, hb⟩)
  go_ret2
  exact ⟨rfl, L1.out.trans (hb.mono L1.out.size)⟩
theorem none_commit (p : Option Addr) (i : Int) (w : World) (h : NL w p) : Calls Try.prog 17 #[.pointer p, .int .i64 i] w fun e w' => e = .returned (.bool false) ∧ Below w.heap.size w w' := by
  have HM := Lib.hid (none_last p w h)
  have HN := Lib.hid h
  clear h
  go_enter Try.func17, Try.ntmps17
  go_wp2_with fail
  refine HM.out.mono ?_
  rintro e w1 ⟨rfl, hb⟩
  have L1 := Lib.hid hb
  have HM1 := Lib.hid (none_made (HN.out.keep (Nat.le_refl _) hb))
  clear hb
  go_wp2_with fail
  refine HM1.out.mono ?_
  rintro e w' ⟨rfl, rfl⟩
  go_wp2_with fail
  go_ret
  exact ⟨rfl, L1.out⟩
theorem none_compact (p : Option Addr) (i : Int) (w : World) (h : NL w p) : Calls Try.prog 21 #[.pointer p, .int .i64 i] w fun e w' => e = .returned (.bool false) ∧ Below w.heap.size w w' := by
  have HM := Lib.hid (none_made h)
  have HN := Lib.hid h
  clear h
  go_enter Try.func21, Try.ntmps21
  go_upto_region 1 with fail
  go_quiet ((go_at_call 41; refine Calls.quiet_of_same ((none_made (HN.out.keep (Nat.le_refl _) (below_drewN' (Below.refl _ _) _))).mono fun _ _ h => ⟨h.1, h.2.symm⟩)))
  go_wp2_with fail
  go_ret
  exact ⟨rfl, below_drewN' (Below.refl _ _) _⟩
end Go.Proofs.Ytbgfpmnicpmieaa
