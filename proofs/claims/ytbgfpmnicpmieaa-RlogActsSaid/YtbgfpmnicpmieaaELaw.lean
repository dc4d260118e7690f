/- A log's base. -/
import Derived.Test.YtbgfpmnicpmieaaEPlain
namespace Go.Proofs.Ytbgfpmnicpmieaa
open Go Go.RowKit
set_option linter.unusedVariables false
set_option linter.unusedSimpArgs false
set_option maxRecDepth 100000
set_option maxHeartbeats 1000000
theorem base_any (b : Nat) (l : Lg) (w : World) (h : LB w b l) (hi : l.is = true) : Calls Try.prog 15 #[.pointer (some ⟨b, 0, none⟩)] w fun e w' => e = .returned (.tuple #[.int .i64 l.ix, .int .i64 l.tm]) ∧ Below w.heap.size w w' := by
  have HM := Lib.hid (made_any b l w h)
  have h0 := h.c0
  have h1 := h.c1
  rw [hi] at HM
  clear h hi
  go_enter Try.func15, Try.ntmps15
  go_wp2_with (go_at_call 41; refine HM.out.mono ?_; rintro e w' ⟨rfl, rfl⟩)
  go_quiet (fail)
  go_wp2
  go_ret2
  exact ⟨rfl, below_drewN' (Below.refl _ _) nq⟩
theorem committed_any (b : Nat) (l : Lg) (w : World) (h : LB w b l) (hi : l.is = true) : Calls Try.prog 19 #[.pointer (some ⟨b, 0, none⟩)] w fun e w' => e = .returned (.int .i64 l.com) ∧ w = w' := by
  have HM := Lib.hid (made_any b l w h)
  have h3 := h.c3
  rw [hi] at HM
  clear h hi
  go_enter Try.func19, Try.ntmps19
  go_wp2_with (go_at_call 41; refine HM.out.mono ?_; rintro e w' ⟨rfl, rfl⟩)
  go_ret
  exact ⟨rfl, rfl⟩
theorem applied_any (b : Nat) (l : Lg) (w : World) (h : LB w b l) (hi : l.is = true) : Calls Try.prog 22 #[.pointer (some ⟨b, 0, none⟩)] w fun e w' => e = .returned (.int .i64 l.app) ∧ w = w' := by
  have HM := Lib.hid (made_any b l w h)
  have h4 := h.c4
  rw [hi] at HM
  clear h hi
  go_enter Try.func22, Try.ntmps22
  go_wp2_with (go_at_call 41; refine HM.out.mono ?_; rintro e w' ⟨rfl, rfl⟩)
  go_ret
  exact ⟨rfl, rfl⟩
end Go.Proofs.Ytbgfpmnicpmieaa
