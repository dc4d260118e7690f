/- The document's example of progress. -/
import Derived.Test.YtjjibjamalieiaaMember
namespace Go.Proofs.Ytjjibjamalieiaa
open Go Go.RowKit
set_option linter.unusedVariables false
set_option linter.unusedSimpArgs false
set_option maxRecDepth 100000
set_option maxHeartbeats 1000000
theorem plives_any (w : World) : Calls Try.prog 24 #[] w fun e w' => e = .returned (.bool true) ∧ Below w.heap.size w w' := by
  obtain ⟨b, hb⟩ : ∃ b, b = w.heap.size := ⟨_, rfl⟩
  go_enter Try.func24, Try.ntmps24
  go_wp2_with fail
  refine (new_any 5 w).mono ?_
  rintro e w1 ⟨rfl, P1, hz1, B1⟩
  rw [show (⟨max (cutF 5) 1, 0, 1, false, 0⟩ : Pg) = ⟨5, 0, 1, false, 0⟩ from rfl] at P1
  rw [← hb] at P1 hz1 B1 ⊢
  have HB := Lib.hid hb
  clear hb
  have B1 := Lib.hid B1
  have P1 := Lib.hid P1
  have Z1 := Lib.hid hz1
  clear hz1
  go_wp2_with fail
  refine (may1_any ⟨5, 0, 1, false, 0⟩ rfl b _ P1.out).mono ?_
  rintro e w' ⟨rfl, rfl⟩
  go_wp2_with fail
  refine (sent1_any ⟨5, 0, 1, false, 0⟩ rfl 1 b _ P1.out).mono ?_
  rintro e w2 ⟨rfl, P2, O2⟩
  have P2 := Lib.hid P2
  have B2 := Lib.hid (O2.2 b w (Nat.le_refl _) B1.out)
  clear O2
  go_wp2_with fail
  refine (may1_any _ rfl b _ P2.out).mono ?_
  rintro e w' ⟨rfl, rfl⟩
  go_wp2_with fail
  refine (refused_any ⟨5, 0, 1, true, 0⟩ (.inl rfl) 4 2 (by decide) (by decide) (by decide) (by decide) (by decide) (by decide) (fun _ => rfl) b _ P2.out).mono ?_
  rintro e w3 ⟨rfl, P3, O3⟩
  rw [show (⟨max (min 4 (2 + 1)) (0 + 1), 0, 1, false, 0⟩ : Pg) = ⟨3, 0, 1, false, 0⟩ from rfl] at P3
  have P3 := Lib.hid P3
  have B3 := Lib.hid (O3.2 b w (Nat.le_refl _) B2.out)
  clear O3
  go_wp2_with fail
  refine (next_any ⟨3, 0, 1, false, 0⟩ rfl b _ P3.out).mono ?_
  rintro e w' ⟨rfl, rfl⟩
  go_wp2_with fail
  refine (said1_any ⟨3, 0, 1, false, 0⟩ rfl 2 (by decide) (by decide) (by decide) b _ P3.out).mono ?_
  rintro e w4 ⟨rfl, P4, O4⟩
  have P4 := Lib.hid P4
  have B4 := Lib.hid (O4.2 b w (Nat.le_refl _) B3.out)
  clear O4
  go_wp2_with (first | (go_at_call 23; refine (mode_any _ rfl b _ P4.out).mono ?_; rintro e w' ⟨rfl, rfl⟩) | (go_at_call 22; refine (match_any _ rfl b _ P4.out).mono ?_; rintro e w' ⟨rfl, rfl⟩) | (go_at_call 20; refine (next_any _ rfl b _ P4.out).mono ?_; rintro e w' ⟨rfl, rfl⟩))
  go_ret
  exact ⟨rfl, by rw [← HB.out]; exact B4.out⟩
end Go.Proofs.Ytjjibjamalieiaa
