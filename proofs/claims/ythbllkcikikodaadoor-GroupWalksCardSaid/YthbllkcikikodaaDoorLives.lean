/- The walk of corbellaw03.lives, over this seat's program. -/
import Derived.Test.YthbllkcikikodaaDoorRef
import Derived.Test.YthbllkcikikodaaDoorCount
namespace Go.Proofs.YthbllkcikikodaaDoor
open Go Go.RowKit
set_option linter.unusedVariables false
set_option maxRecDepth 100000
set_option linter.unusedSimpArgs false

theorem none_5 : ∃ y : Nat, st 9259542123273814144 (ix 2) 5 = y ∧ y < 18446744073709551616 ∧ mch y 5 = 4 ∧ mch y 128 = 251 := ⟨_, rfl, by decide +kernel, by decide +kernel, by decide +kernel⟩
theorem f12 : firstF 12 = 2 := by decide +kernel
theorem n12 : nextF 12 = 8 := by decide +kernel
theorem c7 : cntF 7 = 3 := by decide +kernel
set_option maxHeartbeats 1000000 in
theorem lives_any (w : World) (hS : Sh w) : Calls Tryd.prog 15 #[] w fun e w' => e = .returned (.bool true) ∧ Below w.heap.size w w' := by
  obtain ⟨y, hy, hy1, hy2, hy3⟩ := none_5
  have HY := Lib.hid hy
  have HY1 := Lib.hid hy1
  have HY2 := Lib.hid hy2
  have HY3 := Lib.hid hy3
  have HF := Lib.hid f12
  have HN := Lib.hid n12
  have HC := Lib.hid c7
  have HS := Lib.hid hS
  clear hy hy1 hy2 hy3 hS
  go_enter Tryd.func15, Tryd.ntmps15
  go_wp2_with fail
  refine (set_any 9259542123273814144 5 2 (by omega) (by omega) _ HS.out).mono ?_
  rintro e w' ⟨rfl, rfl⟩
  rw [HY.out]
  go_wp2_with fail
  refine (match_any _ 5 HY1.out (by omega) _).mono ?_
  rintro e w' ⟨rfl, rfl⟩
  rw [HY2.out]
  go_wp2_with fail
  refine (empties_any _ HY1.out _).mono ?_
  rintro e w' ⟨rfl, rfl⟩
  rw [HY3.out]
  go_wp2_with fail
  refine (first_any 12 (by omega) _).mono ?_
  rintro e w' ⟨rfl, rfl⟩
  rw [HF.out]
  go_wp2_with fail
  refine (next_any 12 (by omega) _).mono ?_
  rintro e w' ⟨rfl, rfl⟩
  rw [HN.out]
  go_wp2_with fail
  refine (count_any 7 (by omega) _).mono ?_
  rintro e w' ⟨rfl, hB⟩
  rw [HC.out]
  go_wp2
  go_ret
  exact ⟨rfl, hB⟩
end Go.Proofs.YthbllkcikikodaaDoor
