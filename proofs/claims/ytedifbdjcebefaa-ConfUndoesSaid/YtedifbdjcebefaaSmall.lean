/- Undo, the reference's, few. -/
import Derived.Test.YtedifbdjcebefaaBase
namespace Go.Proofs.Ytedifbdjcebefaa
open Go Go.RowKit
set_option linter.unusedVariables false
set_option linter.unusedSimpArgs false
set_option maxRecDepth 100000
set_option maxHeartbeats 400000
def undF (k : Int) : Int := if k = 1 ∨ k = 2 then 4 else 0
theorem undo_any (k : Int) (w : World) : Calls Try.prog 13 #[.int .i64 k] w fun e w' => e = .returned (.int .i64 (undF k)) ∧ w = w' := by
  by_cases h1 : k = 1
  · subst h1
    go_enter Try.func13, Try.ntmps13
    go_wp2
    go_ret
    exact ⟨rfl, rfl⟩
  · by_cases h2 : k = 2
    · subst h2
      go_enter Try.func13, Try.ntmps13
      go_wp2
      go_ret
      exact ⟨rfl, rfl⟩
    · have HU : Hid (undF k = 0) := by show _ = _; unfold undF; rw [if_neg (by omega)]
      have e1 : (k == 1) = false := beq_eq_false_iff_ne.2 h1
      have e2 : (k == 2) = false := beq_eq_false_iff_ne.2 h2
      clear h1 h2
      go_enter Try.func13, Try.ntmps13
      go_wp2
      go_ret
      exact ⟨ret_int HU.out.symm, rfl⟩
theorem refundo_any (k : Int) (w : World) : Calls Try.prog 14 #[.int .i64 k] w fun e w' => e = .returned (.int .i64 (undF k)) ∧ w = w' := by
  by_cases h1 : k = 1
  · subst h1
    go_enter Try.func14, Try.ntmps14
    go_wp2
    go_ret
    exact ⟨rfl, rfl⟩
  · by_cases h2 : k = 2
    · subst h2
      go_enter Try.func14, Try.ntmps14
      go_wp2
      go_ret
      exact ⟨rfl, rfl⟩
    · have HU : Hid (undF k = 0) := by show _ = _; unfold undF; rw [if_neg (by omega)]
      have e1 : (k == 1) = false := beq_eq_false_iff_ne.2 h1
      have e2 : (k == 2) = false := beq_eq_false_iff_ne.2 h2
      clear h1 h2
      go_enter Try.func14, Try.ntmps14
      go_wp2
      go_ret
      exact ⟨ret_int HU.out.symm, rfl⟩
theorem few_any (a b : Option Addr) (n m c d : Nat) (hn : n ≤ 4611686018427387904) (hm : m ≤ 4611686018427387903) (w : World) : Calls Try.prog 8 #[.agg #[.slice a n c, .slice b m d]] w fun e w' => e = .returned (.bool (decide ((n : Int) + m ≤ 200))) ∧ Below w.heap.size w w' := by
  have hw : IntKind.i64.wrap ((n : Int) + (m : Int)) = (n : Int) + m := IntWalk.i64_in _ (by omega)
  clear hn hm
  go_enter Try.func8, Try.ntmps8
  go_wp2
  go_ret
  exact ⟨rfl, (Below.refl _ w).alloc (Nat.le_refl _) _⟩
end Go.Proofs.Ytedifbdjcebefaa
