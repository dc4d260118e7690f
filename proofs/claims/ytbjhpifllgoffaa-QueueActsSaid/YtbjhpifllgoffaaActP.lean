/- A queue beside a list. -/
import Derived.Test.YtbjhpifllgoffaaLives
namespace Go.Proofs.Ytbjhpifllgoffaa
open Go Go.RowKit Go.Maps Go.Conc
set_option linter.unusedVariables false
set_option linter.unusedSimpArgs false
set_option maxRecDepth 100000
set_option maxHeartbeats 2000000
/-- A queue, and a list that holds the same numbers. -/
def QA (w : World) (s M : Nat) (xs : List Int) (v : Value) (k : Nat) : Prop :=
  QS w (s + 1) s M xs ∧ xs.length ≤ M ∧ Win w (s + 2) 3 1 v xs.length (xs.map (Value.int .i64)) ∧ (∀ j, v.ownBlock = some j → s + 2 ≤ j) ∧ xs.length ≤ k
theorem size22 (W : World) : (sizeOf (Try.prog.elem 22)).run Try.prog W = .ok 1 W := by
  obtain ⟨i0, hi, hz0, hz1, hz2⟩ := info_parts Try.info3
  have he : Try.prog.elem 22 = 3 := by kernel_rfl
  rw [he]
  simp [sizeOf, typeInfo, hi, hz1]
end Go.Proofs.Ytbjhpifllgoffaa
