/- The walk of corbellaw02.undo. -/
import Derived.Test.YtjjibjamalieiaaHash
namespace Go.Proofs.Ytjjibjamalieiaa
open Go Go.RowKit
set_option linter.unusedVariables false
set_option linter.unusedSimpArgs false
set_option maxRecDepth 100000
set_option maxHeartbeats 400000
theorem undo_any (v : St) (w : World) : Calls Try.prog 18 #[arr v] w fun e w' => e = .returned (arr (und v)) ∧ Below w.heap.size w w' := by
  unfold arr
  have f0 := U_xor v.b (v.c.rotateRight 32)
  have f1 := U_sub (v.c.rotateRight 32) ((v.b ^^^ v.c.rotateRight 32).rotateRight 17)
  have f2 := U_xor v.d v.a
  have f3 := U_sub v.a ((v.d ^^^ v.a).rotateRight 21)
  have f4 := U_xor ((v.d ^^^ v.a).rotateRight 21) (v.c.rotateRight 32 - ((v.b ^^^ v.c.rotateRight 32).rotateRight 17))
  have f5 := U_sub (v.c.rotateRight 32 - ((v.b ^^^ v.c.rotateRight 32).rotateRight 17)) ((((v.d ^^^ v.a).rotateRight 21) ^^^ (v.c.rotateRight 32 - ((v.b ^^^ v.c.rotateRight 32).rotateRight 17))).rotateRight 16)
  have f6 := U_xor ((v.b ^^^ v.c.rotateRight 32).rotateRight 17) ((v.a - ((v.d ^^^ v.a).rotateRight 21)).rotateRight 32)
  have f7 := U_sub ((v.a - ((v.d ^^^ v.a).rotateRight 21)).rotateRight 32) ((((v.b ^^^ v.c.rotateRight 32).rotateRight 17) ^^^ ((v.a - ((v.d ^^^ v.a).rotateRight 21)).rotateRight 32)).rotateRight 13)
  go_enter Try.func18, Try.ntmps18
  go_wp2_with fail
  refine (back_any _ 32 (by omega) _).mono ?_
  rintro e w' ⟨rfl, rfl⟩
  go_wp2_with fail
  refine (back_any _ 17 (by omega) _).mono ?_
  rintro e w' ⟨rfl, rfl⟩
  go_wp2_with fail
  refine (back_any _ 21 (by omega) _).mono ?_
  rintro e w' ⟨rfl, rfl⟩
  go_wp2_with fail
  refine (back_any _ 16 (by omega) _).mono ?_
  rintro e w' ⟨rfl, rfl⟩
  go_wp2_with fail
  refine (back_any _ 32 (by omega) _).mono ?_
  rintro e w' ⟨rfl, rfl⟩
  go_wp2_with fail
  refine (back_any _ 13 (by omega) _).mono ?_
  rintro e w' ⟨rfl, rfl⟩
  go_wp2
  refine bodyPost_ret (v := .agg #[.int .u64 (U (und v).a), .int .u64 (U (und v).b), .int .u64 (U (und v).c), .int .u64 (U (und v).d)]) ?_ rfl ⟨rfl, ?_⟩
  · simp [results, Try.results18, go_sem, und]
  · exact ((Below.refl _ w).alloc (Nat.le_refl _) _).alloc (by simp) _
end Go.Proofs.Ytjjibjamalieiaa
