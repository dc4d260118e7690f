import Derived.Test.YtjjibjamalieiaaHash
import Derived.Deep.DeepCutAuto
namespace Go.Proofs.Ytjjibjamalieiaa
open Go Go.RowKit
set_option linter.unusedVariables false
set_option linter.unusedSimpArgs false
set_option maxRecDepth 100000
set_option maxHeartbeats 2000000
/-- The state's cell and the result's behind it. -/
def W4 (w : World) (a b c d : BitVec 64) : World := (w.alloc (.cells #[.int .u64 (U a), .int .u64 (U b), .int .u64 (U c), .int .u64 (U d)] 30)).alloc (.cells #[.int .u64 0, .int .u64 0, .int .u64 0, .int .u64 0] 30)
theorem refround_any (v : St) (w : World) : Calls Try.prog 17 #[arr v] w fun e w' => e = .returned (arr (rnd v)) ∧ Below w.heap.size w w' := by
  unfold arr
  have a1 := U_add v.a v.b
  have a2 := U_xor (v.b.rotateLeft 13) (v.a + v.b)
  have a3 := U_add v.c v.d
  have a4 := U_xor (v.d.rotateLeft 16) (v.c + v.d)
  have a5 := U_add ((v.a + v.b).rotateLeft 32) (v.d.rotateLeft 16 ^^^ (v.c + v.d))
  have a6 := U_xor ((v.d.rotateLeft 16 ^^^ (v.c + v.d)).rotateLeft 21) ((v.a + v.b).rotateLeft 32 + (v.d.rotateLeft 16 ^^^ (v.c + v.d)))
  have a7 := U_add (v.c + v.d) (v.b.rotateLeft 13 ^^^ (v.a + v.b))
  have a8 := U_xor ((v.b.rotateLeft 13 ^^^ (v.a + v.b)).rotateLeft 17) (v.c + v.d + (v.b.rotateLeft 13 ^^^ (v.a + v.b)))
  go_enter Try.func17, Try.ntmps17
  go_upto_region 2 with fail
  go_cut [9] (fun s wx => wx = (W4 w (v.a + v.b) (v.b.rotateLeft 13 ^^^ (v.a + v.b)) v.c v.d).drew)
  case first =>
    go_region_with ((go_at_call 35; refine (rotl_any _ 13 (by omega) _).mono ?_; rintro e w' ⟨rfl, rfl⟩))
    all_goals (go_wp2_with fail; go_meet; rfl)
  case rest =>
    subst hcut
    unfold W4
    go_upto_region 5 with (go_at_call 35; refine (rotl_any _ 32 (by omega) _).mono ?_; rintro e w' ⟨rfl, rfl⟩)
    go_cut [26] (fun s wx => wx = (W4 w ((v.a + v.b).rotateLeft 32) (v.b.rotateLeft 13 ^^^ (v.a + v.b)) (v.c + v.d) (v.d.rotateLeft 16 ^^^ (v.c + v.d))).drew.drew)
    case first =>
      go_region_with ((go_at_call 35; refine (rotl_any _ 16 (by omega) _).mono ?_; rintro e w' ⟨rfl, rfl⟩))
      all_goals (go_wp2_with fail; go_meet; rfl)
    case rest =>
      subst hcut
      unfold W4
      go_upto_region 7 with (go_at_call 35; refine (rotl_any _ 32 (by omega) _).mono ?_; rintro e w' ⟨rfl, rfl⟩)
      go_cut [39] (fun s wx => wx = (W4 w (((v.a + v.b).rotateLeft 32) + (v.d.rotateLeft 16 ^^^ (v.c + v.d))) (v.b.rotateLeft 13 ^^^ (v.a + v.b)) (v.c + v.d) ((v.d.rotateLeft 16 ^^^ (v.c + v.d)).rotateLeft 21 ^^^ (((v.a + v.b).rotateLeft 32) + (v.d.rotateLeft 16 ^^^ (v.c + v.d))))).drew.drew.drew)
      case first =>
        go_region_with ((go_at_call 35; refine (rotl_any _ 21 (by omega) _).mono ?_; rintro e w' ⟨rfl, rfl⟩))
        all_goals (go_wp2_with fail; go_meet; rfl)
      case rest =>
        subst hcut
        unfold W4
        go_upto_region 9 with (go_at_call 35; refine (rotl_any _ 32 (by omega) _).mono ?_; rintro e w' ⟨rfl, rfl⟩)
        go_cut [52] (fun s wx => wx = (W4 w (((v.a + v.b).rotateLeft 32) + (v.d.rotateLeft 16 ^^^ (v.c + v.d))) ((v.b.rotateLeft 13 ^^^ (v.a + v.b)).rotateLeft 17 ^^^ ((v.c + v.d) + (v.b.rotateLeft 13 ^^^ (v.a + v.b)))) ((v.c + v.d) + (v.b.rotateLeft 13 ^^^ (v.a + v.b))) ((v.d.rotateLeft 16 ^^^ (v.c + v.d)).rotateLeft 21 ^^^ (((v.a + v.b).rotateLeft 32) + (v.d.rotateLeft 16 ^^^ (v.c + v.d))))).drew.drew.drew.drew)
        case first =>
          go_region_with ((go_at_call 35; refine (rotl_any _ 17 (by omega) _).mono ?_; rintro e w' ⟨rfl, rfl⟩))
          all_goals (go_wp2_with fail; go_meet; rfl)
        case rest =>
          subst hcut
          unfold W4
          go_wp2_with (go_at_call 35; refine (rotl_any _ 32 (by omega) _).mono ?_; rintro e w' ⟨rfl, rfl⟩)
          refine bodyPost_ret (v := .agg #[.int .u64 (U (rnd v).a), .int .u64 (U (rnd v).b), .int .u64 (U (rnd v).c), .int .u64 (U (rnd v).d)]) ?_ rfl ⟨rfl, ?_⟩
          · simp [results, Try.results17, go_sem, rnd]
          · exact (((((Below.refl _ w).alloc (Nat.le_refl _) _).alloc (by simp) _).drew).drew).drew.drew
end Go.Proofs.Ytjjibjamalieiaa
