/- The law 'QuorumGrows' answers true at every input, and leaves its arguments as they were. (The frame was written by the guide's proof-skeleton.mjs; no condition beside the statement's own.) -/
import Derived.Test.YtlcdidmhokbkfaaRows
import Derived.WalkKit
import Derived.ProofKit
import Derived.OpenShut
import Derived.Test.YtlcdidmhokbkfaaLives
namespace Go.Proofs.Ytlcdidmhokbkfaa.quorumGrows
open Go.ChangeShapes Go.WideShapes Go.ChangeAt Go.RowKit
set_option linter.unusedVariables false      -- a walk need not use every 'w<i>' (that an integer argument fits its kind)

theorem own : ownKnob Try.prog.godebug = none := by kernel_rfl

/-! ### STEP 1: THE WALK: the Go text returns true. the world has at most new blocks. Part the cases AHEAD of 'go_enter' where a test parts the walk; take each callee by a contract of your own. -/
set_option maxRecDepth 100000 in
set_option maxHeartbeats 1000000 in
theorem walk (a0 : Int) (a1 : Int) (a2 : Int) (w0 : (Lit.int .u64 a0).wf = true) (w1 : (Lit.int .u64 a1).wf = true) (w2 : (Lit.int .u64 a2).wf = true) (w : World) :
    Calls Try.prog 6 #[.int .u64 a0, .int .u64 a1, .int .u64 a2] w fun e w' => e = .returned (.bool true) ∧ Below w.heap.size w w' := by
  obtain ⟨x0, x1⟩ := Go.bounds_u64 w0
  obtain ⟨y0, y1⟩ := Go.bounds_u64 w1
  obtain ⟨z0, z1⟩ := Go.bounds_u64 w2
  obtain ⟨a, ha⟩ : ∃ a : Nat, a0 % 100 = a := ⟨(a0 % 100).toNat, by omega⟩
  obtain ⟨b, hb⟩ : ∃ b : Nat, a1 % 100 = b := ⟨(a1 % 100).toNat, by omega⟩
  obtain ⟨n, hn⟩ : ∃ n : Nat, a2 % 100 = n := ⟨(a2 % 100).toNat, by omega⟩
  have ha2 : a < 100 := by omega
  have hb2 : b < 100 := by omega
  have hn2 : n < 100 := by omega
  have hat : a0.tmod 100 = a := by rw [Int.tmod_eq_emod_of_nonneg x0]; exact ha
  have hbt : a1.tmod 100 = b := by rw [Int.tmod_eq_emod_of_nonneg y0]; exact hb
  have hnt : a2.tmod 100 = n := by rw [Int.tmod_eq_emod_of_nonneg z0]; exact hn
  clear x0 x1 y0 y1 z0 z1 w0 w1 w2
  obtain ⟨g4, g5⟩ := won_all (c := 1 + (n : Int)) (by omega)
  have u1 := fun h => won_up (a := (a : Int)) (b := (b : Int)) (c := 1 + (n : Int)) (by omega) (by omega) (by omega) h
  have u2 := fun h => won_no (a := (a : Int)) (b := (b : Int)) (c := 1 + (n : Int)) (by omega) (by omega) (by omega) h
  have u3 := fun h h' => won_both (a := (a : Int)) (b := (b : Int)) (c := 1 + (n : Int)) (by omega) (by omega) (by omega) h h'
  have u4 := fun h => won_tie (a := (a : Int)) (b := (b : Int)) (c := 1 + (n : Int)) (by omega) (by omega) (by omega) h
  have hr := won_range (a : Int) (b : Int) (1 + (n : Int))
  have C : ∀ w, Calls Try.prog 11 #[.int .i64 (a : Int), .int .i64 (b : Int), .int .i64 (1 + (n : Int))] w fun e w' => e = .returned (.int .i64 (won (a : Int) (b : Int) (1 + (n : Int)))) ∧ w = w' := fun w => won_any _ _ _ (by omega) w
  have U1 := Lib.hid u1
  have U2 := Lib.hid u2
  have U3 := Lib.hid u3
  have U4 := Lib.hid u4
  have C := Lib.hid C
  have G4 := Lib.hid g4
  have G5 := Lib.hid g5
  clear u1 u2 u3 u4 g4 g5
  go_enter Try.func6, Try.ntmps6
  go_wp2_with fail
  refine (C.out _).mono ?_
  rintro e w' ⟨rfl, rfl⟩
  rcases hr with hr | hr | hr
  · have h2 : (won (a : Int) ((b : Int) + 1) (1 + (n : Int)) == 1) = false := beq_eq_false_iff_ne.2 (U2.out (by rw [hr]; decide))
    have ht := U4.out hr
    rw [hr]
    rcases Int.lt_or_gt_of_ne ht with ht | ht
    all_goals
      go_wp2_with fail
      refine (won_any _ _ _ (by omega) _).mono ?_
      rintro e w' ⟨rfl, rfl⟩
      go_wp2_with fail
      refine (won_any _ _ _ (by omega) _).mono ?_
      rintro e w' ⟨rfl, rfl⟩
      rw [G4.out]
      go_wp2_with fail
      refine (won_any _ _ _ (by omega) _).mono ?_
      rintro e w' ⟨rfl, rfl⟩
      rw [G5.out]
      go_wp2_with (go_at_call 13; refine (lives_any _).mono ?_; rintro e w' ⟨rfl, hB⟩)
      go_ret
      exact ⟨rfl, hB⟩
  · have h1 := U1.out hr
    rw [hr]
    go_wp2_with fail
    refine (won_any _ _ _ (by omega) _).mono ?_
    rintro e w' ⟨rfl, rfl⟩
    rw [h1]
    go_wp2_with fail
    refine (won_any _ _ _ (by omega) _).mono ?_
    rintro e w' ⟨rfl, rfl⟩
    rw [G4.out]
    go_wp2_with fail
    refine (won_any _ _ _ (by omega) _).mono ?_
    rintro e w' ⟨rfl, rfl⟩
    rw [G5.out]
    go_wp2_with (go_at_call 13; refine (lives_any _).mono ?_; rintro e w' ⟨rfl, hB⟩)
    go_ret
    exact ⟨rfl, hB⟩
  · have h2 : (won (a : Int) ((b : Int) + 1) (1 + (n : Int)) == 1) = false := beq_eq_false_iff_ne.2 (U2.out (by rw [hr]; decide))
    by_cases h3 : (a : Int) + b ≤ 1 + (n : Int)
    · have h4 : (won (1 + (n : Int) - b) (b : Int) (1 + (n : Int)) == 1) = false := beq_eq_false_iff_ne.2 (U3.out hr h3)
      rw [hr]
      go_wp2_with fail
      refine (won_any _ _ _ (by omega) _).mono ?_
      rintro e w' ⟨rfl, rfl⟩
      go_wp2_with fail
      refine (won_any _ _ _ (by omega) _).mono ?_
      rintro e w' ⟨rfl, rfl⟩
      go_wp2_with fail
      refine (won_any _ _ _ (by omega) _).mono ?_
      rintro e w' ⟨rfl, rfl⟩
      rw [G4.out]
      go_wp2_with fail
      refine (won_any _ _ _ (by omega) _).mono ?_
      rintro e w' ⟨rfl, rfl⟩
      rw [G5.out]
      go_wp2_with (go_at_call 13; refine (lives_any _).mono ?_; rintro e w' ⟨rfl, hB⟩)
      go_ret
      exact ⟨rfl, hB⟩
    · rw [hr]
      go_wp2_with fail
      refine (won_any _ _ _ (by omega) _).mono ?_
      rintro e w' ⟨rfl, rfl⟩
      go_wp2_with fail
      refine (won_any _ _ _ (by omega) _).mono ?_
      rintro e w' ⟨rfl, rfl⟩
      rw [G4.out]
      go_wp2_with fail
      refine (won_any _ _ _ (by omega) _).mono ?_
      rintro e w' ⟨rfl, rfl⟩
      rw [G5.out]
      go_wp2_with (go_at_call 13; refine (lives_any _).mono ?_; rintro e w' ⟨rfl, hB⟩)
      go_ret
      exact ⟨rfl, hB⟩

/-! ### THE ROW's STEP: WRITTEN OUT: LEAVE IT -/
set_option maxRecDepth 100000 in
theorem lifted (os : Os) (started : os.Started) (H : Type) (enc : TypeId × Value → H) :
    ReturnsInHanded {} Try.checked os 6 .any (Rows.quorumGrowsSpec.pre6 enc Try.prog Try.f6 Rows.quorumGrowsRow.domain false) (Rows.quorumGrowsSpec.post enc Try.prog Try.f6 false true false false) := by
  refine returnsInHanded_of_change (C := Try.checked) own started (by kernel_rfl) Try.func6
    (ChangeSpec.witness6 (enc := enc) (C := Try.checked) false ⟨#[], #[.int .u64 0, .int .u64 0, .int .u64 0], []⟩ 8 (by kernel_rfl) (by kernel_rfl) (by kernel_rfl) (by kernel_rfl)) ?_
  intro W base args ds gs before hval0 hW hcnd _
  have hval : ∀ (j : Nat) t v, Try.f6.params[j]? = some t → args[j]? = some v → Value.okWide Try.prog W .any base t v := hval0
  have hW' := hW
  obtain ⟨p, q, hA0, hV, rfl, hfz, hnd⟩ := hW
  have hA : DataW.TrodAll enc Try.prog W 0 (fun _ => true) true Try.f6.params.toList args.toList ds p := hA0
  rw [Try.params6] at hA hval
  obtain ⟨v0, vs0, d0, ds0, p0, q0, hargs, rfl, rfl, h0, r0⟩ := trodAll_cons hA
  obtain ⟨v1, vs1, d1, ds1, p1, q1, rfl, rfl, rfl, h1, r1⟩ := trodAll_cons r0
  obtain ⟨v2, vs2, d2, ds2, p2, q2, rfl, rfl, rfl, h2, r2⟩ := trodAll_cons r1
  obtain ⟨rfl, rfl, rfl⟩ := trodAll_nil r2
  obtain rfl : args = #[v0, v1, v2] := by cases args; simp_all
  obtain ⟨rfl, rfl⟩ := trodVars_none hV
  obtain ⟨a0, rfl, rfl, rfl, w0⟩ := open_int Try.underlying29 (hval 0 29 v0 rfl rfl) h0
  obtain ⟨a1, rfl, rfl, rfl, w1⟩ := open_int Try.underlying29 (hval 1 29 v1 rfl rfl) h1
  obtain ⟨a2, rfl, rfl, rfl, w2⟩ := open_int Try.underlying29 (hval 2 29 v2 rfl rfl) h2
  clear hA0 hval0
  simp only [List.append_nil] at hW'
  refine (walk a0 a1 a2 w0 w1 w2 W).mono fun e W' ⟨he, hg⟩ => ?_
  subst he
  exact ⟨_, rfl, _, _, _, [], _, [], hW', (trodAll_cons_mk (shut_bool Try.underlying4 _) trodAll_mk0), (trodAll_cons_mk (shut_int Try.underlying29 w0) (trodAll_cons_mk (shut_int Try.underlying29 w1) (trodAll_cons_mk (shut_int Try.underlying29 w2) trodAll_mk0))), rfl, hg.frame _, fun h => by cases h⟩

theorem over : Rows.quorumGrowsRow.holds Try.pinned (OpenSpec.ofChange Rows.quorumGrowsSpec) :=
  OpenClaim.holds_of_wide 6 Try.f6 rfl rfl rfl rfl rfl rfl rfl ⟨rfl, rfl, rfl, rfl, rfl⟩ rfl rfl rfl rfl rfl (by kernel_rfl) Try.func6 (by kernel_rfl)
    (of_decide_eq_true (by kernel_rfl)) (by unfold Func.isWrapper; first | (rw [if_pos (by decide +kernel)]; kernel_rfl) | (rw [if_neg (by decide +kernel)]; exact ⟨rfl, rfl⟩))
    (fun os started H enc _ => lifted os started H enc)

/-- ████ THE STATEMENT ████ -/
theorem proved : Rows.QuorumGrowsSaid :=
  over
#print axioms proved
end Go.Proofs.Ytlcdidmhokbkfaa.quorumGrows
