/- The law 'ProbeMoves' answers true at every input, and leaves its arguments as they were. (The frame was written by the guide's proof-skeleton.mjs; no condition beside the statement's own.) -/
import Derived.Test.YthbllkcikikodaaRows
import Derived.WalkKit
import Derived.ProofKit
import Derived.OpenShut
import Derived.Test.YthbllkcikikodaaLives
namespace Go.Proofs.Ythbllkcikikodaa.probeMoves
open Go.ChangeShapes Go.WideShapes Go.ChangeAt Go.RowKit
set_option linter.unusedVariables false      -- a walk need not use every 'w<i>' (that an integer argument fits its kind)

theorem own : ownKnob Try.prog.godebug = none := by kernel_rfl

/-! ### STEP 1: THE WALK: the Go text returns true. the world has at most new blocks. Part the cases AHEAD of 'go_enter' where a test parts the walk; take each callee by a contract of your own. -/
theorem walk (a0 : Int) (a1 : Int) (w0 : (Lit.int .u64 a0).wf = true) (w1 : (Lit.int .u64 a1).wf = true) (w : World) :
    Calls Try.prog 7 #[.int .u64 a0, .int .u64 a1] w fun e w' => e = .returned (.bool true) ∧ Below w.heap.size w w' := by
  have b0 := bounds_u64 w0
  have b1 := bounds_u64 w1
  have H0 := Lib.hid b0.1
  have H1 : Hid (a0 < 18446744073709551616) := by show _ < _; omega
  have hk0 : 0 ≤ a1 := b1.1
  obtain ⟨m, hm, hg, hm1, hm2⟩ := shl_good hk0
  have HM := Lib.hid hm
  have HG := Lib.hid hg
  have HB := Lib.hid (refAt_big (h := a0) (i := (m : Int)) (g := (m : Int)) (Int.le_refl _))
  have HN := Lib.hid (refAt_neg (h := a0) (i := -1) (g := (m : Int)) (by omega))
  clear b0 b1 w0 w1 hm hg
  go_enter Try.func7, Try.ntmps7
  go_wp2_with fail
  rw [HM.out]
  go_loopw [6, 7, 8] (fun t _ _ wr => ∃ k : Nat, k ≤ m ∧ t = .int .i64 k ∧ Below w.heap.size w wr) (fun t _ _ _ => m - (intOf t).toNat)
  case atStart => exact ⟨0, Nat.zero_le _, rfl, Below.refl _ _⟩
  case round =>
    obtain ⟨k, hk, rfl, hB⟩ := hrel
    by_cases hlt : k + 1 < m
    · have hd : decide ((k : Int) + 1 < (m : Int)) = true := decide_eq_true (by omega)
      have HE1 := Lib.hid (refAt_el (h := a0) (i := k) HG.out (by omega))
      have HE2 := Lib.hid (refAt_el (h := a0) (i := k + 1) HG.out (by omega))
      have hl1 := el_lt a0.toNat (m : Int).toNat k (by omega)
      have hst : (((el a0.toNat (m : Int).toNat k : Nat) : Int) + (k : Int) + 1) % (m : Int) = ((el a0.toNat (m : Int).toNat (k + 1) : Nat) : Int) := moves_step _ _ _
      generalize el a0.toNat (m : Int).toNat k = e1 at *
      generalize el a0.toNat (m : Int).toNat (k + 1) = e2 at *
      go_wp2_with fail
      refine (at_any _ _ _ H0.out H1.out _).mono ?_
      rintro e w1 ⟨rfl, hB1⟩
      rw [HE1.out]
      go_wp2_with fail
      refine (at_any _ _ _ H0.out H1.out _).mono ?_
      rintro e w2 ⟨rfl, hB2⟩
      have HE2' := HE2.out
      simp only [Int.natCast_add, Int.natCast_one] at HE2'
      rw [HE2']
      clear HE2'
      simp only [Int.toNat_natCast] at *
      go_wp2
      exact ⟨⟨k + 1, by omega, by simp, (hB.trans (hB1.mono hB.size)).trans (hB2.mono (Nat.le_trans hB.size hB1.size))⟩, by simp [intOf]; omega⟩
    · have hd : decide ((k : Int) + 1 < (m : Int)) = false := decide_eq_false (by omega)
      go_wp2_with fail
      refine (at_any _ _ _ H0.out H1.out _).mono ?_
      rintro e w1 ⟨rfl, hB1⟩
      rw [HB.out]
      go_wp2_with fail
      refine (at_any _ _ _ H0.out H1.out _).mono ?_
      rintro e w2 ⟨rfl, hB2⟩
      rw [HN.out]
      go_wp2_with (go_at_call 13; refine (lives_any _).mono ?_; rintro e w' ⟨rfl, hB3⟩)
      go_ret
      have hB' := (hB.trans (hB1.mono hB.size)).trans (hB2.mono (Nat.le_trans hB.size hB1.size))
      exact ⟨rfl, hB'.trans (hB3.mono hB'.size)⟩

/-! ### THE ROW's STEP: WRITTEN OUT: LEAVE IT -/
set_option maxRecDepth 100000 in
theorem lifted (os : Os) (started : os.Started) (H : Type) (enc : TypeId × Value → H) :
    ReturnsInHanded {} Try.checked os 7 .any (Rows.probeMovesSpec.pre6 enc Try.prog Try.f7 Rows.probeMovesRow.domain false) (Rows.probeMovesSpec.post enc Try.prog Try.f7 false true false false) := by
  refine returnsInHanded_of_change (C := Try.checked) own started (by kernel_rfl) Try.func7
    (ChangeSpec.witness6 (enc := enc) (C := Try.checked) false ⟨#[], #[.int .u64 0, .int .u64 0], []⟩ 8 (by kernel_rfl) (by kernel_rfl) (by kernel_rfl) (by kernel_rfl)) ?_
  intro W base args ds gs before hval0 hW hcnd _
  have hval : ∀ (j : Nat) t v, Try.f7.params[j]? = some t → args[j]? = some v → Value.okWide Try.prog W .any base t v := hval0
  have hW' := hW
  obtain ⟨p, q, hA0, hV, rfl, hfz, hnd⟩ := hW
  have hA : DataW.TrodAll enc Try.prog W 0 (fun _ => true) true Try.f7.params.toList args.toList ds p := hA0
  rw [Try.params7] at hA hval
  obtain ⟨v0, vs0, d0, ds0, p0, q0, hargs, rfl, rfl, h0, r0⟩ := trodAll_cons hA
  obtain ⟨v1, vs1, d1, ds1, p1, q1, rfl, rfl, rfl, h1, r1⟩ := trodAll_cons r0
  obtain ⟨rfl, rfl, rfl⟩ := trodAll_nil r1
  obtain rfl : args = #[v0, v1] := by cases args; simp_all
  obtain ⟨rfl, rfl⟩ := trodVars_none hV
  obtain ⟨a0, rfl, rfl, rfl, w0⟩ := open_int Try.underlying22 (hval 0 22 v0 rfl rfl) h0
  obtain ⟨a1, rfl, rfl, rfl, w1⟩ := open_int Try.underlying32 (hval 1 32 v1 rfl rfl) h1
  clear hA0 hval0
  simp only [List.append_nil] at hW'
  refine (walk a0 a1 w0 w1 W).mono fun e W' ⟨he, hg⟩ => ?_
  subst he
  exact ⟨_, rfl, _, _, _, [], _, [], hW', (trodAll_cons_mk (shut_bool Try.underlying4 _) trodAll_mk0), (trodAll_cons_mk (shut_int Try.underlying22 w0) (trodAll_cons_mk (shut_int Try.underlying32 w1) trodAll_mk0)), rfl, hg.frame _, fun h => by cases h⟩

theorem over : Rows.probeMovesRow.holds Try.pinned (OpenSpec.ofChange Rows.probeMovesSpec) :=
  OpenClaim.holds_of_wide 7 Try.f7 rfl rfl rfl rfl rfl rfl rfl ⟨rfl, rfl, rfl, rfl, rfl⟩ rfl rfl rfl rfl rfl (by kernel_rfl) Try.func7 (by kernel_rfl)
    (of_decide_eq_true (by kernel_rfl)) (by unfold Func.isWrapper; first | (rw [if_pos (by decide +kernel)]; kernel_rfl) | (rw [if_neg (by decide +kernel)]; exact ⟨rfl, rfl⟩))
    (fun os started H enc _ => lifted os started H enc)

/-- ████ THE STATEMENT ████ -/
theorem proved : Rows.ProbeMovesSaid :=
  over
#print axioms proved
end Go.Proofs.Ythbllkcikikodaa.probeMoves
