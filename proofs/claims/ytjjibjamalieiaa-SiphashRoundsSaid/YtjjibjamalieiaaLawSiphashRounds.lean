/- The law 'SiphashRounds' answers true at every input, and leaves its arguments as they were. (The frame was written by a program, after the kit's own frames; no condition beside the statement's own.) -/
import Derived.Test.YtjjibjamalieiaaRows
import Derived.WalkKit
import Derived.ProofKit
import Derived.OpenShut
import Derived.Deep.RegionHeld3
import Derived.Deep.DeepCutAuto
import Derived.Test.YtjjibjamalieiaaLives
import Derived.Test.YtjjibjamalieiaaRef
import Derived.Test.YtjjibjamalieiaaKeep
namespace Go.Proofs.Ytjjibjamalieiaa.siphashRounds
open Go.ChangeShapes Go.WideShapes Go.ChangeAt Go.RowKit Go.ChangeMaps Go.Proofs.Ytjjibjamalieiaa
set_option linter.unusedVariables false
set_option linter.unusedSimpArgs false
set_option maxRecDepth 100000

theorem own : ownKnob Try.prog.godebug = none := by kernel_rfl

set_option maxHeartbeats 4000000 in
theorem walk (a0 b0 : BitVec 64) (a1 b1 : BitVec 64) (a2 : Int) (w2 : (Lit.int .u64 a2).wf = true) (w : World) :
    Calls Try.prog 4 #[.agg #[.int .u64 (U a0), .int .u64 (U b0)], .agg #[.int .u64 (U a1), .int .u64 (U b1)], .int .u64 a2] w fun e w' => e = .returned (.bool true) ∧ Below w.heap.size w w' := by
  obtain ⟨b0', b1'⟩ := Go.bounds_u64 w2
  obtain ⟨h, rfl⟩ := U_of a2 (by omega) (by omega)
  obtain ⟨r, hr⟩ : ∃ r : St, r = rnd ⟨a0, b0, a1, b1⟩ := ⟨_, rfl⟩
  have K1 : ∀ w, Calls Try.prog 16 #[.agg #[.int .u64 (U a0), .int .u64 (U b0), .int .u64 (U a1), .int .u64 (U b1)]] w fun e w' => e = .returned (.agg #[.int .u64 (U r.a), .int .u64 (U r.b), .int .u64 (U r.c), .int .u64 (U r.d)]) ∧ Below w.heap.size w w' := fun w => by rw [hr]; exact round_any ⟨a0, b0, a1, b1⟩ w
  have K2 : ∀ w, Calls Try.prog 17 #[.agg #[.int .u64 (U a0), .int .u64 (U b0), .int .u64 (U a1), .int .u64 (U b1)]] w fun e w' => e = .returned (.agg #[.int .u64 (U r.a), .int .u64 (U r.b), .int .u64 (U r.c), .int .u64 (U r.d)]) ∧ Below w.heap.size w w' := fun w => by rw [hr]; exact refround_any ⟨a0, b0, a1, b1⟩ w
  clear hr b0' b1' w2
  have K1 := Lib.hid K1
  have K2 := Lib.hid K2
  have hq : eqB (U r.a) (U r.b) (U r.c) (U r.d) (U r.a) (U r.b) (U r.c) (U r.d) = true := eqB_yes r
  go_enter Try.func4, Try.ntmps4
  go_upto_region 4 with (first | (go_at_call 14; refine (split_any h _).mono ?_; rintro e w' ⟨rfl, rfl⟩) | (go_at_call 15; refine (refsplit_any h _).mono ?_; rintro e w' ⟨rfl, rfl⟩))
  have B0 : Below w.heap.size w (((w.alloc (.cells #[.int .u64 (U a0), .int .u64 (U b0)] 29)).alloc (.cells #[.int .u64 (U a1), .int .u64 (U b1)] 29)).alloc (.cells #[.int .u64 (U a0), .int .u64 (U b0), .int .u64 (U a1), .int .u64 (U b1)] 30)) := (((Below.refl _ w).alloc (Nat.le_refl _) _).alloc (by simp) _).alloc (by simp; omega) _
  have hb : Blk (((w.alloc (.cells #[.int .u64 (U a0), .int .u64 (U b0)] 29)).alloc (.cells #[.int .u64 (U a1), .int .u64 (U b1)] 29)).alloc (.cells #[.int .u64 (U a0), .int .u64 (U b0), .int .u64 (U a1), .int .u64 (U b1)] 30)) (w.heap.size + 1 + 1) ⟨a0, b0, a1, b1⟩ := by
    have := heap_alloc_new ((w.alloc (.cells #[.int .u64 (U a0), .int .u64 (U b0)] 29)).alloc (.cells #[.int .u64 (U a1), .int .u64 (U b1)] 29)) (.cells #[.int .u64 (U a0), .int .u64 (U b0), .int .u64 (U a1), .int .u64 (U b1)] 30)
    simpa [Blk] using this
  revert B0 hb
  generalize ((w.alloc (.cells #[.int .u64 (U a0), .int .u64 (U b0)] 29)).alloc (.cells #[.int .u64 (U a1), .int .u64 (U b1)] 29)).alloc (.cells #[.int .u64 (U a0), .int .u64 (U b0), .int .u64 (U a1), .int .u64 (U b1)] 30) = w1
  intro B0 hb
  have c0 : w1.cell? ⟨w.heap.size + 1 + 1, 0, none⟩ = some (.int .u64 (U a0)) := hb.c0
  have c1 : w1.cell? ⟨w.heap.size + 1 + 1, 1, none⟩ = some (.int .u64 (U b0)) := hb.c1
  have c2 : w1.cell? ⟨w.heap.size + 1 + 1, 2, none⟩ = some (.int .u64 (U a1)) := hb.c2
  have c3 : w1.cell? ⟨w.heap.size + 1 + 1, 3, none⟩ = some (.int .u64 (U b1)) := hb.c3
  clear hb
  go_region_held3 (fun W => W.cell? ⟨w.heap.size + 1 + 1, 0, none⟩ = some (.int .u64 (U a0)) ∧ W.cell? ⟨w.heap.size + 1 + 1, 1, none⟩ = some (.int .u64 (U b0)) ∧ W.cell? ⟨w.heap.size + 1 + 1, 2, none⟩ = some (.int .u64 (U a1)) ∧ W.cell? ⟨w.heap.size + 1 + 1, 3, none⟩ = some (.int .u64 (U b1)) ∧ Below w.heap.size w W)
    (first | exact ⟨c0, c1, c2, c3, B0⟩ | exact ⟨c0, c1, c2, c3, B0.drew⟩ | exact keep_four (by assumption) (by assumption))
    (first
      | (go_at_call 16; refine (K1.out _).mono ?_; rintro e w' ⟨rfl, hB⟩)
      | (go_at_call 17; refine (K2.out _).mono ?_; rintro e w' ⟨rfl, hB⟩)
      | (go_at_call 11; refine (lives_any _).mono ?_; rintro e w' ⟨rfl, hB⟩))
  all_goals (rename_i hHeld; have HH := Lib.hid hHeld; clear hHeld; go_wp2; go_ret; exact ⟨rfl, HH.out.2.2.2.2⟩)

theorem lifted (os : Os) (started : os.Started) (H : Type) (enc : TypeId × Value → H) :
    ReturnsInHanded {} Try.checked os 4 .any (Rows.siphashRoundsSpec.pre6 enc Try.prog Try.f4 Rows.siphashRoundsRow.domain false) (Rows.siphashRoundsSpec.post enc Try.prog Try.f4 false true false false) := by
  refine returnsInHanded_of_change (C := Try.checked) own started (by kernel_rfl) Try.func4
    (ChangeSpec.witness6 (enc := enc) (C := Try.checked) false ⟨#[], #[.agg #[.int .u64 0, .int .u64 0], .agg #[.int .u64 0, .int .u64 0], .int .u64 0], []⟩ 8 (by kernel_rfl) (by kernel_rfl) (by kernel_rfl) (by kernel_rfl)) ?_
  intro W base args ds gs before hval0 hW hcnd _
  have hval : ∀ (j : Nat) t v, Try.f4.params[j]? = some t → args[j]? = some v → Value.okWide Try.prog W .any base t v := hval0
  have hW' := hW
  obtain ⟨p, q, hA0, hV, rfl, hfz, hnd⟩ := hW
  have hA : DataW.TrodAll enc Try.prog W 0 (fun _ => true) true Try.f4.params.toList args.toList ds p := hA0
  rw [Try.params4] at hA hval
  obtain ⟨v0, vs0, d0, ds0, p0, q0, hargs, rfl, rfl, h0, r0⟩ := trodAll_cons hA
  obtain ⟨v1, vs1, d1, ds1, p1, q1, rfl, rfl, rfl, h1, r1⟩ := trodAll_cons r0
  obtain ⟨v2, vs2, d2, ds2, p2, q2, rfl, rfl, rfl, h2, r2⟩ := trodAll_cons r1
  obtain ⟨rfl, rfl, rfl⟩ := trodAll_nil r2
  obtain rfl : args = #[v0, v1, v2] := by cases args; simp_all
  obtain ⟨rfl, rfl⟩ := trodVars_none hV
  obtain ⟨a0, b0, rfl, rfl, rfl⟩ := open_two (hval 0 29 v0 rfl rfl) h0
  obtain ⟨a1, b1, rfl, rfl, rfl⟩ := open_two (hval 1 29 v1 rfl rfl) h1
  obtain ⟨a2, rfl, rfl, rfl, w2⟩ := open_int Try.underlying22 (hval 2 22 v2 rfl rfl) h2
  clear hA0 hval0
  simp only [List.append_nil] at hW'
  refine (walk a0 b0 a1 b1 a2 w2 W).mono fun e W' ⟨he, hg⟩ => ?_
  subst he
  exact ⟨_, rfl, _, _, _, [], _, [], hW', (trodAll_cons_mk (shut_bool Try.underlying4 _) trodAll_mk0), (trodAll_cons_mk (shut_two a0 b0) (trodAll_cons_mk (shut_two a1 b1) (trodAll_cons_mk (shut_int Try.underlying22 w2) trodAll_mk0))), rfl, hg.frame _, fun h => by cases h⟩

theorem over : Rows.siphashRoundsRow.holds Try.pinned (OpenSpec.ofChange Rows.siphashRoundsSpec) :=
  OpenClaim.holds_of_wide 4 Try.f4 rfl rfl rfl rfl rfl rfl rfl ⟨rfl, rfl, rfl, rfl, rfl⟩ rfl rfl rfl rfl rfl (by kernel_rfl) Try.func4 (by kernel_rfl)
    (of_decide_eq_true (by kernel_rfl)) (by unfold Func.isWrapper; first | (rw [if_pos (by decide +kernel)]; kernel_rfl) | (rw [if_neg (by decide +kernel)]; exact ⟨rfl, rfl⟩))
    (fun os started H enc _ => lifted os started H enc)

/-- ████ THE STATEMENT ████ -/
theorem proved : Rows.SiphashRoundsSaid :=
  over
#print axioms proved
end Go.Proofs.Ytjjibjamalieiaa.siphashRounds
