/- The law 'SiphashBack' answers true at every input, and leaves its arguments as they were. (The frame was written by a program, after the kit's own frames; no condition beside the statement's own.) -/
import Derived.Test.YtjjibjamalieiaaRows
import Derived.WalkKit
import Derived.ProofKit
import Derived.OpenShut
import Derived.Deep.RegionHeld3
import Derived.Deep.DeepCutAuto
import Derived.Test.YtjjibjamalieiaaLives
import Derived.Test.YtjjibjamalieiaaUndo
import Derived.Test.YtjjibjamalieiaaKeep
namespace Go.Proofs.Ytjjibjamalieiaa.siphashBack
open Go.ChangeShapes Go.WideShapes Go.ChangeAt Go.RowKit Go.ChangeMaps Go.Proofs.Ytjjibjamalieiaa
set_option linter.unusedVariables false
set_option linter.unusedSimpArgs false
set_option maxRecDepth 100000

theorem own : ownKnob Try.prog.godebug = none := by kernel_rfl

set_option maxHeartbeats 1000000 in
theorem walk (a0 b0 : BitVec 64) (a1 b1 : BitVec 64) (w : World) :
    Calls Try.prog 5 #[.agg #[.int .u64 (U a0), .int .u64 (U b0)], .agg #[.int .u64 (U a1), .int .u64 (U b1)]] w fun e w' => e = .returned (.bool true) ∧ Below w.heap.size w w' := by
  obtain ⟨r, hr⟩ : ∃ r : St, r = rnd ⟨a0, b0, a1, b1⟩ := ⟨_, rfl⟩
  obtain ⟨u, hu⟩ : ∃ u : St, u = und ⟨a0, b0, a1, b1⟩ := ⟨_, rfl⟩
  have K1 : ∀ w, Calls Try.prog 16 #[.agg #[.int .u64 (U a0), .int .u64 (U b0), .int .u64 (U a1), .int .u64 (U b1)]] w fun e w' => e = .returned (.agg #[.int .u64 (U r.a), .int .u64 (U r.b), .int .u64 (U r.c), .int .u64 (U r.d)]) ∧ Below w.heap.size w w' := fun w => by rw [hr]; exact round_any ⟨a0, b0, a1, b1⟩ w
  have K2 : ∀ w, Calls Try.prog 18 #[.agg #[.int .u64 (U r.a), .int .u64 (U r.b), .int .u64 (U r.c), .int .u64 (U r.d)]] w fun e w' => e = .returned (.agg #[.int .u64 (U a0), .int .u64 (U b0), .int .u64 (U a1), .int .u64 (U b1)]) ∧ Below w.heap.size w w' := fun w => by
    have := undo_any r w
    rw [show und r = ⟨a0, b0, a1, b1⟩ by rw [hr, und_rnd]] at this; exact this
  have K3 : ∀ w, Calls Try.prog 18 #[.agg #[.int .u64 (U a0), .int .u64 (U b0), .int .u64 (U a1), .int .u64 (U b1)]] w fun e w' => e = .returned (.agg #[.int .u64 (U u.a), .int .u64 (U u.b), .int .u64 (U u.c), .int .u64 (U u.d)]) ∧ Below w.heap.size w w' := fun w => by rw [hu]; exact undo_any ⟨a0, b0, a1, b1⟩ w
  have K4 : ∀ w, Calls Try.prog 16 #[.agg #[.int .u64 (U u.a), .int .u64 (U u.b), .int .u64 (U u.c), .int .u64 (U u.d)]] w fun e w' => e = .returned (.agg #[.int .u64 (U a0), .int .u64 (U b0), .int .u64 (U a1), .int .u64 (U b1)]) ∧ Below w.heap.size w w' := fun w => by
    have := round_any u w
    rw [show rnd u = ⟨a0, b0, a1, b1⟩ by rw [hu, rnd_und]] at this; exact this
  clear hr hu
  have K1 := Lib.hid K1
  have K2 := Lib.hid K2
  have K3 := Lib.hid K3
  have K4 := Lib.hid K4
  have hq : eqB (U a0) (U b0) (U a1) (U b1) (U a0) (U b0) (U a1) (U b1) = true := eqB_yes ⟨a0, b0, a1, b1⟩
  go_enter Try.func5, Try.ntmps5
  go_upto_region 2 with fail
  have B0 : Below w.heap.size w (((w.alloc (.cells #[.int .u64 (U a0), .int .u64 (U b0)] 29)).alloc (.cells #[.int .u64 (U a1), .int .u64 (U b1)] 29)).alloc (.cells #[.int .u64 (U a0), .int .u64 (U b0), .int .u64 (U a1), .int .u64 (U b1)] 30)) := (((Below.refl _ w).alloc (Nat.le_refl _) _).alloc (by simp) _).alloc (by simp; omega) _
  have hb : Blk (((w.alloc (.cells #[.int .u64 (U a0), .int .u64 (U b0)] 29)).alloc (.cells #[.int .u64 (U a1), .int .u64 (U b1)] 29)).alloc (.cells #[.int .u64 (U a0), .int .u64 (U b0), .int .u64 (U a1), .int .u64 (U b1)] 30)) (w.heap.size + 1 + 1) ⟨a0, b0, a1, b1⟩ := by
    have := heap_alloc_new ((w.alloc (.cells #[.int .u64 (U a0), .int .u64 (U b0)] 29)).alloc (.cells #[.int .u64 (U a1), .int .u64 (U b1)] 29)) (.cells #[.int .u64 (U a0), .int .u64 (U b0), .int .u64 (U a1), .int .u64 (U b1)] 30)
    simpa [Blk] using this
  revert B0 hb
  generalize ((w.alloc (.cells #[.int .u64 (U a0), .int .u64 (U b0)] 29)).alloc (.cells #[.int .u64 (U a1), .int .u64 (U b1)] 29)).alloc (.cells #[.int .u64 (U a0), .int .u64 (U b0), .int .u64 (U a1), .int .u64 (U b1)] 30) = w1
  intro B0 hb
  have c0 : w1.cell? ⟨w.heap.size + 1 + 1, 0, none⟩ = some (.int .u64 (U a0)) := hb.c0
  have c1 : w1.cell? ⟨w.heap.size + 1 + 1, 1, none⟩ = some (.int .u64 (U b0)) := hb.c1
  have c2 : w1.cell? ⟨w.heap.size + 1 + 1, 2, none⟩ = some (.int .u64 (U a1)) := hb.c2
  have c3 : w1.cell? ⟨w.heap.size + 1 + 1, 3, none⟩ = some (.int .u64 (U b1)) := hb.c3
  clear hb
  go_region_held3 (fun W => W.cell? ⟨w.heap.size + 1 + 1, 0, none⟩ = some (.int .u64 (U a0)) ∧ W.cell? ⟨w.heap.size + 1 + 1, 1, none⟩ = some (.int .u64 (U b0)) ∧ W.cell? ⟨w.heap.size + 1 + 1, 2, none⟩ = some (.int .u64 (U a1)) ∧ W.cell? ⟨w.heap.size + 1 + 1, 3, none⟩ = some (.int .u64 (U b1)) ∧ Below w.heap.size w W)
    (first | exact ⟨c0, c1, c2, c3, B0⟩ | exact ⟨c0, c1, c2, c3, B0.drew⟩ | exact keep_four (by assumption) (by assumption))
    (first
      | (go_at_call_of 16 (Value.agg #[.int .u64 (U a0), .int .u64 (U b0), .int .u64 (U a1), .int .u64 (U b1)]); refine (K1.out _).mono ?_; rintro e w' ⟨rfl, hB⟩)
      | (go_at_call_of 18 (Value.agg #[.int .u64 (U r.a), .int .u64 (U r.b), .int .u64 (U r.c), .int .u64 (U r.d)]); refine (K2.out _).mono ?_; rintro e w' ⟨rfl, hB⟩)
      | (go_at_call_of 18 (Value.agg #[.int .u64 (U a0), .int .u64 (U b0), .int .u64 (U a1), .int .u64 (U b1)]); refine (K3.out _).mono ?_; rintro e w' ⟨rfl, hB⟩)
      | (go_at_call_of 16 (Value.agg #[.int .u64 (U u.a), .int .u64 (U u.b), .int .u64 (U u.c), .int .u64 (U u.d)]); refine (K4.out _).mono ?_; rintro e w' ⟨rfl, hB⟩)
      | (go_at_call 11; refine (lives_any _).mono ?_; rintro e w' ⟨rfl, hB⟩))
  all_goals (rename_i hHeld; have HH := Lib.hid hHeld; clear hHeld; go_wp2; go_ret; exact ⟨rfl, HH.out.2.2.2.2⟩)

theorem lifted (os : Os) (started : os.Started) (H : Type) (enc : TypeId × Value → H) :
    ReturnsInHanded {} Try.checked os 5 .any (Rows.siphashBackSpec.pre6 enc Try.prog Try.f5 Rows.siphashBackRow.domain false) (Rows.siphashBackSpec.post enc Try.prog Try.f5 false true false false) := by
  refine returnsInHanded_of_change (C := Try.checked) own started (by kernel_rfl) Try.func5
    (ChangeSpec.witness6 (enc := enc) (C := Try.checked) false ⟨#[], #[.agg #[.int .u64 0, .int .u64 0], .agg #[.int .u64 0, .int .u64 0]], []⟩ 8 (by kernel_rfl) (by kernel_rfl) (by kernel_rfl) (by kernel_rfl)) ?_
  intro W base args ds gs before hval0 hW hcnd _
  have hval : ∀ (j : Nat) t v, Try.f5.params[j]? = some t → args[j]? = some v → Value.okWide Try.prog W .any base t v := hval0
  have hW' := hW
  obtain ⟨p, q, hA0, hV, rfl, hfz, hnd⟩ := hW
  have hA : DataW.TrodAll enc Try.prog W 0 (fun _ => true) true Try.f5.params.toList args.toList ds p := hA0
  rw [Try.params5] at hA hval
  obtain ⟨v0, vs0, d0, ds0, p0, q0, hargs, rfl, rfl, h0, r0⟩ := trodAll_cons hA
  obtain ⟨v1, vs1, d1, ds1, p1, q1, rfl, rfl, rfl, h1, r1⟩ := trodAll_cons r0
  obtain ⟨rfl, rfl, rfl⟩ := trodAll_nil r1
  obtain rfl : args = #[v0, v1] := by cases args; simp_all
  obtain ⟨rfl, rfl⟩ := trodVars_none hV
  obtain ⟨a0, b0, rfl, rfl, rfl⟩ := open_two (hval 0 29 v0 rfl rfl) h0
  obtain ⟨a1, b1, rfl, rfl, rfl⟩ := open_two (hval 1 29 v1 rfl rfl) h1
  clear hA0 hval0
  simp only [List.append_nil] at hW'
  refine (walk a0 b0 a1 b1 W).mono fun e W' ⟨he, hg⟩ => ?_
  subst he
  exact ⟨_, rfl, _, _, _, [], _, [], hW', (trodAll_cons_mk (shut_bool Try.underlying4 _) trodAll_mk0), (trodAll_cons_mk (shut_two a0 b0) (trodAll_cons_mk (shut_two a1 b1) trodAll_mk0)), rfl, hg.frame _, fun h => by cases h⟩

theorem over : Rows.siphashBackRow.holds Try.pinned (OpenSpec.ofChange Rows.siphashBackSpec) :=
  OpenClaim.holds_of_wide 5 Try.f5 rfl rfl rfl rfl rfl rfl rfl ⟨rfl, rfl, rfl, rfl, rfl⟩ rfl rfl rfl rfl rfl (by kernel_rfl) Try.func5 (by kernel_rfl)
    (of_decide_eq_true (by kernel_rfl)) (by unfold Func.isWrapper; first | (rw [if_pos (by decide +kernel)]; kernel_rfl) | (rw [if_neg (by decide +kernel)]; exact ⟨rfl, rfl⟩))
    (fun os started H enc _ => lifted os started H enc)

/-- ████ THE STATEMENT ████ -/
theorem proved : Rows.SiphashBackSaid :=
  over
#print axioms proved
end Go.Proofs.Ytjjibjamalieiaa.siphashBack
