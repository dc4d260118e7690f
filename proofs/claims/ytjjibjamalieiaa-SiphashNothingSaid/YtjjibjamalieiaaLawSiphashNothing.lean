/- The law 'SiphashNothing' answers true at every input, and leaves its arguments as they were. (The frame was written by a program, after the kit's own frames; no condition beside the statement's own.) -/
import Derived.Test.YtjjibjamalieiaaRows
import Derived.WalkKit
import Derived.ProofKit
import Derived.OpenShut
import Derived.Deep.RegionHeld3
import Derived.Deep.DeepCutAuto
import Derived.Test.YtjjibjamalieiaaLives
import Derived.Test.YtjjibjamalieiaaNone
namespace Go.Proofs.Ytjjibjamalieiaa.siphashNothing
open Go.ChangeShapes Go.WideShapes Go.ChangeAt Go.RowKit Go.ChangeMaps Go.Proofs.Ytjjibjamalieiaa
set_option linter.unusedVariables false
set_option linter.unusedSimpArgs false
set_option maxRecDepth 100000

theorem own : ownKnob Try.prog.godebug = none := by kernel_rfl

set_option maxHeartbeats 1000000 in
theorem walk (a0 b0 : BitVec 64) (w : World) :
    Calls Try.prog 7 #[.agg #[.int .u64 (U a0), .int .u64 (U b0)]] w fun e w' => e = .returned (.bool true) ∧ Below w.heap.size w w' := by
  have h1 := x1 a0
  have h2 := x2 b0
  have h3 := x3 a0
  have h4 := x4 b0
  go_enter Try.func7, Try.ntmps7
  go_upto_region 2 with fail
  clear h1 h2 h3 h4
  have B : Blk ((w.alloc (.cells #[.int .u64 (U a0), .int .u64 (U b0)] 24)).alloc (.cells #[.int .u64 (U (init a0 b0).a), .int .u64 (U (init a0 b0).b), .int .u64 (U (init a0 b0).c), .int .u64 (U (init a0 b0).d)] 30)) (w.heap.size + 1) (init a0 b0) := heap_alloc2_new w _ _
  have Z : KB ((w.alloc (.cells #[.int .u64 (U a0), .int .u64 (U b0)] 24)).alloc (.cells #[.int .u64 (U (init a0 b0).a), .int .u64 (U (init a0 b0).b), .int .u64 (U (init a0 b0).c), .int .u64 (U (init a0 b0).d)] 30)) w.heap.size a0 b0 := heap_alloc2_old w _ _
  have W0 : Below w.heap.size w ((w.alloc (.cells #[.int .u64 (U a0), .int .u64 (U b0)] 24)).alloc (.cells #[.int .u64 (U (init a0 b0).a), .int .u64 (U (init a0 b0).b), .int .u64 (U (init a0 b0).c), .int .u64 (U (init a0 b0).d)] 30)) := ((Below.refl _ w).alloc (Nat.le_refl _) _).alloc (by simp) _
  revert B Z W0
  simp only [init]
  generalize World.alloc _ _ = w1
  intro B Z W0
  obtain ⟨v0, hv0⟩ : ∃ v0, v0 = init a0 b0 := ⟨_, rfl⟩
  have hv0' : v0 = ⟨a0 ^^^ 8317987319222330741, b0 ^^^ 7237128888997146477, a0 ^^^ 7816392313619706465, b0 ^^^ 8387220255154660723⟩ := hv0
  rw [← hv0'] at B
  have HV0 := Lib.hid hv0
  clear hv0 hv0'
  have q0 := B.c0
  have q1 := B.c1
  have q2 := B.c2
  have q3 := B.c3
  have HB := Lib.hid B
  have HZ := Lib.hid Z
  have HW := Lib.hid W0
  clear B Z W0
  go_wp2_with fail
  clear q0 q1 q2 q3
  have B := HB.out; have Z := HZ.out; have W0 := HW.out
  clear HB HZ HW
  refine (round_any v0 w1).mono ?_
  rintro e w2 ⟨rfl, h2⟩
  have B2 := B.below h2
  have Z2 := Z.below h2
  have W2 := W0.trans (h2.mono W0.size)
  clear B Z W0 h2
  have B := B2; have Z := Z2; have W0 := W2
  clear B2 Z2 W2
  unfold arr
  go_wp2_with fail
  refine (round_any (rnd v0) w2).mono ?_
  rintro e w3 ⟨rfl, h3⟩
  have B3 := B.below h3
  have Z3 := Z.below h3
  have W3 := W0.trans (h3.mono W0.size)
  clear B Z W0 h3
  have B := B3; have Z := Z3; have W0 := W3
  clear B3 Z3 W3
  unfold arr
  obtain ⟨v1, hv1⟩ : ∃ v1, v1 = rnd (rnd v0) := ⟨_, rfl⟩
  rw [← hv1]
  have HV1 := Lib.hid hv1
  clear hv1
  have f0 := B.frozen 0
  have f1 := B.frozen 1
  have f2 := B.frozen 2
  have f3 := B.frozen 3
  have q0 := B.c0
  have q1 := B.c1
  have q2 := B.c2
  have q3 := B.c3
  have HB := Lib.hid B
  have HZ := Lib.hid Z
  have HW := Lib.hid W0
  clear B Z W0
  go_upto_region 3 with fail
  clear q0 q1 q2 q3 f0 f1 f2 f3
  have B := HB.out.all v1
  have Z := HZ.out.all (c := w.heap.size + 1) (by omega) (.int .u64 (U v1.a)) (.int .u64 (U v1.b)) (.int .u64 (U v1.c)) (.int .u64 (U v1.d))
  have W0 := below_blk (b := w.heap.size + 1) (by omega) HW.out (.int .u64 (U v1.a)) (.int .u64 (U v1.b)) (.int .u64 (U v1.c)) (.int .u64 (U v1.d))
  revert B Z W0
  generalize World.setCell _ _ _ = w4
  intro B Z W0
  clear HB HZ HW
  have q2 := B.c2
  have f2 := B.frozen 2
  have hx := x5 v1.c
  have HB := Lib.hid B
  have HZ := Lib.hid Z
  have HW := Lib.hid W0
  clear B Z W0
  go_upto_region 4 with fail
  clear q2 f2 hx
  have B := HB.out.set2 (v1.c ^^^ 255)
  have Z := HZ.out.set (p := ⟨w.heap.size + 1, 2, none⟩) (by show w.heap.size ≠ w.heap.size + 1; omega) (.int .u64 (U (v1.c ^^^ 255)))
  have W0 := HW.out.setCell (p := ⟨w.heap.size + 1, 2, none⟩) (by show w.heap.size ≤ w.heap.size + 1; omega) (.int .u64 (U (v1.c ^^^ 255)))
  revert B Z W0
  generalize World.setCell _ _ _ = w5
  intro B Z W0
  clear HB HZ HW
  obtain ⟨v2, hv2⟩ : ∃ v2, v2 = c255 v1 := ⟨_, rfl⟩
  have hv2' : v2 = ⟨v1.a, v1.b, v1.c ^^^ 255, v1.d⟩ := hv2
  rw [← hv2'] at B
  have HV2 := Lib.hid hv2
  clear hv2 hv2'
  have q0 := B.c0
  have q1 := B.c1
  have q2 := B.c2
  have q3 := B.c3
  have HB := Lib.hid B
  have HZ := Lib.hid Z
  have HW := Lib.hid W0
  clear B Z W0
  go_wp2_with fail
  clear q0 q1 q2 q3
  have B := HB.out; have Z := HZ.out; have W0 := HW.out
  clear HB HZ HW
  refine (round_any v2 w5).mono ?_
  rintro e w6 ⟨rfl, h6⟩
  have B6 := B.below h6
  have Z6 := Z.below h6
  have W6 := W0.trans (h6.mono W0.size)
  clear B Z W0 h6
  have B := B6; have Z := Z6; have W0 := W6
  clear B6 Z6 W6
  unfold arr
  go_wp2_with fail
  refine (round_any (rnd v2) w6).mono ?_
  rintro e w7 ⟨rfl, h7⟩
  have B7 := B.below h7
  have Z7 := Z.below h7
  have W7 := W0.trans (h7.mono W0.size)
  clear B Z W0 h7
  have B := B7; have Z := Z7; have W0 := W7
  clear B7 Z7 W7
  unfold arr
  go_wp2_with fail
  refine (round_any (rnd (rnd v2)) w7).mono ?_
  rintro e w8 ⟨rfl, h8⟩
  have B8 := B.below h8
  have Z8 := Z.below h8
  have W8 := W0.trans (h8.mono W0.size)
  clear B Z W0 h8
  have B := B8; have Z := Z8; have W0 := W8
  clear B8 Z8 W8
  unfold arr
  go_wp2_with fail
  refine (round_any (rnd (rnd (rnd v2))) w8).mono ?_
  rintro e w9 ⟨rfl, h9⟩
  have B9 := B.below h9
  have Z9 := Z.below h9
  have W9 := W0.trans (h9.mono W0.size)
  clear B Z W0 h9
  have B := B9; have Z := Z9; have W0 := W9
  clear B9 Z9 W9
  unfold arr
  obtain ⟨v3, hv3⟩ : ∃ v3, v3 = rnd (rnd (rnd (rnd v2))) := ⟨_, rfl⟩
  rw [← hv3]
  have HV3 := Lib.hid hv3
  clear hv3
  have f0 := B.frozen 0
  have f1 := B.frozen 1
  have f2 := B.frozen 2
  have f3 := B.frozen 3
  have q0 := B.c0
  have q1 := B.c1
  have q2 := B.c2
  have q3 := B.c3
  have HB := Lib.hid B
  have HZ := Lib.hid Z
  have HW := Lib.hid W0
  clear B Z W0
  go_upto_region 5 with fail
  clear q0 q1 q2 q3 f0 f1 f2 f3
  have B := HB.out.all v3
  have Z := HZ.out.all (c := w.heap.size + 1) (by omega) (.int .u64 (U v3.a)) (.int .u64 (U v3.b)) (.int .u64 (U v3.c)) (.int .u64 (U v3.d))
  have W0 := below_blk (b := w.heap.size + 1) (by omega) HW.out (.int .u64 (U v3.a)) (.int .u64 (U v3.b)) (.int .u64 (U v3.c)) (.int .u64 (U v3.d))
  revert B Z W0
  generalize World.setCell _ _ _ = wa
  intro B Z W0
  clear HB HZ HW
  have c0 := B.c0
  have c1 := B.c1
  have c2 := B.c2
  have c3 := B.c3
  have k0 := Z.k0
  have k1 := Z.k1
  have B0 := W0
  clear B Z W0
  have y1 := U_xor v3.a v3.b
  have y2 := U_xor (v3.a ^^^ v3.b) v3.c
  have y3 := U_xor (v3.a ^^^ v3.b ^^^ v3.c) v3.d
  have hsum : sumOf a0 b0 [] = v3.a ^^^ v3.b ^^^ v3.c ^^^ v3.d := by
    rw [HV3.out, HV2.out, HV1.out, HV0.out]; exact sum_none a0 b0
  have K1 : ∀ w, Calls Try.prog 12 #[.agg #[.int .u64 (U a0), .int .u64 (U b0)], .string ⟨#[]⟩] w fun e w' => e = .returned (.int .u64 (U (v3.a ^^^ v3.b ^^^ v3.c ^^^ v3.d))) ∧ Below w.heap.size w w' := fun w => by
    rw [← hsum]; exact sum_any a0 b0 ⟨#[]⟩ (by decide) w
  have K1 := Lib.hid K1
  clear hsum HV3 HV2 HV1 HV0
  go_region_held3 (fun W => W.cell? ⟨w.heap.size, 0, none⟩ = some (.int .u64 (U a0)) ∧ W.cell? ⟨w.heap.size, 1, none⟩ = some (.int .u64 (U b0)) ∧ W.cell? ⟨w.heap.size + 1, 0, none⟩ = some (.int .u64 (U v3.a)) ∧ W.cell? ⟨w.heap.size + 1, 1, none⟩ = some (.int .u64 (U v3.b)) ∧ W.cell? ⟨w.heap.size + 1, 2, none⟩ = some (.int .u64 (U v3.c)) ∧ W.cell? ⟨w.heap.size + 1, 3, none⟩ = some (.int .u64 (U v3.d)) ∧ Below w.heap.size w W)
    (first | exact ⟨k0, k1, c0, c1, c2, c3, B0⟩ | exact ⟨k0, k1, c0, c1, c2, c3, B0.drew⟩ | exact keep_six (by assumption) (by assumption))
    (first
      | (go_at_call 12; refine (K1.out _).mono ?_; rintro e w' ⟨rfl, hB⟩)
      | (go_at_call 11; refine (lives_any _).mono ?_; rintro e w' ⟨rfl, hB⟩))
  all_goals (rename_i hHeld; have HH := Lib.hid hHeld; clear hHeld; go_wp2; go_ret; exact ⟨rfl, HH.out.2.2.2.2.2.2⟩)

theorem lifted (os : Os) (started : os.Started) (H : Type) (enc : TypeId × Value → H) :
    ReturnsInHanded {} Try.checked os 7 .any (Rows.siphashNothingSpec.pre6 enc Try.prog Try.f7 Rows.siphashNothingRow.domain false) (Rows.siphashNothingSpec.post enc Try.prog Try.f7 false true false false) := by
  refine returnsInHanded_of_change (C := Try.checked) own started (by kernel_rfl) Try.func7
    (ChangeSpec.witness6 (enc := enc) (C := Try.checked) false ⟨#[], #[.agg #[.int .u64 0, .int .u64 0]], []⟩ 8 (by kernel_rfl) (by kernel_rfl) (by kernel_rfl) (by kernel_rfl)) ?_
  intro W base args ds gs before hval0 hW hcnd _
  have hval : ∀ (j : Nat) t v, Try.f7.params[j]? = some t → args[j]? = some v → Value.okWide Try.prog W .any base t v := hval0
  have hW' := hW
  obtain ⟨p, q, hA0, hV, rfl, hfz, hnd⟩ := hW
  have hA : DataW.TrodAll enc Try.prog W 0 (fun _ => true) true Try.f7.params.toList args.toList ds p := hA0
  rw [Try.params7] at hA hval
  obtain ⟨v0, vs0, d0, ds0, p0, q0, hargs, rfl, rfl, h0, r0⟩ := trodAll_cons hA
  obtain ⟨rfl, rfl, rfl⟩ := trodAll_nil r0
  obtain rfl : args = #[v0] := by cases args; simp_all
  obtain ⟨rfl, rfl⟩ := trodVars_none hV
  obtain ⟨a0, b0, rfl, rfl, rfl⟩ := open_key (hval 0 24 v0 rfl rfl) h0
  clear hA0 hval0
  simp only [List.append_nil] at hW'
  refine (walk a0 b0 W).mono fun e W' ⟨he, hg⟩ => ?_
  subst he
  exact ⟨_, rfl, _, _, _, [], _, [], hW', (trodAll_cons_mk (shut_bool Try.underlying4 _) trodAll_mk0), (trodAll_cons_mk (shut_key a0 b0) trodAll_mk0), rfl, hg.frame _, fun h => by cases h⟩

theorem over : Rows.siphashNothingRow.holds Try.pinned (OpenSpec.ofChange Rows.siphashNothingSpec) :=
  OpenClaim.holds_of_wide 7 Try.f7 rfl rfl rfl rfl rfl rfl rfl ⟨rfl, rfl, rfl, rfl, rfl⟩ rfl rfl rfl rfl rfl (by kernel_rfl) Try.func7 (by kernel_rfl)
    (of_decide_eq_true (by kernel_rfl)) (by unfold Func.isWrapper; first | (rw [if_pos (by decide +kernel)]; kernel_rfl) | (rw [if_neg (by decide +kernel)]; exact ⟨rfl, rfl⟩))
    (fun os started H enc _ => lifted os started H enc)

/-- ████ THE STATEMENT ████ -/
theorem proved : Rows.SiphashNothingSaid :=
  over
#print axioms proved
end Go.Proofs.Ytjjibjamalieiaa.siphashNothing
