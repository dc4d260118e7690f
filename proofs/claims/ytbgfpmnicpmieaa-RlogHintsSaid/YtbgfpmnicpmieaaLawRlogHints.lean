/- The law 'RlogHints' answers true at every input, and leaves its arguments as they were. (The frame was written by a program, after the kit's own frames; no condition beside the statement's own.) -/
import Derived.Test.YtbgfpmnicpmieaaRows
import Derived.WalkKit
import Derived.ProofKit
import Derived.OpenShut
import Derived.Deep.RegionHeld3
import Derived.Deep.DeepCutAuto
import Derived.ShutString
import Derived.ChangeOld
import Derived.Below
import Derived.SizedLaws
import Derived.Test.YtbgfpmnicpmieaaELaw
namespace Go.Proofs.Ytbgfpmnicpmieaa.rlogHints
open Go.ChangeShapes Go.WideShapes Go.ChangeAt Go.RowKit Go.Proofs.Ytbgfpmnicpmieaa
open Go.ChangeMaps (open_string shut_string)
set_option linter.unusedVariables false
set_option linter.unusedSimpArgs false
set_option maxRecDepth 100000

theorem own : ownKnob Try.prog.godebug = none := by kernel_rfl
theorem laidOut : laidOutB Try.prog = true := by kernel_rfl

set_option maxHeartbeats 4000000 in
theorem walk (w : World) (a0 g0 : Int) (s0 : Option Addr) (n0 c0 : Nat) (es0 : List Ent) (er0 : ER w s0 n0 es0) (ek0 : EKs w es0) (en0 : n0 * 168 ≤ 140737488355328) (a1 : Int) (w1 : (Lit.int .i64 a1).wf = true) (a2 : Int) (w2 : (Lit.int .i64 a2).wf = true) :
    Calls Try.prog 4 #[.agg #[.int .i64 a0, .int .i64 g0, .slice s0 n0 c0], .int .i64 a1, .int .i64 a2] w fun e w' => e = .returned (.bool true) ∧ Below w.heap.size w w' := by
  have L0 : Hid (Below w.heap.size w (w.alloc (.cells #[.int .i64 a0, .int .i64 g0, .slice s0 n0 c0] 24))) := (Below.refl _ w).alloc (Nat.le_refl _) _
  have R0 := Lib.hid (er0.keep (Nat.le_refl _) L0.out)
  have K0 := Lib.hid (ek0.keep (Nat.le_refl _) L0.out)
  have HN := Lib.hid en0
  have i1 := (bounds_i64 w1).1
  have i2 := (bounds_i64 w1).2
  clear er0 ek0 en0 w1 w2
  go_enter Try.func4, Try.ntmps4
  go_wp2_with fail
  refine (new_any a0 g0 s0 n0 c0 es0 _ R0.out K0.out HN.out).mono ?_
  rintro e w1 (⟨hn, rfl, hb⟩ | ⟨hn, b, a', c', rfl, hB, hO, hbw, hb⟩)
  · have L1 := Lib.hid (L0.out.trans (hb.mono L0.out.size))
    clear hb hn
    go_wp2_with fail
    refine (lives_any _).mono ?_
    rintro e w2 ⟨rfl, hb⟩
    have L2 := Lib.hid (L1.out.trans (hb.mono L1.out.size))
    clear hb
    go_wp2_with fail
    go_ret
    exact ⟨rfl, L2.out⟩
  have HNW := Lib.hid hn
  have B1 := Lib.hid hB
  have O1 := Lib.hid hO
  have z2 := (hb.cell (p := ⟨w.heap.size, 2, none⟩) (by simp)).trans (show _ = some (Value.slice s0 n0 c0) by simp)
  have L1 := Lib.hid (L0.out.trans (hb.mono L0.out.size))
  have R1 := Lib.hid (R0.out.keep (Nat.le_refl _) hb)
  have K1 := Lib.hid (K0.out.keep (Nat.le_refl _) hb)
  have HBW := Lib.hid hbw
  clear hb hn hB hO hbw R0 K0 L0
  go_wp2_with fail
  refine (heavy_any s0 n0 c0 es0 _ R1.out K1.out (by have := HN.out; omega)).mono ?_
  rintro e w2 ⟨r, rfl, hr, hb⟩
  have L2 := Lib.hid (L1.out.trans (hb.mono L1.out.size))
  have B2 := Lib.hid (B1.out.below (Nat.le_refl _) hb)
  have O2 := Lib.hid (own_below O1.out (Nat.le_refl _) hb)
  have HRL := Lib.hid R1.out.1
  clear hb z2 B1 O1 R1 K1 L1
  cases r
  rotate_left
  · clear hr
    go_wp2_with fail
    refine (lives_any _).mono ?_
    rintro e w3 ⟨rfl, hb⟩
    have L3 := Lib.hid (L2.out.trans (hb.mono L2.out.size))
    clear hb
    go_wp2_with fail
    go_ret
    exact ⟨rfl, L3.out⟩
  obtain ⟨_, a3, c3, ev, E2, _⟩ : ∃ (_ : True) (a3 : Option Addr) (c3 : Nat), Value.slice a' n0 c' = .slice a3 n0 c3 ∧ ER w2 a3 n0 es0 ∧ n0 ≤ c3 := ⟨trivial, own_er O2.out⟩
  cases ev
  have HO := Lib.hid (ok_of (a := a') (c := c') (com := a0) (app := a0) (sur := a0 + n0) (new_parts HNW.out).2.2.2 (new_parts HNW.out).1 (new_parts HNW.out).2.1 HRL.out (by have := (hr rfl).1; have := HRL.out; omega))
  have HEP := Lib.hid E2.ep
  have hlo := HO.out.lo
  have hhi := HO.out.hi
  have hsm := HO.out.small
  dsimp only at hlo hhi hsm
  have HF := Lib.hid (hint_facts a1 a2 HO.out)
  clear hr E2
  go_wp2_with fail
  refine (hint_any b _ (pts es0) a1 a2 _ B2.out HEP.out HO.out).mono ?_
  rintro e w3 ⟨rfl, hb⟩
  have L3 := Lib.hid (L2.out.trans (hb.mono L2.out.size))
  have B3 := Lib.hid (B2.out.below (Nat.le_refl _) hb)
  have E3 := Lib.hid (HEP.out.keep (Nat.le_refl _) hb)
  clear hb L2 B2 HEP O2
  generalize hintN (pts es0) a2 (hint0 _ a1) = hh at *
  try dsimp only at HF
  obtain ⟨f1, f2, f3, f4⟩ := HF.out
  have F4 := Lib.hid f4
  clear HF f4
  try dsimp only
  go_wp2_with fail
  refine (base_any b _ _ B3.out rfl).mono ?_
  rintro e wb ⟨rfl, hb⟩
  have Lb := Lib.hid (L3.out.trans (hb.mono L3.out.size))
  have Bb := Lib.hid (B3.out.below (Nat.le_refl _) hb)
  have Eb := Lib.hid (E3.out.keep (Nat.le_refl _) hb)
  clear hb L3 B3 E3
  try dsimp only
  go_wp2_with fail
  refine (last_any b _ (pts es0) _ Bb.out rfl Eb.out hsm).mono ?_
  rintro e w4 ⟨rfl, hb⟩
  have L4 := Lib.hid (Lb.out.trans (hb.mono Lb.out.size))
  have B4 := Lib.hid (Bb.out.below (Nat.le_refl _) hb)
  have E4 := Lib.hid (Eb.out.keep (Nat.le_refl _) hb)
  clear hb Lb Bb Eb
  rw [HO.out.last]
  generalize (lastP _ (pts es0)).2 = lt at *
  try dsimp only
  obtain ⟨h, hh'⟩ : ∃ h, h = a0 + (hh : Int) := ⟨_, rfl⟩
  rw [← hh'] at f1 f2 f3 F4 ⊢
  obtain ⟨la, hla⟩ : ∃ la, la = a0 + (n0 : Int) := ⟨_, rfl⟩
  rw [← hla] at f2 F4 ⊢
  have d1 : decide (h < a0) = false := decide_eq_false (by omega)
  have d2 : decide (la < h) = false := decide_eq_false (by omega)
  have b1 : la ≤ 1099511628776 := by omega
  have HX : Hid (h = a0 + (hh : Int)) := hh'
  clear hh' hla
  by_cases c1 : a1 < h
  · have e0 : h = a0 := by have := f3 c1; have := HX.out; omega
    have d3 : decide (a1 < h) = true := decide_eq_true c1
    have d4 : (h != a0) = false := by simp [e0]
    have e1 := Lib.hid e0
    clear e0 f3
    go_wp2_with fail
    go_loopw [13] (fun v wr => ∃ i : Int, v = .int .i64 i ∧ h < i ∧ i ≤ la + 1 ∧ Below w.heap.size w wr ∧ Below w4.heap.size w4 wr) (fun v _ => (la + 1 - intOf v).toNat)
    case atStart => exact ⟨h + 1, rfl, by omega, by omega, L4.out, Below.refl _ _⟩
    case round =>
      obtain ⟨i, rfl, r1, r2, hB1, hB2⟩ := hrel
      have L5 := Lib.hid hB1
      have B5 := Lib.hid (B4.out.below (Nat.le_refl _) hB2)
      have E5 := Lib.hid (E4.out.keep (Nat.le_refl _) hB2)
      have H5 := Lib.hid hB2
      clear hB1 hB2
      by_cases x1 : i ≤ la
      · have y1 : decide (i ≤ la) = true := decide_eq_true x1
        by_cases x2 : i ≤ a1
        · have y2 : decide (i ≤ a1) = true := decide_eq_true x2
          obtain ⟨t, ht, htt⟩ := F4.out i r1 x1 x2
          have HT := Lib.hid ht
          have y3 : decide (t ≤ a2) = false := decide_eq_false (by omega)
          clear ht
          go_wp2_with fail
          refine (term_any b _ (pts es0) i _ B5.out E5.out HO.out).mono ?_
          rintro e w6 ⟨rfl, hb⟩
          rw [show termF ⟨a0, g0, a', n0, c', a0, a0, a0 + (n0 : Int), true⟩ (pts es0) i = (t, 0) from HT.out]
          have L6 := Lib.hid (L5.out.trans (hb.mono L5.out.size))
          have H6 := Lib.hid (H5.out.trans (hb.mono H5.out.size))
          clear hb
          dsimp only
          go_wp2_with fail
          go_roundw
          case rel => exact ⟨i + 1, rfl, by omega, by omega, L6.out, H6.out⟩
          case measure => simp [intOf]; omega
        · have y2 : decide (i ≤ a1) = false := decide_eq_false x2
          go_wp2_with fail
          refine (lives_any _).mono ?_
          rintro e w6 ⟨rfl, hb⟩
          have L6 := Lib.hid (L5.out.trans (hb.mono L5.out.size))
          clear hb
          go_wp2_with fail
          go_ret
          exact ⟨rfl, L6.out⟩
      · have y1 : decide (i ≤ la) = false := decide_eq_false x1
        go_wp2_with fail
        refine (lives_any _).mono ?_
        rintro e w6 ⟨rfl, hb⟩
        have L6 := Lib.hid (L5.out.trans (hb.mono L5.out.size))
        clear hb
        go_wp2_with fail
        go_ret
        exact ⟨rfl, L6.out⟩
  · have d3 : decide (a1 < h) = false := decide_eq_false c1
    clear f3
    go_wp2_with fail
    go_loopw [13] (fun v wr => ∃ i : Int, v = .int .i64 i ∧ h < i ∧ i ≤ la + 1 ∧ Below w.heap.size w wr ∧ Below w4.heap.size w4 wr) (fun v _ => (la + 1 - intOf v).toNat)
    case atStart => exact ⟨h + 1, rfl, by omega, by omega, L4.out, Below.refl _ _⟩
    case round =>
      obtain ⟨i, rfl, r1, r2, hB1, hB2⟩ := hrel
      have L5 := Lib.hid hB1
      have B5 := Lib.hid (B4.out.below (Nat.le_refl _) hB2)
      have E5 := Lib.hid (E4.out.keep (Nat.le_refl _) hB2)
      have H5 := Lib.hid hB2
      clear hB1 hB2
      by_cases x1 : i ≤ la
      · have y1 : decide (i ≤ la) = true := decide_eq_true x1
        by_cases x2 : i ≤ a1
        · have y2 : decide (i ≤ a1) = true := decide_eq_true x2
          obtain ⟨t, ht, htt⟩ := F4.out i r1 x1 x2
          have HT := Lib.hid ht
          have y3 : decide (t ≤ a2) = false := decide_eq_false (by omega)
          clear ht
          go_wp2_with fail
          refine (term_any b _ (pts es0) i _ B5.out E5.out HO.out).mono ?_
          rintro e w6 ⟨rfl, hb⟩
          rw [show termF ⟨a0, g0, a', n0, c', a0, a0, a0 + (n0 : Int), true⟩ (pts es0) i = (t, 0) from HT.out]
          have L6 := Lib.hid (L5.out.trans (hb.mono L5.out.size))
          have H6 := Lib.hid (H5.out.trans (hb.mono H5.out.size))
          clear hb
          dsimp only
          go_wp2_with fail
          go_roundw
          case rel => exact ⟨i + 1, rfl, by omega, by omega, L6.out, H6.out⟩
          case measure => simp [intOf]; omega
        · have y2 : decide (i ≤ a1) = false := decide_eq_false x2
          go_wp2_with fail
          refine (lives_any _).mono ?_
          rintro e w6 ⟨rfl, hb⟩
          have L6 := Lib.hid (L5.out.trans (hb.mono L5.out.size))
          clear hb
          go_wp2_with fail
          go_ret
          exact ⟨rfl, L6.out⟩
      · have y1 : decide (i ≤ la) = false := decide_eq_false x1
        go_wp2_with fail
        refine (lives_any _).mono ?_
        rintro e w6 ⟨rfl, hb⟩
        have L6 := Lib.hid (L5.out.trans (hb.mono L5.out.size))
        clear hb
        go_wp2_with fail
        go_ret
        exact ⟨rfl, L6.out⟩

theorem lifted (os : Os) (started : os.Started) (H : Type) (enc : TypeId × Value → H) :
    ReturnsInHanded {} Try.checked os 4 .any (Rows.rlogHintsSpec.pre6 enc Try.prog Try.f4 Rows.rlogHintsRow.domain false) (Rows.rlogHintsSpec.post enc Try.prog Try.f4 false true false false) := by
  refine returnsInHanded_of_change_sized (C := Try.checked) own started (by kernel_rfl) Try.func4
    (ChangeSpec.witness6 (enc := enc) (C := Try.checked) false ⟨#[], #[.agg #[.int .i64 0, .int .i64 0, .slice none 0 0], .int .i64 0, .int .i64 0], []⟩ 8 (by kernel_rfl) (by kernel_rfl) (by kernel_rfl) (by kernel_rfl)) ?_
  intro W base args ds gs before hval0 hW hcnd hsz0 _
  have hsz : (DataW.weightsEach Try.prog (Try.f4.params.toList ++ Rows.rlogHintsSpec.plain.varTypes Try.prog) (ds ++ gs)).all (· ≤ reachBytes) = true := hsz0
  clear hsz0
  have hval : ∀ (j : Nat) t v, Try.f4.params[j]? = some t → args[j]? = some v → Value.okWide Try.prog W .any base t v := hval0
  have hW' := hW
  obtain ⟨p, q, hA0, hV, rfl, hfz, hnd⟩ := hW
  have hA : DataW.TrodAll enc Try.prog W 0 (fun _ => true) true Try.f4.params.toList args.toList ds p := hA0
  rw [Try.params4] at hA hval hsz
  obtain ⟨v0, vs0, d0, ds0, p0, q0, hargs, rfl, rfl, h0, r0⟩ := trodAll_cons hA
  obtain ⟨v1, vs1, d1, ds1, p1, q1, rfl, rfl, rfl, h1, r1⟩ := trodAll_cons r0
  obtain ⟨v2, vs2, d2, ds2, p2, q2, rfl, rfl, rfl, h2, r2⟩ := trodAll_cons r1
  obtain ⟨rfl, rfl, rfl⟩ := trodAll_nil r2
  obtain rfl : args = #[v0, v1, v2] := by cases args; simp_all
  obtain ⟨rfl, rfl⟩ := trodVars_none hV
  have hfit := fun q hq => of_decide_eq_true (List.all_eq_true.1 hsz q hq)
  clear hsz
  have k0 := h0
  have lt0 : ∀ x ∈ p0, x.block < W.heap.size := by obtain ⟨m, hm⟩ := k0; exact DataW.trod_lt m _ _ _ hm
  obtain ⟨F0, hfit⟩ := fit_cons hfit
  obtain ⟨a0, g0, s0, n0, c0, es0, rfl, er0, ek0, en0⟩ := open_begin (hval 0 24 v0 rfl rfl) h0 F0
  obtain ⟨F1, hfit⟩ := fit_cons hfit
  obtain ⟨a1, rfl, rfl, rfl, w1⟩ := open_int Try.underlying3 (hval 1 3 v1 rfl rfl) h1
  obtain ⟨F2, hfit⟩ := fit_cons hfit
  obtain ⟨a2, rfl, rfl, rfl, w2⟩ := open_int Try.underlying3 (hval 2 3 v2 rfl rfl) h2
  clear hA0 hval0
  try simp only [List.append_nil] at hW'
  refine (walk W a0 g0 s0 n0 c0 es0 er0 ek0 en0 a1 w1 a2 w2).mono fun e W' ⟨he, hg⟩ => ?_
  subst he
  exact ⟨_, rfl, _, _, _, [], _, [], hW', (trodAll_cons_mk (shut_bool Try.underlying4 _) trodAll_mk0), (trodAll_cons_mk (Below.trod laidOut (by kernel_rfl) (of_decide_eq_true (by kernel_rfl)) k0 hg lt0) (trodAll_cons_mk (shut_int Try.underlying3 w1) (trodAll_cons_mk (shut_int Try.underlying3 w2) trodAll_mk0))), rfl, hg.frame _, fun h => by cases h⟩

theorem over : Rows.rlogHintsRow.holds Try.pinned (OpenSpec.ofChange Rows.rlogHintsSpec) :=
  OpenClaim.holds_of_wide 4 Try.f4 rfl rfl rfl rfl rfl rfl rfl ⟨rfl, rfl, rfl, rfl, rfl⟩ rfl rfl rfl rfl rfl (by kernel_rfl) Try.func4 (by kernel_rfl)
    (of_decide_eq_true (by kernel_rfl)) (by unfold Func.isWrapper; first | (rw [if_pos (by decide +kernel)]; kernel_rfl) | (rw [if_neg (by decide +kernel)]; exact ⟨rfl, rfl⟩))
    (fun os started H enc _ => lifted os started H enc)

/-- ████ THE STATEMENT ████ -/
theorem proved : Rows.RlogHintsSaid :=
  over
#print axioms proved
end Go.Proofs.Ytbgfpmnicpmieaa.rlogHints
