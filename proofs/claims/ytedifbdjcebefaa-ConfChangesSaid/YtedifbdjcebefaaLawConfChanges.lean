/- The law 'ConfChanges' answers true at every input, and leaves its arguments as they were. (The frame was written by a program, after the kit's own frames; no condition beside the statement's own.) -/
import Derived.Test.YtedifbdjcebefaaRows
import Derived.WalkKit
import Derived.ProofKit
import Derived.OpenShut
import Derived.Deep.RegionHeld3
import Derived.Deep.DeepCutAuto
import Derived.ShutString
import Derived.ChangeOld
import Derived.Below
import Derived.SizedLaws
import Derived.Test.YtedifbdjcebefaaOpen
namespace Go.Proofs.Ytedifbdjcebefaa.confChanges
open Go.ChangeShapes Go.WideShapes Go.ChangeAt Go.RowKit Go.Proofs.Ytedifbdjcebefaa
open Go.ChangeMaps (open_string shut_string)
set_option linter.unusedVariables false
set_option linter.unusedSimpArgs false
set_option maxRecDepth 100000

theorem own : ownKnob Try.prog.godebug = none := by kernel_rfl
theorem laidOut : laidOutB Try.prog = true := by kernel_rfl

set_option maxHeartbeats 4000000 in
theorem walk (w : World) (s0 : Option Addr) (n0 c0 : Nat) (z0 : List Int) (t0 : Option Addr) (m0 e0 : Nat) (y0 : List Int) (r0 : IsRow w s0 n0 c0 z0) (q0 : IsRow w t0 m0 e0 y0) (b0 : n0 ≤ 17592186044416 ∧ m0 ≤ 17592186044416) (a1 : Int) (w1 : (Lit.int .i64 a1).wf = true) (a2 : Int) (w2 : (Lit.int .i64 a2).wf = true) :
    Calls Try.prog 3 #[.agg #[.slice s0 n0 c0, .slice t0 m0 e0], .int .i64 a1, .int .i64 a2] w fun e w' => e = .returned (.bool true) ∧ Below w.heap.size w w' := by
  have hle : n0 ≤ 4611686018427387904 ∧ m0 ≤ 4611686018427387903 := by omega
  have hV := r0.rd
  have hL := q0.rd
  have HV0 := Lib.hid hV
  have HL0 := Lib.hid hL
  obtain ⟨V, hVe⟩ : ∃ V, V = z0.take n0 := ⟨_, rfl⟩
  obtain ⟨L, hLe⟩ : ∃ L, L = y0.take m0 := ⟨_, rfl⟩
  rw [← hVe] at hV
  rw [← hLe] at hL
  clear HV0 HL0 hVe hLe r0 q0 w1 w2 b0
  have L1 : Hid (Below w.heap.size w (w.alloc (.cells #[.slice s0 n0 c0, .slice t0 m0 e0] 24))) := (Below.refl _ w).alloc (Nat.le_refl _) _
  have C1 : Hid (CB (w.alloc (.cells #[.slice s0 n0 c0, .slice t0 m0 e0] 24)) w.heap.size (.slice s0 n0 c0) (.slice t0 m0 e0)) := CB.new w _ _
  have R1 := Lib.hid (hV.keep (Nat.le_refl _) L1.out)
  have R2 := Lib.hid (hL.keep (Nat.le_refl _) L1.out)
  have HLE := Lib.hid hle
  clear hle hV hL
  go_enter Try.func3, Try.ntmps3
  go_wp2_with fail
  refine (few_any s0 t0 n0 m0 c0 e0 HLE.out.1 HLE.out.2 _).mono ?_
  rintro e w1 ⟨rfl, hb⟩
  have L2 := Lib.hid (L1.out.trans (hb.mono L1.out.size))
  have C2 := Lib.hid (C1.out.below (Nat.le_refl _) hb)
  have S1 := Lib.hid (R1.out.keep (Nat.le_refl _) hb)
  have S2 := Lib.hid (R2.out.keep (Nat.le_refl _) hb)
  clear hb L1 C1 R1 R2
  by_cases hfew : (n0 : Int) + m0 ≤ 200
  · rw [decide_eq_true hfew]
    have hn : n0 ≤ 1000 := by omega
    have hm : m0 ≤ 1000 := by omega
    clear hfew
    have f0 := C2.out.c0
    have f1 := C2.out.c1
    have KS : Hid (∀ W, Below w1.heap.size w1 W → W.cell? ⟨w.heap.size, 0, none⟩ = some (.slice s0 n0 c0) ∧ W.cell? ⟨w.heap.size, 1, none⟩ = some (.slice t0 m0 e0) ∧ Below w1.heap.size w1 W) := by
      show ∀ W, _
      intro W h
      exact ⟨(C2.out.below (Nat.le_refl _) h).c0, (C2.out.below (Nat.le_refl _) h).c1, h⟩
    go_upto_region 3 with fail
    go_cut [7, 8] (fun p q wx => ∃ (a1 : Option Addr) (k1 : Nat) (a2 : Option Addr) (k2 : Nat), p = .slice a1 n0 k1 ∧ q = .slice a2 m0 k2 ∧ Rd wx a1 n0 V ∧ Rd wx a2 m0 L ∧ Below w1.heap.size w1 wx)
    case first =>
      clear f0 f1
      go_region_held3 (fun W => W.cell? ⟨w.heap.size, 0, none⟩ = some (.slice s0 n0 c0) ∧ W.cell? ⟨w.heap.size, 1, none⟩ = some (.slice t0 m0 e0) ∧ Below w1.heap.size w1 W)
        (first | exact KS.out _ (Below.refl _ _) | exact KS.out _ (by assumption) | exact KS.out _ (by repeat (first | exact Below.refl _ _ | exact held_below (by assumption) | assumption | refine Below.drew ?_ | refine Below.alloc ?_ (by first | exact Nat.le_refl _ | (simp; done) | exact (held_below (by assumption)).size) _)))
        (first
          | (refine step_copy2 rfl _ _ rfl _ rfl _ n0 _ rfl V S1.out (held_below (by assumption)) hn ?_; intro a1 k1 w' hr1 hb1 hB1)
          | (refine step_copy2 rfl _ _ rfl _ rfl _ m0 _ rfl L S2.out (held_below (by assumption)) hm ?_; intro a2 k2 w'' hr2 hb2 hB2))
      all_goals (
        rename_i hHeld
        clear hHeld
        have Q1 : Hid (Rd w'' a1 n0 V) := by
          first
            | exact hr1.keep (Nat.le_refl _) hb2
            | exact (hr1.keep (Nat.le_refl _) ((Below.refl _ _).alloc (Nat.le_refl _) _)).keep (Nat.le_refl _) hb2
        have Q2 := Lib.hid hr2
        have Q3 := Lib.hid hB2
        clear hr1 hr2 hb1 hb2 hB1 hB2
        go_wp2_with fail
        go_meet
        exact ⟨a1, k1, a2, k2, rfl, rfl, Q1.out, Q2.out, Q3.out⟩)
    case rest =>
      obtain ⟨p1, k1, p2, k2, rfl, rfl, hp1, hp2, hbw⟩ := hcut
      have C3 := Lib.hid (C2.out.below (Nat.le_refl _) hbw)
      have T1 := Lib.hid (S1.out.keep (Nat.le_refl _) hbw)
      have T2 := Lib.hid (S2.out.keep (Nat.le_refl _) hbw)
      have L3 := Lib.hid (L2.out.trans (hbw.mono L2.out.size))
      have U1 := Lib.hid hp1
      have U2 := Lib.hid hp2
      clear hp1 hp2 hbw KS S1 S2 C2 L2 f0 f1
      have f0 := C3.out.c0
      have f1 := C3.out.c1
      go_wp2_with fail
      refine (chg_any s0 n0 c0 V t0 m0 e0 L a1 a2 _ T1.out T2.out (by omega) (by omega)).mono ?_
      rintro e w3 ⟨d1, l1, g1, d2, l2, g2, rfl, hr1, hr2, hb⟩
      have B3 : Below wc.heap.size wc (w3.alloc (.cells #[.slice d1 l1 g1, .slice d2 l2 g2] 24)) := hb.alloc hb.size _
      have C4 := Lib.hid (C3.out.below (Nat.le_refl _) B3)
      have D4 := Lib.hid (CB.new w3 (.slice d1 l1 g1) (.slice d2 l2 g2))
      have T3 := Lib.hid (T1.out.keep (Nat.le_refl _) B3)
      have T4 := Lib.hid (T2.out.keep (Nat.le_refl _) B3)
      have U3 := Lib.hid (U1.out.keep (Nat.le_refl _) B3)
      have U4 := Lib.hid (U2.out.keep (Nat.le_refl _) B3)
      have X1 := Lib.hid (hr1.keep (Nat.le_refl _) ((Below.refl _ _).alloc (Nat.le_refl _) (.cells #[.slice d1 l1 g1, .slice d2 l2 g2] 24)))
      have X2 := Lib.hid (hr2.keep (Nat.le_refl _) ((Below.refl _ _).alloc (Nat.le_refl _) (.cells #[.slice d1 l1 g1, .slice d2 l2 g2] 24)))
      have L4 := Lib.hid (L3.out.trans (B3.mono L3.out.size))
      clear hb hr1 hr2 B3 C3 T1 T2 U1 U2 f0 f1
      go_upto_region 5 with fail
      generalize (w3.alloc (.cells #[.slice d1 l1 g1, .slice d2 l2 g2] 24)) = w4 at *
      generalize w3.heap.size = B1 at *
      have f0 := C4.out.c0
      have f1 := C4.out.c1
      go_wp2_with fail
      refine (refchg_any s0 n0 c0 V t0 m0 e0 L a1 a2 _ T3.out T4.out (by omega) (by omega)).mono ?_
      rintro e w5 ⟨d3, l3, g3, d4, l4, g4, rfl, hr3, hr4, hb⟩
      have B3 : Below w4.heap.size w4 (w5.alloc (.cells #[.slice d3 l3 g3, .slice d4 l4 g4] 24)) := hb.alloc hb.size _
      have C5 := Lib.hid (C4.out.below (Nat.le_refl _) B3)
      have D5 := Lib.hid (D4.out.below (Nat.le_refl _) B3)
      have E5 := Lib.hid (CB.new w5 (.slice d3 l3 g3) (.slice d4 l4 g4))
      have T5 := Lib.hid (T3.out.keep (Nat.le_refl _) B3)
      have T6 := Lib.hid (T4.out.keep (Nat.le_refl _) B3)
      have U5 := Lib.hid (U3.out.keep (Nat.le_refl _) B3)
      have U6 := Lib.hid (U4.out.keep (Nat.le_refl _) B3)
      have X3 := Lib.hid (X1.out.keep (Nat.le_refl _) B3)
      have X4 := Lib.hid (X2.out.keep (Nat.le_refl _) B3)
      have Y3 := Lib.hid (hr3.keep (Nat.le_refl _) ((Below.refl _ _).alloc (Nat.le_refl _) (.cells #[.slice d3 l3 g3, .slice d4 l4 g4] 24)))
      have Y4 := Lib.hid (hr4.keep (Nat.le_refl _) ((Below.refl _ _).alloc (Nat.le_refl _) (.cells #[.slice d3 l3 g3, .slice d4 l4 g4] 24)))
      have L5 := Lib.hid (L4.out.trans (B3.mono L4.out.size))
      clear hb hr3 hr4 B3 C4 D4 T3 T4 U3 U4 X1 X2 f0 f1
      go_upto_region 6 with fail
      generalize (w5.alloc (.cells #[.slice d3 l3 g3, .slice d4 l4 g4] 24)) = w6 at *
      generalize w5.heap.size = B2 at *
      have o1 : Hid (l1 ≤ 1000) := by
        show _ ≤ _
        rw [← X3.out.1]; exact outV_len _ _ _ _
      have o2 : Hid (l2 ≤ 1000) := by
        show _ ≤ _
        rw [← X4.out.1]; exact outL_len _ _ _ _
      have o3 : Hid (l3 ≤ 1000) := by
        show _ ≤ _
        rw [← Y3.out.1]; exact outV_len _ _ _ _
      have o4 : Hid (l4 ≤ 1000) := by
        show _ ≤ _
        rw [← Y4.out.1]; exact outL_len _ _ _ _
      have f0 := D5.out.c0
      have f1 := D5.out.c1
      have j0 := E5.out.c0
      have j1 := E5.out.c1
      go_wp2_with fail
      refine (same_any d1 l1 g1 _ d2 l2 g2 _ d3 l3 g3 _ d4 l4 g4 _ _ X3.out X4.out Y3.out Y4.out o1.out o2.out o3.out o4.out).mono ?_
      rintro e w7 ⟨rfl, hb⟩
      rw [show (decide (outV V L a1 a2 = outV V L a1 a2) && decide (outL V L a1 a2 = outL V L a1 a2)) = true by simp]
      have C7 := Lib.hid (C5.out.below (Nat.le_refl _) hb)
      have T7 := Lib.hid (T5.out.keep (Nat.le_refl _) hb)
      have T8 := Lib.hid (T6.out.keep (Nat.le_refl _) hb)
      have U7 := Lib.hid (U5.out.keep (Nat.le_refl _) hb)
      have U8 := Lib.hid (U6.out.keep (Nat.le_refl _) hb)
      have L7 := Lib.hid (L5.out.trans (hb.mono L5.out.size))
      clear hb C5 D5 E5 T5 T6 U5 U6 X3 X4 Y3 Y4 f0 f1 j0 j1 L3 L4 L5
      generalize errC V L a1 a2 = er
      go_wp2_with (first | (go_at_call 13; refine (undo_any a1 _).mono ?_; rintro e w' ⟨rfl, rfl⟩) | (go_at_call 14; refine (refundo_any a1 _).mono ?_; rintro e w' ⟨rfl, rfl⟩))
      refine (begin_any a2 _).mono ?_
      rintro e w8 ⟨b1, n1, h1, rfl, hr1, hb⟩
      have M1 := Lib.hid hr1
      have C8 := Lib.hid (C7.out.below (Nat.le_refl _) hb)
      have T9 := Lib.hid (T7.out.keep (Nat.le_refl _) hb)
      have T10 := Lib.hid (T8.out.keep (Nat.le_refl _) hb)
      have U9 := Lib.hid (U7.out.keep (Nat.le_refl _) hb)
      have U10 := Lib.hid (U8.out.keep (Nat.le_refl _) hb)
      have L8 := Lib.hid (L7.out.trans (hb.mono L7.out.size))
      clear hb hr1 C7 T7 T8 U7 U8
      go_wp2_with fail
      refine (refbegin_any a2 _).mono ?_
      rintro e w9 ⟨b2, n2, h2, rfl, hr2, hb⟩
      have M2 := Lib.hid hr2
      have M3 := Lib.hid (M1.out.keep (Nat.le_refl _) hb)
      have C9 := Lib.hid (C8.out.below (Nat.le_refl _) hb)
      have T11 := Lib.hid (T9.out.keep (Nat.le_refl _) hb)
      have T12 := Lib.hid (T10.out.keep (Nat.le_refl _) hb)
      have U11 := Lib.hid (U9.out.keep (Nat.le_refl _) hb)
      have U12 := Lib.hid (U10.out.keep (Nat.le_refl _) hb)
      have L9 := Lib.hid (L8.out.trans (hb.mono L8.out.size))
      have o5 : Hid (n1 ≤ 1000) := by
        show _ ≤ _
        rw [← M3.out.1]; exact upTo_len _
      have o6 : Hid (n2 ≤ 1000) := by
        show _ ≤ _
        rw [← M2.out.1]; exact upTo_len _
      clear hb hr2 C8 T9 T10 U9 U10 M1
      go_wp2_with fail
      refine (same_any b1 n1 h1 _ none 0 0 [] b2 n2 h2 _ none 0 0 [] _ M3.out ⟨rfl, .inl rfl⟩ M2.out ⟨rfl, .inl rfl⟩ o5.out (by omega) o6.out (by omega)).mono ?_
      rintro e w10 ⟨rfl, hb⟩
      rw [show (decide (upTo (wantN a2) = upTo (wantN a2)) && decide (([] : List Int) = [])) = true by simp]
      have C10 := Lib.hid (C9.out.below (Nat.le_refl _) hb)
      have V1 := Lib.hid (T11.out.keep (Nat.le_refl _) hb)
      have V2 := Lib.hid (T12.out.keep (Nat.le_refl _) hb)
      have V3 := Lib.hid (U11.out.keep (Nat.le_refl _) hb)
      have V4 := Lib.hid (U12.out.keep (Nat.le_refl _) hb)
      have L10 := Lib.hid (L9.out.trans (hb.mono L9.out.size))
      clear hb C9 T11 T12 U11 U12 M2 M3
      have f0 := C10.out.c0
      go_wp2_with fail
      refine (ints_any s0 n0 c0 V p1 n0 k1 V _ V1.out V3.out hn hn).mono ?_
      rintro e w11 ⟨rfl, hb⟩
      rw [show decide (V = V) = true by simp]
      have C11 := Lib.hid (C10.out.below (Nat.le_refl _) hb)
      have V5 := Lib.hid (V2.out.keep (Nat.le_refl _) hb)
      have V6 := Lib.hid (V4.out.keep (Nat.le_refl _) hb)
      have L11 := Lib.hid (L10.out.trans (hb.mono L10.out.size))
      clear hb C10 V1 V2 V3 V4 f0
      have f0 := C11.out.c1
      go_wp2_with fail
      refine (ints_any t0 m0 e0 L p2 m0 k2 L _ V5.out V6.out hm hm).mono ?_
      rintro e w12 ⟨rfl, hb⟩
      rw [show decide (L = L) = true by simp]
      have L12 := Lib.hid (L11.out.trans (hb.mono L11.out.size))
      clear hb f0
      go_wp2_with fail
      refine (lives_any _).mono ?_
      rintro e w13 ⟨rfl, hb⟩
      have L13 := Lib.hid (L12.out.trans (hb.mono L12.out.size))
      clear hb
      go_wp2_with fail
      go_ret
      exact ⟨rfl, L13.out⟩
  · rw [decide_eq_false hfew]
    go_wp2_with fail
    refine (lives_any _).mono ?_
    rintro e w2 ⟨rfl, hb⟩
    have L3 := Lib.hid (L2.out.trans (hb.mono L2.out.size))
    clear hb
    go_wp2_with fail
    go_ret
    exact ⟨rfl, L3.out⟩

theorem lifted (os : Os) (started : os.Started) (H : Type) (enc : TypeId × Value → H) :
    ReturnsInHanded {} Try.checked os 3 .any (Rows.confChangesSpec.pre6 enc Try.prog Try.f3 Rows.confChangesRow.domain false) (Rows.confChangesSpec.post enc Try.prog Try.f3 false true false false) := by
  refine returnsInHanded_of_change_sized (C := Try.checked) own started (by kernel_rfl) Try.func3
    (ChangeSpec.witness6 (enc := enc) (C := Try.checked) false ⟨#[], #[.agg #[.slice none 0 0, .slice none 0 0], .int .i64 0, .int .i64 0], []⟩ 8 (by kernel_rfl) (by kernel_rfl) (by kernel_rfl) (by kernel_rfl)) ?_
  intro W base args ds gs before hval0 hW hcnd hsz0 _
  have hsz : (DataW.weightsEach Try.prog (Try.f3.params.toList ++ Rows.confChangesSpec.plain.varTypes Try.prog) (ds ++ gs)).all (· ≤ reachBytes) = true := hsz0
  clear hsz0
  have hval : ∀ (j : Nat) t v, Try.f3.params[j]? = some t → args[j]? = some v → Value.okWide Try.prog W .any base t v := hval0
  have hW' := hW
  obtain ⟨p, q, hA0, hV, rfl, hfz, hnd⟩ := hW
  have hA : DataW.TrodAll enc Try.prog W 0 (fun _ => true) true Try.f3.params.toList args.toList ds p := hA0
  rw [Try.params3] at hA hval hsz
  obtain ⟨v0, vs0, d0, ds0, p0, q0, hargs, rfl, rfl, h0, r0⟩ := trodAll_cons hA
  obtain ⟨v1, vs1, d1, ds1, p1, q1, rfl, rfl, rfl, h1, r1⟩ := trodAll_cons r0
  obtain ⟨v2, vs2, d2, ds2, p2, q2, rfl, rfl, rfl, h2, r2⟩ := trodAll_cons r1
  obtain ⟨rfl, rfl, rfl⟩ := trodAll_nil r2
  obtain rfl : args = #[v0, v1, v2] := by cases args; simp_all
  obtain ⟨rfl, rfl⟩ := trodVars_none hV
  have k0 := h0
  have lt0 : ∀ x ∈ p0, x.block < W.heap.size := by obtain ⟨m, hm⟩ := k0; exact DataW.trod_lt m _ _ _ hm
  obtain ⟨s0, n0, c0, z0, t0, m0, e0, y0, g0, f0, rfl, rfl, w0, x0, j0, l0⟩ := open_conf (hval 0 24 v0 rfl rfl) h0
  have b0 : n0 ≤ 17592186044416 ∧ m0 ≤ 17592186044416 := by
    have := conf_le hsz j0 l0
    have := w0.len
    have := x0.len
    omega
  clear j0 l0 hsz
  obtain ⟨a1, rfl, rfl, rfl, w1⟩ := open_int Try.underlying3 (hval 1 3 v1 rfl rfl) h1
  obtain ⟨a2, rfl, rfl, rfl, w2⟩ := open_int Try.underlying3 (hval 2 3 v2 rfl rfl) h2
  clear hA0 hval0
  try simp only [List.append_nil] at hW'
  refine (walk W s0 n0 c0 z0 t0 m0 e0 y0 w0 x0 b0 a1 w1 a2 w2).mono fun e W' ⟨he, hg⟩ => ?_
  subst he
  exact ⟨_, rfl, _, _, _, [], _, [], hW', (trodAll_cons_mk (shut_bool Try.underlying4 _) trodAll_mk0), (trodAll_cons_mk (Below.trod laidOut (by kernel_rfl) (of_decide_eq_true (by kernel_rfl)) k0 hg lt0) (trodAll_cons_mk (shut_int Try.underlying3 w1) (trodAll_cons_mk (shut_int Try.underlying3 w2) trodAll_mk0))), rfl, hg.frame _, fun h => by cases h⟩

theorem over : Rows.confChangesRow.holds Try.pinned (OpenSpec.ofChange Rows.confChangesSpec) :=
  OpenClaim.holds_of_wide 3 Try.f3 rfl rfl rfl rfl rfl rfl rfl ⟨rfl, rfl, rfl, rfl, rfl⟩ rfl rfl rfl rfl rfl (by kernel_rfl) Try.func3 (by kernel_rfl)
    (of_decide_eq_true (by kernel_rfl)) (by unfold Func.isWrapper; first | (rw [if_pos (by decide +kernel)]; kernel_rfl) | (rw [if_neg (by decide +kernel)]; exact ⟨rfl, rfl⟩))
    (fun os started H enc _ => lifted os started H enc)

/-- ████ THE STATEMENT ████ -/
theorem proved : Rows.ConfChangesSaid :=
  over
#print axioms proved
end Go.Proofs.Ytedifbdjcebefaa.confChanges
