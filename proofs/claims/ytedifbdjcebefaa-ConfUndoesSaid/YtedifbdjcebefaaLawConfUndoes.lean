/- The law 'ConfUndoes' answers true at every input, and leaves its arguments as they were. (The frame was written by a program, after the kit's own frames; no condition beside the statement's own.) -/
import Derived.Test.YtedifbdjcebefaaRows
import Derived.WalkKit
import Derived.ProofKit
import Derived.OpenShut
import Derived.Deep.RegionHeld3
import Derived.Deep.DeepCutAuto
import Derived.ShutString
import Derived.ChangeOld
import Derived.Below
import Derived.SizedLaws
import Derived.Test.YtedifbdjcebefaaUndoPlain
namespace Go.Proofs.Ytedifbdjcebefaa.confUndoes
open Go.ChangeShapes Go.WideShapes Go.ChangeAt Go.RowKit Go.Proofs.Ytedifbdjcebefaa
open Go.ChangeMaps (open_string shut_string)
set_option linter.unusedVariables false
set_option linter.unusedSimpArgs false
set_option maxRecDepth 100000

theorem own : ownKnob Try.prog.godebug = none := by kernel_rfl
theorem laidOut : laidOutB Try.prog = true := by kernel_rfl

set_option maxHeartbeats 4000000 in
theorem walk (w : World) (s0 : Option Addr) (n0 c0 : Nat) (z0 : List Int) (t0 : Option Addr) (m0 e0 : Nat) (y0 : List Int) (r0 : IsRow w s0 n0 c0 z0) (q0 : IsRow w t0 m0 e0 y0) (b0 : n0 ≤ 17592186044416 ∧ m0 ≤ 17592186044416) (a1 : Int) (w1 : (Lit.int .i64 a1).wf = true) (a2 : Int) (w2 : (Lit.int .i64 a2).wf = true) :
    Calls Try.prog 5 #[.agg #[.slice s0 n0 c0, .slice t0 m0 e0], .int .i64 a1, .int .i64 a2] w fun e w' => e = .returned (.bool true) ∧ Below w.heap.size w w' := by
  have hle : n0 ≤ 4611686018427387904 ∧ m0 ≤ 4611686018427387903 := by omega
  have hV := r0.rd
  have hL := q0.rd
  generalize z0.take n0 = V at hV
  generalize y0.take m0 = L at hL
  clear r0 q0 b0 w1 w2
  have L1 : Hid (Below w.heap.size w (w.alloc (.cells #[.slice s0 n0 c0, .slice t0 m0 e0] 24))) := (Below.refl _ w).alloc (Nat.le_refl _) _
  have C1 : Hid (CB (w.alloc (.cells #[.slice s0 n0 c0, .slice t0 m0 e0] 24)) w.heap.size (.slice s0 n0 c0) (.slice t0 m0 e0)) := CB.new w _ _
  have R1 := Lib.hid (hV.keep (Nat.le_refl _) L1.out)
  have R2 := Lib.hid (hL.keep (Nat.le_refl _) L1.out)
  have HLE := Lib.hid hle
  clear hle hV hL
  go_enter Try.func5, Try.ntmps5
  go_wp2_with fail
  refine (few_any s0 t0 n0 m0 c0 e0 HLE.out.1 HLE.out.2 _).mono ?_
  rintro e w1 ⟨rfl, hb⟩
  have L2 := Lib.hid (L1.out.trans (hb.mono L1.out.size))
  have C2 := Lib.hid (C1.out.below (Nat.le_refl _) hb)
  have S1 := Lib.hid (R1.out.keep (Nat.le_refl _) hb)
  have S2 := Lib.hid (R2.out.keep (Nat.le_refl _) hb)
  clear hb L1 C1 R1 R2
  by_cases hfew : (n0 : Int) + m0 ≤ 200
  rotate_left
  · rw [decide_eq_false hfew]
    go_wp2_with fail
    refine (lives_any _).mono ?_
    rintro e w2 ⟨rfl, hb⟩
    have L3 := Lib.hid (L2.out.trans (hb.mono L2.out.size))
    clear hb
    go_wp2_with fail
    go_ret
    exact ⟨rfl, L3.out⟩
  rw [decide_eq_true hfew]
  have hn : n0 ≤ 200 := by omega
  have hm : m0 ≤ 200 := by omega
  clear hfew
  have f0 := C2.out.c0
  have f1 := C2.out.c1
  go_wp2_with fail
  refine (chg_any s0 n0 c0 V t0 m0 e0 L a1 a2 _ S1.out S2.out (by omega) (by omega)).mono ?_
  rintro e w3 ⟨d1, l1, g2, d2, l2, g3, rfl, hr1, hr2, hb⟩
  have B3 : Below w1.heap.size w1 (w3.alloc (.cells #[.slice d1 l1 g2, .slice d2 l2 g3] 24)) := hb.alloc hb.size _
  have C4 := Lib.hid (C2.out.below (Nat.le_refl _) B3)
  have E4 := Lib.hid (CB.new w3 (.slice d1 l1 g2) (.slice d2 l2 g3))
  have T1 := Lib.hid (S1.out.keep (Nat.le_refl _) B3)
  have T2 := Lib.hid (S2.out.keep (Nat.le_refl _) B3)
  have X1 := Lib.hid (hr1.keep (Nat.le_refl _) ((Below.refl _ _).alloc (Nat.le_refl _) (.cells #[.slice d1 l1 g2, .slice d2 l2 g3] 24)))
  have X2 := Lib.hid (hr2.keep (Nat.le_refl _) ((Below.refl _ _).alloc (Nat.le_refl _) (.cells #[.slice d1 l1 g2, .slice d2 l2 g3] 24)))
  have L4 := Lib.hid (L2.out.trans (B3.mono L2.out.size))
  clear hb hr1 hr2 B3 C2 S1 S2 L2 f0 f1
  go_upto_region 4 with fail
  generalize (w3.alloc (.cells #[.slice d1 l1 g2, .slice d2 l2 g3] 24)) = w4 at *
  generalize w3.heap.size = B1 at *
  have f0 := C4.out.c0
  have f1 := C4.out.c1
  have j0 := E4.out.c0
  have j1 := E4.out.c1
  by_cases he : errC V L a1 a2 = 0
  rotate_left
  · have he' : (errC V L a1 a2 == 0) = false := by simpa using he
    have hon := out_nil he
    have hl1 : l1 = 0 := by have h := X1.out.1; rw [hon.1] at h; exact h.symm
    have hl2 : l2 = 0 := by have h := X2.out.1; rw [hon.2] at h; exact h.symm
    subst hl1 hl2
    clear hon he
    generalize errC V L a1 a2 = er at *
    go_wp2_with fail
    refine (lives_any _).mono ?_
    rintro e w2 ⟨rfl, hb⟩
    have L3 := Lib.hid (L4.out.trans (hb.mono L4.out.size))
    clear hb
    go_wp2_with fail
    go_ret
    exact ⟨rfl, L3.out⟩
  have hwent := went he
  have ho1 := outV_len V L a1 a2
  have ho2 := outL_len V L a1 a2
  have hx1 := X1.out.1
  have hx2 := X2.out.1
  rw [he]
  have hV1 := T1.out.1
  have hL1 := T2.out.1
  have hsmall : l1 ≤ 9 ∧ l2 ≤ 9 := by
    have h1 := rises_len (good_parts hwent.good).2.1
    have h2 := rises_len (good_parts hwent.good).2.2.1
    omega
  have hs1 := hsmall.1
  have hs2 := hsmall.2
  have HW := Lib.hid hwent
  have HX1 := Lib.hid hx1
  have HX2 := Lib.hid hx2
  have HV1 := Lib.hid hV1
  have HL1 := Lib.hid hL1
  clear he hwent ho1 ho2 hx1 hx2 hV1 hL1 hsmall
  have hwr : IntKind.i64.wrap ((l1 : Int) + (l2 : Int) - ((n0 : Int) + (m0 : Int))) = (l1 : Int) + l2 - (n0 + m0) := IntWalk.i64_in _ (by omega)
  have hdd : decide ((1 : Int) < (l1 : Int) + l2 - (n0 + m0)) = false := decide_eq_false (by have h1 := HW.out.lens; have h2 := HX1.out; have h3 := HX2.out; have h4 := HV1.out; have h5 := HL1.out; omega)
  generalize outV V L a1 a2 = X at *
  generalize outL V L a1 a2 = Y at *
  go_upto_region 6 with fail
  have KS : Hid (∀ W, Below w4.heap.size w4 W → W.cell? ⟨B1, 0, none⟩ = some (.slice d1 l1 g2) ∧ W.cell? ⟨B1, 1, none⟩ = some (.slice d2 l2 g3) ∧ W.cell? ⟨w.heap.size, 0, none⟩ = some (.slice s0 n0 c0) ∧ W.cell? ⟨w.heap.size, 1, none⟩ = some (.slice t0 m0 e0) ∧ Below w4.heap.size w4 W) := by
    show ∀ W, _
    intro W h
    exact ⟨(E4.out.below (Nat.le_refl _) h).c0, (E4.out.below (Nat.le_refl _) h).c1, (C4.out.below (Nat.le_refl _) h).c0, (C4.out.below (Nat.le_refl _) h).c1, h⟩
  clear f0 f1 j0 j1
  go_region_held3 (fun W => W.cell? ⟨B1, 0, none⟩ = some (.slice d1 l1 g2) ∧ W.cell? ⟨B1, 1, none⟩ = some (.slice d2 l2 g3) ∧ W.cell? ⟨w.heap.size, 0, none⟩ = some (.slice s0 n0 c0) ∧ W.cell? ⟨w.heap.size, 1, none⟩ = some (.slice t0 m0 e0) ∧ Below w4.heap.size w4 W)
    (first | exact KS.out _ (Below.refl _ _) | exact KS.out _ (by assumption) | exact KS.out _ (held_below4 (by assumption)) | exact KS.out _ (Below.refl _ _).drew)
    (first
      | (go_at_call 20; refine (refgood_from w4 d1 l1 g2 X d2 l2 g3 Y _ X1.out X2.out (by omega) (by omega) (held_below4 (by assumption))).mono ?_; rintro e w5 ⟨rfl, hb5⟩; rw [HW.out.good])
      | (go_at_call_of 21 (Value.slice d1 l1 g2); refine (mem_from w4 d1 l1 g2 X d2 l2 g3 Y _ X1.out X2.out (by omega) (by omega) (held_below4 (by assumption))).mono ?_; rintro e w6 ⟨p3, k3, q3, rfl, hr3, hb6⟩; have hk3 := hr3.1; rw [srt_len, List.length_append, HX1.out, HX2.out] at hk3; subst hk3)
      | (go_at_call_of 21 (Value.slice s0 n0 c0); refine (mem_from w4 s0 n0 c0 V t0 m0 e0 L _ T1.out T2.out (by omega) (by omega) (held_below4 (by assumption))).mono ?_; rintro e w7 ⟨p4, k4, q4, rfl, hr4, hb7⟩; have hk4 := hr4.1; rw [srt_len, List.length_append, HV1.out, HL1.out] at hk4; subst hk4))
  rename_i hHeld
  have HH := Lib.hid (held_below4 hHeld)
  have C7 := Lib.hid (C4.out.below (Nat.le_refl _) HH.out)
  have E7 := Lib.hid (E4.out.below (Nat.le_refl _) HH.out)
  have T7 := Lib.hid (T1.out.keep (Nat.le_refl _) HH.out)
  have T8 := Lib.hid (T2.out.keep (Nat.le_refl _) HH.out)
  have X7 := Lib.hid (X1.out.keep (Nat.le_refl _) HH.out)
  have X8 := Lib.hid (X2.out.keep (Nat.le_refl _) HH.out)
  have L7 := Lib.hid (L4.out.trans (HH.out.mono L4.out.size))
  clear hHeld hb5 hb6 hb7 hr3 hr4 KS HH hwr C4 E4 T1 T2 X1 X2 L4
  have f0 := C7.out.c0
  have f1 := C7.out.c1
  have j0 := E7.out.c0
  have j1 := E7.out.c1
  rcases HW.out.kinds with hk | hk | hk | hk
  all_goals subst hk
  · have HBK := Lib.hid (HW.out.back (.inl rfl))
    go_upto_region 9 with ((go_at_call 13; refine (undo_any 1 _).mono ?_; rintro e w' ⟨rfl, rfl⟩; rw [show undF 1 = 4 by rfl]))
    go_wp2_with fail
    refine (chg_any d1 l1 g2 X d2 l2 g3 Y 4 a2 _ X7.out X8.out (by omega) (by omega)).mono ?_
    rintro e w8 ⟨d3, l3, g4, d4, l4, g5, rfl, hr1, hr2, hb⟩
    rw [HBK.out.2.1] at hr1
    rw [HBK.out.2.2] at hr2
    rw [HBK.out.1]
    have B3 : Below w7.heap.size w7 (w8.alloc (.cells #[.slice d3 l3 g4, .slice d4 l4 g5] 24)) := hb.alloc hb.size _
    have C8 := Lib.hid (C7.out.below (Nat.le_refl _) B3)
    have E8 := Lib.hid (CB.new w8 (.slice d3 l3 g4) (.slice d4 l4 g5))
    have T9 := Lib.hid (T7.out.keep (Nat.le_refl _) B3)
    have T10 := Lib.hid (T8.out.keep (Nat.le_refl _) B3)
    have X9 := Lib.hid (hr1.keep (Nat.le_refl _) ((Below.refl _ _).alloc (Nat.le_refl _) (.cells #[.slice d3 l3 g4, .slice d4 l4 g5] 24)))
    have X10 := Lib.hid (hr2.keep (Nat.le_refl _) ((Below.refl _ _).alloc (Nat.le_refl _) (.cells #[.slice d3 l3 g4, .slice d4 l4 g5] 24)))
    have L8 := Lib.hid (L7.out.trans (B3.mono L7.out.size))
    have hl3 : Hid (l3 ≤ 1000) := by
      show _ ≤ _
      have h1 := hr1.1
      have h2 := HV1.out
      omega
    have hl4 : Hid (l4 ≤ 1000) := by
      show _ ≤ _
      have h1 := hr2.1
      have h2 := HL1.out
      omega
    clear hb hr1 hr2 B3 C7 E7 T7 T8 X7 X8 L7 f0 f1 j0 j1
    go_upto_region 11 with fail
    generalize (w8.alloc (.cells #[.slice d3 l3 g4, .slice d4 l4 g5] 24)) = w9 at *
    generalize w8.heap.size = B2 at *
    have f0 := C8.out.c0
    have f1 := C8.out.c1
    have j0 := E8.out.c0
    have j1 := E8.out.c1
    go_wp2_with fail
    refine (same_any d3 l3 g4 _ d4 l4 g5 _ s0 n0 c0 _ t0 m0 e0 _ _ X9.out X10.out T9.out T10.out hl3.out hl4.out (by omega) (by omega)).mono ?_
    rintro e w10 ⟨rfl, hb⟩
    rw [show (decide (V = V) && decide (L = L)) = true by simp]
    have L9 := Lib.hid (L8.out.trans (hb.mono L8.out.size))
    clear hb f0 f1 j0 j1
    go_wp2_with fail
    refine (lives_any _).mono ?_
    rintro e w2 ⟨rfl, hb⟩
    have L10 := Lib.hid (L9.out.trans (hb.mono L9.out.size))
    clear hb
    go_wp2_with fail
    go_ret
    exact ⟨rfl, L10.out⟩
  · have HBK := Lib.hid (HW.out.back (.inr rfl))
    go_upto_region 9 with ((go_at_call 13; refine (undo_any 2 _).mono ?_; rintro e w' ⟨rfl, rfl⟩; rw [show undF 2 = 4 by rfl]))
    go_wp2_with fail
    refine (chg_any d1 l1 g2 X d2 l2 g3 Y 4 a2 _ X7.out X8.out (by omega) (by omega)).mono ?_
    rintro e w8 ⟨d3, l3, g4, d4, l4, g5, rfl, hr1, hr2, hb⟩
    rw [HBK.out.2.1] at hr1
    rw [HBK.out.2.2] at hr2
    rw [HBK.out.1]
    have B3 : Below w7.heap.size w7 (w8.alloc (.cells #[.slice d3 l3 g4, .slice d4 l4 g5] 24)) := hb.alloc hb.size _
    have C8 := Lib.hid (C7.out.below (Nat.le_refl _) B3)
    have E8 := Lib.hid (CB.new w8 (.slice d3 l3 g4) (.slice d4 l4 g5))
    have T9 := Lib.hid (T7.out.keep (Nat.le_refl _) B3)
    have T10 := Lib.hid (T8.out.keep (Nat.le_refl _) B3)
    have X9 := Lib.hid (hr1.keep (Nat.le_refl _) ((Below.refl _ _).alloc (Nat.le_refl _) (.cells #[.slice d3 l3 g4, .slice d4 l4 g5] 24)))
    have X10 := Lib.hid (hr2.keep (Nat.le_refl _) ((Below.refl _ _).alloc (Nat.le_refl _) (.cells #[.slice d3 l3 g4, .slice d4 l4 g5] 24)))
    have L8 := Lib.hid (L7.out.trans (B3.mono L7.out.size))
    have hl3 : Hid (l3 ≤ 1000) := by
      show _ ≤ _
      have h1 := hr1.1
      have h2 := HV1.out
      omega
    have hl4 : Hid (l4 ≤ 1000) := by
      show _ ≤ _
      have h1 := hr2.1
      have h2 := HL1.out
      omega
    clear hb hr1 hr2 B3 C7 E7 T7 T8 X7 X8 L7 f0 f1 j0 j1
    go_upto_region 11 with fail
    generalize (w8.alloc (.cells #[.slice d3 l3 g4, .slice d4 l4 g5] 24)) = w9 at *
    generalize w8.heap.size = B2 at *
    have f0 := C8.out.c0
    have f1 := C8.out.c1
    have j0 := E8.out.c0
    have j1 := E8.out.c1
    go_wp2_with fail
    refine (same_any d3 l3 g4 _ d4 l4 g5 _ s0 n0 c0 _ t0 m0 e0 _ _ X9.out X10.out T9.out T10.out hl3.out hl4.out (by omega) (by omega)).mono ?_
    rintro e w10 ⟨rfl, hb⟩
    rw [show (decide (V = V) && decide (L = L)) = true by simp]
    have L9 := Lib.hid (L8.out.trans (hb.mono L8.out.size))
    clear hb f0 f1 j0 j1
    go_wp2_with fail
    refine (lives_any _).mono ?_
    rintro e w2 ⟨rfl, hb⟩
    have L10 := Lib.hid (L9.out.trans (hb.mono L9.out.size))
    clear hb
    go_wp2_with fail
    go_ret
    exact ⟨rfl, L10.out⟩
  · have HT := Lib.hid (HW.out.there rfl)
    go_upto_region 9 with ((go_at_call 13; refine (undo_any 3 _).mono ?_; rintro e w' ⟨rfl, rfl⟩; rw [show undF 3 = 0 by rfl]))
    go_wp2_with fail
    refine (mem_any d1 l1 g2 X d2 l2 g3 Y _ X7.out X8.out (by omega) (by omega)).mono ?_
    rintro e w8 ⟨p5, k5, q5, rfl, hr5, hb⟩
    have hk5 := hr5.1
    rw [srt_len, List.length_append, HX1.out, HX2.out] at hk5
    subst hk5
    have R5 := Lib.hid hr5
    have L8 := Lib.hid (L7.out.trans (hb.mono L7.out.size))
    clear hb hr5 f0 f1 j0 j1
    go_wp2_with fail
    refine (chas_any p5 _ q5 _ a2 _ R5.out (by omega)).mono ?_
    rintro e w9 ⟨rfl, rfl⟩
    rw [HT.out]
    go_wp2_with fail
    refine (lives_any _).mono ?_
    rintro e w2 ⟨rfl, hb⟩
    have L10 := Lib.hid (L8.out.trans (hb.mono L8.out.size))
    clear hb
    go_wp2_with fail
    go_ret
    exact ⟨rfl, L10.out⟩
  · have HT := Lib.hid (HW.out.gone rfl)
    go_upto_region 9 with ((go_at_call 13; refine (undo_any 4 _).mono ?_; rintro e w' ⟨rfl, rfl⟩; rw [show undF 4 = 0 by rfl]))
    go_wp2_with fail
    refine (mem_any d1 l1 g2 X d2 l2 g3 Y _ X7.out X8.out (by omega) (by omega)).mono ?_
    rintro e w8 ⟨p5, k5, q5, rfl, hr5, hb⟩
    have hk5 := hr5.1
    rw [srt_len, List.length_append, HX1.out, HX2.out] at hk5
    subst hk5
    have R5 := Lib.hid hr5
    have L8 := Lib.hid (L7.out.trans (hb.mono L7.out.size))
    clear hb hr5 f0 f1 j0 j1
    go_wp2_with fail
    refine (chas_any p5 _ q5 _ a2 _ R5.out (by omega)).mono ?_
    rintro e w9 ⟨rfl, rfl⟩
    rw [HT.out]
    go_wp2_with fail
    refine (lives_any _).mono ?_
    rintro e w2 ⟨rfl, hb⟩
    have L10 := Lib.hid (L8.out.trans (hb.mono L8.out.size))
    clear hb
    go_wp2_with fail
    go_ret
    exact ⟨rfl, L10.out⟩

theorem lifted (os : Os) (started : os.Started) (H : Type) (enc : TypeId × Value → H) :
    ReturnsInHanded {} Try.checked os 5 .any (Rows.confUndoesSpec.pre6 enc Try.prog Try.f5 Rows.confUndoesRow.domain false) (Rows.confUndoesSpec.post enc Try.prog Try.f5 false true false false) := by
  refine returnsInHanded_of_change_sized (C := Try.checked) own started (by kernel_rfl) Try.func5
    (ChangeSpec.witness6 (enc := enc) (C := Try.checked) false ⟨#[], #[.agg #[.slice none 0 0, .slice none 0 0], .int .i64 0, .int .i64 0], []⟩ 8 (by kernel_rfl) (by kernel_rfl) (by kernel_rfl) (by kernel_rfl)) ?_
  intro W base args ds gs before hval0 hW hcnd hsz0 _
  have hsz : (DataW.weightsEach Try.prog (Try.f5.params.toList ++ Rows.confUndoesSpec.plain.varTypes Try.prog) (ds ++ gs)).all (· ≤ reachBytes) = true := hsz0
  clear hsz0
  have hval : ∀ (j : Nat) t v, Try.f5.params[j]? = some t → args[j]? = some v → Value.okWide Try.prog W .any base t v := hval0
  have hW' := hW
  obtain ⟨p, q, hA0, hV, rfl, hfz, hnd⟩ := hW
  have hA : DataW.TrodAll enc Try.prog W 0 (fun _ => true) true Try.f5.params.toList args.toList ds p := hA0
  rw [Try.params5] at hA hval hsz
  obtain ⟨v0, vs0, d0, ds0, p0, q0, hargs, rfl, rfl, h0, r0⟩ := trodAll_cons hA
  obtain ⟨v1, vs1, d1, ds1, p1, q1, rfl, rfl, rfl, h1, r1⟩ := trodAll_cons r0
  obtain ⟨v2, vs2, d2, ds2, p2, q2, rfl, rfl, rfl, h2, r2⟩ := trodAll_cons r1
  obtain ⟨rfl, rfl, rfl⟩ := trodAll_nil r2
  obtain rfl : args = #[v0, v1, v2] := by cases args; simp_all
  obtain ⟨rfl, rfl⟩ := trodVars_none hV
  have k0 := h0
  have lt0 : ∀ x ∈ p0, x.block < W.heap.size := by obtain ⟨m, hm⟩ := k0; exact DataW.trod_lt m _ _ _ hm
  obtain ⟨s0, n0, c0, z0, t0, m0, e0, y0, g0, f0, rfl, rfl, w0, x0, j0, l0⟩ := open_conf (hval 0 24 v0 rfl rfl) h0
  have b0 : n0 ≤ 17592186044416 ∧ m0 ≤ 17592186044416 := by
    have := conf_le hsz j0 l0
    have := w0.len
    have := x0.len
    omega
  clear j0 l0 hsz
  obtain ⟨a1, rfl, rfl, rfl, w1⟩ := open_int Try.underlying3 (hval 1 3 v1 rfl rfl) h1
  obtain ⟨a2, rfl, rfl, rfl, w2⟩ := open_int Try.underlying3 (hval 2 3 v2 rfl rfl) h2
  clear hA0 hval0
  try simp only [List.append_nil] at hW'
  refine (walk W s0 n0 c0 z0 t0 m0 e0 y0 w0 x0 b0 a1 w1 a2 w2).mono fun e W' ⟨he, hg⟩ => ?_
  subst he
  exact ⟨_, rfl, _, _, _, [], _, [], hW', (trodAll_cons_mk (shut_bool Try.underlying4 _) trodAll_mk0), (trodAll_cons_mk (Below.trod laidOut (by kernel_rfl) (of_decide_eq_true (by kernel_rfl)) k0 hg lt0) (trodAll_cons_mk (shut_int Try.underlying3 w1) (trodAll_cons_mk (shut_int Try.underlying3 w2) trodAll_mk0))), rfl, hg.frame _, fun h => by cases h⟩

theorem over : Rows.confUndoesRow.holds Try.pinned (OpenSpec.ofChange Rows.confUndoesSpec) :=
  OpenClaim.holds_of_wide 5 Try.f5 rfl rfl rfl rfl rfl rfl rfl ⟨rfl, rfl, rfl, rfl, rfl⟩ rfl rfl rfl rfl rfl (by kernel_rfl) Try.func5 (by kernel_rfl)
    (of_decide_eq_true (by kernel_rfl)) (by unfold Func.isWrapper; first | (rw [if_pos (by decide +kernel)]; kernel_rfl) | (rw [if_neg (by decide +kernel)]; exact ⟨rfl, rfl⟩))
    (fun os started H enc _ => lifted os started H enc)

/-- ████ THE STATEMENT ████ -/
theorem proved : Rows.ConfUndoesSaid :=
  over
#print axioms proved
end Go.Proofs.Ytedifbdjcebefaa.confUndoes
