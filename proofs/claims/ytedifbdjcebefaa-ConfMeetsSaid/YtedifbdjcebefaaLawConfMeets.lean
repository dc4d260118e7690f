/- The law 'ConfMeets' answers true at every input, and leaves its arguments as they were. (The frame was written by a program, after the kit's own frames; no condition beside the statement's own.) -/
import Derived.Test.YtedifbdjcebefaaRows
import Derived.WalkKit
import Derived.ProofKit
import Derived.OpenShut
import Derived.Deep.RegionHeld3
import Derived.Deep.DeepCutAuto
import Derived.ShutString
import Derived.ChangeOld
import Derived.Below
import Derived.SizedLaws
import Derived.Test.YtedifbdjcebefaaStep
namespace Go.Proofs.Ytedifbdjcebefaa.confMeets
open Go.ChangeShapes Go.WideShapes Go.ChangeAt Go.RowKit Go.Proofs.Ytedifbdjcebefaa
open Go.ChangeMaps (open_string shut_string)
set_option linter.unusedVariables false
set_option linter.unusedSimpArgs false
set_option maxRecDepth 100000

theorem own : ownKnob Try.prog.godebug = none := by kernel_rfl
theorem laidOut : laidOutB Try.prog = true := by kernel_rfl

set_option maxHeartbeats 4000000 in
theorem walk (w : World) (s0 : Option Addr) (n0 c0 : Nat) (z0 : List Int) (t0 : Option Addr) (m0 e0 : Nat) (y0 : List Int) (r0 : IsRow w s0 n0 c0 z0) (q0 : IsRow w t0 m0 e0 y0) (b0 : n0 ≤ 17592186044416 ∧ m0 ≤ 17592186044416) (a1 g1 : Int) (s1 : Option Addr) (n1 c1 : Nat) (z1 : List Int) (r1 : IsRow w s1 n1 c1 z1) (s2 : Option Addr) (n2 c2 : Nat) (z2 : List Int) (r2 : IsRow w s2 n2 c2 z2) :
    Calls Try.prog 4 #[.agg #[.slice s0 n0 c0, .slice t0 m0 e0], .agg #[.int .i64 a1, .int .i64 g1, .slice s1 n1 c1], .slice s2 n2 c2] w fun e w' => e = .returned (.bool true) ∧ Below w.heap.size w w' := by
  have hle : n0 ≤ 4611686018427387904 ∧ m0 ≤ 4611686018427387903 := by omega
  have hV := r0.rd
  have hL := q0.rd
  have hB := r1.rd
  have hA := r2.rd
  have HX1 := Lib.hid r1.max
  have HX2 := Lib.hid r2.max
  generalize z0.take n0 = V at hV
  generalize y0.take m0 = L at hL
  generalize z1.take n1 = B at hB
  generalize z2.take n2 = A at hA
  clear r0 q0 b0 r1 r2
  have L1 : Hid (Below w.heap.size w ((w.alloc (.cells #[.slice s0 n0 c0, .slice t0 m0 e0] 24)).alloc (.cells #[.int .i64 a1, .int .i64 g1, .slice s1 n1 c1] 38))) := ((Below.refl _ w).alloc (Nat.le_refl _) _).alloc (by simp) _
  have C1 : Hid (CB ((w.alloc (.cells #[.slice s0 n0 c0, .slice t0 m0 e0] 24)).alloc (.cells #[.int .i64 a1, .int .i64 g1, .slice s1 n1 c1] 38)) w.heap.size (.slice s0 n0 c0) (.slice t0 m0 e0)) := (CB.new w _ _).below (Nat.le_refl _) ((Below.refl _ _).alloc (Nat.le_refl _) _)
  have D1 : Hid (SB ((w.alloc (.cells #[.slice s0 n0 c0, .slice t0 m0 e0] 24)).alloc (.cells #[.int .i64 a1, .int .i64 g1, .slice s1 n1 c1] 38)) (w.heap.size + 1) a1 g1 (.slice s1 n1 c1)) := by
    have h1 := SB.new (w.alloc (.cells #[.slice s0 n0 c0, .slice t0 m0 e0] 24)) a1 g1 (.slice s1 n1 c1)
    rw [show (w.alloc (.cells #[.slice s0 n0 c0, .slice t0 m0 e0] 24)).heap.size = w.heap.size + 1 by simp] at h1
    exact h1
  have R1 := Lib.hid (hV.keep (Nat.le_refl _) L1.out)
  have R2 := Lib.hid (hL.keep (Nat.le_refl _) L1.out)
  have R3 := Lib.hid (hB.keep (Nat.le_refl _) L1.out)
  have R4 := Lib.hid (hA.keep (Nat.le_refl _) L1.out)
  have HLE := Lib.hid hle
  clear hle hV hL hB hA
  go_enter Try.func4, Try.ntmps4
  go_wp2_with fail
  refine (few_any s0 t0 n0 m0 c0 e0 HLE.out.1 HLE.out.2 _).mono ?_
  rintro e w1 ⟨rfl, hb⟩
  have L2 := Lib.hid (L1.out.trans (hb.mono L1.out.size))
  have C2 := Lib.hid (C1.out.below (Nat.le_refl _) hb)
  have D2 := Lib.hid (D1.out.below (Nat.le_refl _) hb)
  have S1 := Lib.hid (R1.out.keep (Nat.le_refl _) hb)
  have S2 := Lib.hid (R2.out.keep (Nat.le_refl _) hb)
  have S3 := Lib.hid (R3.out.keep (Nat.le_refl _) hb)
  have S4 := Lib.hid (R4.out.keep (Nat.le_refl _) hb)
  clear hb L1 C1 D1 R1 R2 R3 R4
  have x0 := D2.out.c2
  by_cases hfew : (n0 : Int) + m0 ≤ 200
  rotate_left
  · rw [decide_eq_false hfew]
    go_wp2_with fail
    refine (lives_any _).mono ?_
    rintro e w2 ⟨rfl, hb⟩
    have L3 := Lib.hid (L2.out.trans (hb.mono L2.out.size))
    clear hb
    go_wp2_with fail
    go_ret
    exact ⟨rfl, L3.out⟩
  rw [decide_eq_true hfew]
  have hn : n0 ≤ 1000 := by omega
  have hm : m0 ≤ 1000 := by omega
  clear hfew
  by_cases h2 : (100 : Int) < (n2 : Int)
  · have h2' : decide ((100 : Int) < (n2 : Int)) = true := decide_eq_true h2
    go_wp2_with fail
    refine (lives_any _).mono ?_
    rintro e w2 ⟨rfl, hb⟩
    have L3 := Lib.hid (L2.out.trans (hb.mono L2.out.size))
    clear hb
    go_wp2_with fail
    go_ret
    exact ⟨rfl, L3.out⟩
  have h2' : decide ((100 : Int) < (n2 : Int)) = false := decide_eq_false h2
  by_cases h1 : (100 : Int) < (n1 : Int)
  · have h1' : decide ((100 : Int) < (n1 : Int)) = true := decide_eq_true h1
    go_wp2_with fail
    refine (lives_any _).mono ?_
    rintro e w2 ⟨rfl, hb⟩
    have L3 := Lib.hid (L2.out.trans (hb.mono L2.out.size))
    clear hb
    go_wp2_with fail
    go_ret
    exact ⟨rfl, L3.out⟩
  have h1' : decide ((100 : Int) < (n1 : Int)) = false := decide_eq_false h1
  have hn1 : n1 ≤ 1000 := by omega
  have hn2 : n2 ≤ 1000 := by omega
  have f0 := C2.out.c0
  have f1 := C2.out.c1
  have x1 := D2.out.c0
  have x2 := D2.out.c1
  go_upto_region 3 with fail
  clear h1 h2 h1' h2'
  go_wp2_with fail
  refine (chg_any s0 n0 c0 V t0 m0 e0 L a1 g1 _ S1.out S2.out (by omega) (by omega)).mono ?_
  rintro e w3 ⟨d1, l1, g2, d2, l2, g3, rfl, hr1, hr2, hb⟩
  have B3 : Below w1.heap.size w1 (w3.alloc (.cells #[.slice d1 l1 g2, .slice d2 l2 g3] 24)) := hb.alloc hb.size _
  have C4 := Lib.hid (C2.out.below (Nat.le_refl _) B3)
  have D4 := Lib.hid (D2.out.below (Nat.le_refl _) B3)
  have E4 := Lib.hid (CB.new w3 (.slice d1 l1 g2) (.slice d2 l2 g3))
  have T1 := Lib.hid (S1.out.keep (Nat.le_refl _) B3)
  have T3 := Lib.hid (S3.out.keep (Nat.le_refl _) B3)
  have T4 := Lib.hid (S4.out.keep (Nat.le_refl _) B3)
  have X1 := Lib.hid (hr1.keep (Nat.le_refl _) ((Below.refl _ _).alloc (Nat.le_refl _) (.cells #[.slice d1 l1 g2, .slice d2 l2 g3] 24)))
  have L4 := Lib.hid (L2.out.trans (B3.mono L2.out.size))
  clear hb hr1 hr2 B3 C2 D2 S1 S2 S3 S4 L2 f0 f1 x0 x1 x2
  have HME : Hid (∀ A B : List Int, errC V L a1 g1 = 0 → majB V A = true → majB (outV V L a1 g1) B = true → ∃ x ∈ A, bI V x = true ∧ bI (outV V L a1 g1) x = true ∧ bI B x = true) := by
    show ∀ A B : List Int, _
    exact fun A B h1 h2 h3 => meets h1 h2 h3
  go_upto_region 4 with fail
  generalize (w3.alloc (.cells #[.slice d1 l1 g2, .slice d2 l2 g3] 24)) = w4 at *
  generalize w3.heap.size = B1 at *
  by_cases he : errC V L a1 g1 = 0
  rotate_left
  · have he' : (errC V L a1 g1 == 0) = false := by simpa using he
    generalize errC V L a1 g1 = er at *
    have f0 := C4.out.c0
    have f1 := C4.out.c1
    have j0 := E4.out.c0
    have j1 := E4.out.c1
    go_wp2_with fail
    refine (lives_any _).mono ?_
    rintro e w2 ⟨rfl, hb⟩
    have L3 := Lib.hid (L4.out.trans (hb.mono L4.out.size))
    clear hb
    go_wp2_with fail
    go_ret
    exact ⟨rfl, L3.out⟩
  have hoc := outV_cases he
  have PV := Lib.hid (rises_pw (good_parts hoc.1).2.1)
  have PO : Hid ((outV V L a1 g1).Pairwise (· < ·)) := outV_rises he
  have o1 : Hid (l1 ≤ 1000) := by
    show _ ≤ _
    rw [← X1.out.1]; exact outV_len _ _ _ _
  rw [he]
  have HEr := Lib.hid he
  clear he hoc
  have f0 := C4.out.c0
  have f1 := C4.out.c1
  have j0 := E4.out.c0
  have j1 := E4.out.c1
  have x0 := D4.out.c2
  go_wp2_with fail
  refine (maj_any s0 n0 c0 V _ s2 n2 c2 A _ T1.out T4.out hn hn2 PV.out.1 ⟨_, _, _, rfl⟩).mono ?_
  rintro e w5 ⟨rfl, hb⟩
  have C5 := Lib.hid (C4.out.below (Nat.le_refl _) hb)
  have D5 := Lib.hid (D4.out.below (Nat.le_refl _) hb)
  have E5 := Lib.hid (E4.out.below (Nat.le_refl _) hb)
  have T5 := Lib.hid (T1.out.keep (Nat.le_refl _) hb)
  have T6 := Lib.hid (T3.out.keep (Nat.le_refl _) hb)
  have T7 := Lib.hid (T4.out.keep (Nat.le_refl _) hb)
  have X5 := Lib.hid (X1.out.keep (Nat.le_refl _) hb)
  have L5 := Lib.hid (L4.out.trans (hb.mono L4.out.size))
  clear hb C4 D4 E4 T1 T3 T4 X1 L4 f0 f1 j0 j1 x0
  have j0 := E5.out.c0
  have j1 := E5.out.c1
  have x0 := D5.out.c2
  cases hmA : majB V A
  · go_wp2_with fail
    refine (lives_any _).mono ?_
    rintro e w2 ⟨rfl, hb⟩
    have L3 := Lib.hid (L5.out.trans (hb.mono L5.out.size))
    clear hb
    go_wp2_with fail
    go_ret
    exact ⟨rfl, L3.out⟩
  have HMA := Lib.hid hmA
  clear hmA
  go_wp2_with fail
  refine (maj_any d1 l1 g2 (outV V L a1 g1) _ s1 n1 c1 B _ X5.out T6.out o1.out hn1 PO.out ⟨_, _, _, rfl⟩).mono ?_
  rintro e w6 ⟨rfl, hb⟩
  have C6 := Lib.hid (C5.out.below (Nat.le_refl _) hb)
  have D6 := Lib.hid (D5.out.below (Nat.le_refl _) hb)
  have E6 := Lib.hid (E5.out.below (Nat.le_refl _) hb)
  have T8 := Lib.hid (T5.out.keep (Nat.le_refl _) hb)
  have T9 := Lib.hid (T6.out.keep (Nat.le_refl _) hb)
  have T10 := Lib.hid (T7.out.keep (Nat.le_refl _) hb)
  have X6 := Lib.hid (X5.out.keep (Nat.le_refl _) hb)
  have L6 := Lib.hid (L5.out.trans (hb.mono L5.out.size))
  clear hb C5 D5 E5 T5 T6 T7 X5 L5 j0 j1 x0
  cases hmB : majB (outV V L a1 g1) B
  · go_wp2_with fail
    refine (lives_any _).mono ?_
    rintro e w2 ⟨rfl, hb⟩
    have L3 := Lib.hid (L6.out.trans (hb.mono L6.out.size))
    clear hb
    go_wp2_with fail
    go_ret
    exact ⟨rfl, L3.out⟩
  have HM : Hid (∃ x ∈ A, bI V x = true ∧ bI (outV V L a1 g1) x = true ∧ bI B x = true) := HME.out A B HEr.out HMA.out hmB
  clear hmB HMA HEr HME
  generalize outV V L a1 g1 = O at *
  have f0 := C6.out.c0
  have j0 := E6.out.c0
  have x0 := D6.out.c2
  have HAL := Lib.hid T10.out.1
  go_wp2_with fail
  go_loop [53] (fun iv => ∃ k : Nat, k ≤ n2 ∧ iv = .int .i64 k ∧ ∀ x ∈ A.take k, ¬ (bI V x = true ∧ bI O x = true ∧ bI B x = true)) (fun iv => n2 - (intOf iv).toNat)
  case atStart => exact ⟨0, by omega, rfl, by simp⟩
  case round =>
    obtain ⟨k, hk, rfl, hf⟩ := hrel
    have HF := Lib.hid hf
    clear hf
    by_cases hlt : k < n2
    · obtain ⟨b2, off, rfl, hc⟩ := T10.out.at hlt
      have HT := Lib.hid (take_snoc A k (by rw [HAL.out]; exact hlt))
      generalize A.getD k 0 = y at *
      have HR : Hid (¬ (bI V y = true ∧ bI O y = true ∧ bI B y = true) → ∀ x ∈ A.take (k + 1), ¬ (bI V x = true ∧ bI O x = true ∧ bI B x = true)) := by
        show _ → _
        intro h x hx
        rw [HT.out] at hx
        rcases List.mem_append.1 hx with hx | hx
        · exact HF.out x hx
        · rw [List.mem_singleton] at hx; rw [hx]; exact h
      cases h1 : bI V y
      · have H1 := Lib.hid h1
        clear h1
        go_wp2_with (first | (go_at_call_of 19 (Value.slice s0 n0 c0); refine (chas_any s0 n0 c0 V y _ T8.out hn).mono ?_; rintro e w' ⟨rfl, rfl⟩; rw [H1.out]))
        go_round
        case rel => exact ⟨k + 1, by omega, by go_num, HR.out (by rw [H1.out]; simp)⟩
        case measure => simp [intOf]; omega
      have H1 := Lib.hid h1
      clear h1
      cases h2 : bI O y
      · have H2 := Lib.hid h2
        clear h2
        go_wp2_with (first | (go_at_call_of 19 (Value.slice s0 n0 c0); refine (chas_any s0 n0 c0 V y _ T8.out hn).mono ?_; rintro e w' ⟨rfl, rfl⟩; rw [H1.out]) | (go_at_call_of 19 (Value.slice d1 l1 g2); refine (chas_any d1 l1 g2 O y _ X6.out o1.out).mono ?_; rintro e w' ⟨rfl, rfl⟩; rw [H2.out]))
        go_round
        case rel => exact ⟨k + 1, by omega, by go_num, HR.out (by rw [H2.out]; simp)⟩
        case measure => simp [intOf]; omega
      have H2 := Lib.hid h2
      clear h2
      cases h3 : bI B y
      · have H3 := Lib.hid h3
        clear h3
        go_wp2_with (first | (go_at_call_of 19 (Value.slice s0 n0 c0); refine (chas_any s0 n0 c0 V y _ T8.out hn).mono ?_; rintro e w' ⟨rfl, rfl⟩; rw [H1.out]) | (go_at_call_of 19 (Value.slice d1 l1 g2); refine (chas_any d1 l1 g2 O y _ X6.out o1.out).mono ?_; rintro e w' ⟨rfl, rfl⟩; rw [H2.out]) | (go_at_call_of 19 (Value.slice s1 n1 c1); refine (chas_any s1 n1 c1 B y _ T9.out hn1).mono ?_; rintro e w' ⟨rfl, rfl⟩; rw [H3.out]))
        go_round
        case rel => exact ⟨k + 1, by omega, by go_num, HR.out (by rw [H3.out]; simp)⟩
        case measure => simp [intOf]; omega
      have H3 := Lib.hid h3
      clear h3
      go_wp2_with (first | (go_at_call_of 19 (Value.slice s0 n0 c0); refine (chas_any s0 n0 c0 V y _ T8.out hn).mono ?_; rintro e w' ⟨rfl, rfl⟩; rw [H1.out]) | (go_at_call_of 19 (Value.slice d1 l1 g2); refine (chas_any d1 l1 g2 O y _ X6.out o1.out).mono ?_; rintro e w' ⟨rfl, rfl⟩; rw [H2.out]) | (go_at_call_of 19 (Value.slice s1 n1 c1); refine (chas_any s1 n1 c1 B y _ T9.out hn1).mono ?_; rintro e w' ⟨rfl, rfl⟩; rw [H3.out]) | (go_at_call 9; refine (lives_any _).mono ?_; rintro e w2 ⟨rfl, hb⟩; have L3 := Lib.hid (L6.out.trans (hb.mono L6.out.size)); clear hb))
      go_ret
      exact ⟨rfl, L3.out⟩
    · exfalso
      obtain ⟨x, hx, h⟩ := HM.out
      exact HF.out x (by rw [List.take_of_length_le (by rw [HAL.out]; omega)]; exact hx) h

theorem lifted (os : Os) (started : os.Started) (H : Type) (enc : TypeId × Value → H) :
    ReturnsInHanded {} Try.checked os 4 .any (Rows.confMeetsSpec.pre6 enc Try.prog Try.f4 Rows.confMeetsRow.domain false) (Rows.confMeetsSpec.post enc Try.prog Try.f4 false true false false) := by
  refine returnsInHanded_of_change_sized (C := Try.checked) own started (by kernel_rfl) Try.func4
    (ChangeSpec.witness6 (enc := enc) (C := Try.checked) false ⟨#[], #[.agg #[.slice none 0 0, .slice none 0 0], .agg #[.int .i64 0, .int .i64 0, .slice none 0 0], .slice none 0 0], []⟩ 8 (by kernel_rfl) (by kernel_rfl) (by kernel_rfl) (by kernel_rfl)) ?_
  intro W base args ds gs before hval0 hW hcnd hsz0 _
  have hsz : (DataW.weightsEach Try.prog (Try.f4.params.toList ++ Rows.confMeetsSpec.plain.varTypes Try.prog) (ds ++ gs)).all (· ≤ reachBytes) = true := hsz0
  clear hsz0
  have hval : ∀ (j : Nat) t v, Try.f4.params[j]? = some t → args[j]? = some v → Value.okWide Try.prog W .any base t v := hval0
  have hW' := hW
  obtain ⟨p, q, hA0, hV, rfl, hfz, hnd⟩ := hW
  have hA : DataW.TrodAll enc Try.prog W 0 (fun _ => true) true Try.f4.params.toList args.toList ds p := hA0
  rw [Try.params4] at hA hval hsz
  obtain ⟨v0, vs0, d0, ds0, p0, q0, hargs, rfl, rfl, h0, r0⟩ := trodAll_cons hA
  obtain ⟨v1, vs1, d1, ds1, p1, q1, rfl, rfl, rfl, h1, r1⟩ := trodAll_cons r0
  obtain ⟨v2, vs2, d2, ds2, p2, q2, rfl, rfl, rfl, h2, r2⟩ := trodAll_cons r1
  obtain ⟨rfl, rfl, rfl⟩ := trodAll_nil r2
  obtain rfl : args = #[v0, v1, v2] := by cases args; simp_all
  obtain ⟨rfl, rfl⟩ := trodVars_none hV
  have k0 := h0
  have lt0 : ∀ x ∈ p0, x.block < W.heap.size := by obtain ⟨m, hm⟩ := k0; exact DataW.trod_lt m _ _ _ hm
  obtain ⟨s0, n0, c0, z0, t0, m0, e0, y0, g0, f0, rfl, rfl, w0, x0, j0, l0⟩ := open_conf (hval 0 24 v0 rfl rfl) h0
  have b0 : n0 ≤ 17592186044416 ∧ m0 ≤ 17592186044416 := by
    have := conf_le hsz j0 l0
    have := w0.len
    have := x0.len
    omega
  clear j0 l0 hsz
  have k1 := h1
  have lt1 : ∀ x ∈ p1, x.block < W.heap.size := by obtain ⟨m, hm⟩ := k1; exact DataW.trod_lt m _ _ _ hm
  obtain ⟨a1, g1, s1, n1, c1, z1, rfl, w1⟩ := open_step (hval 1 38 v1 rfl rfl) h1
  obtain ⟨s2, n2, c2, rfl⟩ := okWide_slice Try.underlying22 (hval 2 22 v2 rfl rfl)
  have k2 := h2
  have lt2 : ∀ x ∈ p2, x.block < W.heap.size := by obtain ⟨m, hm⟩ := k2; exact DataW.trod_lt m _ _ _ hm
  obtain ⟨z2, w2⟩ : ∃ zs, IsRow W s2 n2 c2 zs := by
    obtain ⟨fuel, hf⟩ := h2
    rcases open_ints Try.underlying22 Try.underlying3 (by kernel_rfl) hf with ⟨hcs, _⟩ | ⟨x, l, c, zs, hcs, _, hl, hm, hz, _, hcell, hwz⟩
    · simp [Value.cells] at hcs
      obtain ⟨rfl, rfl, rfl⟩ := hcs
      exact ⟨[], .inl ⟨rfl, rfl, rfl, rfl⟩⟩
    · simp [Value.cells] at hcs
      obtain ⟨rfl, rfl, rfl⟩ := hcs
      exact ⟨zs, .inr ⟨_, rfl, hl, hm, by simpa using hz, hcell, hwz⟩⟩
  clear hA0 hval0
  try simp only [List.append_nil] at hW'
  refine (walk W s0 n0 c0 z0 t0 m0 e0 y0 w0 x0 b0 a1 g1 s1 n1 c1 z1 w1 s2 n2 c2 z2 w2).mono fun e W' ⟨he, hg⟩ => ?_
  subst he
  exact ⟨_, rfl, _, _, _, [], _, [], hW', (trodAll_cons_mk (shut_bool Try.underlying4 _) trodAll_mk0), (trodAll_cons_mk (Below.trod laidOut (by kernel_rfl) (of_decide_eq_true (by kernel_rfl)) k0 hg lt0) (trodAll_cons_mk (Below.trod laidOut (by kernel_rfl) (of_decide_eq_true (by kernel_rfl)) k1 hg lt1) (trodAll_cons_mk (Below.trod laidOut (by kernel_rfl) (of_decide_eq_true (by kernel_rfl)) k2 hg lt2) trodAll_mk0))), rfl, hg.frame _, fun h => by cases h⟩

theorem over : Rows.confMeetsRow.holds Try.pinned (OpenSpec.ofChange Rows.confMeetsSpec) :=
  OpenClaim.holds_of_wide 4 Try.f4 rfl rfl rfl rfl rfl rfl rfl ⟨rfl, rfl, rfl, rfl, rfl⟩ rfl rfl rfl rfl rfl (by kernel_rfl) Try.func4 (by kernel_rfl)
    (of_decide_eq_true (by kernel_rfl)) (by unfold Func.isWrapper; first | (rw [if_pos (by decide +kernel)]; kernel_rfl) | (rw [if_neg (by decide +kernel)]; exact ⟨rfl, rfl⟩))
    (fun os started H enc _ => lifted os started H enc)

/-- ████ THE STATEMENT ████ -/
theorem proved : Rows.ConfMeetsSaid :=
  over
#print axioms proved
end Go.Proofs.Ytedifbdjcebefaa.confMeets
