/- The law 'QueueFull' answers true at every input, and leaves its arguments as they were. (The frame was written by a program, after the kit's own frames; no condition beside the statement's own.) -/
import Derived.Test.YtbjhpifllgoffaaRows
import Derived.WalkKit
import Derived.ProofKit
import Derived.OpenShut
import Derived.Deep.RegionHeld3
import Derived.Deep.DeepCutAuto
import Derived.ShutString
import Derived.ChangeOld
import Derived.Below
import Derived.SizedLaws
import Derived.Test.YtbjhpifllgoffaaLives
namespace Go.Proofs.Ytbjhpifllgoffaa.queueFull
open Go.ChangeShapes Go.WideShapes Go.ChangeAt Go.RowKit Go.Proofs.Ytbjhpifllgoffaa
open Go.ChangeMaps (open_string shut_string)
set_option linter.unusedVariables false
set_option linter.unusedSimpArgs false
set_option maxRecDepth 100000

theorem own : ownKnob Try.prog.godebug = none := by kernel_rfl
theorem laidOut : laidOutB Try.prog = true := by kernel_rfl

set_option maxHeartbeats 4000000 in
theorem walk (w : World) (a0 : Int) (w0 : (Lit.int .u64 a0).wf = true) (a1 : Int) (w1 : (Lit.int .i64 a1).wf = true) :
    Calls Try.prog 5 #[.int .u64 a0, .int .i64 a1] w fun e w' => e = .returned (.bool true) ∧ Below w.heap.size w w' := by
  have hw0 : 0 ≤ a0 := by
    have h9 := w0
    simp [Lit.wf] at h9
    have h8 : IntKind.u64.min = 0 := rfl
    omega
  clear w0 w1
  obtain ⟨n, hn, h1, h2⟩ : ∃ n : Nat, 1 + a0 % 300 = n ∧ 1 ≤ n ∧ n ≤ 300 := ⟨(1 + a0 % 300).toNat, by omega, by omega, by omega⟩
  have HN := Lib.hid hn
  clear hn
  go_enter Try.func5, Try.ntmps5
  go_wp2_with fail
  rw [HN.out]
  generalize a0 % 300 = a2 at *
  refine (qnew_at n w h1 (by omega)).mono ?_
  rintro e w1 ⟨rfl, hQ, hB, hz⟩
  have HQ := Lib.hid hQ
  have HB := Lib.hid hB
  obtain ⟨s, hs⟩ : ∃ s, s = w.heap.size := ⟨_, rfl⟩
  rw [← hs] at HQ HB ⊢
  have HS := Lib.hid hs
  clear hQ hB hz hs
  obtain ⟨X, hX⟩ : ∃ X : Nat → Int, ∀ i : Nat, X i = bits .xor .i64 a1 i := ⟨_, fun _ => rfl⟩
  have HX := Lib.hid hX
  clear hX
  go_wp2_with fail
  go_loopw [7, 8, 9, 10, 11, 12, 13] (fun tv _ _ _ _ _ _ wr => ∃ t : Nat, t ≤ 2 ∧ tv = .int .i64 t ∧ QS wr (s + 1) s n [] ∧ Below s w wr) (fun tv _ _ _ _ _ _ _ => 2 - (intOf tv).toNat)
  case atStart => exact ⟨0, by omega, rfl, HQ.out, HB.out⟩
  case round =>
    obtain ⟨t, ht, rfl, hQr, hBr⟩ := hrel
    have HQr := Lib.hid hQr
    have HBr := Lib.hid hBr
    clear hQr hBr HQ HB
    by_cases h3 : t < 2
    · have d3 : decide ((t : Int) < 2) = true := decide_eq_true (by omega)
      go_wp2_with fail
      go_loopw [8] (fun iv wq => ∃ k : Nat, k ≤ n ∧ iv = .int .i64 k ∧ QS wq (s + 1) s n ((List.range k).map X) ∧ Below s w wq) (fun iv _ => n - (intOf iv).toNat)
      case atStart => exact ⟨0, by omega, rfl, HQr.out, HBr.out⟩
      case round =>
        obtain ⟨k, hk, rfl, hQ1, hB1⟩ := hrel
        have HQ1 := Lib.hid hQ1
        have HB1 := Lib.hid hB1
        clear hQ1 hB1
        by_cases h4 : k < n
        · go_wp2_with fail
          rw [← HX.out]
          refine (push_at _ _ _ _ _ _ HQ1.out (by simpa using h4)).mono ?_
          rintro e w2 ⟨rfl, hQ2, hK2⟩
          have HQ2 : Hid (QS w2 (s + 1) s n ((List.range (k + 1)).map X)) := by
            show QS _ _ _ _ _
            rw [List.range_succ, List.map_append]; exact hQ2
          have HB2 : Hid (Below s w w2) := HB1.out.trans (hK2.below (by have := HQ1.out.lt; omega) (fun j _ e => by omega))
          clear hQ2 hK2
          go_wp2_with fail
          go_roundw
          case rel => exact ⟨k + 1, by omega, by go_num, HQ2.out, HB2.out⟩
          case measure => simp [intOf]; omega
        · obtain rfl : k = n := by omega
          go_wp2_with fail
          refine (push_no _ _ _ _ _ _ HQ1.out (by simp)).mono ?_
          rintro e w2 ⟨rfl, rfl⟩
          go_wp2_with fail
          refine (qlen_at _ _ _ _ _ HQ1.out).mono ?_
          rintro e w2 ⟨rfl, rfl⟩
          rw [List.length_map, List.length_range]
          go_wp2_with fail
          go_loopw [9, 10, 11] (fun iv _ _ wq => ∃ j : Nat, j ≤ k ∧ iv = .int .i64 j ∧ QS wq (s + 1) s k (((List.range k).map X).drop j) ∧ Below s w wq) (fun iv _ _ _ => k - (intOf iv).toNat)
          case atStart => exact ⟨0, by omega, rfl, HQ1.out, HB1.out⟩
          case round =>
            obtain ⟨j, hj, rfl, hQ1, hB1⟩ := hrel
            have HQ3 := Lib.hid hQ1
            have HB3 := Lib.hid hB1
            clear hQ1 hB1
            by_cases h5 : j < k
            · have hd : ((List.range k).map X).drop j = X j :: ((List.range k).map X).drop (j + 1) := by
                rw [List.drop_eq_getElem_cons (by simpa using h5)]; simp
              rw [hd] at HQ3
              clear hd
              go_wp2_with fail
              refine (pop_at _ _ _ _ _ _ HQ3.out).mono ?_
              rintro e w2 ⟨rfl, hQ2, hK2⟩
              have HQ2 := Lib.hid hQ2
              have HB2 : Hid (Below s w w2) := HB3.out.trans (hK2.below (by have := HQ3.out.lt; omega) (fun j _ e => by omega))
              clear hQ2 hK2
              have h7 := HX.out j
              generalize X j = y at *
              subst h7
              go_wp2_with fail
              go_roundw
              case rel => exact ⟨j + 1, by omega, by go_num, HQ2.out, HB2.out⟩
              case measure => simp [intOf]; omega
            · obtain rfl : j = k := by omega
              have hd : ((List.range j).map X).drop j = [] := List.drop_eq_nil_of_le (by simp)
              rw [hd] at HQ3
              clear hd
              go_wp2_with fail
              refine (pop_no _ _ _ _ HQ3.out).mono ?_
              rintro e w2 ⟨rfl, rfl⟩
              go_wp2_with fail
              refine (qlen_at _ _ _ _ _ HQ3.out).mono ?_
              rintro e w2 ⟨rfl, rfl⟩
              rw [List.length_nil]
              go_wp2_with fail
              go_roundw
              case rel => exact ⟨t + 1, by omega, by go_num, HQ3.out, HB3.out⟩
              case measure => simp [intOf]; omega
    · have d3 : decide ((t : Int) < 2) = false := decide_eq_false (by omega)
      go_wp2_with fail
      refine (lives_any _).mono ?_
      rintro e w2 ⟨rfl, hB⟩
      have HL : Hid (Below s w w2) := HBr.out.trans (hB.mono (by have := HQr.out.lt; omega))
      clear hB
      go_wp2_with fail
      go_ret
      exact ⟨rfl, by rw [← HS.out]; exact HL.out⟩

theorem lifted (os : Os) (started : os.Started) (H : Type) (enc : TypeId × Value → H) :
    ReturnsInHanded {} Try.checked os 5 .any (Rows.queueFullSpec.pre6 enc Try.prog Try.f5 Rows.queueFullRow.domain false) (Rows.queueFullSpec.post enc Try.prog Try.f5 false true false false) := by
  refine returnsInHanded_of_change (C := Try.checked) own started (by kernel_rfl) Try.func5
    (ChangeSpec.witness6 (enc := enc) (C := Try.checked) false ⟨#[], #[.int .u64 0, .int .i64 0], []⟩ 8 (by kernel_rfl) (by kernel_rfl) (by kernel_rfl) (by kernel_rfl)) ?_
  intro W base args ds gs before hval0 hW hcnd _
  have hval : ∀ (j : Nat) t v, Try.f5.params[j]? = some t → args[j]? = some v → Value.okWide Try.prog W .any base t v := hval0
  have hW' := hW
  obtain ⟨p, q, hA0, hV, rfl, hfz, hnd⟩ := hW
  have hA : DataW.TrodAll enc Try.prog W 0 (fun _ => true) true Try.f5.params.toList args.toList ds p := hA0
  rw [Try.params5] at hA hval
  obtain ⟨v0, vs0, d0, ds0, p0, q0, hargs, rfl, rfl, h0, r0⟩ := trodAll_cons hA
  obtain ⟨v1, vs1, d1, ds1, p1, q1, rfl, rfl, rfl, h1, r1⟩ := trodAll_cons r0
  obtain ⟨rfl, rfl, rfl⟩ := trodAll_nil r1
  obtain rfl : args = #[v0, v1] := by cases args; simp_all
  obtain ⟨rfl, rfl⟩ := trodVars_none hV
  obtain ⟨a0, rfl, rfl, rfl, w0⟩ := open_int Try.underlying36 (hval 0 36 v0 rfl rfl) h0
  obtain ⟨a1, rfl, rfl, rfl, w1⟩ := open_int Try.underlying3 (hval 1 3 v1 rfl rfl) h1
  clear hA0 hval0
  try simp only [List.append_nil] at hW'
  refine (walk W a0 w0 a1 w1).mono fun e W' ⟨he, hg⟩ => ?_
  subst he
  exact ⟨_, rfl, _, _, _, [], _, [], hW', (trodAll_cons_mk (shut_bool Try.underlying4 _) trodAll_mk0), (trodAll_cons_mk (shut_int Try.underlying36 w0) (trodAll_cons_mk (shut_int Try.underlying3 w1) trodAll_mk0)), rfl, hg.frame _, fun h => by cases h⟩

theorem over : Rows.queueFullRow.holds Try.pinned (OpenSpec.ofChange Rows.queueFullSpec) :=
  OpenClaim.holds_of_wide 5 Try.f5 rfl rfl rfl rfl rfl rfl rfl ⟨rfl, rfl, rfl, rfl, rfl⟩ rfl rfl rfl rfl rfl (by kernel_rfl) Try.func5 (by kernel_rfl)
    (of_decide_eq_true (by kernel_rfl)) (by unfold Func.isWrapper; first | (rw [if_pos (by decide +kernel)]; kernel_rfl) | (rw [if_neg (by decide +kernel)]; exact ⟨rfl, rfl⟩))
    (fun os started H enc _ => lifted os started H enc)

/-- ████ THE STATEMENT ████ -/
theorem proved : Rows.QueueFullSaid :=
  over
#print axioms proved
end Go.Proofs.Ytbjhpifllgoffaa.queueFull
