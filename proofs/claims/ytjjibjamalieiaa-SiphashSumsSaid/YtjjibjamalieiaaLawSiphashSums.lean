/- The law 'SiphashSums' answers true at every input, and leaves its arguments as they were. (The frame was written by a program, after the kit's own frames; no condition beside the statement's own.) -/
import Derived.Test.YtjjibjamalieiaaRows
import Derived.WalkKit
import Derived.ProofKit
import Derived.OpenShut
import Derived.Deep.RegionHeld3
import Derived.Test.YtjjibjamalieiaaLives
import Derived.Test.YtjjibjamalieiaaRefSum2
import Derived.Test.YtjjibjamalieiaaOpen
namespace Go.Proofs.Ytjjibjamalieiaa.siphashSums
open Go.ChangeShapes Go.WideShapes Go.ChangeAt Go.RowKit Go.ChangeMaps Go.Proofs.Ytjjibjamalieiaa
set_option linter.unusedVariables false
set_option linter.unusedSimpArgs false
set_option maxRecDepth 100000

theorem own : ownKnob Try.prog.godebug = none := by kernel_rfl

set_option maxHeartbeats 4000000 in
theorem walk (a0 b0 : BitVec 64) (s1 : ByteArray) (hs1 : s1.size ≤ maxLen) (w : World) :
    Calls Try.prog 3 #[.agg #[.int .u64 (U a0), .int .u64 (U b0)], .string s1] w fun e w' => e = .returned (.bool true) ∧ Below w.heap.size w w' := by
  have HS0 := Lib.hid hs1
  by_cases hbig : 100000 < s1.size
  · have hd : decide ((100000 : Int) < s1.size) = true := decide_eq_true (by omega)
    clear hs1
    go_enter Try.func3, Try.ntmps3
    go_wp2_with (go_at_call 11; refine (lives_any _).mono ?_; rintro e w' ⟨rfl, hB⟩)
    go_ret
    exact ⟨rfl, ((Below.refl _ w).alloc (Nat.le_refl _) _).trans (hB.mono (by simp))⟩
  · have hd : decide ((100000 : Int) < s1.size) = false := decide_eq_false (by omega)
    clear hs1 hbig
    go_enter Try.func3, Try.ntmps3
    go_upto_region 3 with fail
    have c0 : (w.alloc (.cells #[.int .u64 (U a0), .int .u64 (U b0)] 24)).cell? ⟨w.heap.size, 0, none⟩ = some (.int .u64 (U a0)) := by simp [World.cell?_alloc_new]
    have c1 : (w.alloc (.cells #[.int .u64 (U a0), .int .u64 (U b0)] 24)).cell? ⟨w.heap.size, 1, none⟩ = some (.int .u64 (U b0)) := by simp [World.cell?_alloc_new]
    have B0 : Below w.heap.size w (w.alloc (.cells #[.int .u64 (U a0), .int .u64 (U b0)] 24)) := (Below.refl _ w).alloc (Nat.le_refl _) _
    revert c0 c1 B0
    generalize w.alloc (.cells #[.int .u64 (U a0), .int .u64 (U b0)] 24) = w1
    intro c0 c1 B0
    go_region_held3 (fun W => W.cell? ⟨w.heap.size, 0, none⟩ = some (.int .u64 (U a0)) ∧ W.cell? ⟨w.heap.size, 1, none⟩ = some (.int .u64 (U b0)) ∧ Below w.heap.size w W)
      (first | exact ⟨c0, c1, B0⟩ | exact ⟨c0, c1, B0.drew⟩ | exact keep_two (by assumption) (by assumption))
      (first
        | (go_at_call 12; refine (sum_any a0 b0 s1 HS0.out _).mono ?_; rintro e w' ⟨rfl, hB⟩)
        | (go_at_call 13; refine (refsum_any a0 b0 s1 HS0.out _).mono ?_; rintro e w' ⟨rfl, hB⟩)
        | (go_at_call 11; refine (lives_any _).mono ?_; rintro e w' ⟨rfl, hB⟩))
    all_goals (rename_i hHeld; have HH := Lib.hid hHeld; clear hHeld; go_wp2; go_ret; exact ⟨rfl, HH.out.2.2⟩)

theorem lifted (os : Os) (started : os.Started) (H : Type) (enc : TypeId × Value → H) :
    ReturnsInHanded {} Try.checked os 3 .any (Rows.siphashSumsSpec.pre6 enc Try.prog Try.f3 Rows.siphashSumsRow.domain false) (Rows.siphashSumsSpec.post enc Try.prog Try.f3 false true false false) := by
  refine returnsInHanded_of_change (C := Try.checked) own started (by kernel_rfl) Try.func3
    (ChangeSpec.witness6 (enc := enc) (C := Try.checked) false ⟨#[], #[.agg #[.int .u64 0, .int .u64 0], .string ⟨#[]⟩], []⟩ 8 (by kernel_rfl) (by kernel_rfl) (by kernel_rfl) (by kernel_rfl)) ?_
  intro W base args ds gs before hval0 hW hcnd _
  have hval : ∀ (j : Nat) t v, Try.f3.params[j]? = some t → args[j]? = some v → Value.okWide Try.prog W .any base t v := hval0
  have hW' := hW
  obtain ⟨p, q, hA0, hV, rfl, hfz, hnd⟩ := hW
  have hA : DataW.TrodAll enc Try.prog W 0 (fun _ => true) true Try.f3.params.toList args.toList ds p := hA0
  rw [Try.params3] at hA hval
  obtain ⟨v0, vs0, d0, ds0, p0, q0, hargs, rfl, rfl, h0, r0⟩ := trodAll_cons hA
  obtain ⟨v1, vs1, d1, ds1, p1, q1, rfl, rfl, rfl, h1, r1⟩ := trodAll_cons r0
  obtain ⟨rfl, rfl, rfl⟩ := trodAll_nil r1
  obtain rfl : args = #[v0, v1] := by cases args; simp_all
  obtain ⟨rfl, rfl⟩ := trodVars_none hV
  obtain ⟨a0, b0, rfl, rfl, rfl⟩ := open_key (hval 0 24 v0 rfl rfl) h0
  obtain ⟨s1, rfl, rfl, rfl, hs1⟩ := open_string Try.underlying9 (hval 1 9 v1 rfl rfl) h1
  clear hA0 hval0
  simp only [List.append_nil] at hW'
  refine (walk a0 b0 s1 hs1 W).mono fun e W' ⟨he, hg⟩ => ?_
  subst he
  exact ⟨_, rfl, _, _, _, [], _, [], hW', (trodAll_cons_mk (shut_bool Try.underlying4 _) trodAll_mk0), (trodAll_cons_mk (shut_key a0 b0) (trodAll_cons_mk (shut_string Try.underlying9 hs1) trodAll_mk0)), rfl, hg.frame _, fun h => by cases h⟩

theorem over : Rows.siphashSumsRow.holds Try.pinned (OpenSpec.ofChange Rows.siphashSumsSpec) :=
  OpenClaim.holds_of_wide 3 Try.f3 rfl rfl rfl rfl rfl rfl rfl ⟨rfl, rfl, rfl, rfl, rfl⟩ rfl rfl rfl rfl rfl (by kernel_rfl) Try.func3 (by kernel_rfl)
    (of_decide_eq_true (by kernel_rfl)) (by unfold Func.isWrapper; first | (rw [if_pos (by decide +kernel)]; kernel_rfl) | (rw [if_neg (by decide +kernel)]; exact ⟨rfl, rfl⟩))
    (fun os started H enc _ => lifted os started H enc)

/-- ████ THE STATEMENT ████ -/
theorem proved : Rows.SiphashSumsSaid :=
  over
#print axioms proved
end Go.Proofs.Ytjjibjamalieiaa.siphashSums
