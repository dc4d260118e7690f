/- The law 'ConfBegins' answers true at every input, and leaves its arguments as they were. (The frame was written by a program, after the kit's own frames; no condition beside the statement's own.) -/
import Derived.Test.YtedifbdjcebefaaRows
import Derived.WalkKit
import Derived.ProofKit
import Derived.OpenShut
import Derived.Deep.RegionHeld3
import Derived.Deep.DeepCutAuto
import Derived.ShutString
import Derived.ChangeOld
import Derived.Below
import Derived.SizedLaws
import Derived.Test.YtedifbdjcebefaaMemPlain
namespace Go.Proofs.Ytedifbdjcebefaa.confBegins
open Go.ChangeShapes Go.WideShapes Go.ChangeAt Go.RowKit Go.Proofs.Ytedifbdjcebefaa
open Go.ChangeMaps (open_string shut_string)
set_option linter.unusedVariables false
set_option linter.unusedSimpArgs false
set_option maxRecDepth 100000

theorem own : ownKnob Try.prog.godebug = none := by kernel_rfl
theorem laidOut : laidOutB Try.prog = true := by kernel_rfl

set_option maxHeartbeats 4000000 in
theorem walk (w : World) (a0 : Int) (w0 : (Lit.int .i64 a0).wf = true) :
    Calls Try.prog 7 #[.int .i64 a0] w fun e w' => e = .returned (.bool true) ∧ Below w.heap.size w w' := by
  have hw0 := wantN_le a0
  obtain ⟨k, hk⟩ : ∃ k, k = wantN a0 := ⟨_, rfl⟩
  have HK := Lib.hid hk
  rw [← hk] at hw0
  have hwc : (a0 < 1 ∧ k = 1) ∨ (9 < a0 ∧ k = 9) ∨ (1 ≤ a0 ∧ a0 ≤ 9 ∧ a0 = k) := by rw [hk]; unfold wantN; split <;> (try split) <;> omega
  have HC := Lib.hid hwc
  have HG := Lib.hid (good_upTo hw0.1 hw0.2)
  have HSU := Lib.hid (srt_upTo hw0.1 hw0.2)
  have hk9 : k ≤ 9 := hw0.2
  clear hk hwc hw0
  go_enter Try.func7, Try.ntmps7
  go_wp2_with fail
  refine (begin_any a0 _).mono ?_
  rintro e w1 ⟨a, n, c, rfl, hr, hb⟩
  rw [← HK.out] at hr
  have hn : n = k := by have h1 := hr.1; rw [upTo_length] at h1; exact h1.symm
  subst hn
  have L1 : Hid (Below w.heap.size w (w1.alloc (.cells #[.slice a n c, nilS] 24))) := hb.alloc hb.size _
  have C1 : Hid (CB (w1.alloc (.cells #[.slice a n c, nilS] 24)) w1.heap.size (.slice a n c) nilS) := CB.new w1 _ _
  have R1 := Lib.hid (hr.keep (Nat.le_refl _) ((Below.refl _ _).alloc (Nat.le_refl _) (.cells #[.slice a n c, nilS] 24)))
  clear hb hr
  go_upto_region 2 with fail
  generalize (w1.alloc (.cells #[.slice a n c, nilS] 24)) = w2 at *
  generalize w1.heap.size = B1 at *
  have f0 := C1.out.c0
  have f1 := C1.out.c1
  rcases HC.out with ⟨h1, rfl⟩ | ⟨h1, rfl⟩ | ⟨h1, h2, rfl⟩
  · go_upto_region 7 with fail
    clear HC
    go_wp2_with fail
    refine (refgood_any a _ c _ none 0 0 [] _ R1.out ⟨rfl, .inl rfl⟩ (by omega) (by omega)).mono ?_
    rintro e w3 ⟨rfl, hb⟩
    rw [HG.out]
    have L2 := Lib.hid (L1.out.trans (hb.mono L1.out.size))
    have C2 := Lib.hid (C1.out.below (Nat.le_refl _) hb)
    have R2 := Lib.hid (R1.out.keep (Nat.le_refl _) hb)
    clear hb C1 R1 f0 f1
    have f0 := C2.out.c0
    have f1 := C2.out.c1
    obtain ⟨q, hq⟩ : ∃ q : Nat, q = 1 := ⟨_, rfl⟩
    go_wp2_with fail
    go_loop [33] (fun iv => ∃ k : Nat, k ≤ 1 ∧ iv = .int .i64 k) (fun iv => 1 - (intOf iv).toNat)
    case atStart => exact ⟨0, Nat.zero_le _, rfl⟩
    case round =>
      clear hq
      obtain ⟨k, hk, rfl⟩ := hrel
      by_cases hlt : k < 1
      · obtain ⟨b2, off, rfl, hc⟩ := R2.out.at hlt
        rw [upTo_getD hlt] at hc
        go_wp2
        go_round
        case rel => exact ⟨k + 1, by omega, by go_num⟩
        case measure => simp [intOf]; omega
      · obtain rfl : 1 = k := by omega
        go_upto_region 15 with fail
        have KS : Hid (∀ W, Below w3.heap.size w3 W → W.cell? ⟨B1, 0, none⟩ = some (.slice a 1 c) ∧ W.cell? ⟨B1, 1, none⟩ = some (.slice none 0 0) ∧ Below w3.heap.size w3 W) := by
          show ∀ W, _
          intro W h
          exact ⟨(C2.out.below (Nat.le_refl _) h).c0, (C2.out.below (Nat.le_refl _) h).c1, h⟩
        clear f0 f1
        go_region_held3 (fun W => W.cell? ⟨B1, 0, none⟩ = some (.slice a 1 c) ∧ W.cell? ⟨B1, 1, none⟩ = some (.slice none 0 0) ∧ Below w3.heap.size w3 W)
          (first | exact KS.out _ (Below.refl _ _) | exact KS.out _ (by assumption) | exact KS.out _ (held_below (by assumption)) | exact KS.out _ (Below.refl _ _).drew)
          (first
            | (go_at_call 21; refine (mem_from w3 a 1 c _ none 0 0 [] _ R2.out ⟨rfl, .inl rfl⟩ (by omega) (by omega) (held_below (by assumption))).mono ?_; rintro e w4 ⟨a4, n4, c4, rfl, hr4, hb4⟩; rw [HSU.out] at hr4; have hn4 := hr4.1; rw [upTo_length] at hn4; subst hn4)
            | (go_at_call 17; refine (ints_any a4 _ c4 _ a 1 c _ _ hr4 (R2.out.keep (Nat.le_refl _) hb4) (by omega) (by omega)).mono ?_; rintro e w5 ⟨rfl, hb5⟩; rw [show decide (upTo 1 = upTo 1) = true by simp]; have hb6 := hb4.trans (hb5.mono hb4.size))
            | (go_at_call 9; refine (lives_from w3 _ (held_below (by assumption))).mono ?_; rintro e w6 ⟨rfl, hb7⟩))
        all_goals (
          have HH := Lib.hid hb7
          clear hb7 hb6 hb5 hb4 hr4
          rename_i hHeld
          clear hHeld
          go_wp2_with fail
          go_ret
          exact ⟨rfl, L2.out.trans (HH.out.mono L2.out.size)⟩)
  · go_upto_region 7 with fail
    clear HC
    go_wp2_with fail
    refine (refgood_any a _ c _ none 0 0 [] _ R1.out ⟨rfl, .inl rfl⟩ (by omega) (by omega)).mono ?_
    rintro e w3 ⟨rfl, hb⟩
    rw [HG.out]
    have L2 := Lib.hid (L1.out.trans (hb.mono L1.out.size))
    have C2 := Lib.hid (C1.out.below (Nat.le_refl _) hb)
    have R2 := Lib.hid (R1.out.keep (Nat.le_refl _) hb)
    clear hb C1 R1 f0 f1
    have f0 := C2.out.c0
    have f1 := C2.out.c1
    obtain ⟨q, hq⟩ : ∃ q : Nat, q = 9 := ⟨_, rfl⟩
    go_wp2_with fail
    go_loop [33] (fun iv => ∃ k : Nat, k ≤ 9 ∧ iv = .int .i64 k) (fun iv => 9 - (intOf iv).toNat)
    case atStart => exact ⟨0, Nat.zero_le _, rfl⟩
    case round =>
      clear hq
      obtain ⟨k, hk, rfl⟩ := hrel
      by_cases hlt : k < 9
      · obtain ⟨b2, off, rfl, hc⟩ := R2.out.at hlt
        rw [upTo_getD hlt] at hc
        go_wp2
        go_round
        case rel => exact ⟨k + 1, by omega, by go_num⟩
        case measure => simp [intOf]; omega
      · obtain rfl : 9 = k := by omega
        go_upto_region 15 with fail
        have KS : Hid (∀ W, Below w3.heap.size w3 W → W.cell? ⟨B1, 0, none⟩ = some (.slice a 9 c) ∧ W.cell? ⟨B1, 1, none⟩ = some (.slice none 0 0) ∧ Below w3.heap.size w3 W) := by
          show ∀ W, _
          intro W h
          exact ⟨(C2.out.below (Nat.le_refl _) h).c0, (C2.out.below (Nat.le_refl _) h).c1, h⟩
        clear f0 f1
        go_region_held3 (fun W => W.cell? ⟨B1, 0, none⟩ = some (.slice a 9 c) ∧ W.cell? ⟨B1, 1, none⟩ = some (.slice none 0 0) ∧ Below w3.heap.size w3 W)
          (first | exact KS.out _ (Below.refl _ _) | exact KS.out _ (by assumption) | exact KS.out _ (held_below (by assumption)) | exact KS.out _ (Below.refl _ _).drew)
          (first
            | (go_at_call 21; refine (mem_from w3 a 9 c _ none 0 0 [] _ R2.out ⟨rfl, .inl rfl⟩ (by omega) (by omega) (held_below (by assumption))).mono ?_; rintro e w4 ⟨a4, n4, c4, rfl, hr4, hb4⟩; rw [HSU.out] at hr4; have hn4 := hr4.1; rw [upTo_length] at hn4; subst hn4)
            | (go_at_call 17; refine (ints_any a4 _ c4 _ a 9 c _ _ hr4 (R2.out.keep (Nat.le_refl _) hb4) (by omega) (by omega)).mono ?_; rintro e w5 ⟨rfl, hb5⟩; rw [show decide (upTo 9 = upTo 9) = true by simp]; have hb6 := hb4.trans (hb5.mono hb4.size))
            | (go_at_call 9; refine (lives_from w3 _ (held_below (by assumption))).mono ?_; rintro e w6 ⟨rfl, hb7⟩))
        all_goals (
          have HH := Lib.hid hb7
          clear hb7 hb6 hb5 hb4 hr4
          rename_i hHeld
          clear hHeld
          go_wp2_with fail
          go_ret
          exact ⟨rfl, L2.out.trans (HH.out.mono L2.out.size)⟩)
  · go_upto_region 7 with fail
    clear HC
    go_wp2_with fail
    refine (refgood_any a _ c _ none 0 0 [] _ R1.out ⟨rfl, .inl rfl⟩ (by omega) (by omega)).mono ?_
    rintro e w3 ⟨rfl, hb⟩
    rw [HG.out]
    have L2 := Lib.hid (L1.out.trans (hb.mono L1.out.size))
    have C2 := Lib.hid (C1.out.below (Nat.le_refl _) hb)
    have R2 := Lib.hid (R1.out.keep (Nat.le_refl _) hb)
    clear hb C1 R1 f0 f1
    have f0 := C2.out.c0
    have f1 := C2.out.c1
    obtain ⟨q, hq⟩ : ∃ q : Nat, q = n := ⟨_, rfl⟩
    go_wp2_with fail
    go_loop [33] (fun iv => ∃ k : Nat, k ≤ n ∧ iv = .int .i64 k) (fun iv => n - (intOf iv).toNat)
    case atStart => exact ⟨0, Nat.zero_le _, rfl⟩
    case round =>
      clear hq
      obtain ⟨k, hk, rfl⟩ := hrel
      by_cases hlt : k < n
      · obtain ⟨b2, off, rfl, hc⟩ := R2.out.at hlt
        rw [upTo_getD hlt] at hc
        go_wp2
        go_round
        case rel => exact ⟨k + 1, by omega, by go_num⟩
        case measure => simp [intOf]; omega
      · obtain rfl : n = k := by omega
        go_upto_region 15 with fail
        have KS : Hid (∀ W, Below w3.heap.size w3 W → W.cell? ⟨B1, 0, none⟩ = some (.slice a n c) ∧ W.cell? ⟨B1, 1, none⟩ = some (.slice none 0 0) ∧ Below w3.heap.size w3 W) := by
          show ∀ W, _
          intro W h
          exact ⟨(C2.out.below (Nat.le_refl _) h).c0, (C2.out.below (Nat.le_refl _) h).c1, h⟩
        clear f0 f1
        go_region_held3 (fun W => W.cell? ⟨B1, 0, none⟩ = some (.slice a n c) ∧ W.cell? ⟨B1, 1, none⟩ = some (.slice none 0 0) ∧ Below w3.heap.size w3 W)
          (first | exact KS.out _ (Below.refl _ _) | exact KS.out _ (by assumption) | exact KS.out _ (held_below (by assumption)) | exact KS.out _ (Below.refl _ _).drew)
          (first
            | (go_at_call 21; refine (mem_from w3 a n c _ none 0 0 [] _ R2.out ⟨rfl, .inl rfl⟩ (by omega) (by omega) (held_below (by assumption))).mono ?_; rintro e w4 ⟨a4, n4, c4, rfl, hr4, hb4⟩; rw [HSU.out] at hr4; have hn4 := hr4.1; rw [upTo_length] at hn4; subst hn4)
            | (go_at_call 17; refine (ints_any a4 _ c4 _ a n c _ _ hr4 (R2.out.keep (Nat.le_refl _) hb4) (by omega) (by omega)).mono ?_; rintro e w5 ⟨rfl, hb5⟩; rw [show decide (upTo n = upTo n) = true by simp]; have hb6 := hb4.trans (hb5.mono hb4.size))
            | (go_at_call 9; refine (lives_from w3 _ (held_below (by assumption))).mono ?_; rintro e w6 ⟨rfl, hb7⟩))
        all_goals (
          have HH := Lib.hid hb7
          clear hb7 hb6 hb5 hb4 hr4
          rename_i hHeld
          clear hHeld
          go_wp2_with fail
          go_ret
          exact ⟨rfl, L2.out.trans (HH.out.mono L2.out.size)⟩)

theorem lifted (os : Os) (started : os.Started) (H : Type) (enc : TypeId × Value → H) :
    ReturnsInHanded {} Try.checked os 7 .any (Rows.confBeginsSpec.pre6 enc Try.prog Try.f7 Rows.confBeginsRow.domain false) (Rows.confBeginsSpec.post enc Try.prog Try.f7 false true false false) := by
  refine returnsInHanded_of_change (C := Try.checked) own started (by kernel_rfl) Try.func7
    (ChangeSpec.witness6 (enc := enc) (C := Try.checked) false ⟨#[], #[.int .i64 0], []⟩ 8 (by kernel_rfl) (by kernel_rfl) (by kernel_rfl) (by kernel_rfl)) ?_
  intro W base args ds gs before hval0 hW hcnd _
  have hval : ∀ (j : Nat) t v, Try.f7.params[j]? = some t → args[j]? = some v → Value.okWide Try.prog W .any base t v := hval0
  have hW' := hW
  obtain ⟨p, q, hA0, hV, rfl, hfz, hnd⟩ := hW
  have hA : DataW.TrodAll enc Try.prog W 0 (fun _ => true) true Try.f7.params.toList args.toList ds p := hA0
  rw [Try.params7] at hA hval
  obtain ⟨v0, vs0, d0, ds0, p0, q0, hargs, rfl, rfl, h0, r0⟩ := trodAll_cons hA
  obtain ⟨rfl, rfl, rfl⟩ := trodAll_nil r0
  obtain rfl : args = #[v0] := by cases args; simp_all
  obtain ⟨rfl, rfl⟩ := trodVars_none hV
  obtain ⟨a0, rfl, rfl, rfl, w0⟩ := open_int Try.underlying3 (hval 0 3 v0 rfl rfl) h0
  clear hA0 hval0
  try simp only [List.append_nil] at hW'
  refine (walk W a0 w0).mono fun e W' ⟨he, hg⟩ => ?_
  subst he
  exact ⟨_, rfl, _, _, _, [], _, [], hW', (trodAll_cons_mk (shut_bool Try.underlying4 _) trodAll_mk0), (trodAll_cons_mk (shut_int Try.underlying3 w0) trodAll_mk0), rfl, hg.frame _, fun h => by cases h⟩

theorem over : Rows.confBeginsRow.holds Try.pinned (OpenSpec.ofChange Rows.confBeginsSpec) :=
  OpenClaim.holds_of_wide 7 Try.f7 rfl rfl rfl rfl rfl rfl rfl ⟨rfl, rfl, rfl, rfl, rfl⟩ rfl rfl rfl rfl rfl (by kernel_rfl) Try.func7 (by kernel_rfl)
    (of_decide_eq_true (by kernel_rfl)) (by unfold Func.isWrapper; first | (rw [if_pos (by decide +kernel)]; kernel_rfl) | (rw [if_neg (by decide +kernel)]; exact ⟨rfl, rfl⟩))
    (fun os started H enc _ => lifted os started H enc)

/-- ████ THE STATEMENT ████ -/
theorem proved : Rows.ConfBeginsSaid :=
  over
#print axioms proved
end Go.Proofs.Ytedifbdjcebefaa.confBegins
