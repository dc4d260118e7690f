/- The law 'ProgressFinds' answers true at every input, and leaves its arguments as they were. (The frame was written by the guide's proof-skeleton.mjs; no condition beside the statement's own.) -/
import Derived.Test.YtjjibjamalieiaaRows
import Derived.WalkKit
import Derived.ProofKit
import Derived.OpenShut
import Derived.Test.YtjjibjamalieiaaMemberLives
namespace Go.Proofs.Ytjjibjamalieiaa.progressFinds
open Go.ChangeShapes Go.WideShapes Go.ChangeAt Go.RowKit
set_option linter.unusedVariables false      -- a walk need not use every 'w<i>' (that an integer argument fits its kind)

theorem own : ownKnob Try.prog.godebug = none := by kernel_rfl

/-! ### STEP 1: THE WALK: the Go text returns true. the world has at most new blocks. Part the cases AHEAD of 'go_enter' where a test parts the walk; take each callee by a contract of your own. -/
theorem walk (a0 : Int) (a1 : Int) (w0 : (Lit.int .u64 a0).wf = true) (w1 : (Lit.int .u64 a1).wf = true) (w : World) :
    Calls Try.prog 8 #[.int .u64 a0, .int .u64 a1] w fun e w' => e = .returned (.bool true) ∧ Below w.heap.size w w' := by
  obtain ⟨x0, x1⟩ := Go.bounds_u64 w0
  obtain ⟨y0, y1⟩ := Go.bounds_u64 w1
  obtain ⟨m, hm⟩ : ∃ m : Nat, a0 % 200 = m := ⟨(a0 % 200).toNat, by omega⟩
  obtain ⟨h, hh⟩ : ∃ h : Nat, a1 % 200 = h := ⟨(a1 % 200).toNat, by omega⟩
  have hm2 : m < 200 := by omega
  have hh2 : h < 200 := by omega
  have hmt : a0.tmod 200 = m := by rw [Int.tmod_eq_emod_of_nonneg x0]; exact hm
  have hht : a1.tmod 200 = h := by rw [Int.tmod_eq_emod_of_nonneg y0]; exact hh
  clear x0 x1 y0 y1 w0 w1
  obtain ⟨b, hb⟩ : ∃ b, b = w.heap.size := ⟨_, rfl⟩
  go_enter Try.func8, Try.ntmps8
  go_wp2_with fail
  refine (new_any _ w).mono ?_
  rintro e wn ⟨rfl, P1, hz1, B1⟩
  have e1 : (⟨max (cutF (1 + (m : Int))) 1, 0, 1, false, 0⟩ : Pg) = ⟨(m : Int) + 1, 0, 1, false, 0⟩ := by
    have : max (cutF (1 + (m : Int))) 1 = (m : Int) + 1 := by unfold cutF most; omega
    rw [this]
  rw [e1] at P1
  rw [← hb] at P1 hz1 B1 ⊢
  have HB := Lib.hid hb
  have P1 := Lib.hid P1
  have B1 := Lib.hid B1
  clear hb hz1 e1 hm hh hmt hht
  go_wp2_with fail
  go_loopw [8] (fun iv wx => ∃ (k q : Nat), k + q = m ∧ iv = .int .i64 k ∧ PB wx b ⟨(q : Int) + 1, 0, 1, false, 0⟩ ∧ Below b w wx) (fun iv _ => 200 - (intOf iv).toNat)
  case atStart => exact ⟨0, m, by omega, rfl, P1.out, B1.out⟩
  case round =>
    clear P1 B1
    obtain ⟨k, q, hkq, rfl, hP, hB⟩ := hrel
    have HP := Lib.hid hP
    have HBl := Lib.hid hB
    clear hP hB
    clear P1 B1
    have hle : decide ((k : Int) ≤ 1 + (m : Int)) = true := decide_eq_true (by omega)
    have hw : IntKind.i64.wrap ((q : Int) + 1 - 1) = q := by rw [show (q : Int) + 1 - 1 = q by omega]; exact IntWalk.i64_in _ (by omega)
    have hq2 : q < 200 := by omega
    go_wp2_with fail
    refine (next_any _ rfl b _ HP.out).mono ?_
    rintro e w' ⟨rfl, rfl⟩
    by_cases hqh : q ≤ h
    · have hd : decide ((q : Int) ≤ h) = true := decide_eq_true (by omega)
      have hqq : ((q : Int) != (q : Int)) = false := by simp
      have HK := Lib.hid hkq
      have hd' : decide (q ≤ h) = true := decide_eq_true hqh
      clear hkq hh2 hm2
      have h0 : (decide ((0 : Int) < (q : Int)) = true ∧ decide (0 < q) = true) ∨ (decide ((0 : Int) < (q : Int)) = false ∧ decide (0 < q) = false) := by
        by_cases h0 : 0 < q
        · exact .inl ⟨decide_eq_true (by omega), decide_eq_true h0⟩
        · exact .inr ⟨decide_eq_false (by omega), decide_eq_false h0⟩
      rcases h0 with ⟨h0, h0'⟩ | ⟨h0, h0'⟩
      all_goals
        have hq0 := h0'
        simp only [decide_eq_true_eq, decide_eq_false_iff_not] at hq0
        go_wp2_with fail
        refine (said1_any ⟨(q : Int) + 1, 0, 1, false, 0⟩ rfl q (by omega) (by unfold most; omega) (by show (0 : Int) ≤ q; omega) b _ HP.out).mono ?_
        rintro e w2 ⟨rfl, P2, O2⟩
        have P2 := Lib.hid P2
        have B2 := Lib.hid (O2.2 b w (Nat.le_refl _) HBl.out)
        clear O2
        go_wp2_with (first | (go_at_call 23; refine (mode_any _ rfl b _ P2.out).mono ?_; rintro e w' ⟨rfl, rfl⟩) | (go_at_call 22; refine (match_any _ rfl b _ P2.out).mono ?_; rintro e w' ⟨rfl, rfl⟩) | (go_at_call 20; refine (next_any _ rfl b _ P2.out).mono ?_; rintro e w' ⟨rfl, rfl⟩) | (go_at_call 24; refine (plives_any _).mono ?_; rintro e w3 ⟨rfl, hB3⟩))
        go_ret
        refine ⟨rfl, ?_⟩
        rw [← HB.out]
        exact B2.out.trans (hB3.mono (by have e1 := B2.out.size; have e2 := HB.out; omega))
    · have hd : decide ((q : Int) ≤ h) = false := decide_eq_false (by omega)
      have hd' : decide (q ≤ h) = false := decide_eq_false hqh
      have hq1 : 1 ≤ q := by omega
      have hw2 : IntKind.i64.wrap ((q : Int) - 1) = (q : Int) - 1 := IntWalk.i64_in _ (by omega)
      go_wp2_with fail
      refine (sent1_any ⟨(q : Int) + 1, 0, 1, false, 0⟩ rfl 1 b _ HP.out).mono ?_
      rintro e w2 ⟨rfl, P2, O2⟩
      have P2 := Lib.hid P2
      have B2 := Lib.hid (O2.2 b w (Nat.le_refl _) HBl.out)
      clear O2
      go_wp2_with fail
      refine (refused_any ⟨(q : Int) + 1, 0, 1, true, 0⟩ (.inl rfl) q ((q : Int) - 1) (by omega) (by unfold most; omega) (by omega) (by unfold most; omega) (by show (0 : Int) < q; omega) (Int.le_refl 0) (fun _ => by show (q : Int) = q + 1 - 1; omega) b _ P2.out).mono ?_
      rintro e w3 ⟨rfl, P3, O3⟩
      have e3 : (⟨max (min (q : Int) ((q : Int) - 1 + 1)) (0 + 1), 0, 1, false, 0⟩ : Pg) = ⟨((q - 1 : Nat) : Int) + 1, 0, 1, false, 0⟩ := by
        have : max (min (q : Int) ((q : Int) - 1 + 1)) (0 + 1) = ((q - 1 : Nat) : Int) + 1 := by omega
        rw [this]
      have P3 : PB w3 b ⟨((q - 1 : Nat) : Int) + 1, 0, 1, false, 0⟩ := by rw [← e3]; exact P3
      have P3 := Lib.hid P3
      have B3 := Lib.hid (O3.2 b w (Nat.le_refl _) B2.out)
      clear O3 e3
      go_wp2
      go_roundw
      case rel => exact ⟨k + 1, q - 1, by omega, by go_num, P3.out, B3.out⟩
      case measure => simp [intOf]; omega

/-! ### THE ROW's STEP: WRITTEN OUT: LEAVE IT -/
set_option maxRecDepth 100000 in
theorem lifted (os : Os) (started : os.Started) (H : Type) (enc : TypeId × Value → H) :
    ReturnsInHanded {} Try.checked os 8 .any (Rows.progressFindsSpec.pre6 enc Try.prog Try.f8 Rows.progressFindsRow.domain false) (Rows.progressFindsSpec.post enc Try.prog Try.f8 false true false false) := by
  refine returnsInHanded_of_change (C := Try.checked) own started (by kernel_rfl) Try.func8
    (ChangeSpec.witness6 (enc := enc) (C := Try.checked) false ⟨#[], #[.int .u64 0, .int .u64 0], []⟩ 8 (by kernel_rfl) (by kernel_rfl) (by kernel_rfl) (by kernel_rfl)) ?_
  intro W base args ds gs before hval0 hW hcnd _
  have hval : ∀ (j : Nat) t v, Try.f8.params[j]? = some t → args[j]? = some v → Value.okWide Try.prog W .any base t v := hval0
  have hW' := hW
  obtain ⟨p, q, hA0, hV, rfl, hfz, hnd⟩ := hW
  have hA : DataW.TrodAll enc Try.prog W 0 (fun _ => true) true Try.f8.params.toList args.toList ds p := hA0
  rw [Try.params8] at hA hval
  obtain ⟨v0, vs0, d0, ds0, p0, q0, hargs, rfl, rfl, h0, r0⟩ := trodAll_cons hA
  obtain ⟨v1, vs1, d1, ds1, p1, q1, rfl, rfl, rfl, h1, r1⟩ := trodAll_cons r0
  obtain ⟨rfl, rfl, rfl⟩ := trodAll_nil r1
  obtain rfl : args = #[v0, v1] := by cases args; simp_all
  obtain ⟨rfl, rfl⟩ := trodVars_none hV
  obtain ⟨a0, rfl, rfl, rfl, w0⟩ := open_int Try.underlying36 (hval 0 36 v0 rfl rfl) h0
  obtain ⟨a1, rfl, rfl, rfl, w1⟩ := open_int Try.underlying36 (hval 1 36 v1 rfl rfl) h1
  clear hA0 hval0
  simp only [List.append_nil] at hW'
  refine (walk a0 a1 w0 w1 W).mono fun e W' ⟨he, hg⟩ => ?_
  subst he
  exact ⟨_, rfl, _, _, _, [], _, [], hW', (trodAll_cons_mk (shut_bool Try.underlying4 _) trodAll_mk0), (trodAll_cons_mk (shut_int Try.underlying36 w0) (trodAll_cons_mk (shut_int Try.underlying36 w1) trodAll_mk0)), rfl, hg.frame _, fun h => by cases h⟩

theorem over : Rows.progressFindsRow.holds Try.pinned (OpenSpec.ofChange Rows.progressFindsSpec) :=
  OpenClaim.holds_of_wide 8 Try.f8 rfl rfl rfl rfl rfl rfl rfl ⟨rfl, rfl, rfl, rfl, rfl⟩ rfl rfl rfl rfl rfl (by kernel_rfl) Try.func8 (by kernel_rfl)
    (of_decide_eq_true (by kernel_rfl)) (by unfold Func.isWrapper; first | (rw [if_pos (by decide +kernel)]; kernel_rfl) | (rw [if_neg (by decide +kernel)]; exact ⟨rfl, rfl⟩))
    (fun os started H enc _ => lifted os started H enc)

/-- ████ THE STATEMENT ████ -/
theorem proved : Rows.ProgressFindsSaid :=
  over
#print axioms proved
end Go.Proofs.Ytjjibjamalieiaa.progressFinds
