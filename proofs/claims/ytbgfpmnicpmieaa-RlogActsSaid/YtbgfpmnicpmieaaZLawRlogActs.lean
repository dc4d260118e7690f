/- The law RlogActs, joined to the texts it stands on. -/
import Derived.Test.YtbgfpmnicpmieaaRows
import Derived.WalkKit
import Derived.ProofKit
import Derived.OpenShut
import Derived.Deep.RegionHeld3
import Derived.Deep.DeepCutAuto
import Derived.ShutString
import Derived.ChangeOld
import Derived.Below
import Derived.SizedLaws
import Derived.Test.YtbgfpmnicpmieaaZAct
/- The law 'RlogActs' answers true at every input, and leaves its arguments as they were. (The frame was written by a program, after the kit's own frames; no condition beside the statement's own.) -/
namespace Go.Proofs.Ytbgfpmnicpmieaa.rlogActs
open Go.ChangeShapes Go.WideShapes Go.ChangeAt Go.RowKit Go.Proofs.Ytbgfpmnicpmieaa
open Go.ChangeMaps (open_string shut_string)
set_option linter.unusedVariables false
set_option linter.unusedSimpArgs false
set_option maxRecDepth 100000

theorem own : ownKnob Try.prog.godebug = none := by kernel_rfl
theorem laidOut : laidOutB Try.prog = true := by kernel_rfl

set_option maxHeartbeats 4000000 in
theorem walk (w : World) (a0 g0 : Int) (s0 : Option Addr) (n0 c0 : Nat) (es0 : List Ent) (er0 : ER w s0 n0 es0) (ek0 : EKs w es0) (en0 : n0 * 168 ≤ 140737488355328 ∧ n0 ≤ c0) (s1 : Option Addr) (n1 c1 : Nat) (xs1 : List Ac) (ar1 : AR w s1 n1 xs1) (ak1 : AKs w xs1) (an1 : n1 ≤ 281474976710656) :
    Calls Try.prog 7 #[.agg #[.int .i64 a0, .int .i64 g0, .slice s0 n0 c0], .slice s1 n1 c1] w fun e w' => e = .returned (.bool true) ∧ Below w.heap.size w w' := by
  have HN := Lib.hid en0
  have E0 := Lib.hid er0
  have F0 := Lib.hid ek0
  have X0 := Lib.hid ar1
  have Y0 := Lib.hid ak1
  have L0 : Hid (Below w.heap.size w (w.alloc (.cells #[.int .i64 a0, .int .i64 g0, .slice s0 n0 c0] 24))) := (Below.refl _ w).alloc (Nat.le_refl _) _
  clear er0 ek0 en0 ar1 ak1
  go_enter Try.func7, Try.ntmps7
  go_wp2_with fail
  refine (heavy_any s0 n0 c0 es0 _ (E0.out.keep (Nat.le_refl _) L0.out) (F0.out.keep (Nat.le_refl _) L0.out) (by have := HN.out.1; omega)).mono ?_
  rintro e w2 ⟨r, rfl, hr, hb⟩
  have y0 : w2.cell? ⟨w.heap.size, 0, none⟩ = some (.int .i64 a0) := kept_low (p := ⟨w.heap.size, 0, none⟩) hb (Nat.le_refl _) (by simp)
  have y1 : w2.cell? ⟨w.heap.size, 1, none⟩ = some (.int .i64 g0) := kept_low (p := ⟨w.heap.size, 1, none⟩) hb (Nat.le_refl _) (by simp)
  have y2 : w2.cell? ⟨w.heap.size, 2, none⟩ = some (.slice s0 n0 c0) := kept_low (p := ⟨w.heap.size, 2, none⟩) hb (Nat.le_refl _) (by simp)
  have L2 := Lib.hid (L0.out.trans (hb.mono L0.out.size))
  clear hb L0
  cases r
  rotate_left
  · clear hr
    go_wp2_with fail
    refine (lives_any _).mono ?_
    rintro e wl ⟨rfl, hb⟩
    have LL := Lib.hid (L2.out.trans (hb.mono L2.out.size))
    clear hb
    go_wp2_with fail
    go_ret
    exact ⟨rfl, LL.out⟩
  have HR := Lib.hid (hr rfl)
  clear hr
  by_cases c1 : 200 < n1
  · have d1 : decide ((200 : Int) < (n1 : Int)) = true := decide_eq_true (by omega)
    have d1' : decide (200 < n1) = true := decide_eq_true c1
    go_wp2_with fail
    refine (lives_any _).mono ?_
    rintro e wl ⟨rfl, hb⟩
    have LL := Lib.hid (L2.out.trans (hb.mono L2.out.size))
    clear hb
    go_wp2_with fail
    go_ret
    exact ⟨rfl, LL.out⟩
  have d1 : decide ((200 : Int) < (n1 : Int)) = false := decide_eq_false (by omega)
  have d1' : decide (200 < n1) = false := decide_eq_false c1
  go_wp2_with fail
  clear d1 d1'
  have Z0 := Lib.hid y0
  have Z1 := Lib.hid y1
  have Z2 := Lib.hid y2
  clear y0 y1 y2
  go_loopw [5, 23] (fun nv iv wr => ∃ (k cnt : Nat), k ≤ n1 ∧ iv = .int .i64 k ∧ nv = .int .i64 cnt ∧ cnt = sumA xs1 k ∧ cnt ≤ 200 * k ∧ LightA xs1 k ∧ Below w2.heap.size w2 wr) (fun _ iv _ => n1 - (intOf iv).toNat)
  case atStart => exact ⟨0, 0, Nat.zero_le _, rfl, rfl, rfl, by omega, fun j hj => absurd hj (Nat.not_lt_zero _), Below.refl _ _⟩
  case round =>
    obtain ⟨k, cnt, hk, rfl, rfl, hsum, hcnt, hla, hB⟩ := hrel
    have HSU := Lib.hid hsum
    have HLA := Lib.hid hla
    have LB2 := Lib.hid hB
    have LP := Lib.hid (L2.out.trans (hB.mono L2.out.size))
    have X1 := X0.out.keep (Nat.le_refl _) LP.out
    have y0 := kept_low hB (Nat.le_refl _) Z0.out
    have y1 := kept_low hB (Nat.le_refl _) Z1.out
    have y2 := kept_low hB (Nat.le_refl _) Z2.out
    clear hsum hla hB
    by_cases hlt : k < n1
    · rcases X1.2 with hz | ⟨bb, off, rfl, hrow⟩
      · omega
      have q0 := hrow k hlt 0 (by omega)
      have q1 := hrow k hlt 1 (by omega)
      have q2 := hrow k hlt 2 (by omega)
      have q3 := hrow k hlt 3 (by omega)
      have hxm : xs1.getD k default ∈ xs1 := by rw [List.getD_eq_getElem?_getD, List.getElem?_eq_getElem (by have := X1.1; omega)]; simp
      have AKx := Lib.hid (Y0.out _ hxm)
      obtain ⟨x, hx⟩ : ∃ x, x = xs1.getD k default := ⟨_, rfl⟩
      have HXX := Lib.hid hx
      rw [← hx] at q0 q1 q2 q3 AKx
      clear hrow X1 hxm hx y0 y1 y2
      obtain ⟨xk, xn, xm, xa, xl, xc, xes⟩ := x
      simp only [List.getD_cons_zero, List.getD_cons_succ] at q0 q1 q2 q3
      rw [Nat.add_zero] at q0
      have hxl := AKx.out.fit.1
      have hxl2 := AKx.out.fit.2
      have hxe : xes.length = xl := AKx.out.er.1
      dsimp only at hxl hxl2
      have LA : Hid (Below w.heap.size w (wr.alloc (.cells #[.int .i64 xk, .int .i64 xn, .int .i64 xm, .slice xa xl xc] 48))) := LP.out.alloc LP.out.size _
      have LA2 : Hid (Below w2.heap.size w2 (wr.alloc (.cells #[.int .i64 xk, .int .i64 xn, .int .i64 xm, .slice xa xl xc] 48))) := LB2.out.alloc LB2.out.size _
      clear LP LB2
      go_wp2_with fail
      refine (heavy_any xa xl xc xes _ (AKx.out.er.keep (Nat.le_refl _) LA.out) (AKx.out.ek.keep (Nat.le_refl _) LA.out) (by omega)).mono ?_
      rintro e w3 ⟨r, rfl, hr, hb⟩
      have z3 : w3.cell? ⟨wr.heap.size, 3, none⟩ = some (.slice xa xl xc) := kept_low (p := ⟨wr.heap.size, 3, none⟩) hb (Nat.le_refl _) (by simp)
      have L3 := Lib.hid (LA.out.trans (hb.mono LA.out.size))
      have L4 := Lib.hid (LA2.out.trans (hb.mono LA2.out.size))
      clear hb q0 q1 q2 q3 LA LA2
      cases r
      rotate_left
      · clear hr
        go_wp2_with fail
        refine (lives_any _).mono ?_
        rintro e wl ⟨rfl, hb⟩
        have LL := Lib.hid (L3.out.trans (hb.mono L3.out.size))
        clear hb
        go_wp2_with fail
        go_ret
        exact ⟨rfl, LL.out⟩
      have hX := hr rfl
      have HX := Lib.hid hX
      have hxx : xl ≤ 200 := by rw [← hxe]; exact hX.1
      clear hr hX
      go_wp2_with fail
      go_roundw
      case rel => exact ⟨k + 1, cnt + xl, by omega, by go_num, by (congr 1), by rw [sumA, ← HSU.out, ← HXX.out], by omega, HLA.out.more (by rw [← HXX.out]; exact HX.out), L4.out⟩
      case measure => simp [intOf]; omega
    have hkn : k = n1 := by omega
    subst hkn
    have hm0 := LP.out.size
    have A0 := Lib.hid (E0.out.keep (Nat.le_refl _) LP.out)
    have B0 := Lib.hid (F0.out.keep (Nat.le_refl _) LP.out)
    clear X1 hlt
    go_upto_region 11 with fail
    have KS : Hid (∀ W, Below wr.heap.size wr W → W.cell? ⟨w.heap.size, 0, none⟩ = some (.int .i64 a0) ∧ W.cell? ⟨w.heap.size, 1, none⟩ = some (.int .i64 g0) ∧ W.cell? ⟨w.heap.size, 2, none⟩ = some (.slice s0 n0 c0) ∧ Below wr.heap.size wr W) := by
      show ∀ W, _
      intro W h
      exact ⟨kept_low h (Nat.le_refl _) y0, kept_low h (Nat.le_refl _) y1, kept_low h (Nat.le_refl _) y2, h⟩
    clear y0 y1 y2
    go_cut [8, 9] (fun p q wx => ∃ p1 p2, p = .pointer p1 ∧ q = .pointer p2 ∧ XB w wx es0 p1 p2)
    case first =>
      go_region_held3 (fun W => W.cell? ⟨w.heap.size, 0, none⟩ = some (.int .i64 a0) ∧ W.cell? ⟨w.heap.size, 1, none⟩ = some (.int .i64 g0) ∧ W.cell? ⟨w.heap.size, 2, none⟩ = some (.slice s0 n0 c0) ∧ Below wr.heap.size wr W)
        (first | exact KS.out _ (Below.refl _ _) | exact KS.out _ (by assumption) | exact KS.out _ (held_3 (by assumption)) | exact KS.out _ (Below.refl _ _).drew)
        (first
          | (go_at_call 11; (with_reducible refine (new_from wr a0 g0 s0 n0 c0 es0 _ A0.out B0.out HN.out.1 (held_3 (by assumption))).mono ?_); rintro e w' ⟨p1, rfl, hq1, hb1, hB1, hs1⟩)
          | (go_at_call 23; (with_reducible refine (refnew_from wr a0 g0 s0 n0 c0 es0 _ A0.out B0.out HN.out.1 hB1).mono ?_); rintro e w' ⟨p2, rfl, hq2, hb2, hB2, hs2⟩))
      all_goals (
        have HXY := Lib.hid (xb_of hq1 hs1 hq2 hb2 hB2 LP.out HR.out.1 F0.out HR.out.2)
        clear hq1 hs1 hb1 hq2 hb2 hB2 hB1 hs2
        rename_i hHeld
        clear hHeld
        go_wp2_with fail
        go_meet
        exact ⟨p1, p2, rfl, rfl, HXY.out⟩)
    case rest =>
      obtain ⟨p1, p2, rfl, rfl, hB, hX⟩ := hcut
      have LX := Lib.hid hB
      clear hB A0 B0 KS LP LB2
      rcases hX with ⟨rfl, rfl⟩ | ⟨b, rb, l0, r0, rfl, rfl, hS⟩
      · go_wp2_with fail
        refine (lives_any _).mono ?_
        rintro e wl ⟨rfl, hb⟩
        have LL := Lib.hid (LX.out.trans (hb.mono LX.out.size))
        clear hb
        go_wp2_with fail
        go_ret
        exact ⟨rfl, LL.out⟩
      have S0 := Lib.hid hS
      clear hS
      by_cases c3 : 300 < cnt
      · have d3 : decide ((300 : Int) < (cnt : Int)) = true := decide_eq_true (by omega)
        have d3' : decide (300 < cnt) = true := decide_eq_true c3
        go_wp2_with fail
        refine (lives_any _).mono ?_
        rintro e wl ⟨rfl, hb⟩
        have LL := Lib.hid (LX.out.trans (hb.mono LX.out.size))
        clear hb
        go_wp2_with fail
        go_ret
        exact ⟨rfl, LL.out⟩
      have d3 : decide ((300 : Int) < (cnt : Int)) = false := decide_eq_false (by omega)
      have d3' : decide (300 < cnt) = false := decide_eq_false c3
      go_wp2_with fail
      clear d3 d3'
      have HCN : Hid (sumA xs1 k ≤ 300) := by rw [← HSU.out]; show cnt ≤ 300; omega
      go_loopw [65] (fun iv wr => ∃ (j : Nat) (l r : Lg) (es : List Ent), j ≤ k ∧ iv = .int .i64 j ∧ AS w wr b rb l r es (sumA xs1 j)) (fun iv _ => k - (intOf iv).toNat)
      case atStart => exact ⟨0, l0, r0, es0, Nat.zero_le _, rfl, S0.out⟩
      case round =>
        obtain ⟨j, l, r, es, hj, rfl, hS⟩ := hrel
        have S3 := Lib.hid hS
        have X1 := X0.out.keep (Nat.le_refl _) hS.low
        clear S0 hS
        by_cases hlt : j < k
        rotate_left
        · have LF := Lib.hid S3.out.low
          go_wp2_with fail
          refine (lives_any _).mono ?_
          rintro e wl ⟨rfl, hb⟩
          have LL := Lib.hid (LF.out.trans (hb.mono LF.out.size))
          clear hb
          go_wp2_with fail
          go_ret
          exact ⟨rfl, LL.out⟩
        rcases X1.2 with hz | ⟨bb, off, rfl, hrow⟩
        · omega
        have q0 := hrow j hlt 0 (by omega)
        have q1 := hrow j hlt 1 (by omega)
        have q2 := hrow j hlt 2 (by omega)
        have q3 := hrow j hlt 3 (by omega)
        have hxm : xs1.getD j default ∈ xs1 := by rw [List.getD_eq_getElem?_getD, List.getElem?_eq_getElem (by have := X1.1; omega)]; simp
        have AKx := Lib.hid (Y0.out _ hxm)
        have HLX := HLA.out j hlt
        have HSX : sumA xs1 j + (xs1.getD j default).len ≤ 300 := Nat.le_trans (sumA_mono xs1 (j := j + 1) (k := k) hlt) HCN.out
        have HSE : sumA xs1 (j + 1) = sumA xs1 j + (xs1.getD j default).len := rfl
        generalize xs1.getD j default = x at *
        have HLY := Lib.hid HLX
        have HSY := Lib.hid HSX
        have HSZ := Lib.hid HSE
        clear hrow X1 hxm HLX HSX HSE
        obtain ⟨xk, xn, xm, xa, xl, xc, xes⟩ := x
        simp only [List.getD_cons_zero, List.getD_cons_succ] at q0 q1 q2 q3
        rw [Nat.add_zero] at q0
        have LA := Lib.hid ((Below.refl wr.heap.size wr).alloc (Nat.le_refl _) (.cells #[.int .i64 xk, .int .i64 xn, .int .i64 xm, .slice xa xl xc] 48))
        have SA := Lib.hid (S3.out.below (Nat.le_refl _) LA.out)
        clear S3 LA
        go_wp2_with fail
        refine (actA_any w _ b rb l r es (sumA xs1 j) ⟨xk, xn, xm, xa, xl, xc, xes⟩ SA.out AKx.out (kn_of AKx.out.ek HLY.out.2 SA.out.low) HSY.out).mono ?_
        rintro e w8 ⟨rfl, l8, r8, es8, hA⟩
        have S8 := Lib.hid hA
        clear hA SA q0 q1 q2 q3
        go_wp2_with fail
        refine (alike_any w _ b rb l8 r8 es8 _ S8.out).mono ?_
        rintro e w9 ⟨rfl, hA⟩
        have S9 : Hid (AS w w9 b rb l8 r8 es8 (sumA xs1 (j + 1))) := by rw [HSZ.out]; exact hA
        clear hA S8
        go_wp2_with fail
        go_roundw
        case rel => exact ⟨j + 1, l8, r8, es8, by omega, by go_num, S9.out⟩
        case measure => simp [intOf]; omega

theorem lifted (os : Os) (started : os.Started) (H : Type) (enc : TypeId × Value → H) :
    ReturnsInHanded {} Try.checked os 7 .any (Rows.rlogActsSpec.pre6 enc Try.prog Try.f7 Rows.rlogActsRow.domain false) (Rows.rlogActsSpec.post enc Try.prog Try.f7 false true false false) := by
  refine returnsInHanded_of_change_sized (C := Try.checked) own started (by kernel_rfl) Try.func7
    (ChangeSpec.witness6 (enc := enc) (C := Try.checked) false ⟨#[], #[.agg #[.int .i64 0, .int .i64 0, .slice none 0 0], .slice none 0 0], []⟩ 8 (by kernel_rfl) (by kernel_rfl) (by kernel_rfl) (by kernel_rfl)) ?_
  intro W base args ds gs before hval0 hW hcnd hsz0 _
  have hsz : (DataW.weightsEach Try.prog (Try.f7.params.toList ++ Rows.rlogActsSpec.plain.varTypes Try.prog) (ds ++ gs)).all (· ≤ reachBytes) = true := hsz0
  clear hsz0
  have hval : ∀ (j : Nat) t v, Try.f7.params[j]? = some t → args[j]? = some v → Value.okWide Try.prog W .any base t v := hval0
  have hW' := hW
  obtain ⟨p, q, hA0, hV, rfl, hfz, hnd⟩ := hW
  have hA : DataW.TrodAll enc Try.prog W 0 (fun _ => true) true Try.f7.params.toList args.toList ds p := hA0
  rw [Try.params7] at hA hval hsz
  obtain ⟨v0, vs0, d0, ds0, p0, q0, hargs, rfl, rfl, h0, r0⟩ := trodAll_cons hA
  obtain ⟨v1, vs1, d1, ds1, p1, q1, rfl, rfl, rfl, h1, r1⟩ := trodAll_cons r0
  obtain ⟨rfl, rfl, rfl⟩ := trodAll_nil r1
  obtain rfl : args = #[v0, v1] := by cases args; simp_all
  obtain ⟨rfl, rfl⟩ := trodVars_none hV
  have hfit := fun q hq => of_decide_eq_true (List.all_eq_true.1 hsz q hq)
  clear hsz
  have k0 := h0
  have lt0 : ∀ x ∈ p0, x.block < W.heap.size := by obtain ⟨m, hm⟩ := k0; exact DataW.trod_lt m _ _ _ hm
  obtain ⟨F0, hfit⟩ := fit_cons hfit
  obtain ⟨a0, g0, s0, n0, c0, es0, rfl, er0, ek0, en0⟩ := open_begin (hval 0 24 v0 rfl rfl) h0 F0
  have k1 := h1
  have lt1 : ∀ x ∈ p1, x.block < W.heap.size := by obtain ⟨m, hm⟩ := k1; exact DataW.trod_lt m _ _ _ hm
  obtain ⟨F1, hfit⟩ := fit_cons hfit
  obtain ⟨s1, n1, c1, xs1, rfl, ar1, ak1, an1⟩ := open_acts (hval 1 46 v1 rfl rfl) h1 F1
  clear hA0 hval0
  try simp only [List.append_nil] at hW'
  refine (walk W a0 g0 s0 n0 c0 es0 er0 ek0 en0 s1 n1 c1 xs1 ar1 ak1 an1).mono fun e W' ⟨he, hg⟩ => ?_
  subst he
  exact ⟨_, rfl, _, _, _, [], _, [], hW', (trodAll_cons_mk (shut_bool Try.underlying4 _) trodAll_mk0), (trodAll_cons_mk (Below.trod laidOut (by kernel_rfl) (of_decide_eq_true (by kernel_rfl)) k0 hg lt0) (trodAll_cons_mk (Below.trod laidOut (by kernel_rfl) (of_decide_eq_true (by kernel_rfl)) k1 hg lt1) trodAll_mk0)), rfl, hg.frame _, fun h => by cases h⟩

theorem over : Rows.rlogActsRow.holds Try.pinned (OpenSpec.ofChange Rows.rlogActsSpec) :=
  OpenClaim.holds_of_wide 7 Try.f7 rfl rfl rfl rfl rfl rfl rfl ⟨rfl, rfl, rfl, rfl, rfl⟩ rfl rfl rfl rfl rfl (by kernel_rfl) Try.func7 (by kernel_rfl)
    (of_decide_eq_true (by kernel_rfl)) (by unfold Func.isWrapper; first | (rw [if_pos (by decide +kernel)]; kernel_rfl) | (rw [if_neg (by decide +kernel)]; exact ⟨rfl, rfl⟩))
    (fun os started H enc _ => lifted os started H enc)

/-- ████ THE STATEMENT ████ -/
theorem proved : Rows.RlogActsSaid :=
  over
#print axioms proved
end Go.Proofs.Ytbgfpmnicpmieaa.rlogActs
