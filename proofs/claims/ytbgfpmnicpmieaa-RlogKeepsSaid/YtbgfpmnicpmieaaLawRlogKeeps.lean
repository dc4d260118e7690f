/- The law 'RlogKeeps' answers true at every input, and leaves its arguments as they were. (The frame was written by a program, after the kit's own frames; no condition beside the statement's own.) -/
import Derived.Test.YtbgfpmnicpmieaaRows
import Derived.WalkKit
import Derived.ProofKit
import Derived.OpenShut
import Derived.Deep.RegionHeld3
import Derived.Deep.DeepCutAuto
import Derived.ShutString
import Derived.ChangeOld
import Derived.Below
import Derived.SizedLaws
import Derived.Test.YtbgfpmnicpmieaaEKs
namespace Go.Proofs.Ytbgfpmnicpmieaa.rlogKeeps
open Go.ChangeShapes Go.WideShapes Go.ChangeAt Go.RowKit Go.Proofs.Ytbgfpmnicpmieaa
open Go.ChangeMaps (open_string shut_string)
set_option linter.unusedVariables false
set_option linter.unusedSimpArgs false
set_option maxRecDepth 100000

theorem own : ownKnob Try.prog.godebug = none := by kernel_rfl
theorem laidOut : laidOutB Try.prog = true := by kernel_rfl

set_option maxHeartbeats 4000000 in
theorem walk (w : World) (a0 g0 : Int) (s0 : Option Addr) (n0 c0 : Nat) (es0 : List Ent) (er0 : ER w s0 n0 es0) (ek0 : EKs w es0) (en0 : n0 * 168 ≤ 140737488355328 ∧ n0 ≤ c0) (s1 : Option Addr) (n1 c1 : Nat) (xs1 : List Ac) (ar1 : AR w s1 n1 xs1) (ak1 : AKs w xs1) (an1 : n1 ≤ 281474976710656) :
    Calls Try.prog 6 #[.agg #[.int .i64 a0, .int .i64 g0, .slice s0 n0 c0], .slice s1 n1 c1] w fun e w' => e = .returned (.bool true) ∧ Below w.heap.size w w' := by
  have HN := Lib.hid en0
  have E0 := Lib.hid er0
  have F0 := Lib.hid ek0
  have X0 := Lib.hid ar1
  have Y0 := Lib.hid ak1
  have L0 : Hid (Below w.heap.size w (w.alloc (.cells #[.int .i64 a0, .int .i64 g0, .slice s0 n0 c0] 24))) := (Below.refl _ w).alloc (Nat.le_refl _) _
  clear er0 ek0 en0 ar1 ak1
  go_enter Try.func6, Try.ntmps6
  go_wp2_with fail
  refine (new_any a0 g0 s0 n0 c0 es0 _ (E0.out.keep (Nat.le_refl _) L0.out) (F0.out.keep (Nat.le_refl _) L0.out) HN.out.1).mono ?_
  rintro e w1 (⟨hn, rfl, hb⟩ | ⟨hn, b, a', c', rfl, hB, hO, hbw, hb⟩)
  · have HNW := Lib.hid hn
    have z0 : w1.cell? ⟨w.heap.size, 0, none⟩ = some (.int .i64 a0) := kept_low (p := ⟨w.heap.size, 0, none⟩) hb (Nat.le_refl _) (by simp)
    have z1 : w1.cell? ⟨w.heap.size, 1, none⟩ = some (.int .i64 g0) := kept_low (p := ⟨w.heap.size, 1, none⟩) hb (Nat.le_refl _) (by simp)
    have z2 : w1.cell? ⟨w.heap.size, 2, none⟩ = some (.slice s0 n0 c0) := kept_low (p := ⟨w.heap.size, 2, none⟩) hb (Nat.le_refl _) (by simp)
    have L1 := Lib.hid (L0.out.trans (hb.mono L0.out.size))
    clear hb hn
    go_wp2_with fail
    refine (refnew_any a0 g0 s0 n0 c0 es0 _ (E0.out.keep (Nat.le_refl _) L1.out) (F0.out.keep (Nat.le_refl _) L1.out) HN.out.1).mono ?_
    rintro e w2 (⟨hn, rfl, hb⟩ | ⟨hn, _⟩)
    · have LP := Lib.hid (L1.out.trans (hb.mono L1.out.size))
      clear hb hn z0 z1 z2
      go_wp2_with fail
      refine (lives_any _).mono ?_
      rintro e wl ⟨rfl, hb⟩
      have LL := Lib.hid (LP.out.trans (hb.mono LP.out.size))
      clear hb
      go_wp2_with fail
      go_ret
      exact ⟨rfl, LL.out⟩
    · rw [HNW.out] at hn; cases hn
  have HNW := Lib.hid hn
  have G1 : Hid (LG w1 w.heap.size b ⟨a0, g0, a', n0, c', a0, a0, a0 + n0, true⟩ es0) := ⟨hB, own_mono hO L0.out.size, Nat.le_trans L0.out.size hbw⟩
  have z0 : w1.cell? ⟨w.heap.size, 0, none⟩ = some (.int .i64 a0) := kept_low (p := ⟨w.heap.size, 0, none⟩) hb (Nat.le_refl _) (by simp)
  have z1 : w1.cell? ⟨w.heap.size, 1, none⟩ = some (.int .i64 g0) := kept_low (p := ⟨w.heap.size, 1, none⟩) hb (Nat.le_refl _) (by simp)
  have z2 : w1.cell? ⟨w.heap.size, 2, none⟩ = some (.slice s0 n0 c0) := kept_low (p := ⟨w.heap.size, 2, none⟩) hb (Nat.le_refl _) (by simp)
  have L1 := Lib.hid (L0.out.trans (hb.mono L0.out.size))
  clear hb hn hB hO hbw
  go_wp2_with fail
  refine (heavy_any s0 n0 c0 es0 _ (E0.out.keep (Nat.le_refl _) L1.out) (F0.out.keep (Nat.le_refl _) L1.out) (by have := HN.out.1; omega)).mono ?_
  rintro e w2 ⟨r, rfl, hr, hb⟩
  have y0 : w2.cell? ⟨w.heap.size, 0, none⟩ = some (.int .i64 a0) := kept_low (p := ⟨w.heap.size, 0, none⟩) hb (Nat.le_refl _) z0
  have y1 : w2.cell? ⟨w.heap.size, 1, none⟩ = some (.int .i64 g0) := kept_low (p := ⟨w.heap.size, 1, none⟩) hb (Nat.le_refl _) z1
  have y2 : w2.cell? ⟨w.heap.size, 2, none⟩ = some (.slice s0 n0 c0) := kept_low (p := ⟨w.heap.size, 2, none⟩) hb (Nat.le_refl _) z2
  have L2 := Lib.hid (L1.out.trans (hb.mono L1.out.size))
  have G2 := Lib.hid (G1.out.below (Nat.le_refl _) hb)
  clear hb G1 L1 z0 z1 z2
  cases r
  rotate_left
  · clear hr
    go_wp2_with fail
    refine (refnew_any a0 g0 s0 n0 c0 es0 _ (E0.out.keep (Nat.le_refl _) L2.out) (F0.out.keep (Nat.le_refl _) L2.out) HN.out.1).mono ?_
    rintro e w3 (⟨hn, _⟩ | ⟨hn, rb, ra, rc, rfl, _, hb⟩)
    · rw [HNW.out] at hn; cases hn
    · have LP := Lib.hid (L2.out.trans (hb.mono L2.out.size))
      clear hb hn y0 y1 y2
      go_wp2_with fail
      refine (lives_any _).mono ?_
      rintro e wl ⟨rfl, hb⟩
      have LL := Lib.hid (LP.out.trans (hb.mono LP.out.size))
      clear hb
      go_wp2_with fail
      go_ret
      exact ⟨rfl, LL.out⟩
  have HR := Lib.hid (hr rfl)
  clear hr
  by_cases c1 : 200 < n1
  · have d1 : decide ((200 : Int) < (n1 : Int)) = true := decide_eq_true (by omega)
    have d1' : decide (200 < n1) = true := decide_eq_true c1
    go_wp2_with fail
    refine (refnew_any a0 g0 s0 n0 c0 es0 _ (E0.out.keep (Nat.le_refl _) L2.out) (F0.out.keep (Nat.le_refl _) L2.out) HN.out.1).mono ?_
    rintro e w3 (⟨hn, _⟩ | ⟨hn, rb, ra, rc, rfl, _, hb⟩)
    · rw [HNW.out] at hn; cases hn
    · have LP := Lib.hid (L2.out.trans (hb.mono L2.out.size))
      clear hb hn y0 y1 y2
      go_wp2_with fail
      refine (lives_any _).mono ?_
      rintro e wl ⟨rfl, hb⟩
      have LL := Lib.hid (LP.out.trans (hb.mono LP.out.size))
      clear hb
      go_wp2_with fail
      go_ret
      exact ⟨rfl, LL.out⟩
  have d1 : decide ((200 : Int) < (n1 : Int)) = false := decide_eq_false (by omega)
  have d1' : decide (200 < n1) = false := decide_eq_false c1
  have S2 := Lib.hid (ks_new G2.out HNW.out HR.out.1 F0.out HR.out.2 L2.out)
  clear G2 y0 y1 y2
  go_wp2_with fail
  clear d1 d1'
  generalize w2.alloc (.cells #[.int .i64 0, .int .i64 0, .slice none 0 0, .int .i64 0, .int .i64 0, .int .i64 0] 57) = wA at *
  generalize w2.heap.size = rb at *
  go_loopw [7, 59] (fun nv iv wr => ∃ (k cnt : Nat) (l : Lg) (es : List Ent), k ≤ n1 ∧ iv = .int .i64 k ∧ nv = .int .i64 cnt ∧ cnt ≤ 300 ∧ KS w wr b rb l es cnt) (fun _ iv _ => n1 - (intOf iv).toNat)
  case atStart => exact ⟨0, 0, _, _, Nat.zero_le _, rfl, rfl, by omega, S2.out⟩
  case round =>
    obtain ⟨k, cnt, l, es, hk, rfl, rfl, hcnt, hS⟩ := hrel
    obtain ⟨wo, hwo⟩ : ∃ wo, wo = wr := ⟨_, rfl⟩
    subst hwo
    have LP := Lib.hid hS.low
    have S3 := Lib.hid hS
    have X1 := X0.out.keep (Nat.le_refl _) hS.low
    clear S2 hS
    by_cases hlt : k < n1
    rotate_left
    · go_wp2_with fail
      refine (lives_any _).mono ?_
      rintro e wl ⟨rfl, hb⟩
      have LL := Lib.hid (LP.out.trans (hb.mono LP.out.size))
      clear hb
      go_wp2_with fail
      go_ret
      exact ⟨rfl, LL.out⟩
    rcases X1.2 with hz | ⟨bb, off, rfl, hrow⟩
    · omega
    have q0 := hrow k hlt 0 (by omega)
    have q1 := hrow k hlt 1 (by omega)
    have q2 := hrow k hlt 2 (by omega)
    have q3 := hrow k hlt 3 (by omega)
    have hxm : xs1.getD k default ∈ xs1 := by rw [List.getD_eq_getElem?_getD, List.getElem?_eq_getElem (by have := X1.1; omega)]; simp
    have AKx := Lib.hid (Y0.out _ hxm)
    clear hrow X1 hxm
    generalize xs1.getD k default = x at *
    obtain ⟨xk, xn, xm, xa, xl, xc, xes⟩ := x
    simp only [List.getD_cons_zero, List.getD_cons_succ] at q0 q1 q2 q3
    rw [Nat.add_zero] at q0
    have hxl := AKx.out.fit.1
    have hxl2 := AKx.out.fit.2
    dsimp only at hxl hxl2
    have LA : Below wo.heap.size wo (wo.alloc (.cells #[.int .i64 xk, .int .i64 xn, .int .i64 xm, .slice xa xl xc] 48)) := (Below.refl _ wo).alloc (Nat.le_refl _) _
    have SA := Lib.hid (S3.out.below (Nat.le_refl _) LA)
    clear LA S3 LP
    go_wp2_with fail
    refine (heavy_any xa xl xc xes _ (AKx.out.er.keep (Nat.le_refl _) SA.out.low) (AKx.out.ek.keep (Nat.le_refl _) SA.out.low) (by omega)).mono ?_
    rintro e w3 ⟨r, rfl, hr, hb⟩
    have z0 : w3.cell? ⟨wo.heap.size, 0, none⟩ = some (.int .i64 xk) := kept_low (p := ⟨wo.heap.size, 0, none⟩) hb (Nat.le_refl _) (by simp)
    have z1 : w3.cell? ⟨wo.heap.size, 1, none⟩ = some (.int .i64 xn) := kept_low (p := ⟨wo.heap.size, 1, none⟩) hb (Nat.le_refl _) (by simp)
    have z2 : w3.cell? ⟨wo.heap.size, 2, none⟩ = some (.int .i64 xm) := kept_low (p := ⟨wo.heap.size, 2, none⟩) hb (Nat.le_refl _) (by simp)
    have z3 : w3.cell? ⟨wo.heap.size, 3, none⟩ = some (.slice xa xl xc) := kept_low (p := ⟨wo.heap.size, 3, none⟩) hb (Nat.le_refl _) (by simp)
    have S3 := Lib.hid (SA.out.below (Nat.le_refl _) hb)
    have LP := Lib.hid S3.out.low
    clear hb SA q0 q1 q2 q3
    cases r
    rotate_left
    · clear hr
      go_wp2_with fail
      refine (lives_any _).mono ?_
      rintro e wl ⟨rfl, hb⟩
      have LL := Lib.hid (LP.out.trans (hb.mono LP.out.size))
      clear hb
      go_wp2_with fail
      go_ret
      exact ⟨rfl, LL.out⟩
    have HX := Lib.hid (hr rfl)
    clear hr
    by_cases c3 : 300 < cnt + xl
    · have d3 : decide ((300 : Int) < (cnt : Int) + (xl : Int)) = true := decide_eq_true (by omega)
      go_wp2_with fail
      refine (lives_any _).mono ?_
      rintro e wl ⟨rfl, hb⟩
      have LL := Lib.hid (LP.out.trans (hb.mono LP.out.size))
      clear hb
      go_wp2_with fail
      go_ret
      exact ⟨rfl, LL.out⟩
    have d3 : decide ((300 : Int) < (cnt : Int) + (xl : Int)) = false := decide_eq_false (by omega)
    by_cases k6 : xk = 6
    · subst k6
      go_wp2_with fail
      go_roundw
      case rel => exact ⟨k + 1, cnt + xl, l, es, by omega, by go_num, by (congr 1), by omega, S3.out.more (by omega)⟩
      case measure => simp [intOf]; omega
    have d6 : (xk == 6) = false := by simpa using k6
    have HI := Lib.hid S3.out.inv
    have hi1 := HI.out.a1
    have hi2 := HI.out.a2
    have hi3 := HI.out.a3
    have hlo := HI.out.ok.lo
    have hhi := HI.out.ok.hi
    have hsm := HI.out.ok.small
    go_wp2_with fail
    refine (committed_any b l _ S3.out.two.lg.lb HI.out.ok.is).mono ?_
    rintro e w4 ⟨rfl, rfl⟩
    go_wp2_with fail
    refine (base_any b l _ S3.out.two.lg.lb HI.out.ok.is).mono ?_
    rintro e w4 ⟨rfl, hb⟩
    have y0 : w4.cell? ⟨wo.heap.size, 0, none⟩ = some (.int .i64 xk) := kept_low (p := ⟨wo.heap.size, 0, none⟩) hb (Nat.le_refl _) z0
    have y1 : w4.cell? ⟨wo.heap.size, 1, none⟩ = some (.int .i64 xn) := kept_low (p := ⟨wo.heap.size, 1, none⟩) hb (Nat.le_refl _) z1
    have y2 : w4.cell? ⟨wo.heap.size, 2, none⟩ = some (.int .i64 xm) := kept_low (p := ⟨wo.heap.size, 2, none⟩) hb (Nat.le_refl _) z2
    have y3 : w4.cell? ⟨wo.heap.size, 3, none⟩ = some (.slice xa xl xc) := kept_low (p := ⟨wo.heap.size, 3, none⟩) hb (Nat.le_refl _) z3
    have S4 := Lib.hid (S3.out.below (Nat.le_refl _) hb)
    clear hb S3 z0 z1 z2 z3 LP
    have hw1 : IntKind.i64.wrap (l.ix + 1) = l.ix + 1 := IntWalk.i64_in _ (by omega)
    have hw2 : IntKind.i64.wrap (l.com - l.ix) = l.com - l.ix := IntWalk.i64_in _ (by omega)
    go_wp2_with fail
    refine (slice_any w.heap.size b l es (l.ix + 1) (l.com - l.ix) _ S4.out.two.lg HI.out.ok (by omega) (by omega)).mono ?_
    rintro e w5 ⟨ka, kn, kc, rfl, hko, hb⟩
    rw [slc_com HI.out] at hko
    have z0 : w5.cell? ⟨wo.heap.size, 0, none⟩ = some (.int .i64 xk) := kept_low (p := ⟨wo.heap.size, 0, none⟩) hb (Nat.le_refl _) y0
    have z1 : w5.cell? ⟨wo.heap.size, 1, none⟩ = some (.int .i64 xn) := kept_low (p := ⟨wo.heap.size, 1, none⟩) hb (Nat.le_refl _) y1
    have z2 : w5.cell? ⟨wo.heap.size, 2, none⟩ = some (.int .i64 xm) := kept_low (p := ⟨wo.heap.size, 2, none⟩) hb (Nat.le_refl _) y2
    have z3 : w5.cell? ⟨wo.heap.size, 3, none⟩ = some (.slice xa xl xc) := kept_low (p := ⟨wo.heap.size, 3, none⟩) hb (Nat.le_refl _) y3
    have S5 := Lib.hid (S4.out.below (Nat.le_refl _) hb)
    have HKO := Lib.hid hko
    have HKB : Hid (b < w4.heap.size ∧ rb < w4.heap.size ∧ ∀ j, gOf l = some j → j < w4.heap.size) := ⟨S4.out.two.lg.lb.lt, S4.out.two.rg.lb.lt, fun j hj => (S4.out.two.lg.lt hj).2⟩
    have KX := Lib.hid (kn_of AKx.out.ek HX.out.2 S5.out.low)
    have HL4 : Hid (w4.heap.size ≤ w5.heap.size) := hb.size
    clear hb hko S4 y0 y1 y2 y3 hw1 hw2
    go_upto_if 95 with fail
    go_cut [] (fun wx => ∃ l' es' , KS w wx b rb l' es' (cnt + xl) ∧ Loc w5 wx b l l' rb zL zL ∧ Stp l es xes xl l' es')
    case first =>
      by_cases k1 : xk = 1
      · subst k1
        go_wp2_with fail
        refine (matK_any w.heap.size b l es rb zL [] xn xm xa xl xc xes _ S5.out.two HI.out (AKx.out.er.keep (Nat.le_refl _) S5.out.low) KX.out.eks hxl2 (by have := S5.out.n1; omega) (by have := S5.out.n2; omega)).mono ?_
        rintro e w6 ⟨r, s, l', es', rfl, ht, hl, hs⟩
        have D1 := Lib.hid (S5.out.step ht hl hs KX.out rfl)
        have D2 := Lib.hid hl
        have D3 := Lib.hid hs
        clear ht hl hs
        go_wp2_with fail
        go_meet
        exact ⟨l', es', D1.out, D2.out, D3.out⟩
      have dk1 : (xk == 1) = false := by simpa using k1
      by_cases k0 : xk = 0
      rotate_left
      · have dk0 : (xk == 0) = false := by simpa using k0
        have dk0' : (xk != 0) = true := by simpa using k0
        go_wp2_with fail
        refine (actK_any w.heap.size b l es rb ⟨xk, xn, xm, xa, xl, xc, xes⟩ _ S5.out.two HI.out w S5.out.kn AKx.out k0 k1 k6).mono ?_
        rintro e w6 ⟨r, l', es', rfl, ht, hl, hs⟩
        have D1 := Lib.hid ((S5.out.step ht hl hs (KX.out.sub (fun y hy => by cases hy)) rfl).more (d := cnt + xl) (by omega))
        have D2 := Lib.hid hl
        have D3 := Lib.hid (hs.weak (zs := xes) (r := xl) (fun y hy => by cases hy) (by omega))
        clear ht hl hs
        go_wp2_with fail
        go_meet
        exact ⟨l', es', D1.out, D2.out, D3.out⟩
      subst k0
      rw [show ((0 : Int) == 1) = false from rfl]
      go_wp2_with fail
      go_loopw [114] (fun iv wr => ∃ (j : Nat) (l' : Lg) (es' : List Ent), j ≤ xl ∧ iv = .int .i64 j ∧ KS w wr b rb l' es' (cnt + j) ∧ Loc w5 wr b l l' rb zL zL ∧ Stp l es xes j l' es') (fun iv _ => xl - (intOf iv).toNat)
      case atStart => exact ⟨0, l, es, Nat.zero_le _, rfl, S5.out, Loc.same (Below.refl _ _) (Nat.le_refl _) _ _ _ _, Stp.refl HI.out _ _⟩
      case round =>
        obtain ⟨j, l', es', hj, rfl, hS, hL, hT⟩ := hrel
        have S6 := Lib.hid hS
        have L6 := Lib.hid hL
        have T6 := Lib.hid hT
        have R6 := AKx.out.er.keep (Nat.le_refl _) hS.low
        have hxel : xes.length = xl := AKx.out.er.1
        clear hS hL hT
        dsimp only at R6
        by_cases hjl : j < xl
        · obtain ⟨pb, po, rfl, hc⟩ := R6.row hjl
          have hjm : xes.getD j default ∈ xes := getD_mem (by omega)
          have HJM := Lib.hid hjm
          have q0 := hc 0 (by omega)
          have q1 := hc 1 (by omega)
          have q2 := hc 2 (by omega)
          have q3 := hc 3 (by omega)
          have q4 := hc 4 (by omega)
          have q5 := hc 5 (by omega)
          have q6 := hc 6 (by omega)
          have q7 := hc 7 (by omega)
          have q8 := hc 8 (by omega)
          have q9 := hc 9 (by omega)
          have q10 := hc 10 (by omega)
          have q11 := hc 11 (by omega)
          have q12 := hc 12 (by omega)
          clear hc R6 hjm
          generalize xes.getD j default = e at *
          simp only [List.getD_cons_zero, List.getD_cons_succ] at q0 q1 q2 q3 q4 q5 q6 q7 q8 q9 q10 q11 q12
          rw [Nat.add_zero] at q0
          have LE : Below wr.heap.size wr (wr.alloc (.cells e.cs'.toArray 37)) := (Below.refl _ wr).alloc (Nat.le_refl _) _
          have S7 := Lib.hid (S6.out.below (Nat.le_refl _) LE)
          have L7 := Lib.hid (L6.out.trans (Loc.same LE (Nat.le_refl _) b l' rb zL))
          clear LE L6 S6
          go_wp2_with fail
          refine (addK_any w.heap.size b l' es' rb zL [] e _ S7.out.two S7.out.inv ((AKx.out.ek e HJM.out).keep (Nat.le_refl _) S7.out.low) (by have := S7.out.n1; omega) (by have := S7.out.n2; omega)).mono ?_
          rintro e2 w8 ⟨r, l8, es8, rfl, ht, hl, hs⟩
          have D1 := Lib.hid (S7.out.step ht hl hs ((KX.out.sub (fun y hy => by rw [List.mem_singleton] at hy; rw [hy]; exact HJM.out)).below (Below.refl _ _) |> fun q => ⟨q.ek, q.lt, q.hm, S7.out.low⟩) (d := cnt + (j + 1)) (by omega))
          have D2 := Lib.hid (L7.out.trans hl)
          have D3 := Lib.hid (T6.out.trans (hs.weak (zs := xes) (r := 1) (fun y hy => by rw [List.mem_singleton] at hy; rw [hy]; exact HJM.out) (Nat.le_refl _)))
          clear ht hl hs q0 q1 q2 q3 q4 q5 q6 q7 q8 q9 q10 q11 q12 S7 L7
          go_wp2_with fail
          go_roundw
          case rel => exact ⟨j + 1, l8, es8, by omega, by go_num, D1.out, D2.out, D3.out⟩
          case measure => simp [intOf]; omega
        · have hjx : j = xl := by omega
          subst hjx
          clear R6
          go_wp2_with fail
          go_meet
          exact ⟨l', es', S6.out, L6.out, T6.out⟩
    case rest =>
      obtain ⟨l', es', hS, hL, hT⟩ := hcut
      have S6 := Lib.hid hS
      have T6 := Lib.hid hT
      have hkw : wc.ownsRow w4.heap.size 37 13 (.slice ka kn kc) kn (flatE (es.take (l.com - l.ix).toNat)) := own_kept HKO.out hL.kept (fun j hj hs => by
        have h1 := (HKO.out.lt j hj).1
        rcases hs with h2 | h2 | h2 | h2
        · have := HKB.out.1; omega
        · have := HKB.out.2.2 j h2; omega
        · have := HKB.out.2.1; omega
        · cases h2)
      have HKW := Lib.hid hkw
      have HKN := Lib.hid S5.out.kn
      have HEL := Lib.hid S5.out.two.lg.len
      have hkn9 : kn ≤ 1000 := by
        have h1 := own_len hkw
        have h2 := HEL.out
        rw [List.length_take] at h1
        omega
      clear hS hL hT hkw HKO HKB S5 z0 z1 z2 z3 hi1 hi2 hi3 hlo hhi hsm
      have HI2 := Lib.hid S6.out.inv
      have j1 := HI2.out.a1
      have j2 := HI2.out.a2
      have j3 := HI2.out.a3
      have j4 := HI2.out.ok.lo
      have j5 := HI2.out.ok.hi
      have j6 := HI2.out.ok.small
      have j7 := T6.out.com
      have d1 : decide (l'.com < l.com) = false := decide_eq_false (by omega)
      have d2 : decide (l'.com < l'.app) = false := decide_eq_false (by omega)
      have d3 : decide (l'.app < l'.ix) = false := decide_eq_false (by omega)
      go_wp2_with fail
      refine (base_any b l' _ S6.out.two.lg.lb HI2.out.ok.is).mono ?_
      rintro e w6 ⟨rfl, hb⟩
      have S7 := Lib.hid (S6.out.below (Nat.le_refl _) hb)
      have HK7 := Lib.hid (own_below HKW.out (Nat.le_refl _) hb)
      clear hb S6 HKW
      go_wp2_with fail
      refine (committed_any b l' _ S7.out.two.lg.lb HI2.out.ok.is).mono ?_
      rintro e wq ⟨rfl, rfl⟩
      go_wp2_with fail
      refine (applied_any b l' _ S7.out.two.lg.lb HI2.out.ok.is).mono ?_
      rintro e wq ⟨rfl, rfl⟩
      go_wp2_with fail
      refine (committed_any b l' _ S7.out.two.lg.lb HI2.out.ok.is).mono ?_
      rintro e wq ⟨rfl, rfl⟩
      go_wp2_with fail
      refine (applied_any b l' _ S7.out.two.lg.lb HI2.out.ok.is).mono ?_
      rintro e wq ⟨rfl, rfl⟩
      go_wp2_with fail
      clear d1 d2 d3
      go_loopw [146] (fun iv wr => ∃ j : Nat, j ≤ kn ∧ iv = .int .i64 j ∧ Below w6.heap.size w6 wr) (fun iv _ => kn - (intOf iv).toNat)
      case atStart => exact ⟨0, Nat.zero_le _, rfl, Below.refl _ _⟩
      case round =>
        obtain ⟨j, hj, rfl, hB2⟩ := hrel
        have L8 := Lib.hid hB2
        have S8 := Lib.hid (S7.out.below (Nat.le_refl _) hB2)
        have hkl := own_len HK7.out
        rw [List.length_take] at hkl
        have hko := own_below HK7.out (Nat.le_refl _) hB2
        clear hB2
        by_cases hjl : j < kn
        · obtain ⟨_, _, hev, hER, _⟩ := own_er hko
          cases hev
          obtain ⟨pb, po, rfl, hc⟩ := hER.row hjl
          rw [getD_take es (by omega)] at hc
          have hjm : es.getD j default ∈ es := getD_mem (by omega)
          have hei : (es.getD j default).i = l.ix + 1 + j := ent_i HI.out (by omega)
          have hsame := T6.out.same (l.ix + 1 + j)
          rw [show (l.ix + 1 + (j : Int) - l.ix - 1).toNat = j by omega] at hsame
          have HSM := Lib.hid hsame
          have HEK := Lib.hid (HKN.out.ek _ hjm)
          have HLT := Lib.hid (HKN.out.lt _ hjm)
          have hjc : l.ix + 1 + (j : Int) ≤ l.com := by omega
          have q0 := hc 0 (by omega)
          have q1 := hc 1 (by omega)
          have q2 := hc 2 (by omega)
          have q3 := hc 3 (by omega)
          have q4 := hc 4 (by omega)
          have q5 := hc 5 (by omega)
          have q6 := hc 6 (by omega)
          have q7 := hc 7 (by omega)
          have q8 := hc 8 (by omega)
          have q9 := hc 9 (by omega)
          have q10 := hc 10 (by omega)
          have q11 := hc 11 (by omega)
          have q12 := hc 12 (by omega)
          clear hc hER hjm hsame hko
          generalize es.getD j default = e at *
          simp only [List.getD_cons_zero, List.getD_cons_succ] at q0 q1 q2 q3 q4 q5 q6 q7 q8 q9 q10 q11 q12
          rw [Nat.add_zero] at q0
          have HEI := Lib.hid hei
          obtain ⟨ii, hii⟩ : ∃ ii, ii = e.i := ⟨_, rfl⟩
          have LE : Below wr.heap.size wr (wr.alloc (.cells e.cs'.toArray 37)) := (Below.refl _ wr).alloc (Nat.le_refl _) _
          have S9 := Lib.hid (S8.out.below (Nat.le_refl _) LE)
          have HLE := Lib.hid LE
          clear LE hei hii
          go_wp2_with fail
          refine (slice_any w.heap.size b l' es' e.i 1 _ S9.out.two.lg HI2.out.ok (by omega) (by omega)).mono ?_
          rintro e2 w9 ⟨ax, nx, cx, rfl, hxo, hb⟩
          have L9 := Lib.hid (L8.out.trans ((HLE.out.trans (hb.mono HLE.out.size)).mono L8.out.size))
          have LB9 := Lib.hid hb
          have S10 := Lib.hid (S9.out.below (Nat.le_refl _) hb)
          have KB : Hid (∀ W, Below w9.heap.size w9 W → ∀ c, c < 13 → W.cell? ⟨wr.heap.size, 0 + c, none⟩ = some (e.cs'.getD c undef)) := by
            show ∀ W, _
            intro W h c hc
            exact kept_low h (Nat.le_refl _) (kept_low hb (Nat.le_refl _) (box37 wr e c hc))
          have KB0 : Hid (∀ W, Below w9.heap.size w9 W → W.cell? ⟨wr.heap.size, 0, none⟩ = some (.int .i64 e.i)) := by
            show ∀ W, _
            intro W h
            exact KB.out W h 0 (by omega)
          clear hb q0 q1 q2 q3 q4 q5 q6 q7 q8 q9 q10 q11 q12 S9
          go_upto_region 32 with fail
          by_cases hbase : l'.ix < e.i
          · have d1 : decide (l'.ix < e.i) = true := decide_eq_true hbase
            have hone : slcE l' es' e.i 1 = [e] := by
              rw [slc_one HI2.out hbase (by have := HEI.out; omega)]
              have h1 := HSM.out
              rw [← HEI.out] at h1
              rw [h1 hbase (by have := HEI.out; omega)]
            rw [hone] at hxo
            have hnx : nx = 1 := (own_len hxo).symm
            subst hnx
            obtain ⟨_, _, hev, hERx, _⟩ := own_er hxo
            cases hev
            obtain ⟨gx, ox, rfl, hcx⟩ := hERx.row (show 0 < 1 by omega)
            have KX1 : Hid (∀ W, Below w9.heap.size w9 W → ∀ c, c < 13 → W.cell? ⟨gx, ox + c, none⟩ = some (e.cs'.getD c undef)) := by
              show ∀ W, _
              intro W h c hc
              have := hcx c hc
              rw [Nat.zero_mul, Nat.add_zero] at this
              exact kept_low h (Nat.le_refl _) this
            have K20 : Hid (∀ W, Below w9.heap.size w9 W → Calls Try.prog 20 #[e.v, e.v] W fun r w' => r = .returned (.bool true) ∧ Below w9.heap.size w9 w') := by
              show ∀ W, _
              intro W h
              have hek := HEK.out.keep (Nat.le_refl _) (S10.out.low.trans (h.mono S10.out.low.size))
              have := sameE_any e e W hek hek HLT.out HLT.out
              rw [sameE_self] at this
              refine this.mono ?_
              rintro r w' ⟨rfl, hb⟩
              exact ⟨rfl, h.trans (hb.mono h.size)⟩
            have e1 : ((1 : Int) != 1) = false := rfl
            have e0 : (0 : Nat) < 1 := Nat.zero_lt_one
            obtain ⟨C, HC0, HCC, HKB, HKB0, HKX, HK20, hcl⟩ : ∃ C : World → Prop, Hid (C w9.drew) ∧ Hid (∀ W, C W → Below w9.heap.size w9 W) ∧ Hid (∀ W, C W → ∀ c, c < 13 → W.cell? ⟨wr.heap.size, 0 + c, none⟩ = some (e.cs'.getD c undef)) ∧ Hid (∀ W, C W → W.cell? ⟨wr.heap.size, 0, none⟩ = some (.int .i64 e.i)) ∧ Hid (∀ W, C W → ∀ c, c < 13 → W.cell? ⟨gx, ox + c, none⟩ = some (e.cs'.getD c undef)) ∧ Hid (∀ W, C W → Calls Try.prog 20 #[e.v, e.v] W fun r w' => r = .returned (.bool true) ∧ C w') ∧ (∀ q : Prop, (∀ W, C W → q) ↔ q) :=
              ⟨fun W => Below w9.heap.size w9 W, (Below.refl _ _).drew, fun _ h => h, KB.out, KB0.out, KX1.out, K20.out, fun q => ⟨fun h => h _ (Below.refl _ _), fun h _ _ => h⟩⟩
            clear KB KB0 KX1 K20 hxo hERx hcx hone
            refine wp_region_class C (by kernel_rfl) (by kernel_rfl) HC0.out ?_
            repeat (first
              | go_big_quiet_skip
              | (go_big_quiet_want
                 first
                 | (refine quiet_load37 _ wr.heap.size 0 e rfl rfl HKB.out ?_; try simp only [Act.put, List.setIfInBounds_toArray, List.set_cons_zero, List.set_cons_succ]; go_big_quiet_on)
                 | (refine quiet_load37 _ gx ox e rfl rfl HKX.out ?_; try simp only [Act.put, List.setIfInBounds_toArray, List.set_cons_zero, List.set_cons_succ]; go_big_quiet_on)
                 | (refine quiet_load 3 _ ⟨wr.heap.size, 0, none⟩ (.int .i64 e.i) rfl rfl HKB0.out ?_; try simp only [Act.put, List.setIfInBounds_toArray, List.set_cons_zero, List.set_cons_succ]; go_big_quiet_on)
                 | (go_big_quiet_op
                    first
                    | go_big_quiet_on
                    | (apply Exists.intro
                       refine ⟨?_, ?_⟩
                       · exact HK20.out
                       go_big_quiet_on))))
            refine wpQuiet_nil ?_
            intro wz hz
            have HZ := Lib.hid (L9.out.trans ((HCC.out wz hz).mono L9.out.size))
            clear hz HC0 HCC hcl HKB HKB0 HKX HK20 e1 e0
            clear d1
            go_wp2_with fail
            go_roundw
            case rel => exact ⟨j + 1, by omega, by go_num, HZ.out⟩
            case measure => simp [intOf]; omega
          · have d1 : decide (l'.ix < e.i) = false := decide_eq_false hbase
            obtain ⟨C, HC0, HCC, HKB0, hcl⟩ : ∃ C : World → Prop, Hid (C w9.drew) ∧ Hid (∀ W, C W → Below w9.heap.size w9 W) ∧ Hid (∀ W, C W → W.cell? ⟨wr.heap.size, 0, none⟩ = some (.int .i64 e.i)) ∧ (∀ q : Prop, (∀ W, C W → q) ↔ q) :=
              ⟨fun W => Below w9.heap.size w9 W, (Below.refl _ _).drew, fun _ h => h, KB0.out, fun q => ⟨fun h => h _ (Below.refl _ _), fun h _ _ => h⟩⟩
            clear KB KB0 hxo
            refine wp_region_class C (by kernel_rfl) (by kernel_rfl) HC0.out ?_
            repeat (first
              | go_big_quiet_skip
              | (go_big_quiet_want
                 first
                 | (refine quiet_load 3 _ ⟨wr.heap.size, 0, none⟩ (.int .i64 e.i) rfl rfl HKB0.out ?_; try simp only [Act.put, List.setIfInBounds_toArray, List.set_cons_zero, List.set_cons_succ]; go_big_quiet_on)
                 | (go_big_quiet_op
                    go_big_quiet_on)))
            refine wpQuiet_nil ?_
            intro wz hz
            have HZ := Lib.hid (L9.out.trans ((HCC.out wz hz).mono L9.out.size))
            clear hz HC0 HCC hcl HKB0
            clear d1
            go_wp2_with fail
            go_roundw
            case rel => exact ⟨j + 1, by omega, by go_num, HZ.out⟩
            case measure => simp [intOf]; omega
        · clear hko
          obtain ⟨wk, hwk⟩ : ∃ wk, wk = wr := ⟨_, rfl⟩
          subst hwk
          have hw1 : IntKind.i64.wrap (l'.ix + 1) = l'.ix + 1 := IntWalk.i64_in _ (by omega)
          go_wp2_with fail
          refine (slice_any w.heap.size b l' es' (l'.ix + 1) 10000 _ S8.out.two.lg HI2.out.ok (by omega) (by omega)).mono ?_
          rintro e w9 ⟨ax, nx, cx, rfl, hxo, hb⟩
          rw [slc_all HI2.out] at hxo
          have hnx := own_len hxo
          have S9 := Lib.hid (S8.out.below (Nat.le_refl _) hb)
          have HXO := Lib.hid hxo
          have HNX := Lib.hid hnx
          have hnx2 : nx ≤ 1000 := by have := S9.out.two.lg.len; omega
          clear hb hxo hnx
          go_wp2_with fail
          go_loopw [16, 177] (fun tv iv wr => ∃ j : Nat, j ≤ nx ∧ iv = .int .i64 j ∧ tv = .int .i64 (tmAt l'.tm es' j) ∧ Below w9.heap.size w9 wr) (fun _ iv _ => nx - (intOf iv).toNat)
          case atStart => exact ⟨0, Nat.zero_le _, rfl, rfl, Below.refl _ _⟩
          case round =>
            obtain ⟨q, hq, rfl, rfl, hB3⟩ := hrel
            have L10 := Lib.hid hB3
            have hxr := own_below HXO.out (Nat.le_refl _) hB3
            clear hB3
            by_cases hql : q < nx
            · obtain ⟨_, _, hev, hERx, _⟩ := own_er hxr
              cases hev
              obtain ⟨pb, po, rfl, hc⟩ := hERx.row hql
              have hqe : q < es'.length := by have := HNX.out; omega
              have hei := ent_i HI2.out hqe
              have het := ent_t HI2.out hqe
              have HT1 : Hid (tmAt l'.tm es' (q + 1) = (es'.getD q default).t) := rfl
              have q0 := hc 0 (by omega)
              have q1 := hc 1 (by omega)
              have q2 := hc 2 (by omega)
              have q3 := hc 3 (by omega)
              have q4 := hc 4 (by omega)
              have q5 := hc 5 (by omega)
              have q6 := hc 6 (by omega)
              have q7 := hc 7 (by omega)
              have q8 := hc 8 (by omega)
              have q9 := hc 9 (by omega)
              have q10 := hc 10 (by omega)
              have q11 := hc 11 (by omega)
              have q12 := hc 12 (by omega)
              clear hc hERx hxr hqe
              generalize es'.getD q default = e at *
              simp only [List.getD_cons_zero, List.getD_cons_succ] at q0 q1 q2 q3 q4 q5 q6 q7 q8 q9 q10 q11 q12
              rw [Nat.add_zero] at q0
              have d1 : decide (e.t < tmAt l'.tm es' q) = false := decide_eq_false (by omega)
              generalize tmAt l'.tm es' q = tq at *
              rw [hei] at q0
              have hw2 : IntKind.i64.wrap (l'.ix + 1 + (q : Int)) = l'.ix + 1 + q := IntWalk.i64_in _ (by omega)
              have e1 : (l'.ix + 1 + (q : Int) != l'.ix + 1 + (q : Int)) = false := by simp
              have LE : Hid (∀ o, Below w9.heap.size w9 (wr.alloc o)) := by show ∀ o, _; exact fun o => L10.out.alloc L10.out.size _
              clear hei het
              go_wp2_with fail
              go_roundw
              case rel => exact ⟨q + 1, by omega, by go_num, by rw [HT1.out], LE.out _⟩
              case measure => simp [intOf]; omega
            · clear hxr
              go_wp2_with fail
              go_roundw
              case rel => exact ⟨k + 1, cnt + xl, l', es', by omega, by go_num, by (congr 1), by omega, S9.out.below (Nat.le_refl _) L10.out⟩
              case measure => simp [intOf]; omega

theorem lifted (os : Os) (started : os.Started) (H : Type) (enc : TypeId × Value → H) :
    ReturnsInHanded {} Try.checked os 6 .any (Rows.rlogKeepsSpec.pre6 enc Try.prog Try.f6 Rows.rlogKeepsRow.domain false) (Rows.rlogKeepsSpec.post enc Try.prog Try.f6 false true false false) := by
  refine returnsInHanded_of_change_sized (C := Try.checked) own started (by kernel_rfl) Try.func6
    (ChangeSpec.witness6 (enc := enc) (C := Try.checked) false ⟨#[], #[.agg #[.int .i64 0, .int .i64 0, .slice none 0 0], .slice none 0 0], []⟩ 8 (by kernel_rfl) (by kernel_rfl) (by kernel_rfl) (by kernel_rfl)) ?_
  intro W base args ds gs before hval0 hW hcnd hsz0 _
  have hsz : (DataW.weightsEach Try.prog (Try.f6.params.toList ++ Rows.rlogKeepsSpec.plain.varTypes Try.prog) (ds ++ gs)).all (· ≤ reachBytes) = true := hsz0
  clear hsz0
  have hval : ∀ (j : Nat) t v, Try.f6.params[j]? = some t → args[j]? = some v → Value.okWide Try.prog W .any base t v := hval0
  have hW' := hW
  obtain ⟨p, q, hA0, hV, rfl, hfz, hnd⟩ := hW
  have hA : DataW.TrodAll enc Try.prog W 0 (fun _ => true) true Try.f6.params.toList args.toList ds p := hA0
  rw [Try.params6] at hA hval hsz
  obtain ⟨v0, vs0, d0, ds0, p0, q0, hargs, rfl, rfl, h0, r0⟩ := trodAll_cons hA
  obtain ⟨v1, vs1, d1, ds1, p1, q1, rfl, rfl, rfl, h1, r1⟩ := trodAll_cons r0
  obtain ⟨rfl, rfl, rfl⟩ := trodAll_nil r1
  obtain rfl : args = #[v0, v1] := by cases args; simp_all
  obtain ⟨rfl, rfl⟩ := trodVars_none hV
  have hfit := fun q hq => of_decide_eq_true (List.all_eq_true.1 hsz q hq)
  clear hsz
  have k0 := h0
  have lt0 : ∀ x ∈ p0, x.block < W.heap.size := by obtain ⟨m, hm⟩ := k0; exact DataW.trod_lt m _ _ _ hm
  obtain ⟨F0, hfit⟩ := fit_cons hfit
  obtain ⟨a0, g0, s0, n0, c0, es0, rfl, er0, ek0, en0⟩ := open_begin (hval 0 24 v0 rfl rfl) h0 F0
  have k1 := h1
  have lt1 : ∀ x ∈ p1, x.block < W.heap.size := by obtain ⟨m, hm⟩ := k1; exact DataW.trod_lt m _ _ _ hm
  obtain ⟨F1, hfit⟩ := fit_cons hfit
  obtain ⟨s1, n1, c1, xs1, rfl, ar1, ak1, an1⟩ := open_acts (hval 1 46 v1 rfl rfl) h1 F1
  clear hA0 hval0
  try simp only [List.append_nil] at hW'
  refine (walk W a0 g0 s0 n0 c0 es0 er0 ek0 en0 s1 n1 c1 xs1 ar1 ak1 an1).mono fun e W' ⟨he, hg⟩ => ?_
  subst he
  exact ⟨_, rfl, _, _, _, [], _, [], hW', (trodAll_cons_mk (shut_bool Try.underlying4 _) trodAll_mk0), (trodAll_cons_mk (Below.trod laidOut (by kernel_rfl) (of_decide_eq_true (by kernel_rfl)) k0 hg lt0) (trodAll_cons_mk (Below.trod laidOut (by kernel_rfl) (of_decide_eq_true (by kernel_rfl)) k1 hg lt1) trodAll_mk0)), rfl, hg.frame _, fun h => by cases h⟩

theorem over : Rows.rlogKeepsRow.holds Try.pinned (OpenSpec.ofChange Rows.rlogKeepsSpec) :=
  OpenClaim.holds_of_wide 6 Try.f6 rfl rfl rfl rfl rfl rfl rfl ⟨rfl, rfl, rfl, rfl, rfl⟩ rfl rfl rfl rfl rfl (by kernel_rfl) Try.func6 (by kernel_rfl)
    (of_decide_eq_true (by kernel_rfl)) (by unfold Func.isWrapper; first | (rw [if_pos (by decide +kernel)]; kernel_rfl) | (rw [if_neg (by decide +kernel)]; exact ⟨rfl, rfl⟩))
    (fun os started H enc _ => lifted os started H enc)

/-- ████ THE STATEMENT ████ -/
theorem proved : Rows.RlogKeepsSaid :=
  over
#print axioms proved
end Go.Proofs.Ytbgfpmnicpmieaa.rlogKeeps
