/- The law 'RlogApplies' answers true at every input, and leaves its arguments as they were. (The frame was written by a program, after the kit's own frames; no condition beside the statement's own.) -/
import Derived.Test.YtbgfpmnicpmieaaRows
import Derived.WalkKit
import Derived.ProofKit
import Derived.OpenShut
import Derived.Deep.RegionHeld3
import Derived.Deep.DeepCutAuto
import Derived.ShutString
import Derived.ChangeOld
import Derived.Below
import Derived.SizedLaws
import Derived.Test.YtbgfpmnicpmieaaEState
namespace Go.Proofs.Ytbgfpmnicpmieaa.rlogApplies
open Go.ChangeShapes Go.WideShapes Go.ChangeAt Go.RowKit Go.Proofs.Ytbgfpmnicpmieaa
open Go.ChangeMaps (open_string shut_string)
set_option linter.unusedVariables false
set_option linter.unusedSimpArgs false
set_option maxRecDepth 100000

theorem own : ownKnob Try.prog.godebug = none := by kernel_rfl
theorem laidOut : laidOutB Try.prog = true := by kernel_rfl

set_option maxHeartbeats 4000000 in
theorem walk (w : World) (s0 : Option Addr) (n0 c0 : Nat) (es0 : List Ent) (er0 : ER w s0 n0 es0) (ek0 : EKs w es0) (en0 : n0 * 168 ≤ 140737488355328 ∧ n0 ≤ c0) (s1 : Option Addr) (n1 c1 : Nat) (xs1 : List Ac) (ar1 : AR w s1 n1 xs1) (ak1 : AKs w xs1) (an1 : n1 ≤ 281474976710656) :
    Calls Try.prog 5 #[.slice s0 n0 c0, .slice s1 n1 c1] w fun e w' => e = .returned (.bool true) ∧ Below w.heap.size w w' := by
  have HN := Lib.hid en0
  have E0 := Lib.hid er0
  have F0 := Lib.hid ek0
  have X0 := Lib.hid ar1
  have Y0 := Lib.hid ak1
  clear er0 ek0 en0 ar1 ak1
  go_enter Try.func5, Try.ntmps5
  go_wp2_with fail
  refine (new_any 0 0 s0 n0 c0 es0 _ E0.out F0.out HN.out.1).mono ?_
  rintro e w1 (⟨hn, rfl, hb⟩ | ⟨hn, b, a', c', rfl, hB, hO, hbw, hb⟩)
  · have LP := Lib.hid hb
    clear hb hn
    go_wp2_with fail
    refine (lives_any _).mono ?_
    rintro e wl ⟨rfl, hb⟩
    have LL := Lib.hid (LP.out.trans (hb.mono LP.out.size))
    clear hb
    go_wp2_with fail
    go_ret
    exact ⟨rfl, LL.out⟩
  have HNW := Lib.hid hn
  have G1 : Hid (LG w1 w.heap.size b ⟨0, 0, a', n0, c', 0, 0, 0 + n0, true⟩ es0) := ⟨hB, hO, hbw⟩
  have L1 := Lib.hid hb
  clear hb hn hB hO
  go_wp2_with fail
  refine (heavy_any s0 n0 c0 es0 _ (E0.out.keep (Nat.le_refl _) L1.out) (F0.out.keep (Nat.le_refl _) L1.out) (by have := HN.out.1; omega)).mono ?_
  rintro e w2 ⟨r, rfl, hr, hb⟩
  have LP := Lib.hid (L1.out.trans (hb.mono L1.out.size))
  have G2 := Lib.hid (G1.out.below (Nat.le_refl _) hb)
  clear hb G1 L1
  cases r
  rotate_left
  · clear hr
    go_wp2_with fail
    refine (lives_any _).mono ?_
    rintro e wl ⟨rfl, hb⟩
    have LL := Lib.hid (LP.out.trans (hb.mono LP.out.size))
    clear hb
    go_wp2_with fail
    go_ret
    exact ⟨rfl, LL.out⟩
  have HR := Lib.hid (hr rfl)
  clear hr
  have HL0 := Lib.hid G2.out.len
  by_cases c1 : 200 < n1
  · have d1 : decide ((200 : Int) < (n1 : Int)) = true := decide_eq_true (by omega)
    have d1' : decide (200 < n1) = true := decide_eq_true c1
    go_wp2_with fail
    refine (lives_any _).mono ?_
    rintro e wl ⟨rfl, hb⟩
    have LL := Lib.hid (LP.out.trans (hb.mono LP.out.size))
    clear hb
    go_wp2_with fail
    go_ret
    exact ⟨rfl, LL.out⟩
  have d1 : decide ((200 : Int) < (n1 : Int)) = false := decide_eq_false (by omega)
  have d1' : decide (200 < n1) = false := decide_eq_false c1
  have S2 := Lib.hid (st_new G2.out (new_parts HNW.out).2.2.2 (by have h1 := HR.out.1; have h0 : es0.length = n0 := HL0.out; omega))
  have hl200 : es0.length ≤ 200 := HR.out.1
  clear G2
  go_wp2_with fail
  clear d1 d1'
  go_loopw [6, 27] (fun nv iv wr => ∃ (k : Nat) (l : Lg) (q A : Nat), k ≤ n1 ∧ iv = .int .i64 k ∧ nv = .int .i64 ((A : Int) + 1) ∧ A ≤ 200 ∧ St wr w.heap.size b es0 l q A ∧ Below w.heap.size w wr) (fun _ iv _ => n1 - (intOf iv).toNat)
  case atStart => exact ⟨0, _, 0, 0, Nat.zero_le _, rfl, rfl, by omega, S2.out, LP.out⟩
  case round =>
    obtain ⟨k, l, q, A, hk, rfl, rfl, hA, hS, hB⟩ := hrel
    obtain ⟨wo, hwo⟩ : ∃ wo, wo = wr := ⟨_, rfl⟩
    subst hwo
    have LP := Lib.hid hB
    have S3 := Lib.hid hS
    have X1 := X0.out.keep (Nat.le_refl _) hB
    have hbS : b < wo.heap.size := hS.lg.lb.lt
    clear S2 hB hS
    by_cases hlt : k < n1
    rotate_left
    · go_wp2_with fail
      refine (lives_any _).mono ?_
      rintro e wl ⟨rfl, hb⟩
      have LL := Lib.hid (LP.out.trans (hb.mono LP.out.size))
      clear hb
      go_wp2_with fail
      go_ret
      exact ⟨rfl, LL.out⟩
    rcases X1.2 with hz | ⟨bb, off, rfl, hrow⟩
    · omega
    have q0 := hrow k hlt 0 (by omega)
    have q1 := hrow k hlt 1 (by omega)
    have q2 := hrow k hlt 2 (by omega)
    have q3 := hrow k hlt 3 (by omega)
    have hxm : xs1.getD k default ∈ xs1 := by rw [List.getD_eq_getElem?_getD, List.getElem?_eq_getElem (by have := X1.1; omega)]; simp
    have AKx := Lib.hid (Y0.out _ hxm)
    have hxn := AKx.out.n1
    have hxn2 := AKx.out.n2
    clear hrow X1 hxm
    generalize xs1.getD k default = x at *
    obtain ⟨xk, xn, xm, xa, xl, xc, xes⟩ := x
    simp only [List.getD_cons_zero, List.getD_cons_succ] at q0 q1 q2 q3
    rw [Nat.add_zero] at q0
    dsimp only at hxn hxn2
    clear AKx
    have LA : Below wo.heap.size wo (wo.alloc (.cells #[.int .i64 xk, .int .i64 xn, .int .i64 xm, .slice xa xl xc] 48)) := (Below.refl _ wo).alloc (Nat.le_refl _) _
    have SA := Lib.hid (S3.out.keep (Nat.le_refl _) LA)
    have LPA := Lib.hid (LP.out.trans (LA.mono LP.out.size))
    clear LA S3 LP
    by_cases k2 : xk = 2
    · subst k2
      go_wp2_with fail
      refine (commit_any w.heap.size b l (es0.drop q) xn _ SA.out.lg SA.out.inv).mono ?_
      rintro e w5 ⟨rfl, hg, hkp⟩
      have S5 := Lib.hid (SA.out.com xn hg)
      have LP := Lib.hid (LPA.out.trans (hkp.below LPA.out.size (fun k hk => by rw [hk]; exact SA.out.lg.mb)))
      clear hg hkp SA LPA q0 q1 q2 q3
      go_wp2_with fail
      refine (applied_any b _ _ S5.out.lg.lb S5.out.inv.ok.is).mono ?_
      rintro e w6 ⟨rfl, rfl⟩
      rw [S5.out.ap]
      go_wp2_with fail
      go_roundw
      case rel => exact ⟨k + 1, _, _, A, by omega, by go_num, rfl, hA, S5.out, LP.out⟩
      case measure => simp [intOf]; omega
    have d2 : (xk == 2) = false := by simpa using k2
    by_cases k4 : xk = 4
    · subst k4
      go_wp2_with fail
      refine (apply_any w.heap.size b l (es0.drop q) xn _ SA.out.lg SA.out.inv hxn hxn2).mono ?_
      rintro e w5 ⟨⟨a5, n5, c5, rfl, ho5⟩, hg, hkp⟩
      obtain ⟨N, hN1, hN2, hN3, hN4, hS', hcom⟩ := SA.out.app xn hg
      obtain ⟨_, _, hev, hER, _⟩ := own_er ho5
      cases hev
      have hNn : N = n5 := by rw [← hN1]; exact hER.1
      subst hNn
      have S5 := Lib.hid hS'
      have LP5 := Lib.hid (LPA.out.trans (hkp.below LPA.out.size (fun k hk => by rw [hk]; exact SA.out.lg.mb)))
      have H4 := Lib.hid hN4
      have H3 := Lib.hid hN3
      have HER := Lib.hid hER
      have HCOM := Lib.hid hcom
      have HLA := Lib.hid hN1
      have hb5 : b < w5.heap.size := hS'.lg.lb.lt
      have HCH := Lib.hid (chain_row (new_parts HNW.out).2.2.2)
      have hn0 : es0.length = n0 := HL0.out
      clear hg hkp SA LPA q0 q1 q2 q3 hN1 hN4 hS' hcom ho5 hER hN3
      generalize appL l xn = l5 at *
      go_wp2_with fail
      go_loopw [6, 46] (fun nv iv wr2 => ∃ j : Nat, j ≤ N ∧ iv = .int .i64 j ∧ nv = .int .i64 (((A + j : Nat) : Int) + 1) ∧ Below w5.heap.size w5 wr2) (fun _ iv _ => N - (intOf iv).toNat)
      case atStart => exact ⟨0, Nat.zero_le _, rfl, rfl, Below.refl _ _⟩
      case round =>
        obtain ⟨j, hj, rfl, rfl, hB2⟩ := hrel
        have L6 := Lib.hid hB2
        have LP6 := Lib.hid (LP5.out.trans (hB2.mono LP5.out.size))
        have R6 := HER.out.keep (Nat.le_refl _) hB2
        clear hB2
        by_cases hjl : j < N
        rotate_left
        · have hjN : j = N := by omega
          have S6 := Lib.hid (S5.out.keep (Nat.le_refl _) L6.out)
          have LP := Lib.hid LP6.out
          subst hjN
          have hAA : A + j ≤ 200 := by omega
          clear S5 LP5 LP6 L6 R6 HER
          have S5 := Lib.hid S6.out
          clear S6
          go_wp2_with fail
          refine (applied_any b _ _ S5.out.lg.lb S5.out.inv.ok.is).mono ?_
          rintro e w6 ⟨rfl, rfl⟩
          rw [S5.out.ap]
          go_wp2_with fail
          go_roundw
          case rel => exact ⟨k + 1, _, _, (A+j), by omega, by go_num, rfl, hAA, S5.out, LP.out⟩
          case measure => simp [intOf]; omega
        obtain ⟨pb, po, rfl, hc⟩ := R6.row hjl
        have he0 : (appE l (es0.drop q) xn).getD j default = es0.getD (A + j) default := H4.out j hjl
        rw [he0] at hc
        have q0 := hc 0 (by omega)
        have q1 := hc 1 (by omega)
        have q2 := hc 2 (by omega)
        have q3 := hc 3 (by omega)
        have q4 := hc 4 (by omega)
        have q5 := hc 5 (by omega)
        have q6 := hc 6 (by omega)
        have q7 := hc 7 (by omega)
        have q8 := hc 8 (by omega)
        have q9 := hc 9 (by omega)
        have q10 := hc 10 (by omega)
        have q11 := hc 11 (by omega)
        have q12 := hc 12 (by omega)
        clear hc R6 he0
        obtain ⟨p, hp⟩ : ∃ p, p = A + j := ⟨_, rfl⟩
        have hpl : p < es0.length := by omega
        have hpi : (es0.getD p default).i = (p : Int) + 1 := by have := HCH.out p hpl; omega
        have hcm : ((p : Int) + 1) ≤ l5.com := by have := H3.out; rw [HCOM.out]; omega
        have hpn : p < n0 := by omega
        rw [← hp] at q0 q1 q2 q3 q4 q5 q6 q7 q8 q9 q10 q11 q12 ⊢
        have HP := Lib.hid hp
        clear hp
        have EW := Lib.hid (F0.out _ (getD_mem hpl))
        have LT := Lib.hid (HR.out.2 p hpl)
        obtain ⟨eb, eo, rfl, hrow0⟩ := E0.out.row hpn
        have HRO := Lib.hid hrow0
        clear hrow0
        generalize es0.getD p default = e at *
        obtain ⟨i, t, ke, ck, cs, cq, ea, ebt, ec, ed, el, va, vn, vc, la, ln, lc, V, L⟩ := e
        dsimp only at hpi
        subst hpi
        simp only [List.getD_cons_zero, List.getD_cons_succ] at q0 q1 q2 q3 q4 q5 q6 q7 q8 q9 q10 q11 q12
        rw [Nat.add_zero] at q0
        go_upto_region 15 with fail
        have LB0 : Below wr.heap.size wr (wr.alloc (.cells (⟨(p : Int) + 1, t, ke, ck, cs, cq, ea, ebt, ec, ed, el, va, vn, vc, la, ln, lc, V, L⟩ : Ent).cs'.toArray 37)) := (Below.refl _ wr).alloc (Nat.le_refl _) _
        have LW0 : Below w.heap.size w (wr.alloc (.cells (⟨(p : Int) + 1, t, ke, ck, cs, cq, ea, ebt, ec, ed, el, va, vn, vc, la, ln, lc, V, L⟩ : Ent).cs'.toArray 37)) := LP6.out.trans (LB0.mono LP6.out.size)
        have SB := Lib.hid ((S5.out.keep (Nat.le_refl _) L6.out).keep (Nat.le_refl _) LB0)
        have KB : Hid (∀ W, Below (wr.alloc (.cells (⟨(p : Int) + 1, t, ke, ck, cs, cq, ea, ebt, ec, ed, el, va, vn, vc, la, ln, lc, V, L⟩ : Ent).cs'.toArray 37)).heap.size (wr.alloc (.cells (⟨(p : Int) + 1, t, ke, ck, cs, cq, ea, ebt, ec, ed, el, va, vn, vc, la, ln, lc, V, L⟩ : Ent).cs'.toArray 37)) W → ∀ c, c < 13 → W.cell? ⟨wr.heap.size, 0 + c, none⟩ = some ((⟨(p : Int) + 1, t, ke, ck, cs, cq, ea, ebt, ec, ed, el, va, vn, vc, la, ln, lc, V, L⟩ : Ent).cs'.getD c undef)) := by
          show ∀ W, _
          intro W h c hc
          exact (h.cell (by simp)).trans (box37 wr _ c hc)
        have KB0 : Hid (∀ W, Below (wr.alloc (.cells (⟨(p : Int) + 1, t, ke, ck, cs, cq, ea, ebt, ec, ed, el, va, vn, vc, la, ln, lc, V, L⟩ : Ent).cs'.toArray 37)).heap.size (wr.alloc (.cells (⟨(p : Int) + 1, t, ke, ck, cs, cq, ea, ebt, ec, ed, el, va, vn, vc, la, ln, lc, V, L⟩ : Ent).cs'.toArray 37)) W → W.cell? ⟨wr.heap.size, 0, none⟩ = some (.int .i64 ((p : Int) + 1))) := by
          show ∀ W, _
          intro W h
          exact KB.out W h 0 (by omega)
        have KE : Hid (∀ W, Below (wr.alloc (.cells (⟨(p : Int) + 1, t, ke, ck, cs, cq, ea, ebt, ec, ed, el, va, vn, vc, la, ln, lc, V, L⟩ : Ent).cs'.toArray 37)).heap.size (wr.alloc (.cells (⟨(p : Int) + 1, t, ke, ck, cs, cq, ea, ebt, ec, ed, el, va, vn, vc, la, ln, lc, V, L⟩ : Ent).cs'.toArray 37)) W → ∀ c, c < 13 → W.cell? ⟨eb, eo + p * 13 + c, none⟩ = some ((⟨(p : Int) + 1, t, ke, ck, cs, cq, ea, ebt, ec, ed, el, va, vn, vc, la, ln, lc, V, L⟩ : Ent).cs'.getD c undef)) := by
          show ∀ W, _
          intro W h c hc
          have h1 := HRO.out c hc
          have h2 := (LW0.cell (cell_block_lt h1)).trans h1
          exact (h.cell (cell_block_lt h2)).trans h2
        have K19 : Hid (∀ W, Below (wr.alloc (.cells (⟨(p : Int) + 1, t, ke, ck, cs, cq, ea, ebt, ec, ed, el, va, vn, vc, la, ln, lc, V, L⟩ : Ent).cs'.toArray 37)).heap.size (wr.alloc (.cells (⟨(p : Int) + 1, t, ke, ck, cs, cq, ea, ebt, ec, ed, el, va, vn, vc, la, ln, lc, V, L⟩ : Ent).cs'.toArray 37)) W → Calls Try.prog 19 #[.pointer (some ⟨b, 0, none⟩)] W fun e w' => e = .returned (.int .i64 l5.com) ∧ Below (wr.alloc (.cells (⟨(p : Int) + 1, t, ke, ck, cs, cq, ea, ebt, ec, ed, el, va, vn, vc, la, ln, lc, V, L⟩ : Ent).cs'.toArray 37)).heap.size (wr.alloc (.cells (⟨(p : Int) + 1, t, ke, ck, cs, cq, ea, ebt, ec, ed, el, va, vn, vc, la, ln, lc, V, L⟩ : Ent).cs'.toArray 37)) w') := by
          show ∀ W, _
          intro W h
          have g := SB.out.keep (Nat.le_refl _) h
          refine (committed_any b l5 W g.lg.lb g.inv.ok.is).mono ?_
          rintro e w' ⟨rfl, rfl⟩
          exact ⟨rfl, h⟩
        have K20 : Hid (∀ W, Below (wr.alloc (.cells (⟨(p : Int) + 1, t, ke, ck, cs, cq, ea, ebt, ec, ed, el, va, vn, vc, la, ln, lc, V, L⟩ : Ent).cs'.toArray 37)).heap.size (wr.alloc (.cells (⟨(p : Int) + 1, t, ke, ck, cs, cq, ea, ebt, ec, ed, el, va, vn, vc, la, ln, lc, V, L⟩ : Ent).cs'.toArray 37)) W → Calls Try.prog 20 #[(⟨(p : Int) + 1, t, ke, ck, cs, cq, ea, ebt, ec, ed, el, va, vn, vc, la, ln, lc, V, L⟩ : Ent).v, (⟨(p : Int) + 1, t, ke, ck, cs, cq, ea, ebt, ec, ed, el, va, vn, vc, la, ln, lc, V, L⟩ : Ent).v] W fun e w' => e = .returned (.bool true) ∧ Below (wr.alloc (.cells (⟨(p : Int) + 1, t, ke, ck, cs, cq, ea, ebt, ec, ed, el, va, vn, vc, la, ln, lc, V, L⟩ : Ent).cs'.toArray 37)).heap.size (wr.alloc (.cells (⟨(p : Int) + 1, t, ke, ck, cs, cq, ea, ebt, ec, ed, el, va, vn, vc, la, ln, lc, V, L⟩ : Ent).cs'.toArray 37)) w') := by
          show ∀ W, _
          intro W h
          have hw := LW0.trans (h.mono LW0.size)
          have hek := EW.out.keep (Nat.le_refl _) hw
          have hl1 := LT.out.1
          have hl2 := LT.out.2
          have := sameE_any (⟨(p : Int) + 1, t, ke, ck, cs, cq, ea, ebt, ec, ed, el, va, vn, vc, la, ln, lc, V, L⟩ : Ent) (⟨(p : Int) + 1, t, ke, ck, cs, cq, ea, ebt, ec, ed, el, va, vn, vc, la, ln, lc, V, L⟩ : Ent) W hek hek ⟨by dsimp only at hl1 ⊢; omega, by dsimp only at hl2 ⊢; omega⟩ ⟨by dsimp only at hl1 ⊢; omega, by dsimp only at hl2 ⊢; omega⟩
          rw [sameE_self] at this
          refine this.mono ?_
          rintro e w' ⟨rfl, hb⟩
          exact ⟨rfl, h.trans (hb.mono h.size)⟩
        have LWB := Lib.hid LW0
        have L6B := Lib.hid (L6.out.trans (LB0.mono L6.out.size))
        have hpw : IntKind.i64.wrap ((p : Int) + 1 - 1) = p := by rw [IntWalk.i64_in _ (by omega)]; omega
        have e1 : ((p : Int) + 1 != (p : Int) + 1) = false := by simp
        have e2 : decide (l5.com < (p : Int) + 1) = false := decide_eq_false (by omega)
        obtain ⟨C, HC0, HCC, HKB, HKB0, HKE, HK19, HK20, hcl⟩ : ∃ C : World → Prop, Hid (C (wr.alloc (.cells (⟨(p : Int) + 1, t, ke, ck, cs, cq, ea, ebt, ec, ed, el, va, vn, vc, la, ln, lc, V, L⟩ : Ent).cs'.toArray 37)).drew) ∧ Hid (∀ W, C W → Below (wr.alloc (.cells (⟨(p : Int) + 1, t, ke, ck, cs, cq, ea, ebt, ec, ed, el, va, vn, vc, la, ln, lc, V, L⟩ : Ent).cs'.toArray 37)).heap.size (wr.alloc (.cells (⟨(p : Int) + 1, t, ke, ck, cs, cq, ea, ebt, ec, ed, el, va, vn, vc, la, ln, lc, V, L⟩ : Ent).cs'.toArray 37)) W) ∧ Hid (∀ W, C W → ∀ c, c < 13 → W.cell? ⟨wr.heap.size, 0 + c, none⟩ = some ((⟨(p : Int) + 1, t, ke, ck, cs, cq, ea, ebt, ec, ed, el, va, vn, vc, la, ln, lc, V, L⟩ : Ent).cs'.getD c undef)) ∧ Hid (∀ W, C W → W.cell? ⟨wr.heap.size, 0, none⟩ = some (.int .i64 ((p : Int) + 1))) ∧ Hid (∀ W, C W → ∀ c, c < 13 → W.cell? ⟨eb, eo + p * 13 + c, none⟩ = some ((⟨(p : Int) + 1, t, ke, ck, cs, cq, ea, ebt, ec, ed, el, va, vn, vc, la, ln, lc, V, L⟩ : Ent).cs'.getD c undef)) ∧ Hid (∀ W, C W → Calls Try.prog 19 #[.pointer (some ⟨b, 0, none⟩)] W fun e w' => e = .returned (.int .i64 l5.com) ∧ C w') ∧ Hid (∀ W, C W → Calls Try.prog 20 #[(⟨(p : Int) + 1, t, ke, ck, cs, cq, ea, ebt, ec, ed, el, va, vn, vc, la, ln, lc, V, L⟩ : Ent).v, (⟨(p : Int) + 1, t, ke, ck, cs, cq, ea, ebt, ec, ed, el, va, vn, vc, la, ln, lc, V, L⟩ : Ent).v] W fun e w' => e = .returned (.bool true) ∧ C w') ∧ (∀ q : Prop, (∀ W, C W → q) ↔ q) :=
          ⟨fun W => Below (wr.alloc (.cells (⟨(p : Int) + 1, t, ke, ck, cs, cq, ea, ebt, ec, ed, el, va, vn, vc, la, ln, lc, V, L⟩ : Ent).cs'.toArray 37)).heap.size (wr.alloc (.cells (⟨(p : Int) + 1, t, ke, ck, cs, cq, ea, ebt, ec, ed, el, va, vn, vc, la, ln, lc, V, L⟩ : Ent).cs'.toArray 37)) W, (Below.refl _ _).drew, fun _ h => h, KB.out, KB0.out, KE.out, K19.out, K20.out, fun q => ⟨fun h => h _ (Below.refl _ _), fun h _ _ => h⟩⟩
        clear KB KB0 KE K19 K20 SB LW0 LB0 q0 q1 q2 q3 q4 q5 q6 q7 q8 q9 q10 q11 q12 hcm
        refine wp_region_class C (by kernel_rfl) (by kernel_rfl) HC0.out ?_
        repeat (first
          | go_big_quiet_skip
          | (go_big_quiet_want
             first
             | (refine quiet_load37 _ wr.heap.size 0 (⟨(p : Int) + 1, t, ke, ck, cs, cq, ea, ebt, ec, ed, el, va, vn, vc, la, ln, lc, V, L⟩ : Ent) rfl rfl HKB.out ?_; try simp only [Act.put, List.setIfInBounds_toArray, List.set_cons_zero, List.set_cons_succ]; go_big_quiet_on)
             | (refine quiet_load37 _ eb (eo + p * 13) (⟨(p : Int) + 1, t, ke, ck, cs, cq, ea, ebt, ec, ed, el, va, vn, vc, la, ln, lc, V, L⟩ : Ent) rfl rfl HKE.out ?_; try simp only [Act.put, List.setIfInBounds_toArray, List.set_cons_zero, List.set_cons_succ]; go_big_quiet_on)
             | (refine quiet_load 3 _ ⟨wr.heap.size, 0, none⟩ (.int .i64 ((p : Int) + 1)) rfl rfl HKB0.out ?_; try simp only [Act.put, List.setIfInBounds_toArray, List.set_cons_zero, List.set_cons_succ]; go_big_quiet_on)
             | (go_big_quiet_op
                first
                | go_big_quiet_on
                | (apply Exists.intro
                   refine ⟨?_, ?_⟩
                   · first | exact HK19.out | exact HK20.out
                   go_big_quiet_on))))
        refine wpQuiet_nil ?_
        intro wz hz
        have HZ := Lib.hid (HCC.out wz hz)
        have L7 := Lib.hid (L6B.out.trans (HZ.out.mono L6B.out.size))
        clear hz HC0 HCC hcl HKB HKB0 HKE HK19 HK20 hpw e1 e2
        go_wp2_with fail
        go_roundw
        case rel => exact ⟨j + 1, by omega, by go_num, by (congr 1; have := HP.out; omega), L7.out⟩
        case measure => simp [intOf]; omega
    have d4 : (xk == 4) = false := by simpa using k4
    by_cases k5 : xk = 5
    · subst k5
      go_wp2_with fail
      refine (compact_any w.heap.size b l (es0.drop q) xn _ SA.out.lg SA.out.inv).mono ?_
      intro e w5 hp
      obtain ⟨⟨v, rfl⟩, hkp, l', q', hs'⟩ := SA.out.cpt hp
      have S5 := Lib.hid hs'
      have LP := Lib.hid (LPA.out.trans (hkp.below LPA.out.size (fun k hk => by rw [hk]; exact SA.out.lg.mb)))
      clear hs' hkp hp SA LPA q0 q1 q2 q3
      go_wp2_with fail
      refine (applied_any b _ _ S5.out.lg.lb S5.out.inv.ok.is).mono ?_
      rintro e w6 ⟨rfl, rfl⟩
      rw [S5.out.ap]
      go_wp2_with fail
      go_roundw
      case rel => exact ⟨k + 1, _, _, A, by omega, by go_num, rfl, hA, S5.out, LP.out⟩
      case measure => simp [intOf]; omega
    have d5 : (xk == 5) = false := by simpa using k5
    have S5 := Lib.hid SA.out
    have LP := Lib.hid LPA.out
    clear SA LPA
    go_wp2_with fail
    refine (applied_any b _ _ S5.out.lg.lb S5.out.inv.ok.is).mono ?_
    rintro e w6 ⟨rfl, rfl⟩
    rw [S5.out.ap]
    go_wp2_with fail
    go_roundw
    case rel => exact ⟨k + 1, _, _, A, by omega, by go_num, rfl, hA, S5.out, LP.out⟩
    case measure => simp [intOf]; omega

theorem lifted (os : Os) (started : os.Started) (H : Type) (enc : TypeId × Value → H) :
    ReturnsInHanded {} Try.checked os 5 .any (Rows.rlogAppliesSpec.pre6 enc Try.prog Try.f5 Rows.rlogAppliesRow.domain false) (Rows.rlogAppliesSpec.post enc Try.prog Try.f5 false true false false) := by
  refine returnsInHanded_of_change_sized (C := Try.checked) own started (by kernel_rfl) Try.func5
    (ChangeSpec.witness6 (enc := enc) (C := Try.checked) false ⟨#[], #[.slice none 0 0, .slice none 0 0], []⟩ 8 (by kernel_rfl) (by kernel_rfl) (by kernel_rfl) (by kernel_rfl)) ?_
  intro W base args ds gs before hval0 hW hcnd hsz0 _
  have hsz : (DataW.weightsEach Try.prog (Try.f5.params.toList ++ Rows.rlogAppliesSpec.plain.varTypes Try.prog) (ds ++ gs)).all (· ≤ reachBytes) = true := hsz0
  clear hsz0
  have hval : ∀ (j : Nat) t v, Try.f5.params[j]? = some t → args[j]? = some v → Value.okWide Try.prog W .any base t v := hval0
  have hW' := hW
  obtain ⟨p, q, hA0, hV, rfl, hfz, hnd⟩ := hW
  have hA : DataW.TrodAll enc Try.prog W 0 (fun _ => true) true Try.f5.params.toList args.toList ds p := hA0
  rw [Try.params5] at hA hval hsz
  obtain ⟨v0, vs0, d0, ds0, p0, q0, hargs, rfl, rfl, h0, r0⟩ := trodAll_cons hA
  obtain ⟨v1, vs1, d1, ds1, p1, q1, rfl, rfl, rfl, h1, r1⟩ := trodAll_cons r0
  obtain ⟨rfl, rfl, rfl⟩ := trodAll_nil r1
  obtain rfl : args = #[v0, v1] := by cases args; simp_all
  obtain ⟨rfl, rfl⟩ := trodVars_none hV
  have hfit := fun q hq => of_decide_eq_true (List.all_eq_true.1 hsz q hq)
  clear hsz
  have k0 := h0
  have lt0 : ∀ x ∈ p0, x.block < W.heap.size := by obtain ⟨m, hm⟩ := k0; exact DataW.trod_lt m _ _ _ hm
  obtain ⟨F0, hfit⟩ := fit_cons hfit
  obtain ⟨s0, n0, c0, es0, rfl, er0, ek0, en0⟩ := open_es (hval 0 22 v0 rfl rfl) h0 F0
  have k1 := h1
  have lt1 : ∀ x ∈ p1, x.block < W.heap.size := by obtain ⟨m, hm⟩ := k1; exact DataW.trod_lt m _ _ _ hm
  obtain ⟨F1, hfit⟩ := fit_cons hfit
  obtain ⟨s1, n1, c1, xs1, rfl, ar1, ak1, an1⟩ := open_acts (hval 1 46 v1 rfl rfl) h1 F1
  clear hA0 hval0
  try simp only [List.append_nil] at hW'
  refine (walk W s0 n0 c0 es0 er0 ek0 en0 s1 n1 c1 xs1 ar1 ak1 an1).mono fun e W' ⟨he, hg⟩ => ?_
  subst he
  exact ⟨_, rfl, _, _, _, [], _, [], hW', (trodAll_cons_mk (shut_bool Try.underlying4 _) trodAll_mk0), (trodAll_cons_mk (Below.trod laidOut (by kernel_rfl) (of_decide_eq_true (by kernel_rfl)) k0 hg lt0) (trodAll_cons_mk (Below.trod laidOut (by kernel_rfl) (of_decide_eq_true (by kernel_rfl)) k1 hg lt1) trodAll_mk0)), rfl, hg.frame _, fun h => by cases h⟩

theorem over : Rows.rlogAppliesRow.holds Try.pinned (OpenSpec.ofChange Rows.rlogAppliesSpec) :=
  OpenClaim.holds_of_wide 5 Try.f5 rfl rfl rfl rfl rfl rfl rfl ⟨rfl, rfl, rfl, rfl, rfl⟩ rfl rfl rfl rfl rfl (by kernel_rfl) Try.func5 (by kernel_rfl)
    (of_decide_eq_true (by kernel_rfl)) (by unfold Func.isWrapper; first | (rw [if_pos (by decide +kernel)]; kernel_rfl) | (rw [if_neg (by decide +kernel)]; exact ⟨rfl, rfl⟩))
    (fun os started H enc _ => lifted os started H enc)

/-- ████ THE STATEMENT ████ -/
theorem proved : Rows.RlogAppliesSaid :=
  over
#print axioms proved
end Go.Proofs.Ytbgfpmnicpmieaa.rlogApplies
