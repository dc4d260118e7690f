/- The law 'RlogMatches' answers true at every input, and leaves its arguments as they were. (The frame was written by a program, after the kit's own frames; no condition beside the statement's own.) -/
import Derived.Test.YtbgfpmnicpmieaaRows
import Derived.WalkKit
import Derived.ProofKit
import Derived.OpenShut
import Derived.Deep.RegionHeld3
import Derived.Deep.DeepCutAuto
import Derived.ShutString
import Derived.ChangeOld
import Derived.Below
import Derived.SizedLaws
import Derived.Test.YtbgfpmnicpmieaaETwo
namespace Go.Proofs.Ytbgfpmnicpmieaa.rlogMatches
open Go.ChangeShapes Go.WideShapes Go.ChangeAt Go.RowKit Go.Proofs.Ytbgfpmnicpmieaa
open Go.ChangeMaps (open_string shut_string)
set_option linter.unusedVariables false
set_option linter.unusedSimpArgs false
set_option maxRecDepth 100000

theorem own : ownKnob Try.prog.godebug = none := by kernel_rfl
theorem laidOut : laidOutB Try.prog = true := by kernel_rfl

set_option maxHeartbeats 4000000 in
theorem walk (w : World) (a0 g0 : Int) (s0 : Option Addr) (n0 c0 : Nat) (es0 : List Ent) (er0 : ER w s0 n0 es0) (ek0 : EKs w es0) (en0 : n0 * 168 ≤ 140737488355328 ∧ n0 ≤ c0) (a1 g1 : Int) (s1 : Option Addr) (n1 c1 : Nat) (es1 : List Ent) (er1 : ER w s1 n1 es1) (ek1 : EKs w es1) (en1 : n1 * 168 ≤ 140737488355328 ∧ n1 ≤ c1) (s2 : Option Addr) (n2 c2 : Nat) (es2 : List Ent) (er2 : ER w s2 n2 es2) (ek2 : EKs w es2) (en2 : n2 * 168 ≤ 140737488355328 ∧ n2 ≤ c2) :
    Calls Try.prog 3 #[.agg #[.int .i64 a0, .int .i64 g0, .slice s0 n0 c0], .agg #[.int .i64 a1, .int .i64 g1, .slice s1 n1 c1], .slice s2 n2 c2] w fun e w' => e = .returned (.bool true) ∧ Below w.heap.size w w' := by
  have L0 : Hid (Below w.heap.size w ((w.alloc (.cells #[.int .i64 a0, .int .i64 g0, .slice s0 n0 c0] 24)).alloc (.cells #[.int .i64 a1, .int .i64 g1, .slice s1 n1 c1] 24))) := ((Below.refl _ w).alloc (Nat.le_refl _) _).alloc (by simp) _
  have R0 := Lib.hid (er0.keep (Nat.le_refl _) L0.out)
  have K0 := Lib.hid (ek0.keep (Nat.le_refl _) L0.out)
  have R1 := Lib.hid (er1.keep (Nat.le_refl _) L0.out)
  have K1 := Lib.hid (ek1.keep (Nat.le_refl _) L0.out)
  have R2 := Lib.hid (er2.keep (Nat.le_refl _) L0.out)
  have K2 := Lib.hid (ek2.keep (Nat.le_refl _) L0.out)
  have HN0 := Lib.hid en0
  have HN1 := Lib.hid en1
  have HN2 := Lib.hid en2
  have HL2 := Lib.hid er2.1
  have E2 := Lib.hid er2
  have F2 := Lib.hid ek2
  clear er0 ek0 en0 er1 ek1 en1 er2 ek2 en2
  go_enter Try.func3, Try.ntmps3
  go_wp2_with fail
  refine (heavy_any s0 n0 c0 es0 _ R0.out K0.out (by have := HN0.out.1; omega)).mono ?_
  rintro e w1 ⟨r0, rfl, hr0, hb⟩
  have z1 := (hb.cell (p := ⟨w.heap.size, 2, none⟩) (by simp; omega)).trans (show _ = some (Value.slice s0 n0 c0) by simp)
  have z2 := (hb.cell (p := ⟨w.heap.size + 1, 2, none⟩) (by simp)).trans (show _ = some (Value.slice s1 n1 c1) by simp)
  have L1 := Lib.hid (L0.out.trans (hb.mono L0.out.size))
  have hbb := hb
  have HB1 := Lib.hid hbb
  clear hb hbb
  cases r0
  rotate_left
  · clear hr0
    go_wp2_with fail
    refine (lives_any _).mono ?_
    rintro e w3 ⟨rfl, hb⟩
    have L3 := Lib.hid (L1.out.trans (hb.mono L1.out.size))
    clear hb
    go_wp2_with fail
    go_ret
    exact ⟨rfl, L3.out⟩
  have HR0 := Lib.hid (hr0 rfl)
  clear hr0
  go_wp2_with fail
  refine (heavy_any s1 n1 c1 es1 _ (R1.out.keep (Nat.le_refl _) HB1.out) (K1.out.keep (Nat.le_refl _) HB1.out) (by have := HN1.out.1; omega)).mono ?_
  rintro e w2 ⟨r1, rfl, hr1, hb⟩
  have y1 := (hb.cell (cell_block_lt z1)).trans z1
  have y2 := (hb.cell (cell_block_lt z2)).trans z2
  have L2 := Lib.hid (L1.out.trans (hb.mono L1.out.size))
  have HB2 := Lib.hid (HB1.out.trans (hb.mono HB1.out.size))
  clear hb z1 z2
  cases r1
  rotate_left
  · clear hr1
    go_wp2_with fail
    refine (lives_any _).mono ?_
    rintro e w3 ⟨rfl, hb⟩
    have L3 := Lib.hid (L2.out.trans (hb.mono L2.out.size))
    clear hb
    go_wp2_with fail
    go_ret
    exact ⟨rfl, L3.out⟩
  have HR1 := Lib.hid (hr1 rfl)
  clear hr1
  go_wp2_with fail
  refine (heavy_any s2 n2 c2 es2 _ (R2.out.keep (Nat.le_refl _) HB2.out) (K2.out.keep (Nat.le_refl _) HB2.out) (by have := HN2.out.1; omega)).mono ?_
  rintro e w3 ⟨r2, rfl, hr2, hb⟩
  have z1 := (hb.cell (cell_block_lt y1)).trans y1
  have z2 := (hb.cell (cell_block_lt y2)).trans y2
  have L3 := Lib.hid (L2.out.trans (hb.mono L2.out.size))
  have HB3 := HB2.out.trans (hb.mono HB2.out.size)
  have A0 := Lib.hid (R0.out.keep (Nat.le_refl _) HB3)
  have B0 := Lib.hid (K0.out.keep (Nat.le_refl _) HB3)
  have A1 := Lib.hid (R1.out.keep (Nat.le_refl _) HB3)
  have B1 := Lib.hid (K1.out.keep (Nat.le_refl _) HB3)
  have A2 := Lib.hid (R2.out.keep (Nat.le_refl _) HB3)
  have B2 := Lib.hid (K2.out.keep (Nat.le_refl _) HB3)
  clear hb y1 y2 HB3 HB2 HB1 R0 K0 R1 K1 R2 K2 L0 L1 L2
  cases r2
  rotate_left
  · clear hr2
    go_wp2_with fail
    refine (lives_any _).mono ?_
    rintro e w4 ⟨rfl, hb⟩
    have L4 := Lib.hid (L3.out.trans (hb.mono L3.out.size))
    clear hb
    go_wp2_with fail
    go_ret
    exact ⟨rfl, L4.out⟩
  have HR2 := Lib.hid (hr2 rfl)
  clear hr2
  go_upto_region 3 with fail
  have KS : Hid (∀ W, Below w3.heap.size w3 W → W.cell? ⟨w.heap.size, 2, none⟩ = some (.slice s0 n0 c0) ∧ W.cell? ⟨w.heap.size + 1, 2, none⟩ = some (.slice s1 n1 c1) ∧ Below w3.heap.size w3 W) := by
    show ∀ W, _
    intro W h
    exact ⟨(h.cell (cell_block_lt z1)).trans z1, (h.cell (cell_block_lt z2)).trans z2, h⟩
  clear z1 z2
  go_cut [7, 8] (fun p q wx => ∃ p1 p2, p = .pointer p1 ∧ q = .pointer p2 ∧ XY w3 wx n0 es0 n1 es1 p1 p2)
  case first =>
    go_region_held3 (fun W => W.cell? ⟨w.heap.size, 2, none⟩ = some (.slice s0 n0 c0) ∧ W.cell? ⟨w.heap.size + 1, 2, none⟩ = some (.slice s1 n1 c1) ∧ Below w3.heap.size w3 W)
      (first | exact KS.out _ (Below.refl _ _) | exact KS.out _ (by assumption) | exact KS.out _ (held_2 (by assumption)) | exact KS.out _ (Below.refl _ _).drew)
      (first
        | (go_at_call 11; (with_reducible refine (new_from w3 0 0 s0 n0 c0 es0 _ A0.out B0.out HN0.out.1 (held_2 (by assumption))).mono ?_); rintro e w' ⟨p1, rfl, hq1, hb1, hB1, hs1⟩)
        | (go_at_call 11; (with_reducible refine (new_from w3 0 0 s1 n1 c1 es1 _ A1.out B1.out HN1.out.1 (held_2 (by assumption))).mono ?_); rintro e w' ⟨p2, rfl, hq2, hb2, hB2, hs2⟩))
    all_goals (
      have HXY := Lib.hid (xy_of hq1 hs1 hb1 hq2 hb2 hB2)
      clear hq1 hs1 hb1 hq2 hb2 hB2 hB1 hs2
      rename_i hHeld
      clear hHeld
      go_wp2_with fail
      go_meet
      exact ⟨p1, p2, rfl, rfl, HXY.out⟩)
  case rest =>
    obtain ⟨p1, p2, rfl, rfl, hB, s, hs, hX, hY⟩ := hcut
    rename_i wx
    have LP := Lib.hid (L3.out.trans (hB.mono L3.out.size))
    have S2 := Lib.hid (A2.out.keep (Nat.le_refl _) hB)
    have T2 := Lib.hid (B2.out.keep (Nat.le_refl _) hB)
    have HS := Lib.hid hs
    have HW3 := Lib.hid L3.out.size
    clear hB hs A0 B0 A1 B1 A2 B2 KS L3
    rcases hX with ⟨_, rfl⟩ | ⟨nx, b, a, c, rfl, gx, lx, lxg⟩
    · clear hY
      go_wp2_with fail
      refine (lives_any _).mono ?_
      rintro e wl ⟨rfl, hb⟩
      have LL := Lib.hid (LP.out.trans (hb.mono LP.out.size))
      clear hb
      go_wp2_with fail
      go_ret
      exact ⟨rfl, LL.out⟩
    have NX := Lib.hid nx
    have GX := Lib.hid gx
    have LXG := Lib.hid lxg
    clear nx gx lxg
    rcases hY with ⟨_, rfl⟩ | ⟨ny, b', a', c', rfl, gy⟩
    · go_wp2_with fail
      refine (lives_any _).mono ?_
      rintro e wl ⟨rfl, hb⟩
      have LL := Lib.hid (LP.out.trans (hb.mono LP.out.size))
      clear hb
      go_wp2_with fail
      go_ret
      exact ⟨rfl, LL.out⟩
    have NY := Lib.hid ny
    have GY := Lib.hid gy
    clear ny gy
    have hbb : s ≤ b' := GY.out.mb
    have hL0 := GX.out.len
    have hL1 := GY.out.len
    have HL0 := Lib.hid hL0
    have HL1 := Lib.hid hL1
    clear hL0 hL1
    go_wp2_with fail
    refine (match_one _ w3.heap.size b a n0 c es0 s2 n2 c2 es2 GX.out (new_parts NX.out).2.2.2 (by have := HR0.out.1; have := HL0.out; omega) S2.out T2.out (by have := HR2.out.1; have := HL2.out; omega) HN2.out.2).mono ?_
    rintro e w5 ⟨hk, hr⟩
    have hk5 := hk.below (m := w3.heap.size) (Nat.le_trans HS.out (Nat.le_of_lt (Nat.lt_of_le_of_lt hbb GY.out.lb.lt))) (fun k hkk => by rw [hkk]; exact GX.out.mb)
    have LP5 := Lib.hid (LP.out.trans (hk5.mono HW3.out))
    have gy5 := Lib.hid (GY.out.kept hk (by omega) (fun j hj => by have := (GY.out.lt hj).1; omega))
    have hwc : b' < wc.heap.size := GY.out.lb.lt
    clear hk5 hk S2 T2 GY LP
    rcases hr with ⟨hcb, rfl⟩ | ⟨hcb, rfl, l5, e5, g5, f5, o5, t5⟩
    · have HCB := Lib.hid hcb
      clear hcb
      go_wp2_with fail
      refine (match_one _ s b' a' n1 c' es1 s2 n2 c2 es2 gy5.out (new_parts NY.out).2.2.2 (by have := HR1.out.1; have := HL1.out; omega) (E2.out.keep (Nat.le_refl _) LP5.out) (F2.out.keep (Nat.le_refl _) LP5.out) (by have := HR2.out.1; have := HL2.out; omega) HN2.out.2).mono ?_
      rintro e w6 ⟨hk, hr⟩
      have hk6 := hk.below (m := w.heap.size) LP5.out.size (fun k hkk => by rw [hkk]; have := HS.out; have := HW3.out; omega)
      have LP := Lib.hid (LP5.out.trans hk6)
      clear hk hk6
      rcases hr with ⟨_, rfl⟩ | ⟨hcc, _⟩
      · go_wp2_with fail
        refine (lives_any _).mono ?_
        rintro e wl ⟨rfl, hb⟩
        have LL := Lib.hid (LP.out.trans (hb.mono LP.out.size))
        clear hb
        go_wp2_with fail
        go_ret
        exact ⟨rfl, LL.out⟩
      · rw [HCB.out] at hcc; cases hcc
    · have HCB := Lib.hid hcb
      clear hcb
      go_wp2_with fail
      refine (match_one _ s b' a' n1 c' es1 s2 n2 c2 es2 gy5.out (new_parts NY.out).2.2.2 (by have := HR1.out.1; have := HL1.out; omega) (E2.out.keep (Nat.le_refl _) LP5.out) (F2.out.keep (Nat.le_refl _) LP5.out) (by have := HR2.out.1; have := HL2.out; omega) HN2.out.2).mono ?_
      rintro e w6 ⟨hk, hr⟩
      have hk6 := hk.below (m := w.heap.size) LP5.out.size (fun k hkk => by rw [hkk]; have := HS.out; have := HW3.out; omega)
      have LP := Lib.hid (LP5.out.trans hk6)
      have g5 := g5.kept hk (by omega) (fun j hj => by
        rcases f5 j hj with h | h
        · omega
        · have := LXG.out j h; omega)
      clear hk hk6 f5
      rcases hr with ⟨hcc, _⟩ | ⟨_, rfl, l6, e6, g6, f6, o6, t6⟩
      · rw [HCB.out] at hcc; cases hcc
      clear f6
      have G5 := Lib.hid g5
      have O5 := Lib.hid o5
      have T5 := Lib.hid t5
      have G6 := Lib.hid g6
      have O6 := Lib.hid o6
      have T6 := Lib.hid t6
      clear g5 o5 t5 g6 o6 t6
      have hn2 : n2 ≤ 200 := by have := HR2.out.1; have := HL2.out; omega
      obtain ⟨wz, hz⟩ : ∃ wz, wz = w6 := ⟨_, rfl⟩
      subst hz
      go_wp2_with fail
      go_loopw [79] (fun iv wr => ∃ k : Nat, k ≤ n2 ∧ iv = .int .i64 k ∧ Below w.heap.size w wr ∧ Below wz.heap.size wz wr) (fun iv _ => n2 - (intOf iv).toNat)
      case atStart => exact ⟨0, Nat.zero_le _, rfl, LP.out, Below.refl _ _⟩
      case round =>
        obtain ⟨k, hk, rfl, hb1, hb2⟩ := hrel
        have LP7 := Lib.hid hb1
        have LZ7 := Lib.hid hb2
        have R7 := E2.out.keep (Nat.le_refl _) hb1
        clear hb1 hb2
        by_cases hlt : k < n2
        · obtain ⟨bb, off, rfl, hc⟩ := R7.row hlt
          have t5 := Lib.hid (T5.out k (by have := HL2.out; omega))
          have t6 := Lib.hid (T6.out k (by have := HL2.out; omega))
          have q0 := hc 0 (by omega)
          have q1 := hc 1 (by omega)
          have q2 := hc 2 (by omega)
          have q3 := hc 3 (by omega)
          have q4 := hc 4 (by omega)
          have q5 := hc 5 (by omega)
          have q6 := hc 6 (by omega)
          have q7 := hc 7 (by omega)
          have q8 := hc 8 (by omega)
          have q9 := hc 9 (by omega)
          have q10 := hc 10 (by omega)
          have q11 := hc 11 (by omega)
          have q12 := hc 12 (by omega)
          clear hc R7
          generalize es2.getD k default = x at *
          simp only [List.getD_cons_zero, List.getD_cons_succ] at q0 q1 q2 q3 q4 q5 q6 q7 q8 q9 q10 q11 q12
          rw [Nat.add_zero] at q0
          go_upto_region 15 with fail
          have LA : Below wr.heap.size wr (wr.alloc (.cells x.cs'.toArray 37)) := (Below.refl _ wr).alloc (Nat.le_refl _) _
          have z1 : (wr.alloc (.cells x.cs'.toArray 37)).cell? ⟨wr.heap.size, 1, none⟩ = some (.int .i64 x.t) := by simp
          have LP8 := Lib.hid (LP7.out.trans (LA.mono LP7.out.size))
          have LZ8 := Lib.hid (LZ7.out.trans (LA.mono LZ7.out.size))
          clear q0 q1 q2 q3 q4 q5 q6 q7 q8 q9 q10 q11 q12 LA
          clear z1
          have hk1 : IntKind.i64.wrap ((k : Int) + 1) = (k : Int) + 1 := IntWalk.i64_in _ (by omega)
          go_wp2_with fail
          refine (term_any b _ (pts _) ((k : Int) + 1) _ (G5.out.below (Nat.le_refl _) LZ8.out).lb (G5.out.below (Nat.le_refl _) LZ8.out).ep O5.out).mono ?_
          rintro e w8 ⟨rfl, hb⟩
          rw [t5.out]
          have z8 := (hb.cell (p := ⟨wr.heap.size, 1, none⟩) (by simp)).trans (show _ = some (Value.int .i64 x.t) by simp)
          have LP9 := Lib.hid (LP8.out.trans (hb.mono LP8.out.size))
          have LZ9 := Lib.hid (LZ8.out.trans (hb.mono LZ8.out.size))
          clear hb LP8 LZ8
          dsimp only
          go_wp2_with fail
          refine (term_any b' _ (pts _) ((k : Int) + 1) _ (G6.out.below (Nat.le_refl _) LZ9.out).lb (G6.out.below (Nat.le_refl _) LZ9.out).ep O6.out).mono ?_
          rintro e w9 ⟨rfl, hb⟩
          rw [t6.out]
          have z9 := (hb.cell (cell_block_lt z8)).trans z8
          have LP10 := Lib.hid (LP9.out.trans (hb.mono LP9.out.size))
          have LZ10 := Lib.hid (LZ9.out.trans (hb.mono LZ9.out.size))
          have et : (x.t != x.t) = false := by simp
          clear hb LP9 LZ9 z8
          dsimp only
          go_wp2_with fail
          go_roundw
          case rel => exact ⟨k + 1, by omega, by go_num, LP10.out, LZ10.out⟩
          case measure => simp [intOf]; omega
        · go_wp2_with fail
          refine (lives_any _).mono ?_
          rintro e wl ⟨rfl, hb⟩
          have LL := Lib.hid (LP7.out.trans (hb.mono LP7.out.size))
          clear hb
          go_wp2_with fail
          go_ret
          exact ⟨rfl, LL.out⟩

theorem lifted (os : Os) (started : os.Started) (H : Type) (enc : TypeId × Value → H) :
    ReturnsInHanded {} Try.checked os 3 .any (Rows.rlogMatchesSpec.pre6 enc Try.prog Try.f3 Rows.rlogMatchesRow.domain false) (Rows.rlogMatchesSpec.post enc Try.prog Try.f3 false true false false) := by
  refine returnsInHanded_of_change_sized (C := Try.checked) own started (by kernel_rfl) Try.func3
    (ChangeSpec.witness6 (enc := enc) (C := Try.checked) false ⟨#[], #[.agg #[.int .i64 0, .int .i64 0, .slice none 0 0], .agg #[.int .i64 0, .int .i64 0, .slice none 0 0], .slice none 0 0], []⟩ 8 (by kernel_rfl) (by kernel_rfl) (by kernel_rfl) (by kernel_rfl)) ?_
  intro W base args ds gs before hval0 hW hcnd hsz0 _
  have hsz : (DataW.weightsEach Try.prog (Try.f3.params.toList ++ Rows.rlogMatchesSpec.plain.varTypes Try.prog) (ds ++ gs)).all (· ≤ reachBytes) = true := hsz0
  clear hsz0
  have hval : ∀ (j : Nat) t v, Try.f3.params[j]? = some t → args[j]? = some v → Value.okWide Try.prog W .any base t v := hval0
  have hW' := hW
  obtain ⟨p, q, hA0, hV, rfl, hfz, hnd⟩ := hW
  have hA : DataW.TrodAll enc Try.prog W 0 (fun _ => true) true Try.f3.params.toList args.toList ds p := hA0
  rw [Try.params3] at hA hval hsz
  obtain ⟨v0, vs0, d0, ds0, p0, q0, hargs, rfl, rfl, h0, r0⟩ := trodAll_cons hA
  obtain ⟨v1, vs1, d1, ds1, p1, q1, rfl, rfl, rfl, h1, r1⟩ := trodAll_cons r0
  obtain ⟨v2, vs2, d2, ds2, p2, q2, rfl, rfl, rfl, h2, r2⟩ := trodAll_cons r1
  obtain ⟨rfl, rfl, rfl⟩ := trodAll_nil r2
  obtain rfl : args = #[v0, v1, v2] := by cases args; simp_all
  obtain ⟨rfl, rfl⟩ := trodVars_none hV
  have hfit := fun q hq => of_decide_eq_true (List.all_eq_true.1 hsz q hq)
  clear hsz
  have k0 := h0
  have lt0 : ∀ x ∈ p0, x.block < W.heap.size := by obtain ⟨m, hm⟩ := k0; exact DataW.trod_lt m _ _ _ hm
  obtain ⟨F0, hfit⟩ := fit_cons hfit
  obtain ⟨a0, g0, s0, n0, c0, es0, rfl, er0, ek0, en0⟩ := open_begin (hval 0 24 v0 rfl rfl) h0 F0
  have k1 := h1
  have lt1 : ∀ x ∈ p1, x.block < W.heap.size := by obtain ⟨m, hm⟩ := k1; exact DataW.trod_lt m _ _ _ hm
  obtain ⟨F1, hfit⟩ := fit_cons hfit
  obtain ⟨a1, g1, s1, n1, c1, es1, rfl, er1, ek1, en1⟩ := open_begin (hval 1 24 v1 rfl rfl) h1 F1
  have k2 := h2
  have lt2 : ∀ x ∈ p2, x.block < W.heap.size := by obtain ⟨m, hm⟩ := k2; exact DataW.trod_lt m _ _ _ hm
  obtain ⟨F2, hfit⟩ := fit_cons hfit
  obtain ⟨s2, n2, c2, es2, rfl, er2, ek2, en2⟩ := open_es (hval 2 22 v2 rfl rfl) h2 F2
  clear hA0 hval0
  try simp only [List.append_nil] at hW'
  refine (walk W a0 g0 s0 n0 c0 es0 er0 ek0 en0 a1 g1 s1 n1 c1 es1 er1 ek1 en1 s2 n2 c2 es2 er2 ek2 en2).mono fun e W' ⟨he, hg⟩ => ?_
  subst he
  exact ⟨_, rfl, _, _, _, [], _, [], hW', (trodAll_cons_mk (shut_bool Try.underlying4 _) trodAll_mk0), (trodAll_cons_mk (Below.trod laidOut (by kernel_rfl) (of_decide_eq_true (by kernel_rfl)) k0 hg lt0) (trodAll_cons_mk (Below.trod laidOut (by kernel_rfl) (of_decide_eq_true (by kernel_rfl)) k1 hg lt1) (trodAll_cons_mk (Below.trod laidOut (by kernel_rfl) (of_decide_eq_true (by kernel_rfl)) k2 hg lt2) trodAll_mk0))), rfl, hg.frame _, fun h => by cases h⟩

theorem over : Rows.rlogMatchesRow.holds Try.pinned (OpenSpec.ofChange Rows.rlogMatchesSpec) :=
  OpenClaim.holds_of_wide 3 Try.f3 rfl rfl rfl rfl rfl rfl rfl ⟨rfl, rfl, rfl, rfl, rfl⟩ rfl rfl rfl rfl rfl (by kernel_rfl) Try.func3 (by kernel_rfl)
    (of_decide_eq_true (by kernel_rfl)) (by unfold Func.isWrapper; first | (rw [if_pos (by decide +kernel)]; kernel_rfl) | (rw [if_neg (by decide +kernel)]; exact ⟨rfl, rfl⟩))
    (fun os started H enc _ => lifted os started H enc)

/-- ████ THE STATEMENT ████ -/
theorem proved : Rows.RlogMatchesSaid :=
  over
#print axioms proved
end Go.Proofs.Ytbgfpmnicpmieaa.rlogMatches
