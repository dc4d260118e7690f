/- The law 'QueueWaits' answers true at every input, and leaves its arguments as they were. (The frame was written by a program, after the kit's own frames; no condition beside the statement's own.) -/
import Derived.Test.YtbjhpifllgoffaaRows
import Derived.WalkKit
import Derived.ProofKit
import Derived.OpenShut
import Derived.Deep.RegionHeld3
import Derived.Deep.DeepCutAuto
import Derived.ShutString
import Derived.ChangeOld
import Derived.Below
import Derived.SizedLaws
import Derived.Test.YtbjhpifllgoffaaWaitS
namespace Go.Proofs.Ytbjhpifllgoffaa.queueWaits
open Go.ChangeShapes Go.WideShapes Go.ChangeAt Go.RowKit Go.Proofs.Ytbjhpifllgoffaa
open Go.ChangeMaps (open_string shut_string)
set_option linter.unusedVariables false
set_option linter.unusedSimpArgs false
set_option maxRecDepth 100000

theorem own : ownKnob Try.prog.godebug = none := by kernel_rfl
theorem laidOut : laidOutB Try.prog = true := by kernel_rfl

set_option maxHeartbeats 4000000 in
theorem walk (w : World) (s0 : Option Addr) (n0 c0 : Nat) (z0 : List Int) (t0 : Option Addr) (m0 e0 : Nat) (y0 : List Int) (r0 : IsRow w s0 n0 c0 z0) (q0 : IsRow w t0 m0 e0 y0) (b0 : n0 ≤ 17592186044416 ∧ m0 ≤ 17592186044416) (s1 : Option Addr) (n1 c1 : Nat) (z1 : List Int) (r1 : IsRow w s1 n1 c1 z1) (s2 : Option Addr) (n2 c2 : Nat) (z2 : List Int) (r2 : IsRow w s2 n2 c2 z2) :
    Calls Try.prog 4 #[.agg #[.slice s0 n0 c0, .slice t0 m0 e0], .slice s1 n1 c1, .slice s2 n2 c2] w fun e w' => e = .returned (.bool true) ∧ Below w.heap.size w w' := by
  have RV0 := Lib.hid r0.rd
  have RV1 := Lib.hid r1.rd
  have RV2 := Lib.hid r2.rd
  have HWF0 : Hid (∀ x ∈ z0, (Lit.int .i64 x).wf = true) := wf_row r0
  have HC0 : Hid (n0 ≤ c0) := cap_row r0
  obtain ⟨hb1, hb2⟩ := b0
  clear r0 r1 r2 q0
  by_cases g1 : n0 = 0
  · have d1 : ((n0 : Int) == 0) = true := by rw [g1]; rfl
    have d1n : decide (n0 = 0) = true := decide_eq_true g1
    go_enter Try.func4, Try.ntmps4
    go_wp2_with fail
    refine (lives_any _).mono ?_
    rintro e w2 ⟨rfl, hB⟩
    have HL : Hid (Below w.heap.size w w2) := (((Below.refl _ w).alloc (Nat.le_refl _) _).trans (hB.mono (B' := w.heap.size) (by simp)))
    clear hB
    go_wp2_with fail
    go_ret
    exact ⟨rfl, HL.out⟩
  have d1 : ((n0 : Int) == 0) = false := by rw [beq_eq_false_iff_ne]; omega
  have d1n : decide (n0 = 0) = false := decide_eq_false g1
  by_cases g2 : 20 < n0 + m0
  · have d2 : decide ((20 : Int) < (n0 : Int) + (m0 : Int)) = true := decide_eq_true (by omega)
    go_enter Try.func4, Try.ntmps4
    go_wp2_with fail
    refine (lives_any _).mono ?_
    rintro e w2 ⟨rfl, hB⟩
    have HL : Hid (Below w.heap.size w w2) := (((Below.refl _ w).alloc (Nat.le_refl _) _).trans (hB.mono (B' := w.heap.size) (by simp)))
    clear hB
    go_wp2_with fail
    go_ret
    exact ⟨rfl, HL.out⟩
  have d2 : decide ((20 : Int) < (n0 : Int) + (m0 : Int)) = false := decide_eq_false (by omega)
  by_cases g3 : 60 < n1
  · have d3 : decide ((60 : Int) < (n1 : Int)) = true := decide_eq_true (by omega)
    go_enter Try.func4, Try.ntmps4
    go_wp2_with fail
    refine (lives_any _).mono ?_
    rintro e w2 ⟨rfl, hB⟩
    have HL : Hid (Below w.heap.size w w2) := (((Below.refl _ w).alloc (Nat.le_refl _) _).trans (hB.mono (B' := w.heap.size) (by simp)))
    clear hB
    go_wp2_with fail
    go_ret
    exact ⟨rfl, HL.out⟩
  have d3 : decide ((60 : Int) < (n1 : Int)) = false := decide_eq_false (by omega)
  by_cases g4 : 60 < n2
  · have d4 : decide ((60 : Int) < (n2 : Int)) = true := decide_eq_true (by omega)
    go_enter Try.func4, Try.ntmps4
    go_wp2_with fail
    refine (lives_any _).mono ?_
    rintro e w2 ⟨rfl, hB⟩
    have HL : Hid (Below w.heap.size w w2) := (((Below.refl _ w).alloc (Nat.le_refl _) _).trans (hB.mono (B' := w.heap.size) (by simp)))
    clear hB
    go_wp2_with fail
    go_ret
    exact ⟨rfl, HL.out⟩
  have d4 : decide ((60 : Int) < (n2 : Int)) = false := decide_eq_false (by omega)
  obtain ⟨s, hs⟩ : ∃ s, s = w.heap.size := ⟨_, rfl⟩
  have HS := Lib.hid hs
  clear hs
  obtain ⟨i0, hi, hz0, hz1, hz2⟩ := info_parts Try.info3
  have hn0 : n0 ≤ 20 := by omega
  have hm0 : m0 ≤ 20 := by omega
  have hn1 : n1 ≤ 60 := by omega
  have hn2 : n2 ≤ 60 := by omega
  clear g2 g3 g4 hb1 hb2
  go_enter Try.func4, Try.ntmps4
  go_wp2_with fail
  refine (rnew_at _).mono ?_
  rintro e w1 ⟨p, hp, rfl, hR, hB⟩
  have START : Hid (WS w s #[.slice s0 n0 c0, .slice t0 m0 e0] w1 p 0 (fun _ => none) [] (.slice none 0 0) [] (.slice none 0 0) []) := ws_start HS.out hp hR hB
  obtain ⟨b, hpb⟩ : ∃ b, p.b = b := ⟨_, rfl⟩
  rw [hpb, ← HS.out]
  have HPB := Lib.hid hpb
  clear hpb hp hR hB
  go_wp2_with fail
  go_loopw [8, 9, 10, 11, 56] (fun wsv _ _ _ iv wr => ∃ (i : Nat) (ws : List Int) (wv : Value) (p : RP) (L : List Wt), i ≤ n1 ∧ iv = .int .i64 i ∧ wsv = wv ∧ ws.length = i ∧ Lw L ws ∧ p.b = b ∧ WS w s #[.slice s0 n0 c0, .slice t0 m0 e0] wr p 0 (fun _ => none) L wv ws (.slice none 0 0) []) (fun _ _ _ _ iv _ => n1 - (intOf iv).toNat)
  case atStart => exact ⟨0, [], _, p, [], Nat.zero_le _, rfl, rfl, rfl, Lw.nil, HPB.out, START.out⟩
  case round =>
    clear START HPB
    obtain ⟨i, ws, wv, p, L, hin, rfl, hwe, hwl, hLw, hpb, hWS⟩ := hrel
    have hwe2 := hwe.symm
    clear hwe
    subst hwe2
    have HWS := Lib.hid hWS
    have HLW := Lib.hid hLw
    have HPB := Lib.hid hpb
    have HR1 : Hid (Rd wr s1 n1 (z1.take n1)) := RV1.out.keep (by rw [← HS.out]; exact Nat.le_refl _) hWS.2.2.2.2.2.1
    clear hWS hLw hpb
    by_cases hlt : i < n1
    · have e1 : decide ((i : Int) < (n1 : Int)) = true := decide_eq_true (by omega)
      have e1' : decide (i < n1) = true := decide_eq_true hlt
      obtain ⟨gb, go, rfl, hcell⟩ := HR1.out.at hlt
      generalize (z1.take n1).getD i 0 = y at *
      have hw100 : IntKind.i64.wrap (100 + (i : Int)) = 100 + i := IntWalk.i64_in _ (by omega)
      have HWL := Lib.hid hwl
      obtain ⟨k, hkk, hy16⟩ : ∃ k, bits .and .i64 y 15 = k ∧ 0 ≤ k ∧ k ≤ 15 := ⟨_, rfl, by rw [i64_and15]; omega⟩
      rcases i with _ | i
      · obtain rfl : ws = [] := List.eq_nil_of_length_eq_zero hwl
        clear hwl
        rw [Nat.add_zero] at hcell
        obtain ⟨la, lc, hwv⟩ := HWS.out.2.1.slice
        simp only [List.length_nil] at hwv
        subst hwv
        have HK15 : Hid (0 ≤ k ∧ k ≤ 15) := hy16
        have HLL : Hid (L.length = 0) := HLW.out.1.trans HWL.out
        have HADD : Hid (addB L k = true) := HLW.out.add (by have := HLL.out; omega) (fun x hx => by cases hx)
        have CA := add_at p (s + 1) 0 (fun _ => none) L (0 : Nat) (100 + ((0 : Nat) : Int)) k wr HWS.out.1 (by have := HLL.out; omega)
        rw [HPB.out, HADD.out, if_pos rfl] at CA
        have HCA := Lib.hid CA
        clear CA
        go_wp2_with fail
        refine HCA.out.mono ?_
        rintro e w2 ⟨rfl, hact⟩
        obtain ⟨q, hqb, hWS2⟩ := HWS.out.acted hact
        have HWS2 := Lib.hid hWS2
        have HQB : Hid (q.b = b) := hqb.trans HPB.out
        have HWIN : Hid (Win w2 (s + 1) 3 1 (.slice la 0 lc) 0 (([] : List Int).map (Value.int .i64))) := by
          show Win _ _ _ _ _ _ _
          have := hWS2.2.1
          rwa [HWL.out] at this
        have HLW2 : Hid (Lw (L ++ [(((0 : Nat) : Int), 100 + ((0 : Nat) : Int), k)]) (([] : List Int) ++ [k])) := by
          show Lw _ _
          have := HLW.out.snoc HK15.out
          rwa [HLL.out] at this
        have hsl := hWS2.slt
        have KEY : Hid (∀ v' w3, Win w3 (s + 1) 3 1 v' (0 + 1) (([] : List Int).map (Value.int .i64) ++ [.int .i64 k]) → (w2.alloc (.cells #[.int .i64 k] 3)).grownBy w3 (Value.slice la 0 lc).ownBlock → (v'.ownBlock = (Value.slice la 0 lc).ownBlock ∨ v'.ownBlock = some (w2.alloc (.cells #[.int .i64 k] 3)).heap.size) →
            WS w s #[.slice s0 n0 c0, .slice t0 m0 e0] w3 q 0 (fun _ => none) (L ++ [(((0 : Nat) : Int), 100 + ((0 : Nat) : Int), k)]) v' (([] : List Int) ++ [k]) (.slice none 0 0) []) := by
          show ∀ v' w3, _
          intro v' w3 hw hg ho
          exact hWS2.waits (by rw [HWL.out]; exact hw) hg ho
        clear hact hqb hWS2
        go_wp2_with (at_builtin; refine wpList_append_win _ rfl _ _ 22 rfl (s + 1) 3 i0 (.int .i64 0) 1 8 Try.underlying22 hi hz0 hz1 hz2 rfl (by decide) (.slice la 0 lc) 0 (([] : List Int).map (Value.int .i64)) rfl (HWIN.out.alloc _) ⟨w2.heap.size, 0, none⟩ 1 1 [.int .i64 k] Nat.one_pos rfl rfl (cell_one_new _ _ _) (by simp [Value.oneCell']) (by simp only [maxLen]; omega) (by omega) (by simp; omega) ?_; intro v' w3 hw3 hg3 ho3; have K1 := Lib.hid (KEY.out v' w3 hw3 hg3 ho3); obtain ⟨la3, lc3, rfl⟩ := hw3.slice; clear hw3 hg3 ho3)
        go_roundw
        case rel => exact ⟨0 + 1, ([] : List Int) ++ [k], _, q, _, by omega, by go_num, rfl, by simp [HWL.out], HLW2.out, HQB.out, K1.out⟩
        case measure => simp [intOf]; omega
      · clear hwl
        obtain ⟨x, hx⟩ : ∃ x, ws.getD i 0 = x := ⟨_, rfl⟩
        obtain ⟨g, off, cap, hwv, hbg, hnc, hc⟩ := HWS.out.2.1.cell (by rw [HWL.out]; omega)
        have hc0 := hc i (.int .i64 x) (by rw [List.getElem?_map, ← hx, List.getD_eq_getElem?_getD, List.getElem?_eq_getElem (by rw [HWL.out]; omega)]; rfl)
        rw [HWL.out] at hwv
        subst hwv
        have HLAST : Hid (ws.getLast? = some x) := by
          show _ = _
          rw [List.getLast?_eq_getElem?, HWL.out, Nat.add_sub_cancel, ← hx, List.getD_eq_getElem?_getD, List.getElem?_eq_getElem (by rw [HWL.out]; omega)]; rfl
        have hx16 : 0 ≤ x ∧ x ≤ 15 := HLW.out.2.2 x (List.mem_of_getLast? HLAST.out)
        clear hx hc
        have j2 : ((i + 1 : Nat) : Int) - 1 = i := by omega
        have j3 : (0 : Int) < ((i + 1 : Nat) : Int) := by omega
        have j4 : IntKind.i64.wrap (i : Int) = i := IntWalk.i64_in _ (by omega)
        obtain ⟨la, hla⟩ : ∃ la : Option Addr, la = some ⟨g, off, none⟩ := ⟨_, rfl⟩
        obtain ⟨lc, hlc⟩ : ∃ lc : Nat, lc = cap := ⟨_, rfl⟩
        subst hla hlc
        by_cases hkx : k < x
        · have j5 : decide (k < x) = true := decide_eq_true hkx
          have HK15 : Hid (0 ≤ x ∧ x ≤ 15) := hx16
          have HLL : Hid (L.length = (i + 1)) := HLW.out.1.trans HWL.out
          have HADD : Hid (addB L x = true) := HLW.out.add (by have := HLL.out; omega) (fun z hz => by rw [HLAST.out] at hz; injection hz with hz; omega)
          have CA := add_at p (s + 1) 0 (fun _ => none) L ((i + 1) : Nat) (100 + (((i + 1) : Nat) : Int)) x wr HWS.out.1 (by have := HLL.out; omega)
          rw [HPB.out, HADD.out, if_pos rfl] at CA
          have HCA := Lib.hid CA
          clear CA
          go_wp2_with fail
          refine HCA.out.mono ?_
          rintro e w2 ⟨rfl, hact⟩
          obtain ⟨q, hqb, hWS2⟩ := HWS.out.acted hact
          have HWS2 := Lib.hid hWS2
          have HQB : Hid (q.b = b) := hqb.trans HPB.out
          have HWIN : Hid (Win w2 (s + 1) 3 1 (.slice (some ⟨g, off, none⟩) (i + 1) lc) (i + 1) (ws.map (Value.int .i64))) := by
            show Win _ _ _ _ _ _ _
            have := hWS2.2.1
            rwa [HWL.out] at this
          have HLW2 : Hid (Lw (L ++ [((((i + 1) : Nat) : Int), 100 + (((i + 1) : Nat) : Int), x)]) (ws ++ [x])) := by
            show Lw _ _
            have := HLW.out.snoc HK15.out
            rwa [HLL.out] at this
          have hsl := hWS2.slt
          have KEY : Hid (∀ v' w3, Win w3 (s + 1) 3 1 v' ((i + 1) + 1) (ws.map (Value.int .i64) ++ [.int .i64 x]) → (w2.alloc (.cells #[.int .i64 x] 3)).grownBy w3 (Value.slice (some ⟨g, off, none⟩) (i + 1) lc).ownBlock → (v'.ownBlock = (Value.slice (some ⟨g, off, none⟩) (i + 1) lc).ownBlock ∨ v'.ownBlock = some (w2.alloc (.cells #[.int .i64 x] 3)).heap.size) →
              WS w s #[.slice s0 n0 c0, .slice t0 m0 e0] w3 q 0 (fun _ => none) (L ++ [((((i + 1) : Nat) : Int), 100 + (((i + 1) : Nat) : Int), x)]) v' (ws ++ [x]) (.slice none 0 0) []) := by
            show ∀ v' w3, _
            intro v' w3 hw hg ho
            exact hWS2.waits (by rw [HWL.out]; exact hw) hg ho
          clear hact hqb hWS2
          go_wp2_with (at_builtin; refine wpList_append_win _ rfl _ _ 22 rfl (s + 1) 3 i0 (.int .i64 0) 1 8 Try.underlying22 hi hz0 hz1 hz2 rfl (by decide) (.slice (some ⟨g, off, none⟩) (i + 1) lc) (i + 1) (ws.map (Value.int .i64)) rfl (HWIN.out.alloc _) ⟨w2.heap.size, 0, none⟩ 1 1 [.int .i64 x] Nat.one_pos rfl rfl (cell_one_new _ _ _) (by simp [Value.oneCell']) (by simp only [maxLen]; omega) (by omega) (by simp; omega) ?_; intro v' w3 hw3 hg3 ho3; have K1 := Lib.hid (KEY.out v' w3 hw3 hg3 ho3); obtain ⟨la3, lc3, rfl⟩ := hw3.slice; clear hw3 hg3 ho3)
          go_roundw
          case rel => exact ⟨(i + 1) + 1, ws ++ [x], _, q, _, by omega, by go_num, rfl, by simp [HWL.out], HLW2.out, HQB.out, K1.out⟩
          case measure => simp [intOf]; omega
        · have j5 : decide (k < x) = false := decide_eq_false hkx
          have HK15 : Hid (0 ≤ k ∧ k ≤ 15) := hy16
          have HLL : Hid (L.length = (i + 1)) := HLW.out.1.trans HWL.out
          have HADD : Hid (addB L k = true) := HLW.out.add (by have := HLL.out; omega) (fun z hz => by rw [HLAST.out] at hz; injection hz with hz; omega)
          have CA := add_at p (s + 1) 0 (fun _ => none) L ((i + 1) : Nat) (100 + (((i + 1) : Nat) : Int)) k wr HWS.out.1 (by have := HLL.out; omega)
          rw [HPB.out, HADD.out, if_pos rfl] at CA
          have HCA := Lib.hid CA
          clear CA
          go_wp2_with fail
          refine HCA.out.mono ?_
          rintro e w2 ⟨rfl, hact⟩
          obtain ⟨q, hqb, hWS2⟩ := HWS.out.acted hact
          have HWS2 := Lib.hid hWS2
          have HQB : Hid (q.b = b) := hqb.trans HPB.out
          have HWIN : Hid (Win w2 (s + 1) 3 1 (.slice (some ⟨g, off, none⟩) (i + 1) lc) (i + 1) (ws.map (Value.int .i64))) := by
            show Win _ _ _ _ _ _ _
            have := hWS2.2.1
            rwa [HWL.out] at this
          have HLW2 : Hid (Lw (L ++ [((((i + 1) : Nat) : Int), 100 + (((i + 1) : Nat) : Int), k)]) (ws ++ [k])) := by
            show Lw _ _
            have := HLW.out.snoc HK15.out
            rwa [HLL.out] at this
          have hsl := hWS2.slt
          have KEY : Hid (∀ v' w3, Win w3 (s + 1) 3 1 v' ((i + 1) + 1) (ws.map (Value.int .i64) ++ [.int .i64 k]) → (w2.alloc (.cells #[.int .i64 k] 3)).grownBy w3 (Value.slice (some ⟨g, off, none⟩) (i + 1) lc).ownBlock → (v'.ownBlock = (Value.slice (some ⟨g, off, none⟩) (i + 1) lc).ownBlock ∨ v'.ownBlock = some (w2.alloc (.cells #[.int .i64 k] 3)).heap.size) →
              WS w s #[.slice s0 n0 c0, .slice t0 m0 e0] w3 q 0 (fun _ => none) (L ++ [((((i + 1) : Nat) : Int), 100 + (((i + 1) : Nat) : Int), k)]) v' (ws ++ [k]) (.slice none 0 0) []) := by
            show ∀ v' w3, _
            intro v' w3 hw hg ho
            exact hWS2.waits (by rw [HWL.out]; exact hw) hg ho
          clear hact hqb hWS2
          go_wp2_with (at_builtin; refine wpList_append_win _ rfl _ _ 22 rfl (s + 1) 3 i0 (.int .i64 0) 1 8 Try.underlying22 hi hz0 hz1 hz2 rfl (by decide) (.slice (some ⟨g, off, none⟩) (i + 1) lc) (i + 1) (ws.map (Value.int .i64)) rfl (HWIN.out.alloc _) ⟨w2.heap.size, 0, none⟩ 1 1 [.int .i64 k] Nat.one_pos rfl rfl (cell_one_new _ _ _) (by simp [Value.oneCell']) (by simp only [maxLen]; omega) (by omega) (by simp; omega) ?_; intro v' w3 hw3 hg3 ho3; have K1 := Lib.hid (KEY.out v' w3 hw3 hg3 ho3); obtain ⟨la3, lc3, rfl⟩ := hw3.slice; clear hw3 hg3 ho3)
          go_roundw
          case rel => exact ⟨(i + 1) + 1, ws ++ [k], _, q, _, by omega, by go_num, rfl, by simp [HWL.out], HLW2.out, HQB.out, K1.out⟩
          case measure => simp [intOf]; omega
    · have e1 : decide ((i : Int) < (n1 : Int)) = false := decide_eq_false (by omega)
      have e1' : decide (i < n1) = false := decide_eq_false hlt
      have HWN : Hid (ws.length = n1) := by
        show _ = _
        omega
      have HLN : Hid (L.length = n1) := HLW.out.1.trans HWN.out
      have hLn : L.length ≤ 60 := by rw [HLN.out]; exact hn1
      clear hwl
      go_wp2_with fail
      go_loopw [12, 13, 15, 16, 17, 96] (fun nv hvv _ _ _ iv wq => ∃ (j nx : Nat) (H : List (Int × Int)) (hv : Value) (p : RP), j ≤ n2 ∧ iv = .int .i64 j ∧ nv = .int .i64 nx ∧ hvv = hv ∧ H.length = j ∧ nx ≤ L.length ∧ p.b = b ∧ WS w s #[.slice s0 n0 c0, .slice t0 m0 e0] wq p j (heardOf H) (L.drop nx) wv ws hv H) (fun _ _ _ _ _ iv _ => n2 - (intOf iv).toNat)
      case atStart => exact ⟨0, 0, [], _, p, Nat.zero_le _, rfl, rfl, rfl, rfl, Nat.zero_le _, HPB.out, HWS.out⟩
      case round =>
        clear HWS HPB HR1 p
        obtain ⟨j, nx, H, hv, p, hjn, rfl, rfl, hwe, hHl, hnx, hpb, hWS⟩ := hrel
        have hwe2 := hwe.symm
        clear hwe
        subst hwe2
        have HWS := Lib.hid hWS
        have HPB := Lib.hid hpb
        have HHL := Lib.hid hHl
        have HR2 : Hid (Rd wr s2 n2 (z2.take n2)) := RV2.out.keep (by rw [← HS.out]; exact Nat.le_refl _) hWS.2.2.2.2.2.1
        clear hWS hpb hHl
        by_cases hlt2 : j < n2
        · have e2 : decide ((j : Int) < (n2 : Int)) = true := decide_eq_true (by omega)
          have e2' : decide (j < n2) = true := decide_eq_true hlt2
          obtain ⟨gb, go, rfl, hcell⟩ := HR2.out.at hlt2
          generalize (z2.take n2).getD j 0 = y at *
          obtain ⟨f, hff, hf7⟩ : ∃ k, bits .and .i64 y 7 = k ∧ 0 ≤ k ∧ k ≤ 7 := ⟨_, rfl, by rw [i64_and7]; omega⟩
          obtain ⟨kk, hkk, hk15⟩ : ∃ k, bits .and .i64 (y / 8) 15 = k ∧ 0 ≤ k ∧ k ≤ 15 := ⟨_, rfl, by rw [i64_and15]; omega⟩
          have CA := said_at p (s + 1) j (heardOf H) (L.drop nx) f kk wr HWS.out.1 (by omega) (WalkArith.wf_i64 (by omega)) (WalkArith.wf_i64 (by omega))
          rw [HPB.out, ← heardOf_snoc H (f, kk)] at CA
          have HCA := Lib.hid CA
          clear CA
          go_wp2_with fail
          refine HCA.out.mono ?_
          rintro e w2 ⟨rfl, hact⟩
          obtain ⟨q, hqb, hWS2⟩ := HWS.out.acted hact
          have HWS2 := Lib.hid hWS2
          have HQB : Hid (q.b = b) := hqb.trans HPB.out
          have hsl := hWS2.slt
          obtain ⟨la, lc, hhv⟩ := hWS2.2.2.1.slice
          rw [HHL.out] at hhv
          subst hhv
          have HWIN : Hid (Win w2 (s + 1) 3 1 (.slice la (2 * j) lc) (2 * j) (hcs H)) := by
            show Win _ _ _ _ _ _ _
            have := hWS2.2.2.1
            rwa [HHL.out] at this
          obtain ⟨H2, hH2⟩ : ∃ H2, H2 = H ++ [(f, kk)] := ⟨_, rfl⟩
          have HH2 := Lib.hid hH2
          have HL2 : Hid (H2.length = j + 1) := by
            show _ = _
            rw [hH2]; simp [HHL.out]
          have KEY : Hid (∀ v' w3, Win w3 (s + 1) 3 1 v' (2 * j + 2) (hcs H ++ [.int .i64 f, .int .i64 kk]) → (w2.alloc (.cells #[.int .i64 f, .int .i64 kk] 3)).grownBy w3 (Value.slice la (2 * j) lc).ownBlock → (v'.ownBlock = (Value.slice la (2 * j) lc).ownBlock ∨ v'.ownBlock = some (w2.alloc (.cells #[.int .i64 f, .int .i64 kk] 3)).heap.size) →
              WS w s #[.slice s0 n0 c0, .slice t0 m0 e0] w3 q (j + 1) (heardOf H2) (L.drop nx) wv ws v' H2) := by
            show ∀ v' w3, _
            intro v' w3 hw hg ho
            rw [hH2]
            exact hWS2.heards (x := (f, kk)) (by rw [HHL.out]; exact hw) hg ho
          clear hact hqb hWS2 hH2
          go_wp2_with (at_builtin; refine wpList_append_win _ rfl _ _ 22 rfl (s + 1) 3 i0 (.int .i64 0) 1 8 Try.underlying22 hi hz0 hz1 hz2 rfl (by decide) (.slice la (2 * j) lc) (2 * j) (hcs H) rfl (HWIN.out.alloc _) ⟨w2.heap.size, 0, none⟩ 2 2 [.int .i64 f, .int .i64 kk] (by decide) rfl rfl (new2 _ _ _ _) (by simp [Value.oneCell']) (by simp only [maxLen]; omega) (by omega) (by simp; omega) ?_; intro v' w3 hw3 hg3 ho3; have K1 := Lib.hid (KEY.out v' w3 hw3 hg3 ho3); have hc9 := K1.out.2.2.2.2.2.2; have k0 : w3.cell? ⟨s, 0, none⟩ = some (.slice s0 n0 c0) := by { simp [World.cell?, hc9] }; have k1 : w3.cell? ⟨s, 1, none⟩ = some (.slice t0 m0 e0) := by { simp [World.cell?, hc9] }; clear hc9; obtain ⟨hg, hoff, hcap, rfl, hhb, hhn, hhc⟩ := hw3.cell (by omega); clear hw3 hg3 ho3 hhb hhn hhc)
          have HV0 : Hid (Rd w3 s0 n0 (z0.take n0)) := RV0.out.keep (by rw [← HS.out]; exact Nat.le_refl _) K1.out.2.2.2.2.2.1
          have CR := (ready_any q (s + 1) (j + 1) (heardOf H2) (L.drop nx) s0 n0 c0 (z0.take n0) (.slice t0 m0 e0) 1 w3 K1.out.1 (by omega) (by rw [List.length_drop]; omega) HV0.out (by omega) ⟨_, _, _, rfl⟩).mono fun e w' h => RActed.of_ready h
          rw [HQB.out] at CR
          have HCR := Lib.hid CR
          clear CR
          refine HCR.out.mono ?_
          rintro e w4 ⟨v, rfl, hrow, hact⟩
          obtain ⟨q2, hqb2, hWS4⟩ := K1.out.acted hact
          have HQB2 : Hid (q2.b = b) := hqb2.trans HQB.out
          have HPL := rdyN_le (rdyF (z0.take n0) (heardOf H2) 1) (L.drop nx)
          have HGOOD : Hid (∀ u, u < rdyN (rdyF (z0.take n0) (heardOf H2) 1) (L.drop nx) → rdyF (z0.take n0) (heardOf H2) 1 (ws.getD (nx + u) 0) = true) := by
            show ∀ u, _
            intro u hu
            have h1 := rdyN_good hu
            have h2 : (L.drop nx).getD u (0, 0, 0) = L.getD (nx + u) (0, 0, 0) := by simp [List.getD_eq_getElem?_getD, List.getElem?_drop]
            have h3 := HLW.out.2.1 (nx + u) (by rw [List.length_drop] at HPL; omega)
            rw [h2, h3] at h1
            exact h1
          generalize rdyN (rdyF (z0.take n0) (heardOf H2) 1) (L.drop nx) = P at *
          rw [List.length_drop] at HPL
          rw [List.drop_drop] at hWS4
          have HWS4 := Lib.hid hWS4
          have HROW := Lib.hid hrow
          have HVC : Hid (∀ u, u < P → ∃ g cap, v = .slice (some ⟨g, 0, none⟩) P cap ∧ w4.cell? ⟨g, u * 2, none⟩ = some (.int .i64 (nx + u : Nat)) ∧ w4.cell? ⟨g, u * 2 + 1, none⟩ = some (.int .i64 (100 + ((nx + u : Nat) : Int)))) := by
            show ∀ u, _
            intro u hu
            obtain ⟨g, cap, h1, h2, h3⟩ := row2_at (l := (L.drop nx).take P) hrow (by rw [List.length_take, List.length_drop]; omega) hu
            have h4 : ((L.drop nx).take P).getD u (0, 0, 0) = L.getD (nx + u) (0, 0, 0) := by simp [List.getD_eq_getElem?_getD, List.getElem?_drop, List.getElem?_take_of_lt hu]
            rw [h4, HLW.out.2.1 (nx + u) (by omega)] at h2 h3
            exact ⟨g, cap, h1, h2, h3⟩
          obtain ⟨va, vc, rfl⟩ := own_sl hrow
          clear hrow hact hqb2 hWS4
          go_wp2_with fail
          go_loopw [12, 19, 20, 21, 118] (fun nv _ _ _ iv wq => ∃ (u z : Nat), u ≤ P ∧ iv = .int .i64 u ∧ nv = .int .i64 z ∧ z = nx + u ∧ Below w4.heap.size w4 wq) (fun _ _ _ _ iv _ => P - (intOf iv).toNat)
          case atStart => exact ⟨0, nx, Nat.zero_le _, rfl, rfl, rfl, Below.refl _ _⟩
          case round =>
            obtain ⟨u, z, hu, rfl, rfl, hz, hB4⟩ := hrel
            have HB4 := Lib.hid hB4
            have HZ := Lib.hid hz
            clear hB4 hz
            by_cases hlt3 : u < P
            · have e3 : decide ((u : Int) < (P : Int)) = true := decide_eq_true (by omega)
              have e3' : decide (u < P) = true := decide_eq_true hlt3
              obtain ⟨w6, hw6⟩ : ∃ w6, w6 = wr := ⟨_, rfl⟩
              subst hw6
              have HX := Lib.hid (HWS4.out.below HB4.out)
              obtain ⟨kc0, kc1⟩ := ws_conf HX.out
              have hzl : z < ws.length := by have := HZ.out; have := HLW.out.1; omega
              have hzn : z ≤ 60 := by have := HLW.out.1; omega
              obtain ⟨wb, woff, wcap, hwv, hwc⟩ := ws_wait HX.out hzl
              subst hwv
              obtain ⟨rd, hrd⟩ : ∃ rd, ws.getD z 0 = rd := ⟨_, rfl⟩
              have HM : Hid (majG (z0.take n0) (bI (accA H2 rd)) = true) := by
                show _ = _
                have h1 := HGOOD.out u hlt3
                rw [← HZ.out, hrd] at h1
                rw [maj_acc]; exact h1
              rw [hrd] at hwc
              have HRDD := Lib.hid hrd
              obtain ⟨vg, vcap, hve, hv0, hv1⟩ := HVC.out u hlt3
              injection hve with q1 q2' q3
              subst q1 q3
              have hv0' := (HB4.out.cell (cell_block_lt hv0)).trans hv0
              have hv1' := (HB4.out.cell (cell_block_lt hv1)).trans hv1
              rw [← HZ.out] at hv0' hv1'
              have hw100 : IntKind.i64.wrap (100 + (z : Int)) = 100 + z := IntWalk.i64_in _ (by omega)
              have HVR : Hid (Rd w6 s0 n0 (z0.take n0)) := RV0.out.keep (by rw [← HS.out]; exact Nat.le_refl _) HX.out.2.2.2.2.2.1
              have hsl4 : w4.heap.size ≤ w6.heap.size := HB4.out.size
              clear hv0 hv1 k0 k1 hrd hcell
              go_wp2_with fail
              have B5 : Hid (Below w6.heap.size w6 ((w6.alloc (.cells #[.int .i64 (z : Nat), .int .i64 (100 + ((z : Nat) : Int))] 41)).alloc (.cells #[.int .i64 1] 3))) := ((Below.refl _ w6).alloc (Nat.le_refl _) _).alloc (by simp) _
              have ROW5 : Hid (((w6.alloc (.cells #[.int .i64 (z : Nat), .int .i64 (100 + ((z : Nat) : Int))] 41)).alloc (.cells #[.int .i64 1] 3)).ownsRow w6.heap.size 3 1 (.slice (some ⟨w6.heap.size + 1, 0, none⟩) 1 1) (accA (H2.take 0) rd).length ((accA (H2.take 0) rd).map (Value.int .i64))) := by
                refine ⟨rfl, .inr ⟨w6.heap.size + 1, 1, #[.int .i64 1], rfl, by omega, ?_, Nat.le_refl _, by simp [maxLen], rfl, rfl⟩⟩
                have hz9 : (w6.alloc (.cells #[.int .i64 (z : Nat), .int .i64 (100 + ((z : Nat) : Int))] 41)).heap.size = w6.heap.size + 1 := by simp
                rw [← hz9]; exact heap_alloc_new _ _
              generalize (w6.alloc (.cells #[.int .i64 (z : Nat), .int .i64 (100 + ((z : Nat) : Int))] 41)).alloc (.cells #[.int .i64 1] 3) = W5 at *
              clear hv0' hv1' kc0 kc1
              go_loopw [20, 21] (fun lv jv wq => ∃ (gg g2 : Nat) (A : List Int) (lv' : Value), gg ≤ H2.length ∧ jv = .int .i64 g2 ∧ g2 = 2 * gg ∧ lv = lv' ∧ A = accA (H2.take gg) rd ∧ wq.ownsRow w6.heap.size 3 1 lv' A.length (A.map (Value.int .i64)) ∧ Below w6.heap.size w6 wq) (fun _ jv _ => H2.length * 2 - (intOf jv).toNat)
              case atStart => exact ⟨0, 0, _, _, Nat.zero_le _, rfl, rfl, rfl, rfl, ROW5.out, B5.out⟩
              case round =>
                obtain ⟨gg, g2, A, lv', hgg, rfl, hg2, hle, hA, hrw, hB9⟩ := hrel
                have hle2 := hle.symm
                clear hle
                subst hle2
                have HG2 := Lib.hid hg2
                have HA := Lib.hid hA
                have HRW := Lib.hid hrw
                have HB9 := Lib.hid hB9
                have HX9 := Lib.hid (HX.out.below hB9)
                have hwc9 := (hB9.cell (cell_block_lt hwc)).trans hwc
                obtain ⟨kc0, kc1⟩ := ws_conf HX9.out
                have hAl : A.length ≤ gg + 1 := by
                  rw [hA]
                  have := accA_len (H2.take gg) rd
                  rw [List.length_take] at this
                  omega
                have hsz9 := hB9.size
                have hH2l : H2.length ≤ 61 := by have := HL2.out; omega
                clear hg2 hA hrw hB9 hwc
                have HB22 : Hid (2 * j + 2 = 2 * H2.length) := by
                  show _ = _
                  have := HL2.out
                  omega
                by_cases hlt4 : gg < H2.length
                · obtain ⟨hb, hof, hae, hne, hc0, hc1⟩ := ws_heard HX9.out hlt4
                  obtain ⟨rfl, rfl⟩ : hg = hb ∧ hoff = hof := by simpa using hae
                  rw [← HG2.out] at hc0 hc1
                  have HTS := Lib.hid (accA_snoc (H2.take gg) (H2.getD gg (0, 0)) rd)
                  rw [← take_snoc2 H2 gg hlt4, ← HA.out] at HTS
                  have hg2l : g2 + 1 < 2 * j + 2 := by have := HG2.out; have := HB22.out; omega
                  have HIN : Hid (0 < 1) := Nat.one_pos
                  generalize H2.getD gg (0, 0) = pr at *
                  obtain ⟨pf, pk⟩ := pr
                  simp only at hc0 hc1 HTS
                  have s1 : IntKind.i64.wrap ((g2 : Int) + 1) = (g2 : Int) + 1 := IntWalk.i64_in _ (by omega)
                  have s2 : (0 : Int) ≤ (g2 : Int) + 1 := by omega
                  have s3 : ((g2 : Int) + 1).toNat = g2 + 1 := by omega
                  have s4 : ((g2 : Int) + 1) < 2 * (j : Int) + 2 := by omega
                  have s5 : decide ((g2 : Int) < 2 * (j : Int) + 2) = true := decide_eq_true (by omega)
                  have s6 : decide (g2 < 2 * j + 2) = true := decide_eq_true (by omega)
                  have s7 : (z : Int) < (ws.length : Int) := by omega
                  clear hne hae
                  obtain ⟨aa, ac, hlv⟩ := own_sl HRW.out
                  subst hlv
                  have h63 : A.length + 1 ≤ maxLen := by simp only [maxLen]; omega
                  have h64 : (A.length + 1) * 8 ≤ 140737488355328 := by omega
                  by_cases hrk : rd ≤ pk
                  · have s8 : decide (rd ≤ pk) = true := decide_eq_true hrk
                    rw [if_pos hrk] at HTS
                    have HD7 : Hid (∀ n, (wr.drewN n).ownsRow w6.heap.size 3 1 (.slice aa A.length ac) A.length (A.map (Value.int .i64))) := fun _ => HRW.out
                    have HB7 : Hid (∀ n, Below w6.heap.size w6 (wr.drewN n)) := fun n => below_drewN' HB9.out n
                    have HZ7 : Hid (∀ n, (wr.drewN n).heap.size = wr.heap.size) := fun n => rfl
                    go_wp2_with fail
                    go_quiet (fail)
                    have D7 := Lib.hid (HD7.out nq)
                    have B7 := Lib.hid (HB7.out nq)
                    have Z7 := Lib.hid (HZ7.out nq)
                    have c70 : (wr.drewN nq).cell? ⟨hg, hoff + g2, none⟩ = some (.int .i64 pf) := hc0
                    generalize wr.drewN nq = w7 at *
                    go_wp2_with (at_builtin; refine wpList_append_own _ rfl _ _ 22 rfl w6.heap.size 3 i0 (.int .i64 0) 1 8 Try.underlying22 hi hz0 hz1 hz2 rfl (by decide) (.slice aa A.length ac) A.length (A.map (Value.int .i64)) rfl (D7.out.alloc _) ⟨w7.heap.size, 0, none⟩ 1 1 [.int .i64 pf] rfl rfl (cell_one_new _ _ _) (by simp [Value.oneCell']) h63 h64 (by have := Z7.out; simp; omega) ?_; intro v' w8 hw8 hg8 _; have HR8 : Hid (w8.ownsRow w6.heap.size 3 1 v' (A ++ [pf]).length ((A ++ [pf]).map (Value.int .i64))) := (by { show World.ownsRow _ _ _ _ _ _ _; simpa using hw8 }); have HB8 : Hid (Below w6.heap.size w6 w8) := (B7.out.alloc (by have := Z7.out; omega) _).grown hg8 (by have := Z7.out; simp; omega) (fun j e => own_blk D7.out e); clear hw8 hg8)
                    go_roundw
                    case rel => exact ⟨gg + 1, g2 + 2, A ++ [pf], _, by omega, by go_num, by have := HG2.out; omega, rfl, HTS.out.symm, HR8.out, HB8.out⟩
                    case measure => simp [intOf]; have := HG2.out; omega
                  · have s8 : decide (rd ≤ pk) = false := decide_eq_false hrk
                    rw [if_neg hrk, List.append_nil] at HTS
                    go_wp2_with fail
                    go_quiet (fail)
                    go_wp2_with fail
                    go_roundw
                    case rel => exact ⟨gg + 1, g2 + 2, A, _, by omega, by go_num, by have := HG2.out; omega, rfl, HTS.out.symm, HRW.out, below_drewN' HB9.out _⟩
                    case measure => simp [intOf]; have := HG2.out; omega
                · have s5 : decide ((g2 : Int) < 2 * (j : Int) + 2) = false := decide_eq_false (by have := HG2.out; have := HB22.out; omega)
                  have s6 : decide (g2 < 2 * j + 2) = false := decide_eq_false (by have := HG2.out; have := HB22.out; omega)
                  obtain ⟨aa, ac, hlv, hrdA⟩ := own_rd HRW.out
                  subst hlv
                  have HM9 : Hid (majG (z0.take n0) (bI A) = true) := by
                    show _ = _
                    have h9 := HA.out
                    rw [List.take_of_length_le (by omega)] at h9
                    rw [h9]; exact HM.out
                  have HMC := Lib.hid (refmaj_any s0 n0 c0 (z0.take n0) (.slice t0 m0 e0) aa A.length ac A wr (HVR.out.keep (Nat.le_refl _) HB9.out) HC0.out hrdA (by omega) (by omega) ⟨_, _, _, rfl⟩)
                  rw [HM9.out] at HMC
                  clear hrdA
                  go_wp2_with fail
                  refine HMC.out.mono ?_
                  rintro e w9 ⟨rfl, hb⟩
                  have HB10 : Hid (Below w4.heap.size w4 w9) := HB4.out.trans ((HB9.out.trans (hb.mono hsz9)).mono hsl4)
                  clear hb
                  go_wp2_with fail
                  go_roundw
                  case rel => exact ⟨u + 1, z + 1, by omega, by go_num, by go_num, by have := HZ.out; omega, HB10.out⟩
                  case measure => simp [intOf]; omega
            · have e3 : decide ((u : Int) < (P : Int)) = false := decide_eq_false (by omega)
              have e3' : decide (u < P) = false := decide_eq_false hlt3
              have HZP : Hid (z = nx + P) := by
                show _ = _
                have := HZ.out
                omega
              have hzl : z ≤ L.length := by have := HZP.out; omega
              go_wp2_with fail
              go_roundw
              case rel => exact ⟨j + 1, z, H2, _, q2, by omega, by go_num, rfl, rfl, HL2.out, hzl, HQB2.out, by rw [HZP.out]; exact HWS4.out.below HB4.out⟩
              case measure => simp [intOf]; omega
        · have e2 : decide ((j : Int) < (n2 : Int)) = false := decide_eq_false (by omega)
          have e2' : decide (j < n2) = false := decide_eq_false hlt2
          have hV0 : (z0.take n0) ≠ [] := by
            intro h
            have h1 := RV0.out.1
            rw [h] at h1
            exact g1 h1.symm
          have HV0 := Lib.hid hV0
          obtain ⟨kc0, kc1⟩ := ws_conf HWS.out
          clear hV0 HR2
          go_wp2_with fail
          clear kc0 kc1
          go_loopw [23, 168] (fun _ iv wq => ∃ (x : Nat) (m : Int → Option Int) (p : RP), x ≤ n0 ∧ iv = .int .i64 x ∧ p.b = b ∧ WS w s #[.slice s0 n0 c0, .slice t0 m0 e0] wq p (j + x) m (L.drop nx) wv ws hv H ∧ ∀ v ∈ (z0.take n0).take x, atL m 15 v = true) (fun _ iv _ => n0 - (intOf iv).toNat)
          case atStart => exact ⟨0, _, p, Nat.zero_le _, rfl, HPB.out, HWS.out, fun v hv => by simp at hv⟩
          case round =>
            clear HWS HPB p
            obtain ⟨x, m, p, hx, rfl, hpb, hWS, hall⟩ := hrel
            have HWS := Lib.hid hWS
            have HPB := Lib.hid hpb
            have HALL := Lib.hid hall
            have HR5 : Hid (Rd wr s0 n0 (z0.take n0)) := RV0.out.keep (by rw [← HS.out]; exact Nat.le_refl _) hWS.2.2.2.2.2.1
            clear hWS hpb hall
            by_cases hlt5 : x < n0
            · have e5 : decide ((x : Int) < (n0 : Int)) = true := decide_eq_true (by omega)
              have e5' : decide (x < n0) = true := decide_eq_true hlt5
              obtain ⟨vb, vo, rfl, hcell⟩ := HR5.out.at hlt5
              have HTS := Lib.hid (take_snoc (z0.take n0) x (by have := HR5.out.1; omega))
              have HVW : Hid ((Lit.int .i64 ((z0.take n0).getD x 0)).wf = true) := by
                show _ = _
                have h1 := HR5.out.1
                have h2 : (z0.take n0).getD x 0 ∈ z0.take n0 := by
                  rw [List.getD_eq_getElem?_getD, List.getElem?_eq_getElem (by omega)]; exact List.getElem_mem _
                exact HWF0.out _ (List.mem_of_mem_take h2)
              generalize (z0.take n0).getD x 0 = y at *
              have CA := said_at p (s + 1) (j + x) m (L.drop nx) y 15 wr HWS.out.1 (by omega) HVW.out (by decide)
              rw [HPB.out] at CA
              have HCA := Lib.hid CA
              clear CA
              go_wp2_with fail
              refine HCA.out.mono ?_
              rintro e w2 ⟨rfl, hact⟩
              obtain ⟨q, hqb, hWS2⟩ := HWS.out.acted hact
              have HWS2 := Lib.hid hWS2
              have HQB : Hid (q.b = b) := hqb.trans HPB.out
              have HALL2 : Hid (∀ v ∈ (z0.take n0).take (x + 1), atL (hear m y 15) 15 v = true) := by
                show ∀ v ∈ _, _
                intro v hv
                rw [HTS.out] at hv
                rw [atL_hear]
                rcases List.mem_append.1 hv with h | h
                · rw [HALL.out v h]; rfl
                · rw [List.mem_singleton] at h; subst h; simp
              clear hact hqb hWS2
              go_wp2_with fail
              go_roundw
              case rel => exact ⟨x + 1, _, q, by omega, by go_num, HQB.out, HWS2.out, HALL2.out⟩
              case measure => simp [intOf]; omega
            · have e5 : decide ((x : Int) < (n0 : Int)) = false := decide_eq_false (by omega)
              have e5' : decide (x < n0) = false := decide_eq_false hlt5
              have HN5 : Hid (rdyN (rdyF (z0.take n0) m 1) (L.drop nx) = L.length - nx) := rdy_all HLW.out HV0.out (by
                have h1 := HALL.out
                rwa [List.take_of_length_le (by have := HR5.out.1; omega)] at h1)
              obtain ⟨kc0, kc1⟩ := ws_conf HWS.out
              have CR := (ready_any p (s + 1) (j + x) m (L.drop nx) s0 n0 c0 (z0.take n0) (.slice t0 m0 e0) 1 wr HWS.out.1 (by omega) (by rw [List.length_drop]; omega) HR5.out (by omega) ⟨_, _, _, rfl⟩).mono fun e w' h => RActed.of_ready h
              rw [HPB.out, HN5.out] at CR
              have HCR := Lib.hid CR
              clear CR
              go_wp2_with fail
              refine HCR.out.mono ?_
              rintro e w4 ⟨v, rfl, hrow, hact⟩
              obtain ⟨q2, hqb2, hWS4⟩ := HWS.out.acted hact
              have HQB2 : Hid (q2.b = b) := hqb2.trans HPB.out
              have HVC : Hid (∀ u, u < L.length - nx → ∃ g cap, v = .slice (some ⟨g, 0, none⟩) (L.length - nx) cap ∧ w4.cell? ⟨g, u * 2, none⟩ = some (.int .i64 (nx + u : Nat)) ∧ w4.cell? ⟨g, u * 2 + 1, none⟩ = some (.int .i64 (100 + ((nx + u : Nat) : Int)))) := by
                show ∀ u, _
                intro u hu
                obtain ⟨g, cap, h1, h2, h3⟩ := row2_at (l := (L.drop nx).take (L.length - nx)) hrow (by rw [List.length_take, List.length_drop]; omega) hu
                have h4 : ((L.drop nx).take (L.length - nx)).getD u (0, 0, 0) = L.getD (nx + u) (0, 0, 0) := by simp [List.getD_eq_getElem?_getD, List.getElem?_drop, List.getElem?_take_of_lt hu]
                rw [h4, HLW.out.2.1 (nx + u) (by omega)] at h2 h3
                exact ⟨g, cap, h1, h2, h3⟩
              have hE : (L.drop nx).drop (L.length - nx) = [] := List.drop_eq_nil_of_le (by rw [List.length_drop]; omega)
              rw [hE] at hWS4
              have HWS4 := Lib.hid hWS4
              obtain ⟨va, vc, rfl⟩ := own_sl hrow
              have HPD : Hid (nx + (L.length - nx) = n1) := by
                show _ = _
                have := HLN.out
                omega
              generalize L.length - nx = P at *
              have hP60 : P ≤ 60 := by have := HPD.out; omega
              clear hrow hact hqb2 hWS4 hE kc0 kc1
              go_wp2_with fail
              go_loopw [12, 25, 180] (fun nv _ iv wq => ∃ (u z : Nat), u ≤ P ∧ iv = .int .i64 u ∧ nv = .int .i64 z ∧ z = nx + u ∧ Below w4.heap.size w4 wq) (fun _ _ iv _ => P - (intOf iv).toNat)
              case atStart => exact ⟨0, nx, Nat.zero_le _, rfl, rfl, rfl, Below.refl _ _⟩
              case round =>
                obtain ⟨u, z, hu, rfl, rfl, hz, hB4⟩ := hrel
                have HB4 := Lib.hid hB4
                have HZ := Lib.hid hz
                clear hB4 hz
                have hzn : z ≤ 60 := by have := HZ.out; have := HPD.out; omega
                by_cases hlt3 : u < P
                · have e3 : decide ((u : Int) < (P : Int)) = true := decide_eq_true (by omega)
                  have e3' : decide (u < P) = true := decide_eq_true hlt3
                  obtain ⟨vg, vcap, hve, hv0, hv1⟩ := HVC.out u hlt3
                  injection hve with q1 q2' q3
                  subst q1 q3
                  have hv0' := (HB4.out.cell (cell_block_lt hv0)).trans hv0
                  have hv1' := (HB4.out.cell (cell_block_lt hv1)).trans hv1
                  rw [← HZ.out] at hv0' hv1'
                  have HB5 : Hid (Below w4.heap.size w4 (wr.alloc (.cells #[.int .i64 (z : Nat), .int .i64 (100 + ((z : Nat) : Int))] 41))) := HB4.out.alloc HB4.out.size _
                  clear hv0 hv1
                  go_wp2_with fail
                  go_roundw
                  case rel => exact ⟨u + 1, z + 1, by omega, by go_num, by go_num, by have := HZ.out; omega, HB5.out⟩
                  case measure => simp [intOf]; omega
                · have e3 : decide ((u : Int) < (P : Int)) = false := decide_eq_false (by omega)
                  have e3' : decide (u < P) = false := decide_eq_false hlt3
                  have HX := Lib.hid (HWS4.out.below HB4.out)
                  have e6 : ((z : Int) == (n1 : Int)) = true := by
                    have := HZ.out
                    have := HPD.out
                    rw [beq_iff_eq]; omega
                  have e6' : (z == n1) = true := by
                    have := HZ.out
                    have := HPD.out
                    rw [beq_iff_eq]; omega
                  have CL := rlen_at q2 (s + 1) _ m [] wr HX.out.1
                  rw [HQB2.out, List.length_nil] at CL
                  have HCL := Lib.hid CL
                  have HCH := Lib.hid (has_any none 0 0 [] 1 wr ⟨rfl, .inl rfl⟩ (by omega))
                  rw [show bI [] 1 = false from rfl] at HCH
                  clear CL
                  go_wp2_with fail
                  refine HCL.out.mono ?_
                  rintro e w9 ⟨rfl, rfl⟩
                  go_wp2_with fail
                  refine HCH.out.mono ?_
                  rintro e w9 ⟨rfl, rfl⟩
                  go_wp2_with fail
                  refine (lives_any _).mono ?_
                  rintro e w10 ⟨rfl, hB⟩
                  have HL : Hid (Below s w w10) := HX.out.2.2.2.2.2.1.trans (hB.mono (by have := HX.out.slt; omega))
                  clear hB
                  go_wp2_with fail
                  go_ret
                  exact ⟨rfl, by rw [← HS.out]; exact HL.out⟩

theorem lifted (os : Os) (started : os.Started) (H : Type) (enc : TypeId × Value → H) :
    ReturnsInHanded {} Try.checked os 4 .any (Rows.queueWaitsSpec.pre6 enc Try.prog Try.f4 Rows.queueWaitsRow.domain false) (Rows.queueWaitsSpec.post enc Try.prog Try.f4 false true false false) := by
  refine returnsInHanded_of_change_sized (C := Try.checked) own started (by kernel_rfl) Try.func4
    (ChangeSpec.witness6 (enc := enc) (C := Try.checked) false ⟨#[], #[.agg #[.slice none 0 0, .slice none 0 0], .slice none 0 0, .slice none 0 0], []⟩ 8 (by kernel_rfl) (by kernel_rfl) (by kernel_rfl) (by kernel_rfl)) ?_
  intro W base args ds gs before hval0 hW hcnd hsz0 _
  have hsz : (DataW.weightsEach Try.prog (Try.f4.params.toList ++ Rows.queueWaitsSpec.plain.varTypes Try.prog) (ds ++ gs)).all (· ≤ reachBytes) = true := hsz0
  clear hsz0
  have hval : ∀ (j : Nat) t v, Try.f4.params[j]? = some t → args[j]? = some v → Value.okWide Try.prog W .any base t v := hval0
  have hW' := hW
  obtain ⟨p, q, hA0, hV, rfl, hfz, hnd⟩ := hW
  have hA : DataW.TrodAll enc Try.prog W 0 (fun _ => true) true Try.f4.params.toList args.toList ds p := hA0
  rw [Try.params4] at hA hval hsz
  obtain ⟨v0, vs0, d0, ds0, p0, q0, hargs, rfl, rfl, h0, r0⟩ := trodAll_cons hA
  obtain ⟨v1, vs1, d1, ds1, p1, q1, rfl, rfl, rfl, h1, r1⟩ := trodAll_cons r0
  obtain ⟨v2, vs2, d2, ds2, p2, q2, rfl, rfl, rfl, h2, r2⟩ := trodAll_cons r1
  obtain ⟨rfl, rfl, rfl⟩ := trodAll_nil r2
  obtain rfl : args = #[v0, v1, v2] := by cases args; simp_all
  obtain ⟨rfl, rfl⟩ := trodVars_none hV
  have k0 := h0
  have lt0 : ∀ x ∈ p0, x.block < W.heap.size := by obtain ⟨m, hm⟩ := k0; exact DataW.trod_lt m _ _ _ hm
  obtain ⟨s0, n0, c0, z0, t0, m0, e0, y0, g0, f0, rfl, rfl, w0, x0, j0, l0⟩ := open_conf (hval 0 32 v0 rfl rfl) h0
  have b0 : n0 ≤ 17592186044416 ∧ m0 ≤ 17592186044416 := by
    have := conf_le hsz j0 l0
    have := w0.len
    have := x0.len
    omega
  clear j0 l0 hsz
  obtain ⟨s1, n1, c1, rfl⟩ := okWide_slice Try.underlying22 (hval 1 22 v1 rfl rfl)
  have k1 := h1
  have lt1 : ∀ x ∈ p1, x.block < W.heap.size := by obtain ⟨m, hm⟩ := k1; exact DataW.trod_lt m _ _ _ hm
  obtain ⟨z1, w1⟩ : ∃ zs, IsRow W s1 n1 c1 zs := by
    obtain ⟨fuel, hf⟩ := h1
    rcases open_ints Try.underlying22 Try.underlying3 (by kernel_rfl) hf with ⟨hcs, _⟩ | ⟨x, l, c, zs, hcs, _, hl, hm, hz, _, hcell, hwz⟩
    · simp [Value.cells] at hcs
      obtain ⟨rfl, rfl, rfl⟩ := hcs
      exact ⟨[], .inl ⟨rfl, rfl, rfl, rfl⟩⟩
    · simp [Value.cells] at hcs
      obtain ⟨rfl, rfl, rfl⟩ := hcs
      exact ⟨zs, .inr ⟨_, rfl, hl, hm, by simpa using hz, hcell, hwz⟩⟩
  obtain ⟨s2, n2, c2, rfl⟩ := okWide_slice Try.underlying22 (hval 2 22 v2 rfl rfl)
  have k2 := h2
  have lt2 : ∀ x ∈ p2, x.block < W.heap.size := by obtain ⟨m, hm⟩ := k2; exact DataW.trod_lt m _ _ _ hm
  obtain ⟨z2, w2⟩ : ∃ zs, IsRow W s2 n2 c2 zs := by
    obtain ⟨fuel, hf⟩ := h2
    rcases open_ints Try.underlying22 Try.underlying3 (by kernel_rfl) hf with ⟨hcs, _⟩ | ⟨x, l, c, zs, hcs, _, hl, hm, hz, _, hcell, hwz⟩
    · simp [Value.cells] at hcs
      obtain ⟨rfl, rfl, rfl⟩ := hcs
      exact ⟨[], .inl ⟨rfl, rfl, rfl, rfl⟩⟩
    · simp [Value.cells] at hcs
      obtain ⟨rfl, rfl, rfl⟩ := hcs
      exact ⟨zs, .inr ⟨_, rfl, hl, hm, by simpa using hz, hcell, hwz⟩⟩
  clear hA0 hval0
  try simp only [List.append_nil] at hW'
  refine (walk W s0 n0 c0 z0 t0 m0 e0 y0 w0 x0 b0 s1 n1 c1 z1 w1 s2 n2 c2 z2 w2).mono fun e W' ⟨he, hg⟩ => ?_
  subst he
  exact ⟨_, rfl, _, _, _, [], _, [], hW', (trodAll_cons_mk (shut_bool Try.underlying4 _) trodAll_mk0), (trodAll_cons_mk (Below.trod laidOut (by kernel_rfl) (of_decide_eq_true (by kernel_rfl)) k0 hg lt0) (trodAll_cons_mk (Below.trod laidOut (by kernel_rfl) (of_decide_eq_true (by kernel_rfl)) k1 hg lt1) (trodAll_cons_mk (Below.trod laidOut (by kernel_rfl) (of_decide_eq_true (by kernel_rfl)) k2 hg lt2) trodAll_mk0))), rfl, hg.frame _, fun h => by cases h⟩

theorem over : Rows.queueWaitsRow.holds Try.pinned (OpenSpec.ofChange Rows.queueWaitsSpec) :=
  OpenClaim.holds_of_wide 4 Try.f4 rfl rfl rfl rfl rfl rfl rfl ⟨rfl, rfl, rfl, rfl, rfl⟩ rfl rfl rfl rfl rfl (by kernel_rfl) Try.func4 (by kernel_rfl)
    (of_decide_eq_true (by kernel_rfl)) (by unfold Func.isWrapper; first | (rw [if_pos (by decide +kernel)]; kernel_rfl) | (rw [if_neg (by decide +kernel)]; exact ⟨rfl, rfl⟩))
    (fun os started H enc _ => lifted os started H enc)

/-- ████ THE STATEMENT ████ -/
theorem proved : Rows.QueueWaitsSaid :=
  over
#print axioms proved
end Go.Proofs.Ytbjhpifllgoffaa.queueWaits
