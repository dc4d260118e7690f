/- Texts of this seat, set one behind the other. -/
import Derived.Test.YtcooapflofiolaaDoorZ2
import Derived.Test.YtcooapflofiolaaDoorZ3
import Derived.Test.YtcooapflofiolaaDoorZ1
import Derived.Test.YtcooapflofiolaaDoorRows
import Derived.WalkKit
import Derived.ProofKit
import Derived.OpenShut
import Derived.Deep.RegionHeld3
import Derived.Deep.DeepCutAuto
import Derived.ShutString
import Derived.ChangeOld
import Derived.Below
import Derived.SizedLaws
import Derived.Test.YtcooapflofiolaaDoorTie
import Derived.Test.YtcooapflofiolaaDoorCards
import Derived.SevenTiedAt
/- What SwissBounds needs of the plain map: the words' sums. -/
namespace Go.Proofs.YtcooapflofiolaaDoor
set_option linter.unusedSectionVars false
set_option linter.unusedVariables false
set_option linter.unusedSimpArgs false
theorem cnt_split (p : Nat → Bool) (a : Nat) : ∀ b, cnt p (a + b) = cnt p a + cnt (fun i => p (a + i)) b
  | 0 => rfl
  | b + 1 => by rw [← Nat.add_assoc, cnt, cnt, cnt_split p a b]; omega
theorem cntF_cnt (x : Nat) {p : Nat → Bool} (h : ∀ i, i < 8 → x.testBit i = p i) : cntF x = cnt p 8 := by
  unfold cntF; rw [cnt_filter]; exact cnt_congr h
section
variable {V : Type} [Inhabited V] {H : ByteArray → Nat} {m : Mp V}
def fulC (m : Mp V) (j : Nat) : Nat := cnt (fun i => decide (m.c i < 128)) (8 * j)
def freC (m : Mp V) (j : Nat) : Nat := cnt (fun i => m.c i == 128 || m.c i == 254) (8 * j)
def empC (m : Mp V) (j : Nat) : Nat := cnt (fun i => m.c i == 128) (8 * j)
theorem fulC_succ (m : Mp V) (j : Nat) : fulC m (j + 1) = fulC m j + cntF (ful (m.w j)) := by
  unfold fulC; rw [Nat.mul_add, Nat.mul_one, cnt_split, cntF_cnt (p := fun i => decide (m.c (8 * j + i) < 128)) _ (fun i hi => by rw [bit_ful _ _ hi, c_at m j hi])]
theorem freC_succ (m : Mp V) (j : Nat) : freC m (j + 1) = freC m j + cntF (fre (m.w j)) := by
  unfold freC; rw [Nat.mul_add, Nat.mul_one, cnt_split, cntF_cnt (p := fun i => m.c (8 * j + i) == 128 || m.c (8 * j + i) == 254) _ (fun i hi => by rw [bit_fre _ _ hi, c_at m j hi])]
theorem empC_succ (m : Mp V) (j : Nat) : empC m (j + 1) = empC m j + cntF (mch (m.w j) 128) := by
  unfold empC; rw [Nat.mul_add, Nat.mul_one, cnt_split, cntF_cnt (p := fun i => m.c (8 * j + i) == 128) _ (fun i hi => by rw [bit_mch _ _ _ hi, c_at m j hi])]
theorem sums_le (m : Mp V) (j : Nat) : fulC m j ≤ 8 * j ∧ freC m j ≤ 8 * j ∧ empC m j ≤ 8 * j := ⟨cnt_le _ _, cnt_le _ _, cnt_le _ _⟩
theorem cntF_le (x : Nat) : cntF x ≤ 8 := by
  unfold cntF; rw [cnt_filter]; exact cnt_le _ _
theorem sums_end (I : MInv H m) : fulC m m.ws.length = m.n ∧ freC m m.ws.length = empC m m.ws.length + m.tb := by
  refine ⟨I.cn.symm, ?_⟩
  unfold freC empC
  rw [I.ctb]
  refine cnt_add fun i _ => ?_
  show (m.c i == 128 || m.c i == 254).toNat = (m.c i == 128).toNat + (m.c i == 254).toNat
  by_cases h1 : m.c i = 128
  · rw [h1]; rfl
  · by_cases h2 : m.c i = 254
    · rw [h2]; rfl
    · rw [beq_false_of_ne h1, beq_false_of_ne h2]; rfl
end
end Go.Proofs.YtcooapflofiolaaDoor
namespace Go.Proofs.YtcooapflofiolaaDoor.MS
theorem key_at {w : World} {lo : Nat} {p : Pl} {k0 k1 : BitVec 64} {m : Mp VT} (h : Live w lo p k0 k1 m) {i : Nat} (hi : i < m.n) :
    ∃ s : ByteArray, (textsV (keysL m))[i]? = some (.string s) ∧ s = (keysL m).getD i default ∧ s.size ≤ maxLen ∧ (getV (hashN k0 k1) m s).2 = true ∧ Has m s (getV (hashN k0 k1) m s).1 := by
  have hl : (keysL m).length = m.n := by unfold keysL; rw [List.length_map, full_len h.inv]
  have hl2 : (fullL m).length = m.n := full_len h.inv
  have hi2 : i < (fullL m).length := by omega
  have hm : ((fullL m)[i].1, (fullL m)[i].2) ∈ fullL m := List.getElem_mem hi2
  have hh := mem_full.1 hm
  have hf := (find_has h.inv).1 ⟨_, hh⟩
  obtain ⟨x, hx⟩ := Option.ne_none_iff_exists'.1 hf
  have hg : getV (hashN k0 k1) m (fullL m)[i].1 = ((m.s x).2, true) := by unfold getV; rw [hx]
  refine ⟨(fullL m)[i].1, by simp [textsV, keysL, hi2], by simp [keysL, hi2], h.keys _ _ hh, by rw [hg], ?_⟩
  rw [hg]
  have := (find_val h.inv hx).1 hh
  rw [← this]; exact hh
theorem key_ne {w : World} {lo : Nat} {p : Pl} {k0 k1 : BitVec 64} {m : Mp VT} (h : Live w lo p k0 k1 m) {i j : Nat} (hi : i < m.n) (hj : j < i) : (keysL m).getD i default ≠ (keysL m).getD j default := by
  have hl2 : (fullL m).length = m.n := full_len h.inv
  have := List.pairwise_iff_getElem.1 (full_pair h.inv) j i (by omega) (by omega) hj
  intro e
  apply this
  have e1 : ∀ k (hk : k < (fullL m).length), (keysL m).getD k default = (fullL m)[k].1 := fun k hk => by simp [keysL, hk]
  rw [e1 i (by omega), e1 j (by omega)] at e
  exact e.symm
end Go.Proofs.YtcooapflofiolaaDoor.MS

/- The law 'SwissBounds' answers true at every input, and leaves its arguments as they were; the listed table starts as the program's text lays it (the given tie). (The frame was written by a program, after the kit's own frames.) -/
namespace Go.Proofs.YtcooapflofiolaaDoor.swissBounds
open Go.ChangeShapes Go.WideShapes Go.ChangeAt Go.RowKit Go.Shelf Go.Proofs.YtcooapflofiolaaDoor
open Go.ChangeMaps (open_string shut_string)
set_option linter.unusedVariables false
set_option linter.unusedSimpArgs false
set_option maxRecDepth 100000

theorem laidOut : laidOutB Tryd.prog = true := by kernel_rfl

set_option maxHeartbeats 8000000 in
theorem walk (w : World) (hS : Sh w) (a0 b0 : BitVec 64) (s1 : Option Addr) (n1 c1 : Nat) (xs1 : List Ac) (ar1 : AR w s1 n1 xs1) :
    Calls Tryd.prog 6 #[.agg #[.int .u64 (Sip.U a0), .int .u64 (Sip.U b0)], .slice s1 n1 c1] w fun e w' => e = .returned (.bool true) ∧ Below w.heap.size w w' := by
  have HAR := Lib.hid ar1
  have HSh := Lib.hid hS
  obtain ⟨w1, hw1⟩ : ∃ w1, w1 = w.alloc (.cells #[.int .u64 (Sip.U a0), .int .u64 (Sip.U b0)] 24) := ⟨_, rfl⟩
  have B1 : Hid (Below w.heap.size w w1) := by rw [hw1]; exact (Below.refl _ w).alloc (Nat.le_refl _) _
  have c0 : w1.cell? ⟨w.heap.size, 0, none⟩ = some (.int .u64 (Sip.U a0)) := by rw [hw1]; simp
  have d1 : w1.cell? ⟨w.heap.size, 1, none⟩ = some (.int .u64 (Sip.U b0)) := by rw [hw1]; simp
  have S1 : Hid (Sh w1) := HSh.out.below B1.out
  have HN := Lib.hid (MS.new_live a0 b0 0 w1 S1.out)
  have HLV : Hid (∀ W, Below w.heap.size w W → Calls Tryd.prog 15 #[] W fun e w' => e = .returned (.bool true) ∧ Below w.heap.size w w') := by
    show ∀ W, _
    intro W hW
    exact (MI.lives_any W (HSh.out.below hW)).mono fun e w' ⟨h1, h2⟩ => ⟨h1, hW.trans (h2.mono hW.size)⟩
  have hneed : needF 0 = 1 := by rfl
  have HW1 := Lib.hid hw1
  clear hw1 hS ar1
  go_enter Tryd.func6, Tryd.ntmps6
  go_upto_region 1 with fail
  rw [← HW1.out]
  go_wp2_with fail
  refine HN.out.mono ?_
  rintro e w2 ⟨hb, ⟨h0, _⟩ | ⟨p, g, hg, rfl, hL⟩⟩
  · rw [hneed] at h0; cases h0
  rw [hneed] at hg
  obtain rfl : g = 1 := by omega
  have HL := Lib.hid hL
  have B2 : Hid (Below w.heap.size w w2) := B1.out.trans (hb.mono B1.out.size)
  have HLO : Hid (w.heap.size ≤ w1.heap.size) := B1.out.size
  clear hb hL hg hneed c0 d1
  have HFE := Lib.hid (few_any s1 n1 c1 xs1 w2 (HAR.out.below (Nat.le_refl _) B2.out))
  go_wp2_with fail
  refine HFE.out.mono ?_
  rintro e w3 ⟨b, rfl, hb3, hfew⟩
  have L3 := Lib.hid (HL.out.below (Nat.le_refl _) hb3)
  have B3 : Hid (Below w.heap.size w w3) := B2.out.trans (hb3.mono B2.out.size)
  have HFew := Lib.hid hfew
  clear hb3 hfew
  cases b
  · go_wp2_with fail
    refine (HLV.out _ B3.out).mono ?_
    rintro e w4 ⟨rfl, hb⟩
    go_wp2
    go_ret
    exact ⟨rfl, hb⟩
  have HF : Hid (Few xs1 n1) := HFew.out rfl
  have hn600 : n1 ≤ 600 := HF.out.1
  go_wp2
  go_loopw [36] (fun i wr => ∃ (k : Nat) (q : Pl) (m : Mp ByteArray), k ≤ n1 ∧ i = .int .i64 k ∧ q.b = p.b ∧ MS.Live wr w1.heap.size q a0 b0 m ∧ Below w.heap.size w wr) (fun i _ => n1 - (intOf i).toNat)
  case atStart => exact ⟨0, p, _, by omega, rfl, rfl, L3.out, B3.out⟩
  case round =>
    obtain ⟨k, q, m, hk, rfl, hq, hLq, hB⟩ := hrel
    have HLq := Lib.hid hLq
    have HBr := Lib.hid hB
    have HQ := Lib.hid hq
    clear hLq hB hq
    by_cases hlt : k < n1
    · have hd2 : decide ((k : Int) < (n1 : Int)) = true := decide_eq_true (by omega)
      have hkn : (k : Int) < (n1 : Int) := by omega
      obtain ⟨b, off, rfl, x0, x1, x2⟩ := (HAR.out.below (Nat.le_refl _) HBr.out).act hlt
      obtain ⟨x, hx⟩ : ∃ x, x = xs1.getD k default := ⟨_, rfl⟩
      have hxk : x.key.size ≤ maxLen := by
        have h1 := (HF.out.2 k hlt).1
        rw [← hx] at h1
        exact Nat.le_trans (Nat.le_of_lt h1) (by decide : 40000 ≤ maxLen)
      rw [← hx] at x0 x1 x2
      have HXK := Lib.hid hxk
      clear hx hxk
      obtain ⟨wA, hwA⟩ : ∃ wA, wA = wr.alloc (.cells #[.int .i64 x.k, .string x.key, .string x.val] 32) := ⟨_, rfl⟩
      have BA : Hid (Below wr.heap.size wr wA) := by rw [hwA]; exact (Below.refl _ wr).alloc (Nat.le_refl _) _
      have LX := Lib.hid (HLq.out.below (Nat.le_refl _) BA.out)
      have BX : Hid (Below w.heap.size w wA) := HBr.out.trans (BA.out.mono HBr.out.size)
      have y0 : wA.cell? ⟨wr.heap.size, 0, none⟩ = some (.int .i64 x.k) := by rw [hwA]; simp
      have y1 : wA.cell? ⟨wr.heap.size, 1, none⟩ = some (.string x.key) := by rw [hwA]; simp
      have y2 : wA.cell? ⟨wr.heap.size, 2, none⟩ = some (.string x.val) := by rw [hwA]; simp
      have HWA := Lib.hid hwA
      clear hwA
      go_upto_region 7 with fail
      rw [← HWA.out]
      clear x0 x1 x2
      by_cases hk1 : x.k = 1
      · rw [hk1] at y0
        clear hk1
        have HAC := Lib.hid (MS.delete_live LX.out x.key HXK.out)
        rw [HQ.out] at HAC
        go_wp2_with fail
        refine HAC.out.mono ?_
        rintro e w4 ⟨rfl, q2, hq2, hL2, _, hK2⟩
        have L2 := Lib.hid hL2
        have B4 : Hid (Below w.heap.size w w4) := BX.out.trans ((LX.out.low hK2).mono HLO.out)
        have HQ2 := Lib.hid (hq2.trans HQ.out)
        have HCT := Lib.hid (MS.controls_any q2 a0 b0 _ w4 L2.out.at_ L2.out.inv)
        obtain ⟨m2, hm2⟩ : ∃ m2, m2 = del (hashN a0 b0) m x.key := ⟨_, rfl⟩
        rw [← hm2] at L2 HCT
        rw [HQ2.out] at HCT
        clear hL2 hK2 hq2 hm2
        go_wp2_with fail
        refine HCT.out.mono ?_
        rintro e w5 ⟨v, rfl, hv, hb5⟩
        have L5 := Lib.hid (L2.out.below (Nat.le_refl _) hb5)
        have B5 : Hid (Below w.heap.size w w5) := B4.out.trans (hb5.mono B4.out.size)
        obtain ⟨va, vc, rfl, hvc⟩ := own_val hv
        have HV := Lib.hid hv
        obtain ⟨g, hg⟩ : ∃ g, g = m2.ws.length := ⟨_, rfl⟩
        have hgl : g ≤ 1024 := by rw [hg]; exact L5.out.inv.len.2
        have HGG := Lib.hid hg
        rw [← hg] at HV
        rw [← hg]
        clear hv hb5 hvc hg
        go_wp2
        go_loopw [8, 9, 10, 54] (fun f r t i wr => ∃ j : Nat, j ≤ g ∧ i = .int .i64 j ∧ f = .int .i64 (fulC m2 j : Nat) ∧ r = .int .i64 (freC m2 j : Nat) ∧ t = .int .i64 (empC m2 j : Nat) ∧ wr = w5) (fun f r t i _ => g - (intOf i).toNat)
        case atStart => exact ⟨0, by omega, rfl, rfl, rfl, rfl, rfl⟩
        case round =>
          obtain ⟨j, hj, rfl, rfl, rfl, rfl, hww⟩ := hrel
          obtain ⟨w6, hw6⟩ : ∃ w6, w6 = wr := ⟨_, rfl⟩
          rw [← hw6] at hww ⊢
          have HWW := Lib.hid hww
          clear hww hw6
          obtain ⟨z1, z2, z3⟩ := sums_le m2 j
          by_cases hlt : j < g
          · have hd2 : decide ((j : Int) < (g : Int)) = true := decide_eq_true (by omega)
            have hkn : (j : Int) < (g : Int) := by omega
            obtain ⟨gg, cap, hv, _, hgb1, hgb2, hcells⟩ := own_read HV.out (by omega)
            injection hv with hva _ hvc'
            subst hva
            have hat : (wordsV m2)[j]? = some (.int .u64 (m2.w j : Nat)) := by
              have : j < m2.ws.length := by rw [← HGG.out]; exact hlt
              simp [wordsV, Mp.w, this]
            have s0 := hcells _ _ hat
            rw [← HWW.out] at s0
            have hx := L5.out.inv.wl j
            have FU := Lib.hid (fun W => reffull_any (m2.w j) hx W)
            have FR := Lib.hid (fun W => reffree_any (m2.w j) hx W)
            have FM := Lib.hid (fun W => refmatch_any (m2.w j) 128 hx (by omega) W)
            have C1 := Lib.hid (fun W => refcount_any (ful (m2.w j)) (ful_lt _) W)
            have C2 := Lib.hid (fun W => refcount_any (fre (m2.w j)) (fre_lt _) W)
            have C3 := Lib.hid (fun W => refcount_any (mch (m2.w j) 128) (mch_lt _ _) W)
            have y1 := fulC_succ m2 j
            have y2 := freC_succ m2 j
            have y3 := empC_succ m2 j
            have Y1 := Lib.hid y1
            have Y2 := Lib.hid y2
            have Y3 := Lib.hid y3
            have l1 := cntF_le (ful (m2.w j))
            have l2 := cntF_le (fre (m2.w j))
            have l3 := cntF_le (mch (m2.w j) 128)
            have hw1 : IntKind.i64.wrap ((fulC m2 j : Nat) + (cntF (ful (m2.w j)) : Nat) : Int) = ((fulC m2 j : Nat) + (cntF (ful (m2.w j)) : Nat) : Int) := IntWalk.i64_in _ (by omega)
            have hw2 : IntKind.i64.wrap ((freC m2 j : Nat) + (cntF (fre (m2.w j)) : Nat) : Int) = ((freC m2 j : Nat) + (cntF (fre (m2.w j)) : Nat) : Int) := IntWalk.i64_in _ (by omega)
            have hw3 : IntKind.i64.wrap ((empC m2 j : Nat) + (cntF (mch (m2.w j) 128) : Nat) : Int) = ((empC m2 j : Nat) + (cntF (mch (m2.w j) 128) : Nat) : Int) := IntWalk.i64_in _ (by omega)
            clear hcells hat hx y1 y2 y3 hvc'
            go_wp2_with fail
            refine (FU.out w6).mono ?_
            rintro e w7 ⟨rfl, rfl⟩
            go_wp2_with fail
            refine (C1.out _).mono ?_
            rintro e w7 ⟨rfl, rfl⟩
            go_wp2_with fail
            refine (FR.out _).mono ?_
            rintro e w7 ⟨rfl, rfl⟩
            go_wp2_with fail
            refine (C2.out _).mono ?_
            rintro e w7 ⟨rfl, rfl⟩
            go_wp2_with fail
            refine (FM.out _).mono ?_
            rintro e w7 ⟨rfl, rfl⟩
            go_wp2_with fail
            refine (C3.out _).mono ?_
            rintro e w7 ⟨rfl, rfl⟩
            go_wp2_with fail
            go_roundw
            case rel => exact ⟨j + 1, by omega, by go_num, by rw [Y1.out]; rfl, by rw [Y2.out]; rfl, by rw [Y3.out]; rfl, HWW.out⟩
            case measure => simp [intOf]; omega
          · obtain rfl : j = g := by omega
            have hd2 : decide ((j : Int) < (j : Int)) = false := decide_eq_false (by omega)
            have hse := sums_end L5.out.inv
            rw [← HGG.out] at hse
            obtain ⟨e1, e2⟩ := hse
            have hld := L5.out.inv.ld
            have hmx := L5.out.inv.mx
            rw [← HGG.out] at hld
            have L6 : Hid (MS.Live w6 w1.heap.size q2 a0 b0 m2) := by rw [HWW.out]; exact L5.out
            have B6 : Hid (Below w.heap.size w w6) := by rw [HWW.out]; exact B5.out
            obtain ⟨n, hn⟩ : ∃ n, n = m2.n := ⟨_, rfl⟩
            obtain ⟨t, ht⟩ : ∃ t, t = m2.tb := ⟨_, rfl⟩
            obtain ⟨ec, hec⟩ : ∃ ec, ec = empC m2 j := ⟨_, rfl⟩
            have HLE := Lib.hid (MS.len_any q2 a0 b0 m2 w6 L6.out.at_ L6.out.len)
            have HTO := Lib.hid (MS.tombs_any q2 a0 b0 m2 w6 L6.out.at_ L6.out.len)
            have HC6 := Lib.hid (MS.controls_any q2 a0 b0 m2 w6 L6.out.at_ L6.out.inv)
            rw [HQ2.out] at HLE HTO HC6
            rw [← HGG.out] at HC6
            rw [← hn] at HLE e1 hld hmx
            rw [← ht] at HTO e2 hld
            rw [← hec] at e2 z3
            rw [e2] at z2
            rw [e1, e2, ← hec]
            have hs1 : IntKind.i64.wrap (((ec + t : Nat) : Int) - (ec : Int)) = (t : Int) := by rw [IntWalk.i64_in _ (by omega)]; omega
            have hs1' : IntKind.i64.wrap ((ec : Int) + (t : Int) - (ec : Int)) = (t : Int) := by rw [IntWalk.i64_in _ (by omega)]; omega
            have hs2 : IntKind.i64.wrap ((n : Int) + (t : Int)) = (n : Int) + (t : Int) := IntWalk.i64_in _ (by omega)
            have hs3 : IntKind.i64.wrap (7 * (j : Int)) = 7 * (j : Int) := IntWalk.i64_in _ (by omega)
            have hd3 : decide (7 * (j : Int) < (n : Int) + (t : Int)) = false := decide_eq_false (by omega)
            have HNN := Lib.hid hn
            clear e1 e2 hec hn ht
            go_wp2_with fail
            refine HLE.out.mono ?_
            rintro e w7 ⟨rfl, rfl⟩
            go_wp2_with fail
            refine HTO.out.mono ?_
            rintro e w7 ⟨rfl, rfl⟩
            go_wp2_with fail
            refine HTO.out.mono ?_
            rintro e w7 ⟨rfl, rfl⟩
            go_wp2_with fail
            refine HC6.out.mono ?_
            rintro e w7 ⟨v, rfl, hv, hb7⟩
            obtain ⟨va', vc', rfl, hvc⟩ := own_val hv
            have L7 := Lib.hid (L6.out.below (Nat.le_refl _) hb7)
            have B7 : Hid (Below w.heap.size w w7) := B6.out.trans (hb7.mono B6.out.size)
            have HK7 := Lib.hid (MS.keys_any q2 a0 b0 m2 w7 L7.out.at_ L7.out.inv)
            rw [HQ2.out, ← HNN.out] at HK7
            clear hv hb7 hvc
            go_wp2_with fail
            refine HK7.out.mono ?_
            rintro e w8 ⟨v, rfl, hv, hb8⟩
            obtain ⟨va'', vc'', rfl, hvc⟩ := own_val hv
            have L8 := Lib.hid (L7.out.below (Nat.le_refl _) hb8)
            have B8 : Hid (Below w.heap.size w w8) := B7.out.trans (hb8.mono B7.out.size)
            clear hv hb8 hvc
            go_wp2_with fail
            go_roundw
            case rel => exact ⟨k + 1, q2, m2, by omega, by go_num, HQ2.out, L8.out, B8.out⟩
            case measure => simp [intOf]; omega
      · have hk1' : (x.k == 1) = false := by simpa using hk1
        clear hk1
        have HAC := Lib.hid (MS.put_live LX.out x.key ByteArray.empty HXK.out)
        rw [HQ.out] at HAC
        go_wp2_with fail
        refine HAC.out.mono ?_
        rintro e w4 ⟨rfl, q2, hq2, hL2, _, hK2⟩
        have L2 := Lib.hid hL2
        have B4 : Hid (Below w.heap.size w w4) := BX.out.trans ((LX.out.low hK2).mono HLO.out)
        have HQ2 := Lib.hid (hq2.trans HQ.out)
        have HCT := Lib.hid (MS.controls_any q2 a0 b0 _ w4 L2.out.at_ L2.out.inv)
        obtain ⟨m2, hm2⟩ : ∃ m2, m2 = put (hashN a0 b0) m x.key ByteArray.empty := ⟨_, rfl⟩
        rw [← hm2] at L2 HCT
        rw [HQ2.out] at HCT
        clear hL2 hK2 hq2 hm2
        go_wp2_with fail
        refine HCT.out.mono ?_
        rintro e w5 ⟨v, rfl, hv, hb5⟩
        have L5 := Lib.hid (L2.out.below (Nat.le_refl _) hb5)
        have B5 : Hid (Below w.heap.size w w5) := B4.out.trans (hb5.mono B4.out.size)
        obtain ⟨va, vc, rfl, hvc⟩ := own_val hv
        have HV := Lib.hid hv
        obtain ⟨g, hg⟩ : ∃ g, g = m2.ws.length := ⟨_, rfl⟩
        have hgl : g ≤ 1024 := by rw [hg]; exact L5.out.inv.len.2
        have HGG := Lib.hid hg
        rw [← hg] at HV
        rw [← hg]
        clear hv hb5 hvc hg
        go_wp2
        go_loopw [8, 9, 10, 54] (fun f r t i wr => ∃ j : Nat, j ≤ g ∧ i = .int .i64 j ∧ f = .int .i64 (fulC m2 j : Nat) ∧ r = .int .i64 (freC m2 j : Nat) ∧ t = .int .i64 (empC m2 j : Nat) ∧ wr = w5) (fun f r t i _ => g - (intOf i).toNat)
        case atStart => exact ⟨0, by omega, rfl, rfl, rfl, rfl, rfl⟩
        case round =>
          obtain ⟨j, hj, rfl, rfl, rfl, rfl, hww⟩ := hrel
          obtain ⟨w6, hw6⟩ : ∃ w6, w6 = wr := ⟨_, rfl⟩
          rw [← hw6] at hww ⊢
          have HWW := Lib.hid hww
          clear hww hw6
          obtain ⟨z1, z2, z3⟩ := sums_le m2 j
          by_cases hlt : j < g
          · have hd2 : decide ((j : Int) < (g : Int)) = true := decide_eq_true (by omega)
            have hkn : (j : Int) < (g : Int) := by omega
            obtain ⟨gg, cap, hv, _, hgb1, hgb2, hcells⟩ := own_read HV.out (by omega)
            injection hv with hva _ hvc'
            subst hva
            have hat : (wordsV m2)[j]? = some (.int .u64 (m2.w j : Nat)) := by
              have : j < m2.ws.length := by rw [← HGG.out]; exact hlt
              simp [wordsV, Mp.w, this]
            have s0 := hcells _ _ hat
            rw [← HWW.out] at s0
            have hx := L5.out.inv.wl j
            have FU := Lib.hid (fun W => reffull_any (m2.w j) hx W)
            have FR := Lib.hid (fun W => reffree_any (m2.w j) hx W)
            have FM := Lib.hid (fun W => refmatch_any (m2.w j) 128 hx (by omega) W)
            have C1 := Lib.hid (fun W => refcount_any (ful (m2.w j)) (ful_lt _) W)
            have C2 := Lib.hid (fun W => refcount_any (fre (m2.w j)) (fre_lt _) W)
            have C3 := Lib.hid (fun W => refcount_any (mch (m2.w j) 128) (mch_lt _ _) W)
            have y1 := fulC_succ m2 j
            have y2 := freC_succ m2 j
            have y3 := empC_succ m2 j
            have Y1 := Lib.hid y1
            have Y2 := Lib.hid y2
            have Y3 := Lib.hid y3
            have l1 := cntF_le (ful (m2.w j))
            have l2 := cntF_le (fre (m2.w j))
            have l3 := cntF_le (mch (m2.w j) 128)
            have hw1 : IntKind.i64.wrap ((fulC m2 j : Nat) + (cntF (ful (m2.w j)) : Nat) : Int) = ((fulC m2 j : Nat) + (cntF (ful (m2.w j)) : Nat) : Int) := IntWalk.i64_in _ (by omega)
            have hw2 : IntKind.i64.wrap ((freC m2 j : Nat) + (cntF (fre (m2.w j)) : Nat) : Int) = ((freC m2 j : Nat) + (cntF (fre (m2.w j)) : Nat) : Int) := IntWalk.i64_in _ (by omega)
            have hw3 : IntKind.i64.wrap ((empC m2 j : Nat) + (cntF (mch (m2.w j) 128) : Nat) : Int) = ((empC m2 j : Nat) + (cntF (mch (m2.w j) 128) : Nat) : Int) := IntWalk.i64_in _ (by omega)
            clear hcells hat hx y1 y2 y3 hvc'
            go_wp2_with fail
            refine (FU.out w6).mono ?_
            rintro e w7 ⟨rfl, rfl⟩
            go_wp2_with fail
            refine (C1.out _).mono ?_
            rintro e w7 ⟨rfl, rfl⟩
            go_wp2_with fail
            refine (FR.out _).mono ?_
            rintro e w7 ⟨rfl, rfl⟩
            go_wp2_with fail
            refine (C2.out _).mono ?_
            rintro e w7 ⟨rfl, rfl⟩
            go_wp2_with fail
            refine (FM.out _).mono ?_
            rintro e w7 ⟨rfl, rfl⟩
            go_wp2_with fail
            refine (C3.out _).mono ?_
            rintro e w7 ⟨rfl, rfl⟩
            go_wp2_with fail
            go_roundw
            case rel => exact ⟨j + 1, by omega, by go_num, by rw [Y1.out]; rfl, by rw [Y2.out]; rfl, by rw [Y3.out]; rfl, HWW.out⟩
            case measure => simp [intOf]; omega
          · obtain rfl : j = g := by omega
            have hd2 : decide ((j : Int) < (j : Int)) = false := decide_eq_false (by omega)
            have hse := sums_end L5.out.inv
            rw [← HGG.out] at hse
            obtain ⟨e1, e2⟩ := hse
            have hld := L5.out.inv.ld
            have hmx := L5.out.inv.mx
            rw [← HGG.out] at hld
            have L6 : Hid (MS.Live w6 w1.heap.size q2 a0 b0 m2) := by rw [HWW.out]; exact L5.out
            have B6 : Hid (Below w.heap.size w w6) := by rw [HWW.out]; exact B5.out
            obtain ⟨n, hn⟩ : ∃ n, n = m2.n := ⟨_, rfl⟩
            obtain ⟨t, ht⟩ : ∃ t, t = m2.tb := ⟨_, rfl⟩
            obtain ⟨ec, hec⟩ : ∃ ec, ec = empC m2 j := ⟨_, rfl⟩
            have HLE := Lib.hid (MS.len_any q2 a0 b0 m2 w6 L6.out.at_ L6.out.len)
            have HTO := Lib.hid (MS.tombs_any q2 a0 b0 m2 w6 L6.out.at_ L6.out.len)
            have HC6 := Lib.hid (MS.controls_any q2 a0 b0 m2 w6 L6.out.at_ L6.out.inv)
            rw [HQ2.out] at HLE HTO HC6
            rw [← HGG.out] at HC6
            rw [← hn] at HLE e1 hld hmx
            rw [← ht] at HTO e2 hld
            rw [← hec] at e2 z3
            rw [e2] at z2
            rw [e1, e2, ← hec]
            have hs1 : IntKind.i64.wrap (((ec + t : Nat) : Int) - (ec : Int)) = (t : Int) := by rw [IntWalk.i64_in _ (by omega)]; omega
            have hs1' : IntKind.i64.wrap ((ec : Int) + (t : Int) - (ec : Int)) = (t : Int) := by rw [IntWalk.i64_in _ (by omega)]; omega
            have hs2 : IntKind.i64.wrap ((n : Int) + (t : Int)) = (n : Int) + (t : Int) := IntWalk.i64_in _ (by omega)
            have hs3 : IntKind.i64.wrap (7 * (j : Int)) = 7 * (j : Int) := IntWalk.i64_in _ (by omega)
            have hd3 : decide (7 * (j : Int) < (n : Int) + (t : Int)) = false := decide_eq_false (by omega)
            have HNN := Lib.hid hn
            clear e1 e2 hec hn ht
            go_wp2_with fail
            refine HLE.out.mono ?_
            rintro e w7 ⟨rfl, rfl⟩
            go_wp2_with fail
            refine HTO.out.mono ?_
            rintro e w7 ⟨rfl, rfl⟩
            go_wp2_with fail
            refine HTO.out.mono ?_
            rintro e w7 ⟨rfl, rfl⟩
            go_wp2_with fail
            refine HC6.out.mono ?_
            rintro e w7 ⟨v, rfl, hv, hb7⟩
            obtain ⟨va', vc', rfl, hvc⟩ := own_val hv
            have L7 := Lib.hid (L6.out.below (Nat.le_refl _) hb7)
            have B7 : Hid (Below w.heap.size w w7) := B6.out.trans (hb7.mono B6.out.size)
            have HK7 := Lib.hid (MS.keys_any q2 a0 b0 m2 w7 L7.out.at_ L7.out.inv)
            rw [HQ2.out, ← HNN.out] at HK7
            clear hv hb7 hvc
            go_wp2_with fail
            refine HK7.out.mono ?_
            rintro e w8 ⟨v, rfl, hv, hb8⟩
            obtain ⟨va'', vc'', rfl, hvc⟩ := own_val hv
            have L8 := Lib.hid (L7.out.below (Nat.le_refl _) hb8)
            have B8 : Hid (Below w.heap.size w w8) := B7.out.trans (hb8.mono B7.out.size)
            clear hv hb8 hvc
            go_wp2_with fail
            go_roundw
            case rel => exact ⟨k + 1, q2, m2, by omega, by go_num, HQ2.out, L8.out, B8.out⟩
            case measure => simp [intOf]; omega
    · obtain rfl : k = n1 := by omega
      have hd2 : decide ((k : Int) < (k : Int)) = false := decide_eq_false (by omega)
      have HKE := Lib.hid (MS.keys_any q a0 b0 m wr HLq.out.at_ HLq.out.inv)
      rw [HQ.out] at HKE
      go_wp2_with fail
      refine HKE.out.mono ?_
      rintro e w4 ⟨v, rfl, hv, hb4⟩
      obtain ⟨va, vc, rfl, hvc⟩ := own_val hv
      have L4 := Lib.hid (HLq.out.below (Nat.le_refl _) hb4)
      have B4 : Hid (Below w.heap.size w w4) := HBr.out.trans (hb4.mono HBr.out.size)
      have HV := Lib.hid hv
      obtain ⟨n, hn⟩ : ∃ n, n = m.n := ⟨_, rfl⟩
      have hmx := HLq.out.inv.mx
      rw [← hn] at hmx
      have HNN := Lib.hid hn
      rw [← hn] at HV hvc
      rw [← hn]
      clear hv hb4 hn
      go_wp2
      go_loopw [109] (fun i wr => ∃ j : Nat, j ≤ n ∧ i = .int .i64 j ∧ MS.Live wr w1.heap.size q a0 b0 m ∧ Below w.heap.size w wr ∧ Below w4.heap.size w4 wr) (fun i _ => n - (intOf i).toNat)
      case atStart => exact ⟨0, by omega, rfl, L4.out, B4.out, Below.refl _ _⟩
      case round =>
        obtain ⟨j, hj, rfl, hL5, hB5, hB54⟩ := hrel
        have L5 := Lib.hid hL5
        have B5 := Lib.hid hB5
        have B54 := Lib.hid hB54
        clear hL5 hB5 hB54
        by_cases hlt : j < n
        · have hd2 : decide ((j : Int) < (n : Int)) = true := decide_eq_true (by omega)
          have hkn : (j : Int) < (n : Int) := by omega
          obtain ⟨gg, cap, hv, _, hgb1, hgb2, hcells⟩ := own_read HV.out (by omega)
          injection hv with hva _ hvc'
          subst hva
          obtain ⟨s, e1, e2, e3, e4, e5⟩ := MS.key_at L5.out (i := j) (by rw [← HNN.out]; exact hlt)
          have s0 := B54.out.cell (cell_lt (hcells _ _ e1)) |>.trans (hcells _ _ e1)
          have HCL := Lib.hid hcells
          have HE2 := Lib.hid e2
          have HGE := Lib.hid (MS.get_any q a0 b0 m s e3 _ L5.out.at_ L5.out.inv)
          rw [HQ.out, e4] at HGE
          clear e5 e4
          generalize (MS.getV (hashN a0 b0) m s).1 = gv at HGE
          clear hcells e1 e2 e3 hvc'
          go_wp2_with fail
          refine HGE.out.mono ?_
          rintro e w6 ⟨rfl, hb6⟩
          have L6 := Lib.hid (L5.out.below (Nat.le_refl _) hb6)
          have B6 : Hid (Below w.heap.size w w6) := B5.out.trans (hb6.mono B5.out.size)
          have B64 : Hid (Below w4.heap.size w4 w6) := B54.out.trans (hb6.mono B54.out.size)
          clear hb6 s0
          have hjc : (j : Int) ≤ (vc : Int) := by omega
          go_wp2
          go_loopw [126] (fun i wr => ∃ t : Nat, t ≤ j ∧ i = .int .i64 t ∧ wr = w6) (fun i _ => j - (intOf i).toNat)
          case atStart => exact ⟨0, by omega, rfl, rfl⟩
          case round =>
            obtain ⟨t, ht, rfl, hww⟩ := hrel
            obtain ⟨w7, hw7⟩ : ∃ w7, w7 = wr := ⟨_, rfl⟩
            rw [← hw7] at hww ⊢
            have HWW := Lib.hid hww
            clear hww hw7
            by_cases hlt2 : t < j
            · have hd3 : decide ((t : Int) < (j : Int)) = true := decide_eq_true (by omega)
              have hkn2 : (t : Int) < (j : Int) := by omega
              obtain ⟨s2, e1, e2, _⟩ := MS.key_at L6.out (i := t) (by rw [← HNN.out]; omega)
              have s0 := B64.out.cell (cell_lt (HCL.out _ _ e1)) |>.trans (HCL.out _ _ e1)
              rw [← HWW.out] at s0
              have hne : s ≠ s2 := by
                rw [HE2.out, e2]
                exact MS.key_ne L6.out (by rw [← HNN.out]; exact hlt) hlt2
              have hne2 : (s.toList == s2.toList) = false := by rw [beq_toList]; exact decide_eq_false hne
              clear e1 e2
              go_wp2_with fail
              go_roundw
              case rel => exact ⟨t + 1, by omega, by go_num, HWW.out⟩
              case measure => simp [intOf]; omega
            · obtain rfl : t = j := by omega
              have hd3 : decide ((t : Int) < (t : Int)) = false := decide_eq_false (by omega)
              have L7 : Hid (MS.Live w7 w1.heap.size q a0 b0 m) := by rw [HWW.out]; exact L6.out
              have B7 : Hid (Below w.heap.size w w7) := by rw [HWW.out]; exact B6.out
              have B74 : Hid (Below w4.heap.size w4 w7) := by rw [HWW.out]; exact B64.out
              go_wp2_with fail
              go_roundw
              case rel => exact ⟨t + 1, by omega, by go_num, L7.out, B7.out, B74.out⟩
              case measure => simp [intOf]; omega
        · obtain rfl : j = n := by omega
          have hd2 : decide ((j : Int) < (j : Int)) = false := decide_eq_false (by omega)
          go_wp2_with fail
          refine (HLV.out _ B5.out).mono ?_
          rintro e w8 ⟨rfl, hb⟩
          go_wp2
          go_ret
          exact ⟨rfl, hb⟩

theorem lifted (os : Os) (started : os.Started) (H : Type) (enc : TypeId × Value → H) :
    ReturnsInHanded {} Tryd.checked os 6 .any (fun w args => (Rows.swissBoundsSpec.pre enc Tryd.prog Tryd.f6 [] false w args ∧ laidMetH Tryd.prog [("corbel/group.shifts", Rows.laid_corbel_group_shifts)] w) ∧ sizedMet enc Tryd.prog Tryd.f6 (OpenSpec.ofChange Rows.swissBoundsSpec) false w args)
      (Rows.swissBoundsSpec.post enc Tryd.prog Tryd.f6 false true false false) := by
  refine returnsInHanded_of_change_and (C := Tryd.checked) (X := fun w _ => laidMetH Tryd.prog [("corbel/group.shifts", Rows.laid_corbel_group_shifts)] w) (fun _ _ _ hh h => h.of_heap hh) own started (by kernel_rfl) Tryd.func6
    (ChangeSpec.witness_at (enc := enc) (C := Tryd.checked) (os := os) (X := fun w _ => laidMetH Tryd.prog [("corbel/group.shifts", Rows.laid_corbel_group_shifts)] w) false (laidWorld os) #[.agg #[.int .u64 0, .int .u64 0], .slice none 0 0] 8 rfl (by kernel_rfl) (by kernel_rfl) (by kernel_rfl) (by kernel_rfl) (by kernel_rfl) (laidWorld_met os _)) ?_
  intro W base args ds gs before hval0 hW hcnd hsz0 hL _
  have hsz : (DataW.weightsEach Tryd.prog (Tryd.f6.params.toList ++ Rows.swissBoundsSpec.plain.varTypes Tryd.prog) (ds ++ gs)).all (· ≤ reachBytes) = true := hsz0
  clear hsz0
  have hval : ∀ (j : Nat) t v, Tryd.f6.params[j]? = some t → args[j]? = some v → Value.okWide Tryd.prog W .any base t v := hval0
  have hW' := hW
  obtain ⟨p, q, hA0, hV, rfl, hfz, hnd⟩ := hW
  have hA : DataW.TrodAll enc Tryd.prog W 0 (fun _ => true) true Tryd.f6.params.toList args.toList ds p := hA0
  rw [Tryd.params6] at hA hval hsz
  obtain ⟨v0, vs0, d0, ds0, p0, q0, hargs, rfl, rfl, h0, r0⟩ := trodAll_cons hA
  obtain ⟨v1, vs1, d1, ds1, p1, q1, rfl, rfl, rfl, h1, r1⟩ := trodAll_cons r0
  obtain ⟨rfl, rfl, rfl⟩ := trodAll_nil r1
  obtain rfl : args = #[v0, v1] := by cases args; simp_all
  obtain ⟨rfl, rfl⟩ := trodVars_none hV
  have hfit0 := fun q hq => of_decide_eq_true (List.all_eq_true.1 hsz q hq)
  clear hsz
  obtain ⟨F0, hfit1⟩ := fit_cons hfit0
  obtain ⟨a0, b0, rfl, rfl, rfl⟩ := open_key (hval 0 24 v0 rfl rfl) h0
  obtain ⟨F1, hfit2⟩ := fit_cons hfit1
  have k1 := h1
  have lt1 : ∀ x ∈ p1, x.block < W.heap.size := by obtain ⟨m, hm⟩ := k1; exact DataW.trod_lt m _ _ _ hm
  obtain ⟨s1, n1, c1, xs1, rfl, ar1⟩ := open_acts (hval 1 25 v1 rfl rfl) h1 F1
  clear hA0 hval0
  try simp only [List.append_nil] at hW'
  refine (walk W (sh_of_laid hL) a0 b0 s1 n1 c1 xs1 ar1).mono fun e W' ⟨he, hg⟩ => ?_
  subst he
  exact ⟨_, rfl, _, _, _, [], _, [], hW', (trodAll_cons_mk (shut_bool Tryd.underlying4 _) trodAll_mk0), (trodAll_cons_mk (shut_key a0 b0) (trodAll_cons_mk (Below.trod laidOut (by kernel_rfl) (of_decide_eq_true (by kernel_rfl)) k1 hg lt1) trodAll_mk0)), rfl, hg.frame _, fun h => by cases h⟩

theorem over : Rows.swissBoundsRow.holds Tryd.pinned (OpenSpec.ofChange Rows.swissBoundsSpec) :=
  OpenClaim.holds_of_wide 6 Tryd.f6 rfl rfl rfl rfl rfl rfl rfl ⟨rfl, rfl, rfl, rfl, rfl⟩ rfl rfl rfl rfl rfl (by kernel_rfl) Tryd.func6 (by kernel_rfl)
    (of_decide_eq_true (by kernel_rfl)) (by unfold Func.isWrapper; first | (rw [if_pos (by decide +kernel)]; kernel_rfl) | (rw [if_neg (by decide +kernel)]; exact ⟨rfl, rfl⟩))
    (fun os started H enc _ => lifted os started H enc)

/-- ████ THE STATEMENT ████ -/
theorem proved : Rows.SwissBoundsCardSaid :=
  Claim7.holds_tied_plain_at .later [] [.data] true (true, "7e67664e74d41973af7dd467c0ac8d15e139965457cce989b794987f38f310ec") false
    over (fun _ h => by cases h) (by kernel_rfl) (fun _ h => by cases h) swissBounds_row_tie rfl ⟨rfl, rfl⟩ (by kernel_rfl) rfl
    (fun f fn hf hfn => by
      obtain rfl : f = 6 := Option.some.inj ((show Tryd.prog.funcNamed "corbel/corbellaw05.SwissBounds" = some 6 by kernel_rfl).symm.trans hf) |>.symm
      obtain rfl : fn = Tryd.f6 := (Option.some.inj (Tryd.func6.symm.trans hfn)).symm
      refine ⟨by kernel_rfl, fun j t ht => ?_⟩
      have hm := Array.mem_of_getElem? ht
      rw [Tryd.params6] at hm
      simp only [List.mem_toArray, List.mem_cons, List.not_mem_nil, or_false] at hm
      rcases hm with rfl | rfl
      · exact (show Tryd.prog.wantsStandIn 24 = false by kernel_rfl)
      · exact (show Tryd.prog.wantsStandIn 25 = false by kernel_rfl))
    (by kernel_rfl)
#print axioms proved
end Go.Proofs.YtcooapflofiolaaDoor.swissBounds
