/- Texts of this seat, set one behind the other. -/
import Derived.Test.YtcooapflofiolaaDoorZ2
import Derived.Test.YtcooapflofiolaaDoorZ3
import Derived.Test.YtcooapflofiolaaDoorZ1
import Derived.Test.YtcooapflofiolaaDoorRows
import Derived.WalkKit
import Derived.ProofKit
import Derived.OpenShut
import Derived.Deep.RegionHeld3
import Derived.Deep.DeepCutAuto
import Derived.ShutString
import Derived.ChangeOld
import Derived.Below
import Derived.SizedLaws
import Derived.Test.YtcooapflofiolaaDoorTie
import Derived.Test.YtcooapflofiolaaDoorCards
import Derived.SevenTiedAt
/- What SwissBounds needs of the plain map: the words' sums. -/
namespace Go.Proofs.YtcooapflofiolaaDoor
set_option linter.unusedSectionVars false
set_option linter.unusedVariables false
set_option linter.unusedSimpArgs false
theorem cnt_split (p : Nat → Bool) (a : Nat) : ∀ b, cnt p (a + b) = cnt p a + cnt (fun i => p (a + i)) b
  | 0 => rfl
  | b + 1 => by rw [← Nat.add_assoc, cnt, cnt, cnt_split p a b]; omega
theorem cntF_cnt (x : Nat) {p : Nat → Bool} (h : ∀ i, i < 8 → x.testBit i = p i) : cntF x = cnt p 8 := by
  unfold cntF; rw [cnt_filter]; exact cnt_congr h
section
variable {V : Type} [Inhabited V] {H : ByteArray → Nat} {m : Mp V}
def fulC (m : Mp V) (j : Nat) : Nat := cnt (fun i => decide (m.c i < 128)) (8 * j)
def freC (m : Mp V) (j : Nat) : Nat := cnt (fun i => m.c i == 128 || m.c i == 254) (8 * j)
def empC (m : Mp V) (j : Nat) : Nat := cnt (fun i => m.c i == 128) (8 * j)
theorem fulC_succ (m : Mp V) (j : Nat) : fulC m (j + 1) = fulC m j + cntF (ful (m.w j)) := by
  unfold fulC; rw [Nat.mul_add, Nat.mul_one, cnt_split, cntF_cnt (p := fun i => decide (m.c (8 * j + i) < 128)) _ (fun i hi => by rw [bit_ful _ _ hi, c_at m j hi])]
theorem freC_succ (m : Mp V) (j : Nat) : freC m (j + 1) = freC m j + cntF (fre (m.w j)) := by
  unfold freC; rw [Nat.mul_add, Nat.mul_one, cnt_split, cntF_cnt (p := fun i => m.c (8 * j + i) == 128 || m.c (8 * j + i) == 254) _ (fun i hi => by rw [bit_fre _ _ hi, c_at m j hi])]
theorem empC_succ (m : Mp V) (j : Nat) : empC m (j + 1) = empC m j + cntF (mch (m.w j) 128) := by
  unfold empC; rw [Nat.mul_add, Nat.mul_one, cnt_split, cntF_cnt (p := fun i => m.c (8 * j + i) == 128) _ (fun i hi => by rw [bit_mch _ _ _ hi, c_at m j hi])]
theorem sums_le (m : Mp V) (j : Nat) : fulC m j ≤ 8 * j ∧ freC m j ≤ 8 * j ∧ empC m j ≤ 8 * j := ⟨cnt_le _ _, cnt_le _ _, cnt_le _ _⟩
theorem cntF_le (x : Nat) : cntF x ≤ 8 := by
  unfold cntF; rw [cnt_filter]; exact cnt_le _ _
theorem sums_end (I : MInv H m) : fulC m m.ws.length = m.n ∧ freC m m.ws.length = empC m m.ws.length + m.tb := by
  refine ⟨I.cn.symm, ?_⟩
  unfold freC empC
  rw [I.ctb]
  refine cnt_add fun i _ => ?_
  show (m.c i == 128 || m.c i == 254).toNat = (m.c i == 128).toNat + (m.c i == 254).toNat
  by_cases h1 : m.c i = 128
  · rw [h1]; rfl
  · by_cases h2 : m.c i = 254
    · rw [h2]; rfl
    · rw [beq_false_of_ne h1, beq_false_of_ne h2]; rfl
end
end Go.Proofs.YtcooapflofiolaaDoor
namespace Go.Proofs.YtcooapflofiolaaDoor.MS
theorem key_at {w : World} {lo : Nat} {p : Pl} {k0 k1 : BitVec 64} {m : Mp VT} (h : Live w lo p k0 k1 m) {i : Nat} (hi : i < m.n) :
    ∃ s : ByteArray, (textsV (keysL m))[i]? = some (.string s) ∧ s = (keysL m).getD i default ∧ s.size ≤ maxLen ∧ (getV (hashN k0 k1) m s).2 = true ∧ Has m s (getV (hashN k0 k1) m s).1 := by
  have hl : (keysL m).length = m.n := by unfold keysL; rw [List.length_map, full_len h.inv]
  have hl2 : (fullL m).length = m.n := full_len h.inv
  have hi2 : i < (fullL m).length := by omega
  have hm : ((fullL m)[i].1, (fullL m)[i].2) ∈ fullL m := List.getElem_mem hi2
  have hh := mem_full.1 hm
  have hf := (find_has h.inv).1 ⟨_, hh⟩
  obtain ⟨x, hx⟩ := Option.ne_none_iff_exists'.1 hf
  have hg : getV (hashN k0 k1) m (fullL m)[i].1 = ((m.s x).2, true) := by unfold getV; rw [hx]
  refine ⟨(fullL m)[i].1, by simp [textsV, keysL, hi2], by simp [keysL, hi2], h.keys _ _ hh, by rw [hg], ?_⟩
  rw [hg]
  have := (find_val h.inv hx).1 hh
  rw [← this]; exact hh
theorem key_ne {w : World} {lo : Nat} {p : Pl} {k0 k1 : BitVec 64} {m : Mp VT} (h : Live w lo p k0 k1 m) {i j : Nat} (hi : i < m.n) (hj : j < i) : (keysL m).getD i default ≠ (keysL m).getD j default := by
  have hl2 : (fullL m).length = m.n := full_len h.inv
  have := List.pairwise_iff_getElem.1 (full_pair h.inv) j i (by omega) (by omega) hj
  intro e
  apply this
  have e1 : ∀ k (hk : k < (fullL m).length), (keysL m).getD k default = (fullL m)[k].1 := fun k hk => by simp [keysL, hk]
  rw [e1 i (by omega), e1 j (by omega)] at e
  exact e.symm
end Go.Proofs.YtcooapflofiolaaDoor.MS

/- Two rows that hold the same: Words and Texts of the first reference. -/
namespace Go.Proofs.YtcooapflofiolaaDoor
open Go Go.RowKit Go.Shelf
set_option linter.unusedVariables false
set_option linter.unusedSimpArgs false
set_option linter.unusedSectionVars false
set_option maxRecDepth 100000
set_option maxHeartbeats 4000000
def wordsL (l : List Nat) : List Value := l.map fun x => Value.int .u64 (x : Nat)
theorem words_same (l : List Nat) (v1 v2 : Value) (b1 b2 n : Nat) (hn : n ≤ 1000000) (w : World) (h1 : w.ownsRow b1 22 1 v1 n (wordsL l)) (h2 : w.ownsRow b2 22 1 v2 n (wordsL l)) :
    Calls Tryd.prog 45 #[v1, v2] w fun e w' => e = .returned (.bool true) ∧ Below w.heap.size w w' := by
  obtain ⟨a1, c1, rfl, _⟩ := own_val h1
  obtain ⟨a2, c2, rfl, _⟩ := own_val h2
  have hl : l.length = n := by have := h1.1; simpa [wordsL] using this
  have H1 := Lib.hid h1
  have H2 := Lib.hid h2
  clear h1 h2
  go_enter Tryd.func45, Tryd.ntmps45
  go_wp2
  go_loopw [13] (fun i wr => ∃ k : Nat, k ≤ n ∧ i = .int .i64 k ∧ Below w.heap.size w wr) (fun i _ => n - (intOf i).toNat)
  case atStart => exact ⟨0, by omega, rfl, Below.refl _ _⟩
  case round =>
    obtain ⟨k, hk, rfl, hB⟩ := hrel
    have HB := Lib.hid hB
    clear hB
    by_cases hlt : k < n
    · have hd : decide ((k : Int) < (n : Int)) = true := decide_eq_true (by omega)
      have hkn : (k : Int) < (n : Int) := by omega
      obtain ⟨g1, d1, e1, _, _, _, hc1⟩ := own_read (own_below H1.out (Nat.le_refl _) HB.out) (by omega)
      obtain ⟨g2, d2, e2, _, _, _, hc2⟩ := own_read (own_below H2.out (Nat.le_refl _) HB.out) (by omega)
      cases e1
      cases e2
      obtain ⟨x, hx⟩ : ∃ x, l[k]? = some x := ⟨_, List.getElem?_eq_getElem (by omega)⟩
      have hat : (wordsL l)[k]? = some (.int .u64 (x : Nat)) := by simp [wordsL, hx]
      have s1 := hc1 _ _ hat
      have s2 := hc2 _ _ hat
      clear hc1 hc2 hx hat
      go_upto_region 6 with fail
      go_quiet (fail)
      go_wp2_with fail
      go_roundw
      case rel => exact ⟨k + 1, by omega, by go_num, HB.out.trans ⟨rfl, rfl, rfl, Nat.le_refl _, fun _ _ => rfl⟩⟩
      case measure => simp [intOf]; omega
    · obtain rfl : k = n := by omega
      have hd : decide ((k : Int) < (k : Int)) = false := decide_eq_false (by omega)
      go_wp2
      go_ret
      exact ⟨rfl, HB.out⟩
theorem texts_same (l : List ByteArray) (v1 v2 : Value) (b1 b2 n : Nat) (hn : n ≤ 1000000) (w : World) (h1 : w.ownsRow b1 9 1 v1 n (textsV l)) (h2 : w.ownsRow b2 9 1 v2 n (textsV l)) :
    Calls Tryd.prog 46 #[v1, v2] w fun e w' => e = .returned (.bool true) ∧ Below w.heap.size w w' := by
  obtain ⟨a1, c1, rfl, _⟩ := own_val h1
  obtain ⟨a2, c2, rfl, _⟩ := own_val h2
  have hl : l.length = n := by have := h1.1; simpa [textsV] using this
  have H1 := Lib.hid h1
  have H2 := Lib.hid h2
  clear h1 h2
  go_enter Tryd.func46, Tryd.ntmps46
  go_wp2
  go_loopw [13] (fun i wr => ∃ k : Nat, k ≤ n ∧ i = .int .i64 k ∧ Below w.heap.size w wr) (fun i _ => n - (intOf i).toNat)
  case atStart => exact ⟨0, by omega, rfl, Below.refl _ _⟩
  case round =>
    obtain ⟨k, hk, rfl, hB⟩ := hrel
    have HB := Lib.hid hB
    clear hB
    by_cases hlt : k < n
    · have hd : decide ((k : Int) < (n : Int)) = true := decide_eq_true (by omega)
      have hkn : (k : Int) < (n : Int) := by omega
      obtain ⟨g1, d1, e1, _, _, _, hc1⟩ := own_read (own_below H1.out (Nat.le_refl _) HB.out) (by omega)
      obtain ⟨g2, d2, e2, _, _, _, hc2⟩ := own_read (own_below H2.out (Nat.le_refl _) HB.out) (by omega)
      cases e1
      cases e2
      obtain ⟨x, hx⟩ : ∃ x, l[k]? = some x := ⟨_, List.getElem?_eq_getElem (by omega)⟩
      have hat : (textsV l)[k]? = some (.string x) := by simp [textsV, hx]
      have s1 := hc1 _ _ hat
      have s2 := hc2 _ _ hat
      clear hc1 hc2 hx hat
      go_upto_region 6 with fail
      go_quiet (fail)
      go_wp2_with fail
      go_roundw
      case rel => exact ⟨k + 1, by omega, by go_num, HB.out.trans ⟨rfl, rfl, rfl, Nat.le_refl _, fun _ _ => rfl⟩⟩
      case measure => simp [intOf]; omega
    · obtain rfl : k = n := by omega
      have hd : decide ((k : Int) < (k : Int)) = false := decide_eq_false (by omega)
      go_wp2
      go_ret
      exact ⟨rfl, HB.out⟩
end Go.Proofs.YtcooapflofiolaaDoor

/- The law 'SwissCopies' answers true at every input, and leaves its arguments as they were; the listed table starts as the program's text lays it (the given tie). (The frame was written by a program, after the kit's own frames.) -/
namespace Go.Proofs.YtcooapflofiolaaDoor.swissCopies
open Go.ChangeShapes Go.WideShapes Go.ChangeAt Go.RowKit Go.Shelf Go.Proofs.YtcooapflofiolaaDoor
open Go.ChangeMaps (open_string shut_string)
set_option linter.unusedVariables false
set_option linter.unusedSimpArgs false
set_option maxRecDepth 100000

theorem laidOut : laidOutB Tryd.prog = true := by kernel_rfl

set_option maxHeartbeats 8000000 in
theorem walk (w : World) (hS : Sh w) (a0 b0 : BitVec 64) (s1 : Option Addr) (n1 c1 : Nat) (xs1 : List Ac) (ar1 : AR w s1 n1 xs1) (s2 : Option Addr) (n2 c2 : Nat) (xs2 : List Ac) (ar2 : AR w s2 n2 xs2) :
    Calls Tryd.prog 8 #[.agg #[.int .u64 (Sip.U a0), .int .u64 (Sip.U b0)], .slice s1 n1 c1, .slice s2 n2 c2] w fun e w' => e = .returned (.bool true) ∧ Below w.heap.size w w' := by
  have HAR := Lib.hid ar1
  have HAR2 := Lib.hid ar2
  have HSh := Lib.hid hS
  obtain ⟨w1, hw1⟩ : ∃ w1, w1 = w.alloc (.cells #[.int .u64 (Sip.U a0), .int .u64 (Sip.U b0)] 24) := ⟨_, rfl⟩
  have B1 : Hid (Below w.heap.size w w1) := by rw [hw1]; exact (Below.refl _ w).alloc (Nat.le_refl _) _
  have c0 : w1.cell? ⟨w.heap.size, 0, none⟩ = some (.int .u64 (Sip.U a0)) := by rw [hw1]; simp
  have d1 : w1.cell? ⟨w.heap.size, 1, none⟩ = some (.int .u64 (Sip.U b0)) := by rw [hw1]; simp
  have S1 : Hid (Sh w1) := HSh.out.below B1.out
  have HN := Lib.hid (MS.new_live a0 b0 0 w1 S1.out)
  have HLV : Hid (∀ W, Below w.heap.size w W → Calls Tryd.prog 15 #[] W fun e w' => e = .returned (.bool true) ∧ Below w.heap.size w w') := by
    show ∀ W, _
    intro W hW
    exact (MI.lives_any W (HSh.out.below hW)).mono fun e w' ⟨h1, h2⟩ => ⟨h1, hW.trans (h2.mono hW.size)⟩
  have hneed : needF 0 = 1 := by rfl
  have HW1 := Lib.hid hw1
  clear hw1 hS ar1 ar2
  go_enter Tryd.func8, Tryd.ntmps8
  go_upto_region 1 with fail
  rw [← HW1.out]
  go_wp2_with fail
  refine HN.out.mono ?_
  rintro e w2 ⟨hb, ⟨h0, _⟩ | ⟨p, g, hg, rfl, hL⟩⟩
  · rw [hneed] at h0; cases h0
  rw [hneed] at hg
  obtain rfl : g = 1 := by omega
  have HL := Lib.hid hL
  have B2 : Hid (Below w.heap.size w w2) := B1.out.trans (hb.mono B1.out.size)
  have HLO : Hid (w.heap.size ≤ w1.heap.size) := B1.out.size
  clear hb hL hg hneed c0 d1
  have HFE := Lib.hid (few_any s1 n1 c1 xs1 w2 (HAR.out.below (Nat.le_refl _) B2.out))
  go_wp2_with fail
  refine HFE.out.mono ?_
  rintro e w3 ⟨b, rfl, hb3, hfew⟩
  have L3 := Lib.hid (HL.out.below (Nat.le_refl _) hb3)
  have B3 : Hid (Below w.heap.size w w3) := B2.out.trans (hb3.mono B2.out.size)
  have HFew := Lib.hid hfew
  clear hb3 hfew
  cases b
  · go_wp2_with fail
    refine (HLV.out _ B3.out).mono ?_
    rintro e w4 ⟨rfl, hb⟩
    go_wp2
    go_ret
    exact ⟨rfl, hb⟩
  have HFE2 := Lib.hid (few_any s2 n2 c2 xs2 w3 (HAR2.out.below (Nat.le_refl _) B3.out))
  go_wp2_with fail
  refine HFE2.out.mono ?_
  rintro e w4 ⟨b, rfl, hb4, hfew2⟩
  have L4 := Lib.hid (L3.out.below (Nat.le_refl _) hb4)
  have B4 : Hid (Below w.heap.size w w4) := B3.out.trans (hb4.mono B3.out.size)
  have HFew2 := Lib.hid hfew2
  clear hb4 hfew2
  cases b
  · go_wp2_with fail
    refine (HLV.out _ B4.out).mono ?_
    rintro e w5 ⟨rfl, hb⟩
    go_wp2
    go_ret
    exact ⟨rfl, hb⟩
  have HF : Hid (Few xs1 n1) := HFew.out (by simp)
  have HF2 : Hid (Few xs2 n2) := HFew2.out (by simp)
  have hn600 : n1 ≤ 600 := HF.out.1
  have hn602 : n2 ≤ 600 := HF2.out.1
  go_wp2
  go_loopw [45] (fun i wr => ∃ (k : Nat) (q : Pl) (m : Mp ByteArray), k ≤ n1 ∧ i = .int .i64 k ∧ q.b = p.b ∧ MS.Live wr w1.heap.size q a0 b0 m ∧ Below w.heap.size w wr) (fun i _ => n1 - (intOf i).toNat)
  case atStart => exact ⟨0, p, _, by omega, rfl, rfl, L4.out, B4.out⟩
  case round =>
    obtain ⟨k, q, m, hk, rfl, hq, hLq, hB⟩ := hrel
    have HLq := Lib.hid hLq
    have HBr := Lib.hid hB
    have HQ := Lib.hid hq
    clear hLq hB hq
    by_cases hlt : k < n1
    · have hd2 : decide ((k : Int) < (n1 : Int)) = true := decide_eq_true (by omega)
      have hkn : (k : Int) < (n1 : Int) := by omega
      obtain ⟨b, off, rfl, x0, x1, x2⟩ := (HAR.out.below (Nat.le_refl _) HBr.out).act hlt
      obtain ⟨x, hx⟩ : ∃ x, x = xs1.getD k default := ⟨_, rfl⟩
      have hxk : x.key.size ≤ maxLen := by
        have h1 := (HF.out.2 k hlt).1
        rw [← hx] at h1
        exact Nat.le_trans (Nat.le_of_lt h1) (by decide : 40000 ≤ maxLen)
      rw [← hx] at x0 x1 x2
      have HXK := Lib.hid hxk
      clear hx hxk
      obtain ⟨wA, hwA⟩ : ∃ wA, wA = wr.alloc (.cells #[.int .i64 x.k, .string x.key, .string x.val] 32) := ⟨_, rfl⟩
      have BA : Hid (Below wr.heap.size wr wA) := by rw [hwA]; exact (Below.refl _ wr).alloc (Nat.le_refl _) _
      have LX := Lib.hid (HLq.out.below (Nat.le_refl _) BA.out)
      have BX : Hid (Below w.heap.size w wA) := HBr.out.trans (BA.out.mono HBr.out.size)
      have y0 : wA.cell? ⟨wr.heap.size, 0, none⟩ = some (.int .i64 x.k) := by rw [hwA]; simp
      have y1 : wA.cell? ⟨wr.heap.size, 1, none⟩ = some (.string x.key) := by rw [hwA]; simp
      have y2 : wA.cell? ⟨wr.heap.size, 2, none⟩ = some (.string x.val) := by rw [hwA]; simp
      have HWA := Lib.hid hwA
      clear hwA
      go_upto_region 7 with fail
      rw [← HWA.out]
      clear x0 x1 x2
      by_cases hk1 : x.k = 1
      · rw [hk1] at y0
        clear hk1
        have HAC := Lib.hid (MS.delete_live LX.out x.key HXK.out)
        rw [HQ.out] at HAC
        go_wp2_with fail
        refine HAC.out.mono ?_
        rintro e w4 ⟨rfl, q2, hq2, hL2, _, hK2⟩
        have L2 := Lib.hid hL2
        have B4 : Hid (Below w.heap.size w w4) := BX.out.trans ((LX.out.low hK2).mono HLO.out)
        have HQ2 := Lib.hid (hq2.trans HQ.out)
        clear hL2 hK2 hq2
        go_wp2_with fail
        go_roundw
        case rel => exact ⟨k + 1, q2, _, by omega, by go_num, HQ2.out, L2.out, B4.out⟩
        case measure => simp [intOf]; omega
      · have hk1' : (x.k == 1) = false := by simpa using hk1
        clear hk1
        have HAC := Lib.hid (MS.put_live LX.out x.key x.val HXK.out)
        rw [HQ.out] at HAC
        go_wp2_with fail
        refine HAC.out.mono ?_
        rintro e w4 ⟨rfl, q2, hq2, hL2, _, hK2⟩
        have L2 := Lib.hid hL2
        have B4 : Hid (Below w.heap.size w w4) := BX.out.trans ((LX.out.low hK2).mono HLO.out)
        have HQ2 := Lib.hid (hq2.trans HQ.out)
        clear hL2 hK2 hq2
        go_wp2_with fail
        go_roundw
        case rel => exact ⟨k + 1, q2, _, by omega, by go_num, HQ2.out, L2.out, B4.out⟩
        case measure => simp [intOf]; omega
    · obtain rfl : k = n1 := by omega
      have hd2 : decide ((k : Int) < (k : Int)) = false := decide_eq_false (by omega)
      obtain ⟨n, hn⟩ : ∃ n, n = m.n := ⟨_, rfl⟩
      have hmx := HLq.out.inv.mx
      rw [← hn] at hmx
      have hgl := HLq.out.inv.len
      have HNN := Lib.hid hn
      clear hn
      obtain ⟨wC, hwC⟩ : ∃ wC, wC = wr := ⟨_, rfl⟩
      rw [← hwC] at HLq HBr ⊢
      clear hwC
      have HSr : Hid (Sh wC) := HLq.out.sh
      have HCP := Lib.hid (MS.copy_any q a0 b0 m wC HLq.out.at_ HLq.out.inv)
      rw [HQ.out] at HCP
      go_wp2_with fail
      refine HCP.out.mono ?_
      rintro e w5 ⟨pc, rfl, hat, hown, hb5⟩
      have LC5 : Hid (MS.Live w5 wC.heap.size pc a0 b0 m) := ⟨hat, HLq.out.inv, HLq.out.keys, HSr.out.below hb5, hown, MS.sh_pos HSr.out, hb5.size⟩
      have LM5 := Lib.hid (HLq.out.below (Nat.le_refl _) hb5)
      have B5 : Hid (Below w.heap.size w w5) := HBr.out.trans (hb5.mono HBr.out.size)
      have HPL : Hid (∀ j, pc.own j → wC.heap.size ≤ j ∧ j < w5.heap.size) := fun j hj => ⟨hown j hj, hat.lt hj⟩
      have HQL : Hid (∀ j, q.own j → j < wC.heap.size) := fun j hj => HLq.out.at_.lt hj
      have H1 := Lib.hid (MS.controls_any pc a0 b0 m w5 LC5.out.at_ LC5.out.inv)
      clear hat hown hb5
      go_wp2_with fail
      refine H1.out.mono ?_
      rintro e w6 ⟨v6, rfl, hv, hb⟩
      have V6 := Lib.hid hv
      have LC6 := Lib.hid (LC5.out.below (Nat.le_refl _) hb)
      have LM6 := Lib.hid (LM5.out.below (Nat.le_refl _) hb)
      have B6 : Hid (Below w.heap.size w w6) := B5.out.trans (hb.mono B5.out.size)
      have S6 : Hid (w5.heap.size ≤ w6.heap.size) := hb.size
      clear hv hb
      have H2 := Lib.hid (MS.controls_any q a0 b0 m w6 LM6.out.at_ LM6.out.inv)
      rw [HQ.out] at H2
      go_wp2_with fail
      refine H2.out.mono ?_
      rintro e w7 ⟨v7, rfl, hv, hb⟩
      have V7 := Lib.hid hv
      have V67 := Lib.hid (own_below V6.out (Nat.le_refl _) hb)
      have LC7 := Lib.hid (LC6.out.below (Nat.le_refl _) hb)
      have LM7 := Lib.hid (LM6.out.below (Nat.le_refl _) hb)
      have B7 : Hid (Below w.heap.size w w7) := B6.out.trans (hb.mono B6.out.size)
      have S7 : Hid (w5.heap.size ≤ w7.heap.size) := Nat.le_trans S6.out hb.size
      clear hv hb
      have H3 := Lib.hid (words_same m.ws _ _ _ _ m.ws.length (by omega) w7 V67.out V7.out)
      go_wp2_with fail
      refine H3.out.mono ?_
      rintro e w8 ⟨rfl, hb⟩
      have LC8 := Lib.hid (LC7.out.below (Nat.le_refl _) hb)
      have LM8 := Lib.hid (LM7.out.below (Nat.le_refl _) hb)
      have B8 : Hid (Below w.heap.size w w8) := B7.out.trans (hb.mono B7.out.size)
      have S8 : Hid (w5.heap.size ≤ w8.heap.size) := Nat.le_trans S7.out hb.size
      clear hb
      have H4 := Lib.hid (MS.keys_any pc a0 b0 m w8 LC8.out.at_ LC8.out.inv)
      go_wp2_with fail
      refine H4.out.mono ?_
      rintro e w9 ⟨v9, rfl, hv, hb⟩
      have V9 := Lib.hid hv
      have LM9 := Lib.hid (LM8.out.below (Nat.le_refl _) hb)
      have LC9 := Lib.hid (LC8.out.below (Nat.le_refl _) hb)
      have B9 : Hid (Below w.heap.size w w9) := B8.out.trans (hb.mono B8.out.size)
      have S9 : Hid (w5.heap.size ≤ w9.heap.size) := Nat.le_trans S8.out hb.size
      clear hv hb
      have H5 := Lib.hid (MS.keys_any q a0 b0 m w9 LM9.out.at_ LM9.out.inv)
      rw [HQ.out] at H5
      go_wp2_with fail
      refine H5.out.mono ?_
      rintro e w10 ⟨v10, rfl, hv, hb⟩
      have V10 := Lib.hid hv
      have V910 := Lib.hid (own_below V9.out (Nat.le_refl _) hb)
      have LM10 := Lib.hid (LM9.out.below (Nat.le_refl _) hb)
      have LC10 := Lib.hid (LC9.out.below (Nat.le_refl _) hb)
      have B10 : Hid (Below w.heap.size w w10) := B9.out.trans (hb.mono B9.out.size)
      have S10 : Hid (w5.heap.size ≤ w10.heap.size) := Nat.le_trans S9.out hb.size
      clear hv hb
      have H6 := Lib.hid (texts_same (MS.keysL m) _ _ _ _ m.n (by have := HNN.out; omega) w10 V910.out V10.out)
      go_wp2_with fail
      refine H6.out.mono ?_
      rintro e w11 ⟨rfl, hb⟩
      have LM11 := Lib.hid (LM10.out.below (Nat.le_refl _) hb)
      have LC11 := Lib.hid (LC10.out.below (Nat.le_refl _) hb)
      have B11 : Hid (Below w.heap.size w w11) := B10.out.trans (hb.mono B10.out.size)
      have S11 : Hid (w5.heap.size ≤ w11.heap.size) := Nat.le_trans S10.out hb.size
      clear hb
      have H7 := Lib.hid (MS.controls_any q a0 b0 m w11 LM11.out.at_ LM11.out.inv)
      rw [HQ.out] at H7
      go_wp2_with fail
      refine H7.out.mono ?_
      rintro e w12 ⟨vW, rfl, hv, hb⟩
      have VW12 := Lib.hid hv
      have LM12 := Lib.hid (LM11.out.below (Nat.le_refl _) hb)
      have LC12 := Lib.hid (LC11.out.below (Nat.le_refl _) hb)
      have B12 : Hid (Below w.heap.size w w12) := B11.out.trans (hb.mono B11.out.size)
      have S12 : Hid (w5.heap.size ≤ w12.heap.size) := Nat.le_trans S11.out hb.size
      clear hv hb
      have H8 := Lib.hid (MS.keys_any q a0 b0 m w12 LM12.out.at_ LM12.out.inv)
      rw [HQ.out, ← HNN.out] at H8
      go_wp2_with fail
      refine H8.out.mono ?_
      rintro e w13 ⟨vK, rfl, hv, hb⟩
      obtain ⟨ka, kc, rfl, _⟩ := own_val hv
      have VK13 := Lib.hid hv
      have VW13 := Lib.hid (own_below VW12.out (Nat.le_refl _) hb)
      have LM13 := Lib.hid (LM12.out.below (Nat.le_refl _) hb)
      have LC13 := Lib.hid (LC12.out.below (Nat.le_refl _) hb)
      have B13 : Hid (Below w.heap.size w w13) := B12.out.trans (hb.mono B12.out.size)
      have S13 : Hid (w5.heap.size ≤ w13.heap.size) := Nat.le_trans S12.out hb.size
      clear hv hb
      obtain ⟨vals, hvals⟩ : ∃ vals : List ByteArray, vals = (MS.keysL m).map fun s => (MS.getV (hashN a0 b0) m s).1 := ⟨_, rfl⟩
      have hvl : vals.length = n := by rw [hvals, List.length_map]; unfold MS.keysL; rw [List.length_map, full_len HLq.out.inv, HNN.out]
      have HVA := Lib.hid hvals
      have HVL := Lib.hid hvl
      clear hvals hvl
      obtain ⟨i0, hi, hz0, hz1, hz2⟩ := info_parts infoT
      go_wp2
      go_loopw [13, 89] (fun v i wr => ∃ k : Nat, k ≤ n ∧ i = .int .i64 k ∧ wr.ownsRow w13.heap.size 9 1 v k (textsV (vals.take k)) ∧ Below w13.heap.size w13 wr) (fun _ i _ => n - (intOf i).toNat)
      case atStart => exact ⟨0, Nat.zero_le _, rfl, World.ownsRow_nil _ _ _ _, Below.refl _ _⟩
      case round =>
        obtain ⟨j, hj, rfl, hrow, hBj⟩ := hrel
        have HR := Lib.hid hrow
        have HBj := Lib.hid hBj
        clear hrow hBj
        by_cases hlt : j < n
        · have hlt' : decide ((j : Int) < (n : Int)) = true := decide_eq_true (by omega)
          have hjn : (j : Int) < (n : Int) := by omega
          obtain ⟨gg, cap, hv, _, _, _, hcells⟩ := own_read VK13.out (by omega)
          injection hv with hva _ hvc'
          subst hva
          obtain ⟨s, e1, e2, e3, e4, _⟩ := MS.key_at LM13.out (i := j) (by rw [← HNN.out]; exact hlt)
          have s0 := HBj.out.cell (cell_lt (hcells _ _ e1)) |>.trans (hcells _ _ e1)
          have LMj := Lib.hid (LM13.out.below (Nat.le_refl _) HBj.out)
          have HGE := Lib.hid (MS.get_any q a0 b0 m s e3 _ LMj.out.at_ LMj.out.inv)
          rw [HQ.out, e4] at HGE
          obtain ⟨gv, hgv⟩ : ∃ gv, gv = (MS.getV (hashN a0 b0) m s).1 := ⟨_, rfl⟩
          rw [← hgv] at HGE
          have hvj : vals[j]? = some gv := by
            have hjl : j < (MS.keysL m).length := by have := HVL.out; rw [HVA.out, List.length_map] at this; omega
            rw [HVA.out, List.getElem?_map, List.getElem?_eq_getElem hjl, hgv, e2, List.getD_eq_getElem?_getD, List.getElem?_eq_getElem hjl]; rfl
          have HVJ := Lib.hid hvj
          clear hcells e1 e2 e3 e4 hvc' hgv hvj
          go_wp2_with fail
          refine HGE.out.mono ?_
          rintro e w6' ⟨rfl, hb6⟩
          have HB6 := Lib.hid hb6
          have HR6 := Lib.hid (own_below HR.out (Nat.le_refl _) hb6)
          have HBj6 : Hid (Below w13.heap.size w13 w6') := HBj.out.trans (hb6.mono HBj.out.size)
          clear hb6 s0
          have LX : Hid (Below w6'.heap.size w6' (w6'.alloc (.cells #[.string gv] 9))) := (Below.refl _ w6').alloc (Nat.le_refl _) _
          have hnew : ∀ j u, [Value.string gv][j]? = some u → (w6'.alloc (.cells #[.string gv] 9)).cell? (Addr.add ⟨w6'.heap.size, 0, none⟩ j) = some u := fun j u h => by
            match j with
            | 0 => simp at h; subst h; rw [Addr.add_lit]; simp
            | j + 1 => simp at h
          obtain ⟨v', w', hr, h2, h3, _, h5⟩ := run_append_own_at (P := Tryd.prog) (w6'.alloc (.cells #[.string gv] 9)) w13.heap.size 30 30 9 i0 _ 1 16 Tryd.underlying30 hi hz0 hz1 hz2 rfl (by decide) _ j _ (own_below HR6.out (Nat.le_refl _) LX.out) ⟨w6'.heap.size, 0, none⟩ 1 1 [.string gv] rfl hnew (by simp [Value.oneCell']) (by simp only [maxLen]; omega) (by omega) (by have := HBj6.out.size; have := LX.out.size; omega)
          have HA := Lib.hid hr
          have HO := Lib.hid h2
          have HB2 : Hid (Below w13.heap.size w13 w') := (HBj6.out.trans (LX.out.mono HBj6.out.size)).grown h3 (by have := HBj6.out.size; have := LX.out.size; omega) (fun r er => (HR6.out.lt r er).1)
          clear hr h2 h3 h5 hnew
          go_wp2_with (at_builtin; refine wpList_runT 30 rfl _ _ rfl _ _ rfl rfl _ _ HA.out ?_)
          go_roundw
          case rel =>
            refine ⟨j + 1, by omega, by go_num, ?_, HB2.out⟩
            have hk1 : vals.take (j + 1) = vals.take j ++ [gv] := by
              rw [List.take_succ_eq_append_getElem (by rw [HVL.out]; exact hlt)]
              congr 2
              have := HVJ.out
              rw [List.getElem?_eq_getElem (by rw [HVL.out]; exact hlt)] at this
              injection this
            have := HO.out
            rw [hk1]
            simpa [textsV] using this
          case measure => simp [intOf]; omega
        · have hlt' : decide ((j : Int) < (n : Int)) = false := decide_eq_false (by omega)
          obtain rfl : j = n := by omega
          clear hi hz0 hz1 hz2
          obtain ⟨w14, hw14⟩ : ∃ w14, w14 = wr := ⟨_, rfl⟩
          rw [← hw14] at HR HBj ⊢
          have LM14 := Lib.hid (LM13.out.below (Nat.le_refl _) HBj.out)
          have LC14 := Lib.hid (LC13.out.below (Nat.le_refl _) HBj.out)
          have VK14 := Lib.hid (own_below VK13.out (Nat.le_refl _) HBj.out)
          have VW14 := Lib.hid (own_below VW13.out (Nat.le_refl _) HBj.out)
          have B14 : Hid (Below w.heap.size w w14) := B13.out.trans (HBj.out.mono B13.out.size)
          have S14 : Hid (w13.heap.size ≤ w14.heap.size) := HBj.out.size
          have HR14 : Hid (w14.ownsRow w13.heap.size 9 1 u13 j (textsV vals)) := by
            have := HR.out
            rw [← HVL.out, List.take_length, HVL.out] at this
            exact this
          obtain ⟨ua, uc, hu, _⟩ := own_val HR14.out
          subst hu
          clear HR hw14
          go_wp2
          go_loopw [106] (fun i wr => ∃ (k : Nat) (qc : Pl) (mc : Mp ByteArray), k ≤ n2 ∧ i = .int .i64 k ∧ qc.b = pc.b ∧ MS.Live wr wC.heap.size qc a0 b0 mc ∧ (∀ j, qc.own j → pc.own j ∨ w14.heap.size ≤ j) ∧ Kept pc.own w14 wr) (fun i _ => n2 - (intOf i).toNat)
          case atStart => exact ⟨0, pc, _, by omega, rfl, rfl, LC14.out, fun j hj => .inl hj, Kept.refl _ _⟩
          case round =>
            obtain ⟨k, qc, mc, hk, rfl, hqc, hLc, hoc, hkc⟩ := hrel
            have HLc := Lib.hid hLc
            have HOC := Lib.hid hoc
            have HKC := Lib.hid hkc
            have HQC := Lib.hid hqc
            clear hLc hoc hkc hqc
            have hlow : Hid (Below wC.heap.size w14 wr) := HKC.out.below (by have := LC14.out.le; omega) (fun j _ h => (HPL.out j h).1)
            have BW : Hid (Below w.heap.size w wr) := B14.out.trans (hlow.out.mono HBr.out.size)
            by_cases hlt : k < n2
            · have hd2 : decide ((k : Int) < (n2 : Int)) = true := decide_eq_true (by omega)
              have hkn : (k : Int) < (n2 : Int) := by omega
              obtain ⟨b, off, rfl, x0, x1, x2⟩ := (HAR2.out.below (Nat.le_refl _) BW.out).act hlt
              obtain ⟨x, hx⟩ : ∃ x, x = xs2.getD k default := ⟨_, rfl⟩
              obtain ⟨h1, h2⟩ := HF2.out.2 k hlt
              rw [← hx] at h1 h2
              have hxk : x.key.size ≤ maxLen := Nat.le_trans (Nat.le_of_lt h1) (by decide : 40000 ≤ maxLen)
              rw [← hx] at x0 x1 x2
              have HXK := Lib.hid hxk
              clear hx hxk h1
              obtain ⟨wA, hwA⟩ : ∃ wA, wA = wr.alloc (.cells #[.int .i64 x.k, .string x.key, .string x.val] 32) := ⟨_, rfl⟩
              have BA : Hid (Below wr.heap.size wr wA) := by rw [hwA]; exact (Below.refl _ wr).alloc (Nat.le_refl _) _
              have LX := Lib.hid (HLc.out.below (Nat.le_refl _) BA.out)
              have KX : Hid (Kept pc.own w14 wA) := by rw [hwA]; exact HKC.out.alloc _
              have y0 : wA.cell? ⟨wr.heap.size, 0, none⟩ = some (.int .i64 x.k) := by rw [hwA]; simp
              have y1 : wA.cell? ⟨wr.heap.size, 1, none⟩ = some (.string x.key) := by rw [hwA]; simp
              have y2 : wA.cell? ⟨wr.heap.size, 2, none⟩ = some (.string x.val) := by rw [hwA]; simp
              have HWA := Lib.hid hwA
              clear hwA
              go_upto_region 25 with fail
              rw [← HWA.out]
              clear x0 x1 x2
              by_cases hk1 : x.k = 1
              · rw [hk1] at y0
                clear hk1
                have HAC := Lib.hid (MS.delete_live LX.out x.key HXK.out)
                rw [HQC.out] at HAC
                go_wp2_with fail
                refine HAC.out.mono ?_
                rintro e w' ⟨rfl, q2, hq2, hL2, ho2, hK2⟩
                have L2 := Lib.hid hL2
                have O2 : Hid (∀ j, q2.own j → pc.own j ∨ w14.heap.size ≤ j) := fun j hj => by
                  rcases ho2 j hj with h | h
                  · exact HOC.out j h
                  · exact .inr (Nat.le_trans KX.out.size h)
                have K2 : Hid (Kept pc.own w14 w') := KX.out.join hK2 (fun _ h => h) (fun i hi h => (HOC.out i h).resolve_right (by omega))
                have HQ2 := Lib.hid (hq2.trans HQC.out)
                clear hL2 hK2 hq2 ho2
                go_wp2_with fail
                go_roundw
                case rel => exact ⟨k + 1, q2, _, by omega, by go_num, HQ2.out, L2.out, O2.out, K2.out⟩
                case measure => simp [intOf]; omega
              · have hk1' : (x.k == 1) = false := by simpa using hk1
                clear hk1
                have HAC := Lib.hid (MS.put_live LX.out x.key (x.val ++ ⟨#[33]⟩) HXK.out)
                rw [HQC.out] at HAC
                go_wp2_with fail
                refine HAC.out.mono ?_
                rintro e w' ⟨rfl, q2, hq2, hL2, ho2, hK2⟩
                have L2 := Lib.hid hL2
                have O2 : Hid (∀ j, q2.own j → pc.own j ∨ w14.heap.size ≤ j) := fun j hj => by
                  rcases ho2 j hj with h | h
                  · exact HOC.out j h
                  · exact .inr (Nat.le_trans KX.out.size h)
                have K2 : Hid (Kept pc.own w14 w') := KX.out.join hK2 (fun _ h => h) (fun i hi h => (HOC.out i h).resolve_right (by omega))
                have HQ2 := Lib.hid (hq2.trans HQC.out)
                clear hL2 hK2 hq2 ho2
                go_wp2_with fail
                go_roundw
                case rel => exact ⟨k + 1, q2, _, by omega, by go_num, HQ2.out, L2.out, O2.out, K2.out⟩
                case measure => simp [intOf]; omega
            · obtain rfl : k = n2 := by omega
              have hd2 : decide ((k : Int) < (k : Int)) = false := decide_eq_false (by omega)
              obtain ⟨w15, hw15⟩ : ∃ w15, w15 = wr := ⟨_, rfl⟩
              rw [← hw15] at HKC BW ⊢
              have LM15 : Hid (MS.Live w15 w1.heap.size q a0 b0 m) := LM14.out.kept HKC.out (fun j h1 h2 => by have := HQL.out j h1; have := (HPL.out j h2).1; omega) (fun h => by have := (HPL.out 0 h).1; have := MS.sh_pos HSr.out; omega)
              have VK15 := Lib.hid (own_kept VK14.out HKC.out (fun j hj h => by have := (HPL.out j h).2; have := S12.out; omega))
              have VW15 := Lib.hid (own_kept VW14.out HKC.out (fun j hj h => by have := (HPL.out j h).2; have := S11.out; omega))
              have VU15 := Lib.hid (own_kept HR14.out HKC.out (fun j hj h => by have := (HPL.out j h).2; have := S13.out; omega))
              clear hw15
              go_wp2
              go_loopw [127] (fun i wr => ∃ j' : Nat, j' ≤ j ∧ i = .int .i64 j' ∧ Below w15.heap.size w15 wr) (fun i _ => j - (intOf i).toNat)
              case atStart => exact ⟨0, Nat.zero_le _, rfl, Below.refl _ _⟩
              case round =>
                obtain ⟨t, ht, rfl, hBt⟩ := hrel
                have HBt := Lib.hid hBt
                have LMt := Lib.hid (LM15.out.below (Nat.le_refl _) HBt.out)
                have BWt : Hid (Below w.heap.size w wr) := BW.out.trans (hBt.mono BW.out.size)
                clear hBt
                by_cases hlt : t < j
                · have hlt' : decide ((t : Int) < (j : Int)) = true := decide_eq_true (by omega)
                  have hjn : (t : Int) < (j : Int) := by omega
                  obtain ⟨gg, cap, hv, _, _, _, hcells⟩ := own_read (own_below VK15.out (Nat.le_refl _) HBt.out) (by omega)
                  injection hv with hva _ hvc'
                  subst hva
                  obtain ⟨s, e1, e2, e3, e4, _⟩ := MS.key_at LMt.out (i := t) (by rw [← HNN.out]; exact hlt)
                  have s0 := hcells _ _ e1
                  have HGE := Lib.hid (MS.get_any q a0 b0 m s e3 _ LMt.out.at_ LMt.out.inv)
                  rw [HQ.out, e4] at HGE
                  obtain ⟨gv, hgv⟩ : ∃ gv, gv = (MS.getV (hashN a0 b0) m s).1 := ⟨_, rfl⟩
                  rw [← hgv] at HGE
                  have hvj : vals[t]? = some gv := by
                    have hjl : t < (MS.keysL m).length := by have := HVL.out; rw [HVA.out, List.length_map] at this; omega
                    rw [HVA.out, List.getElem?_map, List.getElem?_eq_getElem hjl, hgv, e2, List.getD_eq_getElem?_getD, List.getElem?_eq_getElem hjl]; rfl
                  have hat : (textsV vals)[t]? = some (.string gv) := by simp [textsV, hvj]
                  have HAT := Lib.hid hat
                  clear hcells e1 e2 e3 e4 hvc' hgv hvj hat
                  go_wp2_with fail
                  refine HGE.out.mono ?_
                  rintro e w6' ⟨rfl, hb6⟩
                  have HBt6 : Hid (Below w15.heap.size w15 w6') := HBt.out.trans (hb6.mono HBt.out.size)
                  obtain ⟨gu, capu, hv, _, _, _, hcells⟩ := own_read (own_below VU15.out (Nat.le_refl _) HBt6.out) (by omega)
                  injection hv with hva _ hvc'
                  subst hva
                  have s1 := hcells _ _ HAT.out
                  clear hb6 s0 hcells hvc'
                  go_wp2_with fail
                  go_roundw
                  case rel => exact ⟨t + 1, by omega, by go_num, HBt6.out⟩
                  case measure => simp [intOf]; omega
                · have hlt' : decide ((t : Int) < (j : Int)) = false := decide_eq_false (by omega)
                  obtain ⟨w16, hw16⟩ : ∃ w16, w16 = wr := ⟨_, rfl⟩
                  rw [← hw16] at HBt LMt BWt ⊢
                  have VW16 := Lib.hid (own_below VW15.out (Nat.le_refl _) HBt.out)
                  have VK16 := Lib.hid (own_below VK15.out (Nat.le_refl _) HBt.out)
                  have H9 := Lib.hid (MS.controls_any q a0 b0 m w16 LMt.out.at_ LMt.out.inv)
                  rw [HQ.out] at H9
                  clear hw16
                  go_wp2_with fail
                  refine H9.out.mono ?_
                  rintro e w17 ⟨v17, rfl, hv, hb⟩
                  have V17 := Lib.hid hv
                  have VW17 := Lib.hid (own_below VW16.out (Nat.le_refl _) hb)
                  have VK17 := Lib.hid (own_below VK16.out (Nat.le_refl _) hb)
                  have LM17 := Lib.hid (LMt.out.below (Nat.le_refl _) hb)
                  have B17 : Hid (Below w.heap.size w w17) := BWt.out.trans (hb.mono BWt.out.size)
                  clear hv hb
                  have H10 := Lib.hid (words_same m.ws _ _ _ _ m.ws.length (by omega) w17 V17.out VW17.out)
                  go_wp2_with fail
                  refine H10.out.mono ?_
                  rintro e w18 ⟨rfl, hb⟩
                  have VK18 := Lib.hid (own_below VK17.out (Nat.le_refl _) hb)
                  have LM18 := Lib.hid (LM17.out.below (Nat.le_refl _) hb)
                  have B18 : Hid (Below w.heap.size w w18) := B17.out.trans (hb.mono B17.out.size)
                  clear hb
                  have H11 := Lib.hid (MS.keys_any q a0 b0 m w18 LM18.out.at_ LM18.out.inv)
                  rw [HQ.out, ← HNN.out] at H11
                  go_wp2_with fail
                  refine H11.out.mono ?_
                  rintro e w19 ⟨v19, rfl, hv, hb⟩
                  have V19 := Lib.hid hv
                  have VK19 := Lib.hid (own_below VK18.out (Nat.le_refl _) hb)
                  have B19 : Hid (Below w.heap.size w w19) := B18.out.trans (hb.mono B18.out.size)
                  clear hv hb
                  have H12 := Lib.hid (texts_same (MS.keysL m) _ _ _ _ j (by omega) w19 V19.out VK19.out)
                  go_wp2_with fail
                  refine H12.out.mono ?_
                  rintro e w20 ⟨rfl, hb⟩
                  have B20 : Hid (Below w.heap.size w w20) := B19.out.trans (hb.mono B19.out.size)
                  clear hb
                  go_wp2_with fail
                  refine (HLV.out _ B20.out).mono ?_
                  rintro e w21 ⟨rfl, hb⟩
                  go_wp2
                  go_ret
                  exact ⟨rfl, hb⟩

theorem lifted (os : Os) (started : os.Started) (H : Type) (enc : TypeId × Value → H) :
    ReturnsInHanded {} Tryd.checked os 8 .any (fun w args => (Rows.swissCopiesSpec.pre enc Tryd.prog Tryd.f8 [] false w args ∧ laidMetH Tryd.prog [("corbel/group.shifts", Rows.laid_corbel_group_shifts)] w) ∧ sizedMet enc Tryd.prog Tryd.f8 (OpenSpec.ofChange Rows.swissCopiesSpec) false w args)
      (Rows.swissCopiesSpec.post enc Tryd.prog Tryd.f8 false true false false) := by
  refine returnsInHanded_of_change_and (C := Tryd.checked) (X := fun w _ => laidMetH Tryd.prog [("corbel/group.shifts", Rows.laid_corbel_group_shifts)] w) (fun _ _ _ hh h => h.of_heap hh) own started (by kernel_rfl) Tryd.func8
    (ChangeSpec.witness_at (enc := enc) (C := Tryd.checked) (os := os) (X := fun w _ => laidMetH Tryd.prog [("corbel/group.shifts", Rows.laid_corbel_group_shifts)] w) false (laidWorld os) #[.agg #[.int .u64 0, .int .u64 0], .slice none 0 0, .slice none 0 0] 8 rfl (by kernel_rfl) (by kernel_rfl) (by kernel_rfl) (by kernel_rfl) (by kernel_rfl) (laidWorld_met os _)) ?_
  intro W base args ds gs before hval0 hW hcnd hsz0 hL _
  have hsz : (DataW.weightsEach Tryd.prog (Tryd.f8.params.toList ++ Rows.swissCopiesSpec.plain.varTypes Tryd.prog) (ds ++ gs)).all (· ≤ reachBytes) = true := hsz0
  clear hsz0
  have hval : ∀ (j : Nat) t v, Tryd.f8.params[j]? = some t → args[j]? = some v → Value.okWide Tryd.prog W .any base t v := hval0
  have hW' := hW
  obtain ⟨p, q, hA0, hV, rfl, hfz, hnd⟩ := hW
  have hA : DataW.TrodAll enc Tryd.prog W 0 (fun _ => true) true Tryd.f8.params.toList args.toList ds p := hA0
  rw [Tryd.params8] at hA hval hsz
  obtain ⟨v0, vs0, d0, ds0, p0, q0, hargs, rfl, rfl, h0, r0⟩ := trodAll_cons hA
  obtain ⟨v1, vs1, d1, ds1, p1, q1, rfl, rfl, rfl, h1, r1⟩ := trodAll_cons r0
  obtain ⟨v2, vs2, d2, ds2, p2, q2, rfl, rfl, rfl, h2, r2⟩ := trodAll_cons r1
  obtain ⟨rfl, rfl, rfl⟩ := trodAll_nil r2
  obtain rfl : args = #[v0, v1, v2] := by cases args; simp_all
  obtain ⟨rfl, rfl⟩ := trodVars_none hV
  have hfit0 := fun q hq => of_decide_eq_true (List.all_eq_true.1 hsz q hq)
  clear hsz
  obtain ⟨F0, hfit1⟩ := fit_cons hfit0
  obtain ⟨a0, b0, rfl, rfl, rfl⟩ := open_key (hval 0 24 v0 rfl rfl) h0
  obtain ⟨F1, hfit2⟩ := fit_cons hfit1
  have k1 := h1
  have lt1 : ∀ x ∈ p1, x.block < W.heap.size := by obtain ⟨m, hm⟩ := k1; exact DataW.trod_lt m _ _ _ hm
  obtain ⟨s1, n1, c1, xs1, rfl, ar1⟩ := open_acts (hval 1 25 v1 rfl rfl) h1 F1
  obtain ⟨F2, hfit3⟩ := fit_cons hfit2
  have k2 := h2
  have lt2 : ∀ x ∈ p2, x.block < W.heap.size := by obtain ⟨m, hm⟩ := k2; exact DataW.trod_lt m _ _ _ hm
  obtain ⟨s2, n2, c2, xs2, rfl, ar2⟩ := open_acts (hval 2 25 v2 rfl rfl) h2 F2
  clear hA0 hval0
  try simp only [List.append_nil] at hW'
  refine (walk W (sh_of_laid hL) a0 b0 s1 n1 c1 xs1 ar1 s2 n2 c2 xs2 ar2).mono fun e W' ⟨he, hg⟩ => ?_
  subst he
  exact ⟨_, rfl, _, _, _, [], _, [], hW', (trodAll_cons_mk (shut_bool Tryd.underlying4 _) trodAll_mk0), (trodAll_cons_mk (shut_key a0 b0) (trodAll_cons_mk (Below.trod laidOut (by kernel_rfl) (of_decide_eq_true (by kernel_rfl)) k1 hg lt1) (trodAll_cons_mk (Below.trod laidOut (by kernel_rfl) (of_decide_eq_true (by kernel_rfl)) k2 hg lt2) trodAll_mk0))), rfl, hg.frame _, fun h => by cases h⟩

theorem over : Rows.swissCopiesRow.holds Tryd.pinned (OpenSpec.ofChange Rows.swissCopiesSpec) :=
  OpenClaim.holds_of_wide 8 Tryd.f8 rfl rfl rfl rfl rfl rfl rfl ⟨rfl, rfl, rfl, rfl, rfl⟩ rfl rfl rfl rfl rfl (by kernel_rfl) Tryd.func8 (by kernel_rfl)
    (of_decide_eq_true (by kernel_rfl)) (by unfold Func.isWrapper; first | (rw [if_pos (by decide +kernel)]; kernel_rfl) | (rw [if_neg (by decide +kernel)]; exact ⟨rfl, rfl⟩))
    (fun os started H enc _ => lifted os started H enc)

/-- ████ THE STATEMENT ████ -/
theorem proved : Rows.SwissCopiesCardSaid :=
  Claim7.holds_tied_plain_at .later [] [.data] true (true, "7e67664e74d41973af7dd467c0ac8d15e139965457cce989b794987f38f310ec") false
    over (fun _ h => by cases h) (by kernel_rfl) (fun _ h => by cases h) swissCopies_row_tie rfl ⟨rfl, rfl⟩ (by kernel_rfl) rfl
    (fun f fn hf hfn => by
      obtain rfl : f = 8 := Option.some.inj ((show Tryd.prog.funcNamed "corbel/corbellaw05.SwissCopies" = some 8 by kernel_rfl).symm.trans hf) |>.symm
      obtain rfl : fn = Tryd.f8 := (Option.some.inj (Tryd.func8.symm.trans hfn)).symm
      refine ⟨by kernel_rfl, fun j t ht => ?_⟩
      have hm := Array.mem_of_getElem? ht
      rw [Tryd.params8] at hm
      simp only [List.mem_toArray, List.mem_cons, List.not_mem_nil, or_false] at hm
      rcases hm with rfl | rfl | rfl
      · exact (show Tryd.prog.wantsStandIn 24 = false by kernel_rfl)
      · exact (show Tryd.prog.wantsStandIn 25 = false by kernel_rfl)
      · exact (show Tryd.prog.wantsStandIn 25 = false by kernel_rfl))
    (by kernel_rfl)
#print axioms proved
end Go.Proofs.YtcooapflofiolaaDoor.swissCopies
