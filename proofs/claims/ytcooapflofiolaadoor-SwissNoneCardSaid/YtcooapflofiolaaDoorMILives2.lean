/- lives of chapter 5, walked. -/
import Derived.Test.YtcooapflofiolaaDoorMILives
namespace Go.Proofs.YtcooapflofiolaaDoor.MI
open Go Go.RowKit Go.Shelf
set_option linter.unusedVariables false
set_option linter.unusedSimpArgs false
set_option maxRecDepth 100000
set_option maxHeartbeats 4000000
theorem lives_any (w : World) (hS : Sh w) : Calls Tryd.prog 15 #[] w fun e w' => e = .returned (.bool true) ∧ Below w.heap.size w w' := by
  have HN := Lib.hid (new_live 0 0 0 w hS)
  rw [show Sip.U (0 : BitVec 64) = 0 from rfl] at HN
  have hneed : needF 0 = 1 := by rfl
  go_enter Tryd.func15, Tryd.ntmps15
  go_wp2_with fail
  refine HN.out.mono ?_
  rintro e w1 ⟨hb, ⟨h0, _⟩ | ⟨p, g, hg, rfl, hL⟩⟩
  · rw [hneed] at h0; cases h0
  rw [hneed] at hg
  obtain rfl : g = 1 := by omega
  have HL := Lib.hid hL
  have HB := Lib.hid hb
  clear hb hL hg hneed
  go_wp2
  go_loopw [2] (fun i wr => ∃ (k : Nat) (q : Pl) (m : Mp Int), k ≤ 8 ∧ i = .int .i64 k ∧ q.b = p.b ∧ Live wr w.heap.size q 0 0 m ∧ Lv (hashN 0 0) m k ∧ Below w.heap.size w wr) (fun i _ => 8 - (intOf i).toNat)
  case atStart => exact ⟨0, p, _, by omega, rfl, rfl, HL.out, Lv.zero _, HB.out⟩
  case round =>
    obtain ⟨k, q, m, hk, rfl, hq, hLq, hV, hB⟩ := hrel
    have HLq := Lib.hid hLq
    have HV := Lib.hid hV
    have HBr := Lib.hid hB
    have HQ := Lib.hid hq
    clear hLq hV hB hq
    by_cases hlt : k < 8
    · have hd : decide ((k : Int) < 8) = true := decide_eq_true (by omega)
      have hw1 : IntKind.i64.wrap (97 + (k : Int)) = 97 + (k : Int) := IntWalk.i64_in _ (by omega)
      have hw2 : IntKind.u8.wrap (97 + (k : Int)) = 97 + (k : Int) := by
        have : ∀ j : Fin 8, IntKind.u8.wrap (97 + ((j.val : Nat) : Int)) = 97 + ((j.val : Nat) : Int) := by decide +kernel
        exact this ⟨k, hlt⟩
      obtain ⟨key, hkey⟩ : ∃ key : ByteArray, key = ⟨#[UInt8.ofNat (97 + k)]⟩ := ⟨_, rfl⟩
      have hcv : (convert 102 9 (.slice (some ⟨wr.heap.size, 0, none⟩) 1 1)).run Tryd.prog (wr.alloc (.cells #[.int .u8 (97 + (k : Int))] 5)) = .ok (.string key) (wr.alloc (.cells #[.int .u8 (97 + (k : Int))] 5)) := by
        rw [one_text _ wr.heap.size 1 (97 + (k : Int)) (by simp), show (97 + (k : Int)).toNat = 97 + k by omega, hkey]
      obtain ⟨W1, hW1⟩ : ∃ W1, W1 = wr.alloc (.cells #[.int .u8 (97 + (k : Int))] 5) := ⟨_, rfl⟩
      have LB : Hid (Below wr.heap.size wr W1) := by rw [hW1]; exact (Below.refl _ wr).alloc (Nat.le_refl _) _
      have L1 := Lib.hid (HLq.out.below (Nat.le_refl _) LB.out)
      have HPU := Lib.hid (put_live L1.out key (k : Nat) (by rw [hkey]; exact (by decide : 1 ≤ maxLen)))
      obtain ⟨m2, hm2⟩ : ∃ m2, m2 = put (hashN 0 0) m key ((k : Nat) : Int) := ⟨_, rfl⟩
      have HF : Hid (find (hashN 0 0) m key = none) := by rw [hkey]; exact HV.out.find HLq.out.inv hlt
      have HB1 : Hid (putB (hashN 0 0) m key = false ∧ putE (hashN 0 0) m key = 0) := by
        have := HV.out.n
        exact ⟨by unfold putB; rw [HF.out]; rfl, by unfold putE; rw [HF.out]; exact if_neg (by omega)⟩
      have HV1 : Hid (Lv (hashN 0 0) m2 (k + 1)) := by rw [hm2, hkey]; exact HV.out.put HLq.out.inv hlt
      rw [HB1.out.1, HB1.out.2, ← hm2, HQ.out] at HPU
      have HW1 := Lib.hid hW1
      clear hW1 hkey hm2
      go_wp2_with fail
      rw [← HW1.out]
      refine HPU.out.mono ?_
      rintro e w2 ⟨rfl, q2, hq2, hL2, _, hK2⟩
      have L2 := Lib.hid hL2
      have B2 : Hid (Below w.heap.size w w2) := (HBr.out.trans (LB.out.mono HBr.out.size)).trans (L1.out.low hK2)
      clear hL2 hK2
      have HQ2 := Lib.hid (hq2.trans HQ.out)
      clear hq2
      by_cases h6 : k = 6
      · subst h6
        have HCT := Lib.hid (controls_any q2 0 0 _ w2 L2.out.at_ L2.out.inv)
        rw [HQ2.out] at HCT
        go_wp2_with fail
        refine HCT.out.mono ?_
        rintro e w3 ⟨v, rfl, hv, hb3⟩
        have HV3 := Lib.hid hv
        have L3 := Lib.hid (L2.out.below (Nat.le_refl _) hb3)
        have B3 : Hid (Below w.heap.size w w3) := B2.out.trans (hb3.mono B2.out.size)
        obtain ⟨va, vc, rfl, hvc⟩ := own_val hv
        have hG : (m2.ws.length : Int) = 1 := by
          have := HV1.out.g
          rw [if_pos (by decide)] at this; omega
        clear hv hb3 hvc
        go_wp2_with fail
        go_roundw
        case rel => exact ⟨7, q2, _, by omega, by go_num, HQ2.out, L3.out, HV1.out, B3.out⟩
        case measure => simp [intOf]
      · have hd6 : ((k : Int) == 6) = false := by simp; omega
        go_wp2_with fail
        go_roundw
        case rel => exact ⟨k + 1, q2, _, by omega, by go_num, HQ2.out, L2.out, HV1.out, B2.out⟩
        case measure => simp [intOf]; omega
    · obtain rfl : k = 8 := by omega
      have hkey : (⟨#[99]⟩ : ByteArray).size ≤ maxLen := (by decide : 1 ≤ maxLen)
      have HPU := Lib.hid (put_live HLq.out ⟨#[99]⟩ 9 hkey)
      obtain ⟨b1, b2, b3, b4, x, b5, b6⟩ := lv_last HV.out HLq.out.inv
      obtain ⟨m2, hm2⟩ : ∃ m2, m2 = put (hashN 0 0) m ⟨#[99]⟩ 9 := ⟨_, rfl⟩
      rw [b1, b2, ← hm2, HQ.out] at HPU
      rw [← hm2] at b3 b4 b5 b6
      have B5 := Lib.hid b5
      have B6 := Lib.hid b6
      have hKey := Lib.hid hkey
      have b3' : (m2.n : Int) = 8 := by omega
      have b4' : (m2.ws.length : Int) = 2 := by omega
      clear hm2 b1 b2 b3 b4 b5 b6 hkey
      go_wp2_with fail
      refine HPU.out.mono ?_
      rintro e w2 ⟨rfl, q2, hq2, hL2, _, hK2⟩
      have L2 := Lib.hid hL2
      have B2 : Hid (Below w.heap.size w w2) := HBr.out.trans (HLq.out.low hK2)
      have HQ2 := Lib.hid (hq2.trans HQ.out)
      clear hL2 hK2 hq2
      have HGE := Lib.hid (get_any q2 0 0 m2 ⟨#[99]⟩ hKey.out w2 L2.out.at_ L2.out.inv)
      have hgv : getV (hashN 0 0) m2 ⟨#[99]⟩ = (9, true) := by unfold getV; rw [B5.out]; show ((m2.s x).2, true) = _; rw [B6.out]
      rw [hgv, HQ2.out] at HGE
      clear hgv
      go_wp2_with fail
      refine HGE.out.mono ?_
      rintro e w3 ⟨rfl, hb3⟩
      have L3 := Lib.hid (L2.out.below (Nat.le_refl _) hb3)
      have B3 : Hid (Below w.heap.size w w3) := B2.out.trans (hb3.mono B2.out.size)
      have HLE := Lib.hid (len_any q2 0 0 m2 w3 L3.out.at_ L3.out.len)
      have HCT := Lib.hid (controls_any q2 0 0 m2 w3 L3.out.at_ L3.out.inv)
      rw [HQ2.out] at HLE HCT
      clear hb3
      go_wp2_with fail
      refine HLE.out.mono ?_
      rintro e w4 ⟨rfl, rfl⟩
      go_wp2_with fail
      refine HCT.out.mono ?_
      rintro e w4 ⟨v, rfl, hv, hb4⟩
      obtain ⟨va, vc, rfl, hvc⟩ := own_val hv
      have B4 : Hid (Below w.heap.size w w4) := B3.out.trans (hb4.mono B3.out.size)
      clear hv hvc hb4
      go_wp2
      go_ret
      exact ⟨rfl, B4.out⟩
end Go.Proofs.YtcooapflofiolaaDoor.MI
