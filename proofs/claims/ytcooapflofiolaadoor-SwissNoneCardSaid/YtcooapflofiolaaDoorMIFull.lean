/- full, over maps of integers. -/
import Derived.Test.YtcooapflofiolaaDoorMIGet
import Derived.Test.YtcooapflofiolaaDoorSwApp
namespace Go.Proofs.YtcooapflofiolaaDoor.MI
open Go Go.RowKit Go.Shelf
set_option linter.unusedVariables false
set_option linter.unusedSimpArgs false
set_option maxRecDepth 100000
set_option maxHeartbeats 4000000
theorem infoS : (Tryd.prog.info? 135).map (fun i => (i.zero, i.size, i.bytes)) = some (some (.agg #[.string ByteArray.empty, val default]), 2, 24) := by kernel_rfl
theorem fulls_any (p : Pl) (k0 k1 : BitVec 64) (m : Mp VT) (w : World) (h : At w p k0 k1 m) (I : MInv (hashN k0 k1) m) :
    Calls Tryd.prog 94 #[.pointer (some ⟨p.b, 0, none⟩)] w fun e w' => ∃ v, e = .returned v ∧ w'.ownsRow w.heap.size 135 2 v m.n (flatS val (fullL m)) ∧ Below w.heap.size w w' := by
  have c2 := h.c2
  have hl := I.len
  have HA := Lib.hid h
  have HI := Lib.hid I
  have HFL := Lib.hid (full_len I)
  obtain ⟨g, hg⟩ : ∃ g, g = m.ws.length := ⟨_, rfl⟩
  rw [← hg] at hl c2
  have HG := Lib.hid hg
  obtain ⟨s, hs⟩ : ∃ s, s = w.heap.size := ⟨_, rfl⟩
  have HS := Lib.hid hs
  clear h I hg hs
  go_enter Tryd.func94, Tryd.ntmps94
  go_wp2
  go_loopw [3, 12] (fun v i wr => ∃ k : Nat, k ≤ g ∧ i = .int .i64 k ∧ wr.ownsRow s 135 2 v (accF m (8 * k)).length (flatS val (accF m (8 * k))) ∧ Below s w wr) (fun _ i _ => g - (intOf i).toNat)
  case atStart => exact ⟨0, Nat.zero_le _, rfl, World.ownsRow_nil _ _ _ _, Below.refl _ _⟩
  case round =>
    obtain ⟨k, hk, rfl, hrow, hB⟩ := hrel
    obtain ⟨wo, hwo⟩ : ∃ wo, wo = wr := ⟨_, rfl⟩
    subst hwo
    have HR := Lib.hid hrow
    have HB := Lib.hid hB
    have HAr : Hid (At wo p k0 k1 m) := HA.out.below (Nat.le_of_eq HS.out.symm) hB
    clear hrow hB
    by_cases hlt : k < g
    · have hlt' : decide ((k : Int) < (g : Int)) = true := decide_eq_true (by omega)
      have zw := HAr.out.wc (j := k) (by rw [← HG.out]; exact hlt)
      have hv := HI.out.wl k
      obtain ⟨x, hx⟩ : ∃ x, x = m.w k := ⟨_, rfl⟩
      rw [← hx] at zw hv
      have HV := Lib.hid hv
      have HX := Lib.hid hx
      clear hv hx
      go_wp2_with (go_at_call 110; refine (Go.Proofs.YtcooapflofiolaaDoor.full_any x HV.out _).mono ?_; rintro e w' ⟨rfl, rfl⟩)
      go_loopw [3, 6] (fun v st wi => ∃ n t : Nat, n < 256 ∧ t ≤ 8 ∧ st = .int .u8 n ∧ (∀ i, i < 8 → n.testBit i = (decide (t ≤ i) && (ful x).testBit i)) ∧ wi.ownsRow s 135 2 v (accF m (8 * k + t)).length (flatS val (accF m (8 * k + t))) ∧ Below s w wi) (fun _ st _ => (intOf st).toNat)
      case atStart => exact ⟨ful x, 0, ful_lt x, Nat.zero_le _, rfl, fun i hi => by simp, HR.out, HB.out⟩
      case round =>
        obtain ⟨n, t, hn, ht, rfl, hbits, hrow, hB⟩ := hrel
        have HBT := Lib.hid hbits
        have HRI := Lib.hid hrow
        have HBI := Lib.hid hB
        have HAi : Hid (At wr p k0 k1 m) := HA.out.below (Nat.le_of_eq HS.out.symm) hB
        clear hbits hrow hB zw
        by_cases h0 : n = 0
        · have hd0 : ((n : Int) == 0) = true := by simpa using h0
          have hd1 : ((n : Int) != 0) = false := by simpa using h0
          have H0 := Lib.hid h0
          clear h0
          go_wp2
          have hsk : accF m (8 * (k + 1)) = accF m (8 * k + t) := by
            have := accF_skip m (8 * k + t) (8 - t) (fun i h1 h2 hc => by
              have h3 := HBT.out (i - 8 * k) (by omega)
              rw [H0.out, bit_ful x (i - 8 * k) (by omega), HX.out, ← c_at m k (by omega), show 8 * k + (i - 8 * k) = i by omega] at h3
              simp [hc] at h3; omega)
            rwa [show 8 * k + t + (8 - t) = 8 * (k + 1) by omega] at this
          go_roundw
          case rel => exact ⟨k + 1, by omega, by go_num, by rw [hsk]; exact HRI.out, HBI.out⟩
          case measure => simp [intOf]; omega
        · have hd0 : ((n : Int) == 0) = false := by simpa using h0
          have hd1 : ((n : Int) != 0) = true := by simpa using h0
          have hf := first_lt hn h0
          have HF1 := Lib.hid (first_bit hn h0)
          have HLE : Hid (∀ i, i < 8 → n.testBit i = true → firstF n ≤ i) := fun i hi h => first_le hn hi h
          have HNB : Hid (∀ i, i < 8 → (nextF n).testBit i = (n.testBit i && i != firstF n)) := fun i hi => next_bit hn hi
          have hnl := next_lt hn h0
          have HC1 : Hid (∀ W, Calls Tryd.prog 103 #[.int .u8 (n : Int)] W (fun e w' => e = .returned (.int .i64 (firstF n : Nat)) ∧ W = w')) := fun W => first_any n hn W
          have HC2 : Hid (∀ W, Calls Tryd.prog 102 #[.int .u8 (n : Int)] W (fun e w' => e = .returned (.int .u8 (nextF n : Nat)) ∧ W = w')) := fun W => next_any n hn W
          clear h0
          obtain ⟨q, hq⟩ : ∃ q, q = firstF n := ⟨_, rfl⟩
          rw [← hq] at hf HF1 HLE HNB HC1
          have HQ := Lib.hid hq
          clear hq
          obtain ⟨ii, hii⟩ : ∃ ii : Nat, ii = 8 * k + q := ⟨_, rfl⟩
          have hiq : ii < 8 * g := by omega
          have hiq2 : (ii : Int) < 8 * (g : Int) := by omega
          have y3 := HAi.out.c3
          rw [← HG.out] at y3
          have sk := HAi.out.sk (i := ii) (by rw [← HG.out]; exact hiq)
          have sv := HAi.out.sv (i := ii) (by rw [← HG.out]; exact hiq)
          have hw1 : IntKind.i64.wrap (8 * (k : Int)) = 8 * (k : Int) := IntWalk.i64_in _ (by omega)
          have hw2 : IntKind.i64.wrap (8 * (k : Int) + (q : Int)) = (ii : Int) := by rw [IntWalk.i64_in _ (by omega)]; omega
          have HII := Lib.hid hii
          have hal := accF_len m (8 * k + t)
          clear hii
          obtain ⟨kk, hkk⟩ : ∃ kk, kk = m.s ii := ⟨_, rfl⟩
          rw [← hkk] at sk sv
          have HKK := Lib.hid hkk
          clear hkk
          go_upto_region 8 with fail
          have LA : Hid (Below wr.heap.size wr ((wr.alloc (.cells #[.string kk.1, val kk.2] 135)).drew)) := ((Below.refl _ wr).alloc (Nat.le_refl _) _).drew
          have hz : s ≤ wr.heap.size := by have := HBI.out.size; have := HS.out; omega
          go_region_law (first
            | (refine step_call rfl 103 #[.int .u8 (n : Int)] ⟨_, _, rfl⟩ (by go_simp) ((HC1.out _).mono ?_); rintro e w' ⟨rfl, rfl⟩; refine ⟨_, rfl, ?_⟩)
            | (refine step_own rfl _ _ 92 rfl s 135 _ 2 24 Tryd.underlying92 infoS rfl (by decide) _ _ _ rfl (own_below HRI.out (Nat.le_refl _) LA.out) (Nat.le_trans hz LA.out.size) ⟨wr.heap.size, 0, none⟩ 1 1 rfl [.string kk.1, val kk.2] rfl (new2 wr _ _ 135) (by simp [Value.oneCell']) (by simp only [maxLen]; omega) (by omega) ?_; intro v' w1 ho1 hb1))
          all_goals (
            have HO := Lib.hid ho1
            have HB2 : Hid (Below s w w1) := (HBI.out.trans (LA.out.mono hz)).trans hb1
            clear ho1 hb1 sk sv y3 hw1 hw2
            go_wp2_with (go_at_call 102; refine (HC2.out _).mono ?_; rintro e w' ⟨rfl, rfl⟩)
            have htq : t ≤ q := by
              have := HBT.out q hf
              rw [HF1.out] at this
              simp at this; omega
            have hfull : ∀ i, i < 8 → ((ful x).testBit i = decide (m.c (8 * k + i) < 128)) := fun i hi => by rw [bit_ful x i hi, HX.out, ← c_at m k hi]
            have hq128 : m.c ii < 128 := by
              have := HBT.out q hf
              rw [HF1.out, hfull q hf] at this
              simp at this; rw [HII.out]; exact this.2
            have hsk : accF m (8 * k + q) = accF m (8 * k + t) := by
              have := accF_skip m (8 * k + t) (q - t) (fun i h1 h2 hc => by
                have h3 := HBT.out (i - 8 * k) (by omega)
                rw [hfull _ (by omega), show 8 * k + (i - 8 * k) = i by omega] at h3
                have h4 : n.testBit (i - 8 * k) = true := by rw [h3]; simp [hc]; omega
                have := HLE.out _ (by omega) h4
                omega)
              rwa [show 8 * k + t + (q - t) = 8 * k + q by omega] at this
            have hnew : accF m (8 * k + (q + 1)) = accF m (8 * k + t) ++ [m.s ii] := by
              rw [← Nat.add_assoc, accF_succ, hsk, ← HII.out, if_pos hq128]
            go_roundw
            case rel =>
              refine ⟨nextF n, q + 1, by omega, by omega, rfl, fun i hi => ?_, ?_, HB2.out⟩
              · rw [HNB.out i hi, HBT.out i hi]
                rcases Nat.lt_trichotomy i q with h | h | h
                · have h5 : n.testBit i = false := by
                    cases hb : n.testBit i with
                    | false => rfl
                    | true => have := HLE.out i hi hb; omega
                  rw [HBT.out i hi] at h5
                  rw [h5, decide_eq_false (show ¬ q + 1 ≤ i by omega)]; rfl
                · subst h; simp; omega
                · rw [decide_eq_true (show t ≤ i by omega), decide_eq_true (show q + 1 ≤ i by omega)]
                  have : (i != q) = true := by simp; omega
                  rw [this]; simp
              · rw [hnew, flatS_app, List.length_append, ← HKK.out]; exact HO.out
            case measure => simp [intOf]; omega)
    · have hlt' : decide ((k : Int) < (g : Int)) = false := decide_eq_false (by omega)
      go_wp2
      obtain rfl : k = g := by omega
      refine bodyPost_ret (v := u3) ?_ rfl ⟨_, rfl, ?_, ?_⟩
      · simp [results, Tryd.results94, go_sem]
      · rw [← HFL.out, ← accF_full, ← HG.out, ← HS.out]; exact HR.out
      · rw [← HS.out]; exact HB.out
end Go.Proofs.YtcooapflofiolaaDoor.MI
