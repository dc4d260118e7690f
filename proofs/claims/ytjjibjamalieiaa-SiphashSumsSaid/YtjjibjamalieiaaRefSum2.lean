/- The walk of the reference's Sum. -/
import Derived.Test.YtjjibjamalieiaaRefSum
namespace Go.Proofs.Ytjjibjamalieiaa
open Go Go.RowKit
set_option linter.unusedVariables false
set_option linter.unusedSimpArgs false
set_option maxRecDepth 100000
set_option maxHeartbeats 1000000
theorem wd_snoc (l : List UInt8) (c : UInt8) : wd (l ++ [c]) = wd l ||| BitVec.ofNat 64 c.toNat <<< (8 * l.length) := by
  induction l with
  | nil => simp [wd]
  | cons a l ih =>
    rw [List.cons_append, wd_cons, ih, wd_cons, BitVec.shiftLeft_or_distrib, ← BitVec.shiftLeft_add, List.length_cons, show 8 * l.length + 8 = 8 * (l.length + 1) by omega, BitVec.or_assoc, BitVec.or_assoc, BitVec.or_comm (BitVec.ofNat 64 c.toNat <<< _)]
theorem byte_or (x : BitVec 64) (c : UInt8) (r : Nat) : bits .or .u64 (U x) (IntKind.u64.wrap (IntKind.u64.wrap (c.toNat : Int) * 2 ^ (8 * r))) = U (x ||| BitVec.ofNat 64 c.toNat <<< (8 * r)) := by
  have hc := c.toNat_lt
  rw [IntWalk.u64_in (c.toNat : Int) (by omega), U_lit c.toNat (by omega), U_shl, U_or]
theorem take_next (s : ByteArray) (k r i : Nat) (hi : i = 8 * k + r) (h : i < s.size) : (s.data.toList.drop (8 * k)).take (r + 1) = (s.data.toList.drop (8 * k)).take r ++ [s[i]] := by
  subst hi
  rw [List.take_succ_eq_append_getElem (by simp; omega)]
  simp [List.getElem_drop]
  rfl
theorem wd_next (s : ByteArray) (k r i : Nat) (hi : i = 8 * k + r) (h : i < s.size) : wd ((s.data.toList.drop (8 * k)).take r) ||| BitVec.ofNat 64 s[i].toNat <<< (8 * r) = wd ((s.data.toList.drop (8 * k)).take (r + 1)) := by
  rw [take_next s k r i hi h, wd_snoc, List.length_take, show min r (s.data.toList.drop (8 * k)).length = r by simp; omega]
theorem shl_mod (n : Nat) : BitVec.ofNat 64 (n % 256) <<< 56 = BitVec.ofNat 64 n <<< 56 := by
  apply BitVec.eq_of_toNat_eq
  rw [BitVec.toNat_shiftLeft, BitVec.toNat_shiftLeft, BitVec.toNat_ofNat, BitVec.toNat_ofNat, Nat.shiftLeft_eq, Nat.shiftLeft_eq]
  omega
theorem refsum_any (k0 k1 : BitVec 64) (s : ByteArray) (hs : s.size ≤ maxLen) (w : World) : Calls Try.prog 13 #[.int .u64 (U k0), .int .u64 (U k1), .string s] w fun e w' => e = .returned (.int .u64 (U (sumOf k0 k1 s.data.toList))) ∧ Below w.heap.size w w' := by
  unfold maxLen at hs
  have h1 := x1 k0
  have h2 := x2 k1
  have h3 := x3 k0
  have h4 := x4 k1
  go_enter Try.func13, Try.ntmps13
  go_wp2_with fail
  clear h1 h2 h3 h4
  go_loopw [8, 9] (fun mv iv wx => ∃ (k r : Nat), r < 8 ∧ 8 * k + r ≤ s.size ∧ iv = .int .i64 ((8 * k + r : Nat) : Int) ∧ mv = .int .u64 (U (wd ((s.data.toList.drop (8 * k)).take r))) ∧ Blk wx w.heap.size (eat (init k0 k1) s.data.toList k) ∧ Below w.heap.size w wx) (fun _ iv _ => s.size - (intOf iv).toNat)
  case atStart => exact ⟨0, 0, by omega, by omega, rfl, rfl, heap_alloc_new w _, (Below.refl _ w).alloc (Nat.le_refl _) _⟩
  case round =>
    obtain ⟨k, r, hr, hk, rfl, rfl, hB, hW⟩ := hrel
    have HB := Lib.hid hB
    have HW := Lib.hid hW
    clear hB hW
    generalize hx : wd ((s.data.toList.drop (8 * k)).take r) = x
    have HX := Lib.hid hx
    clear hx
    by_cases hlt : 8 * k + r < s.size
    · obtain ⟨i, hi⟩ : ∃ i : Nat, i = 8 * k + r := ⟨_, rfl⟩
      rw [← hi] at hlt ⊢
      have hm : (i : Int).tmod 8 = (r : Int) := by rw [Int.tmod_eq_emod_of_nonneg (by omega)]; omega
      have hw8 : IntKind.i64.wrap (8 * (r : Int)) = 8 * (r : Int) := IntWalk.i64_in _ (by omega)
      have HI := Lib.hid hi
      clear hi hk
      have hor := byte_or x s[i] r
      rw [← HX.out, wd_next s k r i HI.out hlt] at hor
      rw [HX.out] at hor
      cases h7 : ((r : Int) == 7)
      · go_wp2
        go_roundw
        case rel =>
          have h7' : r ≠ 7 := by rintro rfl; simp at h7
          have := HI.out
          exact ⟨k, r + 1, by omega, by omega, by rw [show 8 * k + (r + 1) = i + 1 by omega]; go_num, rfl, HB.out, HW.out⟩
        case measure => simp [intOf]; omega
      · have h7' : r = 7 := by have := of_decide_eq_true h7; omega
        have H7 := Lib.hid h7'
        clear h7'
        have hB := HB.out
        have q0 := hB.c0
        have q1 := hB.c1
        have q2 := hB.c2
        have q3 := hB.c3
        clear hB
        go_wp2_with fail
        refine (block_any (eat (init k0 k1) s.data.toList k) _ wr).mono ?_
        rintro e w2 ⟨rfl, hB2⟩
        have HB2 := HB.out.below hB2
        have HW2 := Lib.hid (HW.out.trans (hB2.mono HW.out.size))
        clear q0 q1 q2 q3 hB2
        have he : blk (eat (init k0 k1) s.data.toList k) (wd ((s.data.toList.drop (8 * k)).take (r + 1))) = eat (init k0 k1) s.data.toList (k + 1) := by rw [H7.out]; rfl
        rw [he]
        clear he
        generalize hu : eat (init k0 k1) s.data.toList (k + 1) = u
        have HU := Lib.hid hu
        clear hu
        unfold arr
        have q0 := HB2.c0
        have q1 := HB2.c1
        have q2 := HB2.c2
        have q3 := HB2.c3
        have f0 := HB2.frozen 0
        have f1 := HB2.frozen 1
        have f2 := HB2.frozen 2
        have f3 := HB2.frozen 3
        have HB3 := Lib.hid HB2
        clear HB2
        go_wp2
        go_roundw
        case rel =>
          have := HI.out
          have := H7.out
          refine ⟨k + 1, 0, by omega, by omega, ?_, rfl, by rw [HU.out]; exact HB3.out.all u, below_blk (Nat.le_refl _) HW2.out _ _ _ _⟩
          rw [show 8 * (k + 1) + 0 = i + 1 by omega]; go_num
        case measure => simp [intOf]; omega
    · have hkr : 8 * k + r = s.size := by omega
      have HX2 : Hid (x = wd (s.data.toList.drop (8 * k))) := by
        show x = _
        rw [← HX.out, List.take_of_length_le (by simp; omega)]
      have HK : Hid (s.data.toList.length / 8 = k) := by show _ = _; simp; omega
      have hm : (s.size : Int).tmod 256 = ((s.size % 256 : Nat) : Int) := by rw [Int.tmod_eq_emod_of_nonneg (by omega)]; omega
      have hlast := last_w x (s.size % 256) (by omega)
      rw [shl_mod] at hlast
      generalize hq : s.size % 256 = q at *
      have hq2 : q ≤ 255 := by omega
      clear hq
      rw [IntWalk.u64_in _ (by omega)] at hlast
      have hB := HB.out
      have q0 := hB.c0
      have q1 := hB.c1
      have q2 := hB.c2
      have q3 := hB.c3
      clear hB
      rw [hkr]
      clear hlt hk hkr
      have HL := Lib.hid hlast
      clear hlast
      go_wp2_with fail
      rw [HL.out]
      refine (block_any (eat (init k0 k1) s.data.toList k) _ wr).mono ?_
      rintro e w2 ⟨rfl, hB2⟩
      have HB2 := HB.out.below hB2
      have HW2 := Lib.hid (HW.out.trans (hB2.mono HW.out.size))
      clear q0 q1 q2 q3 hB2
      obtain ⟨v5, hv5⟩ : ∃ v5, v5 = blk (eat (init k0 k1) s.data.toList k) (x ||| BitVec.ofNat 64 s.size <<< 56) := ⟨_, rfl⟩
      rw [← hv5]
      have HV5 := Lib.hid hv5
      clear hv5
      unfold arr
      have q0 := HB2.c0
      have q1 := HB2.c1
      have q2 := HB2.c2
      have q3 := HB2.c3
      have f0 := HB2.frozen 0
      have f1 := HB2.frozen 1
      have f2 := HB2.frozen 2
      have f3 := HB2.frozen 3
      have HB3 := Lib.hid HB2
      clear HB2
      go_upto_region 11 with fail
      clear q0 q1 q2 q3 f0 f1 f2 f3 hm hq2 hr HX
      have B4 := HB3.out.all v5
      have W4' := below_blk (Nat.le_refl _) HW2.out (.int .u64 (U v5.a)) (.int .u64 (U v5.b)) (.int .u64 (U v5.c)) (.int .u64 (U v5.d))
      revert B4 W4'
      generalize World.setCell _ _ _ = w3
      intro B4 W4'
      have q0 := B4.c0
      have q1 := B4.c1
      have q2 := B4.c2
      have q3 := B4.c3
      have f2 := B4.frozen 2
      have hx := x5 v5.c
      have HB4 := Lib.hid B4
      have HW4 := Lib.hid W4'
      clear B4 W4'
      go_upto_region 12 with fail
      clear q0 q1 q2 q3 f2 hx
      have B4 := HB4.out.set2 (v5.c ^^^ 255)
      have W4' := HW4.out.setCell (p := ⟨w.heap.size, 2, none⟩) (Nat.le_refl _) (.int .u64 (U (v5.c ^^^ 255)))
      revert B4 W4'
      generalize World.setCell _ _ _ = w4
      intro B4 W4'
      have q0 := B4.c0
      have q1 := B4.c1
      have q2 := B4.c2
      have q3 := B4.c3
      have HB4' := Lib.hid B4
      have HW4' := Lib.hid W4'
      clear B4 W4' HB4 HW4
      go_wp2_with fail
      clear q0 q1 q2 q3
      have B4 := HB4'.out
      have W4' := HW4'.out
      refine (refround_any (c255 v5) w4).mono ?_
      rintro e w5 ⟨rfl, h5⟩
      have B5 := B4.below h5
      have W5 := W4'.trans (h5.mono W4'.size)
      clear B4 W4' h5
      unfold arr
      go_wp2_with fail
      refine (refround_any (rnd (c255 v5)) w5).mono ?_
      rintro e w6 ⟨rfl, h6⟩
      have B6 := B5.below h6
      have W6 := W5.trans (h6.mono W5.size)
      clear B5 W5 h6
      unfold arr
      go_wp2_with fail
      refine (refround_any (rnd (rnd (c255 v5))) w6).mono ?_
      rintro e w7 ⟨rfl, h7⟩
      have B7 := B6.below h7
      have W7 := W6.trans (h7.mono W6.size)
      clear B6 W6 h7
      unfold arr
      go_wp2_with fail
      refine (refround_any (rnd (rnd (rnd (c255 v5)))) w7).mono ?_
      rintro e w8 ⟨rfl, h8⟩
      have B8 := B7.below h8
      have W8 := W7.trans (h8.mono W7.size)
      clear B7 W7 h8
      obtain ⟨v6, hv6⟩ : ∃ v6, v6 = rnd (rnd (rnd (rnd (c255 v5)))) := ⟨_, rfl⟩
      rw [← hv6]
      have HV6 := Lib.hid hv6
      clear hv6
      unfold arr
      have q0 := B8.c0
      have q1 := B8.c1
      have q2 := B8.c2
      have q3 := B8.c3
      have f0 := B8.frozen 0
      have f1 := B8.frozen 1
      have f2 := B8.frozen 2
      have f3 := B8.frozen 3
      have HB8 := Lib.hid B8
      have HW8 := Lib.hid W8
      clear B8 W8
      have y1 := U_xor v6.a v6.b
      have y2 := U_xor (v6.a ^^^ v6.b) v6.c
      have y3 := U_xor (v6.a ^^^ v6.b ^^^ v6.c) v6.d
      have hsum : sumOf k0 k1 s.data.toList = fin v6 := by
        unfold sumOf
        rw [HK.out, HV6.out, HV5.out, HX2.out]
        simp
      have HSUM := Lib.hid hsum
      clear hsum
      go_wp2
      go_ret
      exact ⟨ret_int (by rw [HSUM.out]; rfl), below_blk (Nat.le_refl _) HW8.out _ _ _ _⟩
end Go.Proofs.Ytjjibjamalieiaa
