/- The walk of siphash.Sum. -/
import Derived.Test.YtcooapflofiolaaDoorSSum
import Derived.Test.YtcooapflofiolaaDoorSEq
import Derived.Laws.Strings2
import Derived.WalkSpells
namespace Go.Proofs.YtcooapflofiolaaDoor.Sip
open Go Go.RowKit
set_option linter.unusedVariables false
set_option linter.unusedSimpArgs false
set_option maxRecDepth 100000

/-- The state behind k blocks. -/
def eat (v : St) (l : List UInt8) : Nat → St
  | 0 => v
  | k + 1 => blk (eat v l k) (wd ((l.drop (8 * k)).take 8))
def init (k0 k1 : BitVec 64) : St := ⟨k0 ^^^ 8317987319222330741, k1 ^^^ 7237128888997146477, k0 ^^^ 7816392313619706465, k1 ^^^ 8387220255154660723⟩
def fin (v : St) : BitVec 64 := v.a ^^^ v.b ^^^ v.c ^^^ v.d
def c255 (v : St) : St := ⟨v.a, v.b, v.c ^^^ 255, v.d⟩
def sumOf (k0 k1 : BitVec 64) (l : List UInt8) : BitVec 64 :=
  fin (rnd (rnd (rnd (rnd (c255 (blk (eat (init k0 k1) l (l.length / 8)) (wd (l.drop (8 * (l.length / 8))) ||| BitVec.ofNat 64 l.length <<< 56)))))))
def strLen : Value → Nat | .string t => t.size | _ => 0
theorem x1 (k : BitVec 64) : bits .xor .u64 (U k) 8317987319222330741 = U (k ^^^ 8317987319222330741) := U_xor k 8317987319222330741
theorem x2 (k : BitVec 64) : bits .xor .u64 (U k) 7237128888997146477 = U (k ^^^ 7237128888997146477) := U_xor k 7237128888997146477
theorem x3 (k : BitVec 64) : bits .xor .u64 (U k) 7816392313619706465 = U (k ^^^ 7816392313619706465) := U_xor k 7816392313619706465
theorem x4 (k : BitVec 64) : bits .xor .u64 (U k) 8387220255154660723 = U (k ^^^ 8387220255154660723) := U_xor k 8387220255154660723
theorem x5 (k : BitVec 64) : bits .xor .u64 (U k) 255 = U (k ^^^ 255) := U_xor k 255
theorem ext_toList (t : ByteArray) (a b : Nat) : (t.extract a b).data.toList = (t.data.toList.take b).drop a := by
  simp [ByteArray.data_extract, List.extract_eq_take_drop, List.drop_take]

theorem last_w (x : BitVec 64) (n : Nat) (h : n ≤ 2 ^ 63 - 1) : bits .or .u64 (U x) (IntKind.u64.wrap ((n : Int) * 72057594037927936)) = U (x ||| BitVec.ofNat 64 n <<< 56) := by
  have e := U_shl (BitVec.ofNat 64 n) 56
  rw [← U_lit n (by omega)] at e
  rw [show (72057594037927936 : Int) = 2 ^ 56 by decide, e, U_or]
def rn (v : St) : Nat → St
  | 0 => v
  | j + 1 => rnd (rn v j)
theorem Blk.all {w b v} (h : Blk w b v) (u : St) : Blk ((((w.setCell ⟨b, 0, none⟩ (.int .u64 (U u.a))).setCell ⟨b, 1, none⟩ (.int .u64 (U u.b))).setCell ⟨b, 2, none⟩ (.int .u64 (U u.c))).setCell ⟨b, 3, none⟩ (.int .u64 (U u.d))) b u :=
  (((h.set0 u.a).set1 u.b).set2 u.c).set3 u.d
theorem U_zero (x : BitVec 64) : (U x = 0) = (x = 0) := by
  apply propext; constructor
  · intro h; exact U_inj (y := 0) (by rw [h]; rfl)
  · rintro rfl; rfl
set_option maxHeartbeats 4000000 in
theorem sum_any (k0 k1 : BitVec 64) (s : ByteArray) (hs : s.size ≤ maxLen) (w : World) : Calls Tryd.prog 99 #[.agg #[.int .u64 (U k0), .int .u64 (U k1)], .string s] w fun e w' => e = .returned (.int .u64 (U (sumOf k0 k1 s.data.toList))) ∧ Below w.heap.size w w' := by
  unfold maxLen at hs
  have h1 := x1 k0
  have h2 := x2 k1
  have h3 := x3 k0
  have h4 := x4 k1
  go_enter Tryd.func99, Tryd.ntmps99
  go_wp2_with fail
  clear h1 h2 h3 h4
  go_loopw [1] (fun sv wx => ∃ (k : Nat) (t : ByteArray), sv = .string t ∧ t.data.toList = s.data.toList.drop (8 * k) ∧ 8 * k ≤ s.size ∧ Blk wx (w.heap.size + 1) (eat (init k0 k1) s.data.toList k) ∧ Below w.heap.size w wx) (fun sv _ => strLen sv)
  case atStart =>
    refine ⟨0, s, rfl, rfl, by omega, ?_, ((Below.refl _ w).alloc (Nat.le_refl _) _).alloc (by simp) _⟩
    exact heap_alloc2_new w _ _
  case round =>
    obtain ⟨k, t, rfl, ht, hk, hB, hW⟩ := hrel
    have hsz : t.size = s.size - 8 * k := by
      have := congrArg List.length ht; simp at this; omega
    have HT := Lib.hid ht
    have HB := Lib.hid hB
    have HW := Lib.hid hW
    have HK := Lib.hid hk
    have HS := Lib.hid hsz
    have hts : t.size ≤ 2 ^ 63 - 1 := by omega
    clear ht hB hW hk hsz
    by_cases h8 : 8 ≤ t.size
    · have e8 : (t.extract 0 8).size ≤ maxLen := by unfold maxLen; simp only [ByteArray.size_extract]; omega
      have E8 := Lib.hid e8
      clear e8
      go_wp2_with fail
      refine (word_any _ E8.out _).mono ?_
      rintro e w' ⟨rfl, rfl⟩
      go_wp2_with fail
      refine (take_any (eat (init k0 k1) s.data.toList k) _ (w.heap.size + 1) wr HB.out).mono ?_
      rintro e w1 ⟨rfl, hB1, hz1, hW1⟩
      have HB1 := Lib.hid hB1
      have HZ1 := Lib.hid hz1
      have HW1 := Lib.hid (hW1 w.heap.size w (by omega) HW.out)
      clear hB1 hz1 hW1
      go_wp2
      go_roundw
      case rel =>
        refine ⟨k + 1, _, rfl, ?_, ?_, ?_, HW1.out⟩
        · have := HS.out
          rw [ext_toList, HT.out, List.take_of_length_le (by simp; omega), List.drop_drop]; congr 1
        · have := HS.out; omega
        · have := HB1.out
          rw [HT.out] at this
          exact this
      case measure => simp [strLen]; omega
    · have e8 : t.size ≤ maxLen := by unfold maxLen; omega
      have E8 := Lib.hid e8
      clear e8
      go_wp2_with fail
      refine (word_any _ E8.out _).mono ?_
      rintro e w' ⟨rfl, rfl⟩
      have HL := Lib.hid (last_w (wd t.data.toList) s.size hs)
      go_wp2_with fail
      rw [HL.out]
      refine (take_any (eat (init k0 k1) s.data.toList k) _ (w.heap.size + 1) wr HB.out).mono ?_
      rintro e w1 ⟨rfl, hB1, hz1, hW1⟩
      have HW1 := Lib.hid (hW1 w.heap.size w (by omega) HW.out)
      clear hz1 hW1
      obtain ⟨v5, hv5⟩ : ∃ v5, v5 = blk (eat (init k0 k1) s.data.toList k) (wd t.data.toList ||| BitVec.ofNat 64 s.size <<< 56) := ⟨_, rfl⟩
      rw [← hv5] at hB1
      have HV5 := Lib.hid hv5
      clear hv5
      have q2 := hB1.c2
      have f2 := hB1.frozen 2
      have hx := x5 v5.c
      have HB1 := Lib.hid hB1
      clear hB1
      go_wp2
      clear q2 f2 hx
      go_loopw [46] (fun jv wx => ∃ j : Nat, j ≤ 4 ∧ jv = .int .i64 j ∧ Blk wx (w.heap.size + 1) (rn (c255 v5) j) ∧ Below w.heap.size w wx) (fun jv _ => (4 - intOf jv).toNat)
      case atStart => exact ⟨0, by omega, rfl, HB1.out.set2 _, HW1.out.setCell (by show w.heap.size ≤ w.heap.size + 1; omega) _⟩
      case round =>
        clear HW1 HB1 HB HW
        obtain ⟨j, hj, rfl, hB, hW⟩ := hrel
        have q0 := hB.c0
        have q1 := hB.c1
        have q2 := hB.c2
        have q3 := hB.c3
        have HB := Lib.hid hB
        have HW := Lib.hid hW
        clear hB hW
        by_cases h4 : j < 4
        · go_wp2_with fail
          refine (round_any (rn (c255 v5) j) wr).mono ?_
          rintro e w2 ⟨rfl, hB2⟩
          have HB2 := HB.out.below hB2
          have HW2 := Lib.hid (HW.out.trans (hB2.mono HW.out.size))
          unfold arr
          clear q0 q1 q2 q3 hB2
          have q0 := HB2.c0
          have q1 := HB2.c1
          have q2 := HB2.c2
          have q3 := HB2.c3
          have f0 := HB2.frozen 0
          have f1 := HB2.frozen 1
          have f2 := HB2.frozen 2
          have f3 := HB2.frozen 3
          have HB3 := Lib.hid HB2
          clear HB2
          go_wp2
          go_roundw
          case rel =>
            refine ⟨j + 1, by omega, by go_num, HB3.out.all (rnd (rn (c255 v5) j)), ?_⟩
            have hb : w.heap.size ≤ w.heap.size + 1 := by omega
            exact (((HW2.out.setCell (p := ⟨w.heap.size + 1, 0, none⟩) hb _).setCell (p := ⟨w.heap.size + 1, 1, none⟩) hb _).setCell (p := ⟨w.heap.size + 1, 2, none⟩) hb _).setCell (p := ⟨w.heap.size + 1, 3, none⟩) hb _
          case measure => simp [intOf]; omega
        · obtain rfl : j = 4 := by omega
          clear hj h4
          obtain ⟨v6, hv6⟩ : ∃ v6, v6 = rn (c255 v5) 4 := ⟨_, rfl⟩
          rw [← hv6] at q0 q1 q2 q3
          have HV6 := Lib.hid hv6
          clear hv6
          have y1 := U_xor v6.a v6.b
          have y2 := U_xor (v6.a ^^^ v6.b) v6.c
          have y3 := U_xor (v6.a ^^^ v6.b ^^^ v6.c) v6.d
          have hsum : sumOf k0 k1 s.data.toList = fin v6 := by
            have e1 : s.data.toList.length / 8 = k := by
              have := HS.out; have := HK.out; simp; omega
            unfold sumOf
            rw [e1, HV6.out, HV5.out, HT.out]
            simp [rn]
          have HSUM := Lib.hid hsum
          clear hsum
          cases hz : eqB (U v6.a) (U v6.b) (U v6.c) (U v6.d) 0 0 0 0
          · go_wp2
            go_ret
            exact ⟨ret_int (by rw [HSUM.out]; rfl), HW.out⟩
          · have h0 := Lib.hid (eqB_zero v6 hz)
            go_wp2
            go_ret
            exact ⟨ret_int (by rw [HSUM.out, h0.out]; rfl), HW.out⟩
end Go.Proofs.YtcooapflofiolaaDoor.Sip
