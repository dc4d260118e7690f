/- The walks of the reference's block and Sum. -/
import Derived.Test.YtjjibjamalieiaaSum2
import Derived.Test.YtjjibjamalieiaaRef
namespace Go.Proofs.Ytjjibjamalieiaa
open Go Go.RowKit
set_option linter.unusedVariables false
set_option linter.unusedSimpArgs false
set_option maxRecDepth 100000
set_option maxHeartbeats 4000000
theorem below_blk {w w' : World} {b : Nat} (hb : w.heap.size ≤ b) (h : Below w.heap.size w w') (x0 x1 x2 x3 : Value) : Below w.heap.size w ((((w'.setCell ⟨b, 0, none⟩ x0).setCell ⟨b, 1, none⟩ x1).setCell ⟨b, 2, none⟩ x2).setCell ⟨b, 3, none⟩ x3) :=
  (((h.setCell (p := ⟨b, 0, none⟩) hb _).setCell (p := ⟨b, 1, none⟩) hb _).setCell (p := ⟨b, 2, none⟩) hb _).setCell (p := ⟨b, 3, none⟩) hb _
theorem block_any (v : St) (m : BitVec 64) (w : World) : Calls Try.prog 32 #[arr v, .int .u64 (U m)] w fun e w' => e = .returned (arr (blk v m)) ∧ Below w.heap.size w w' := by
  have hx := U_xor v.d m
  unfold arr
  go_enter Try.func32, Try.ntmps32
  go_wp2_with fail
  clear hx
  have B0 : Blk ((w.alloc (.cells #[.int .u64 (U v.a), .int .u64 (U v.b), .int .u64 (U v.c), .int .u64 (U (v.d ^^^ m))] 30)).alloc (.cells #[.int .u64 0, .int .u64 0, .int .u64 0, .int .u64 0] 30)) w.heap.size ⟨v.a, v.b, v.c, v.d ^^^ m⟩ := heap_alloc2_old w _ _
  have B1 : Blk ((w.alloc (.cells #[.int .u64 (U v.a), .int .u64 (U v.b), .int .u64 (U v.c), .int .u64 (U (v.d ^^^ m))] 30)).alloc (.cells #[.int .u64 0, .int .u64 0, .int .u64 0, .int .u64 0] 30)) (w.heap.size + 1) ⟨0, 0, 0, 0⟩ := heap_alloc2_new w _ _
  have W1 : Below w.heap.size w ((w.alloc (.cells #[.int .u64 (U v.a), .int .u64 (U v.b), .int .u64 (U v.c), .int .u64 (U (v.d ^^^ m))] 30)).alloc (.cells #[.int .u64 0, .int .u64 0, .int .u64 0, .int .u64 0] 30)) := ((Below.refl _ w).alloc (Nat.le_refl _) _).alloc (by simp) _
  revert B0 B1 W1
  generalize (w.alloc (.cells #[.int .u64 (U v.a), .int .u64 (U v.b), .int .u64 (U v.c), .int .u64 (U (v.d ^^^ m))] 30)).alloc (.cells #[.int .u64 0, .int .u64 0, .int .u64 0, .int .u64 0] 30) = w1
  intro B0 B1 W1
  refine (refround_any ⟨v.a, v.b, v.c, v.d ^^^ m⟩ w1).mono ?_
  rintro e w2 ⟨rfl, hB2⟩
  unfold arr
  go_wp2_with fail
  refine (refround_any (rnd ⟨v.a, v.b, v.c, v.d ^^^ m⟩) w2).mono ?_
  rintro e w3 ⟨rfl, hB3⟩
  have HB3 := (B0.below hB2).below hB3
  have HC3 := (B1.below hB2).below hB3
  have W3 : Below w.heap.size w w3 := (W1.trans (hB2.mono W1.size)).trans (hB3.mono (Nat.le_trans W1.size hB2.size))
  clear B0 B1 W1 hB2 hB3
  obtain ⟨u, hu0⟩ : ∃ u, u = rnd (rnd ⟨v.a, v.b, v.c, v.d ^^^ m⟩) := ⟨_, rfl⟩
  rw [← hu0]
  have hu := Lib.hid hu0
  clear hu0
  unfold arr
  have q0 := HB3.c0
  have q1 := HB3.c1
  have q2 := HB3.c2
  have q3 := HB3.c3
  have f0 := HB3.frozen 0
  have f1 := HB3.frozen 1
  have f2 := HB3.frozen 2
  have f3 := HB3.frozen 3
  have p0 := HC3.c0
  have p1 := HC3.c1
  have p2 := HC3.c2
  have p3 := HC3.c3
  have g0 := HC3.frozen 0
  have g1 := HC3.frozen 1
  have g2 := HC3.frozen 2
  have g3 := HC3.frozen 3
  have hx := U_xor u.a m
  have HB := Lib.hid HB3
  have HC := Lib.hid HC3
  have HW := Lib.hid W3
  clear HB3 HC3 W3
  go_wp2
  refine bodyPost_ret (v := arr (blk v m)) ?_ rfl ⟨rfl, ?_⟩
  · unfold arr blk
    rw [← hu.out]
    simp [results, Try.results32, go_sem, *]
  · exact below_blk (b := w.heap.size + 1) (by omega) ((below_blk (b := w.heap.size) (Nat.le_refl _) HW.out _ _ _ _).setCell (p := ⟨w.heap.size, 0, none⟩) (Nat.le_refl _) _) _ _ _ _
end Go.Proofs.Ytjjibjamalieiaa
