/- The document's examples. -/
import Derived.Test.YtbgfpmnicpmieaaRFirst
namespace Go.Proofs.Ytbgfpmnicpmieaa
open Go Go.RowKit Go.Shelf Go.Sort
set_option linter.unusedVariables false
set_option linter.unusedSimpArgs false
set_option maxRecDepth 100000
set_option maxHeartbeats 1000000
theorem rn_flat (w : World) (ps : List (Int × Int)) : RN (w.alloc (.cells (flat ps).toArray 37)) (some ⟨w.heap.size, 0, none⟩) ps.length ps := rn_new _ rfl fun i v h => by rw [List.getElem?_toArray]; exact h
theorem lives_any (w : World) : Calls Try.prog 10 #[] w fun e w' => e = .returned (.bool true) ∧ Below w.heap.size w w' := by
  go_enter Try.func10, Try.ntmps10
  go_wp2_with fail
  refine (noop_any 1 1 _).mono ?_
  rintro e w1 ⟨rfl, hb1⟩
  have L1 := Lib.hid hb1
  clear hb1
  go_wp2_with fail
  refine (noop_any 2 1 _).mono ?_
  rintro e w2 ⟨rfl, hb1⟩
  have L2 := Lib.hid (L1.out.trans (hb1.mono L1.out.size))
  clear hb1 L1
  go_wp2_with fail
  refine (noop_any 3 1 _).mono ?_
  rintro e w3 ⟨rfl, hb1⟩
  have L3 := Lib.hid (L2.out.trans (hb1.mono L2.out.size))
  clear hb1 L2
  go_wp2_with fail
  generalize hA : w3.alloc _ = wA
  have HA : Hid (wA = w3.alloc (.cells (flat [(1, 1), (2, 1), (3, 1)]).toArray 37)) := hA.symm
  clear hA
  have RA : Hid (RN wA (some ⟨w3.heap.size, 0, none⟩) 3 [(1, 1), (2, 1), (3, 1)]) := by show RN _ _ _ _; rw [HA.out]; exact rn_flat w3 [(1, 1), (2, 1), (3, 1)]
  have LA : Hid (Below w.heap.size w wA) := by show Below _ _ _; rw [HA.out]; exact L3.out.alloc L3.out.size _
  clear HA
  have three : ∀ P : Nat → Prop, P 0 → P 1 → P 2 → ∀ j, j < 3 → P j := fun P h0 h1 h2 j hj => by
    match j, hj with
    | 0, _ => exact h0
    | 1, _ => exact h1
    | 2, _ => exact h2
  have T := Lib.hid three
  clear three
  refine (new_nop 0 0 _ 3 3 [(1, 1), (2, 1), (3, 1)] _ RA.out (by omega) (by omega) (by omega) (by omega) (T.out _ (by first | decide | rfl | (dsimp only; decide)) (by first | decide | rfl | (dsimp only; decide)) (by first | decide | rfl | (dsimp only; decide))) (T.out _ (by first | decide | rfl | (dsimp only; decide)) (by first | decide | rfl | (dsimp only; decide)) (by first | decide | rfl | (dsimp only; decide)))).mono ?_
  rintro e w4 ⟨b, a', c', rfl, hB, hR, hc, hbw, hb4⟩
  have B4 := Lib.hid hB
  have R4 := Lib.hid hR
  have C4 := Lib.hid hc
  have HBW : Hid (w.heap.size ≤ b) := Nat.le_trans LA.out.size hbw
  have L4 := Lib.hid (LA.out.trans (hb4.mono LA.out.size))
  clear hB hR hc hb4 hbw RA LA
  have O4 : Hid (Ok ⟨0, 0, a', 3, c', 0, 0, 0 + (3 : Nat), true⟩ [(1, 1), (2, 1), (3, 1)]) := ⟨rfl, rfl, T.out _ (by first | decide | rfl | (dsimp only; decide)) (by first | decide | rfl | (dsimp only; decide)) (by first | decide | rfl | (dsimp only; decide)), by first | decide | rfl | (dsimp only; decide), by first | decide | rfl | (dsimp only; decide), by first | decide | rfl | (dsimp only; decide)⟩
  go_wp2_with fail
  refine (hint_stop b _ [(1, 1), (2, 1), (3, 1)] 9 1 _ B4.out R4.out.ep O4.out (by first | decide | rfl | (dsimp only; decide)) (by first | decide | rfl | (dsimp only; decide)) (by first | decide | rfl | (dsimp only; decide))).mono ?_
  rintro e w5 ⟨rfl, hb5⟩
  have B5 := Lib.hid (B4.out.below (Nat.le_refl _) hb5)
  have R5 := Lib.hid (R4.out.keep (Nat.le_refl _) hb5)
  have L5 := Lib.hid (L4.out.trans (hb5.mono L4.out.size))
  clear hb5 B4 R4 L4
  go_wp2_with fail
  refine (noop_any 3 2 _).mono ?_
  rintro e w6 ⟨rfl, hb6⟩
  have B6 := Lib.hid (B5.out.below (Nat.le_refl _) hb6)
  have R6 := Lib.hid (R5.out.keep (Nat.le_refl _) hb6)
  have L6 := Lib.hid (L5.out.trans (hb6.mono L5.out.size))
  clear hb6 B5 R5 L5
  go_wp2_with fail
  generalize hA : w6.alloc _ = wA
  have HA : Hid (wA = w6.alloc (.cells (flat [(3, 2)]).toArray 37)) := hA.symm
  clear hA
  have Y7 : Hid (RN wA (some ⟨w6.heap.size, 0, none⟩) 1 [(3, 2)]) := by show RN _ _ _ _; rw [HA.out]; exact rn_flat w6 [(3, 2)]
  have LA : Below w6.heap.size w6 wA := by rw [HA.out]; exact (Below.refl _ _).alloc (Nat.le_refl _) _
  have L7 := Lib.hid (L6.out.trans (LA.mono L6.out.size))
  have B7 := Lib.hid (B6.out.below (Nat.le_refl _) LA)
  have R7 := Lib.hid (R6.out.keep (Nat.le_refl _) LA)
  clear HA LA B6 R6 L6
  have one : ∀ P : Nat → Prop, P 0 → ∀ j, j < 1 → P j := fun P h0 j hj => by
    match j, hj with
    | 0, _ => exact h0
  have T1 := Lib.hid one
  clear one
  refine (match_first b _ [(1, 1), (2, 1), (3, 1)] _ 1 1 [(3, 2)] 2 1 2 _ B7.out R7.out C4.out O4.out Y7.out (by first | decide | rfl | (dsimp only; decide)) (by first | decide | rfl | (dsimp only; decide)) (by first | decide | rfl | (dsimp only; decide)) (by first | decide | rfl | (dsimp only; decide)) (by first | decide | rfl | (dsimp only; decide)) (by first | decide | rfl | (dsimp only; decide)) (by first | decide | rfl | (dsimp only; decide)) (T1.out _ (by first | decide | rfl | (dsimp only; decide))) (T1.out _ (by first | decide | rfl | (dsimp only; decide))) (by first | decide | rfl | (dsimp only; decide)) (by first | decide | rfl | (dsimp only; decide)) (by first | decide | rfl | (dsimp only; decide))).mono ?_
  rintro e w8 ⟨a8, c8, rfl, hB, hR, hc, hb8⟩
  have B8 : Hid (LB w8 b ⟨0, 0, a8, 3, c8, 0, 0, 2, true⟩) := hB
  have R8 : Hid (RN w8 a8 3 [(1, 1), (2, 1), (3, 2)]) := hR
  have C8 : Hid (3 ≤ c8) := hc
  have L8 := Lib.hid (L7.out.trans (hb8.mono HBW.out))
  clear hB hR hc hb8 B7 R7 L7 Y7
  have O8 : Hid (Ok ⟨0, 0, a8, 3, c8, 0, 0, 2, true⟩ [(1, 1), (2, 1), (3, 2)]) := ⟨rfl, rfl, T.out _ (by first | decide | rfl | (dsimp only; decide)) (by first | decide | rfl | (dsimp only; decide)) (by first | decide | rfl | (dsimp only; decide)), by first | decide | rfl | (dsimp only; decide), by first | decide | rfl | (dsimp only; decide), by first | decide | rfl | (dsimp only; decide)⟩
  go_wp2_with fail
  refine (last_any b _ _ _ B8.out rfl R8.out.ep (by first | decide | rfl | (dsimp only; decide))).mono ?_
  rintro e w9 ⟨rfl, hb9⟩
  have B9 := Lib.hid (B8.out.below (Nat.le_refl _) hb9)
  have R9 := Lib.hid (R8.out.keep (Nat.le_refl _) hb9)
  have L9 := Lib.hid (L8.out.trans (hb9.mono L8.out.size))
  clear hb9 B8 R8 L8
  rw [show lastP ⟨0, 0, a8, 3, c8, 0, 0, 2, true⟩ [(1, 1), (2, 1), (3, 2)] = (3, 2) from rfl]
  go_wp2_with fail
  refine (stable_any b _ _ B9.out rfl).mono ?_
  rintro e wB ⟨rfl, rfl⟩
  go_wp2_with fail
  refine (unsure_any b _ [(1, 1), (2, 1), (3, 2)] _ B9.out R9.out O8.out (by first | decide | rfl | (dsimp only; decide)) C8.out 2 (by first | decide | rfl | (dsimp only; decide)) (by first | decide | rfl | (dsimp only; decide))).mono ?_
  rintro e wC ⟨⟨aC, cC, rfl⟩, hb9⟩
  have LC := Lib.hid (L9.out.trans (hb9.mono L9.out.size))
  clear hb9
  go_wp2_with fail
  go_ret
  exact ⟨rfl, LC.out⟩
end Go.Proofs.Ytbgfpmnicpmieaa
