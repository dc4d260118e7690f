/- The document's examples of members. -/
import Derived.Test.YtedifbdjcebefaaRChg2
namespace Go.Proofs.Ytedifbdjcebefaa
open Go Go.RowKit Go.Shelf Go.Sort
set_option linter.unusedVariables false
set_option linter.unusedSimpArgs false
set_option maxRecDepth 100000
set_option maxHeartbeats 2000000
theorem fin_stores2 {W : World} {bk : Nat} {a1 a2 a3 a4 : Option Addr} {n1 c1 n2 c2 n3 c3 n4 c4 : Nat} {X Y : List Int} (hC : CB W bk (.slice a3 n3 c3) (.slice a4 n4 c4)) (h1 : Rd W a1 n1 X) (h2 : Rd W a2 n2 Y) :
    CB ((W.setCell ⟨bk, 0, none⟩ (.slice a1 n1 c1)).setCell ⟨bk, 1, none⟩ (.slice a2 n2 c2)) bk (.slice a1 n1 c1) (.slice a2 n2 c2) ∧ Rd ((W.setCell ⟨bk, 0, none⟩ (.slice a1 n1 c1)).setCell ⟨bk, 1, none⟩ (.slice a2 n2 c2)) a1 n1 X ∧ Rd ((W.setCell ⟨bk, 0, none⟩ (.slice a1 n1 c1)).setCell ⟨bk, 1, none⟩ (.slice a2 n2 c2)) a2 n2 Y :=
  ⟨(hC.s0 _).s1 _, (h1.store hC _ _).store (hC.s0 _) _ _, (h2.store hC _ _).store (hC.s0 _) _ _⟩
theorem CB.set_other {w : World} {b : Nat} {v u : Value} (h : CB w b v u) {p : Addr} (hp : p.block ≠ b) (x : Value) : CB (w.setCell p x) b v u := by
  show (w.setCell p x).heap[b]? = _
  rw [Below.heap_setCell _ _ _ _ (fun e => hp e.symm)]; exact h
theorem rd_two {w : World} {g : Nat} {l : List Int} {n : Nat} (hl : l.length = n) : Rd (w.alloc (.cells (l.map (Value.int .i64)).toArray 3)) (some ⟨w.heap.size, 0, none⟩) n l :=
  ⟨hl, .inr ⟨w.heap.size, 0, rfl, fun j hj => by
    rw [cell_of_row _ _ _ _ 3 _ (heap_alloc_new w _)]
    simp [List.getElem?_eq_getElem (show j < l.length by omega), List.getD_eq_getElem?_getD]⟩⟩
theorem lives_any (w : World) : Calls Try.prog 9 #[] w fun e w' => e = .returned (.bool true) ∧ Below w.heap.size w w' := by
  have e1 : Hid (upTo (wantN 3) = [1, 2, 3]) := by show _ = _; decide
  have e2 : Hid (outV [1, 2, 3] [] 4 2 = [1, 3] ∧ outL [1, 2, 3] [] 4 2 = [] ∧ errC [1, 2, 3] [] 4 2 = 0) := by show _ ∧ _; decide
  have e3 : Hid (outV [1, 3] [] 2 4 = [1, 3] ∧ outL [1, 3] [] 2 4 = [4] ∧ errC [1, 3] [] 2 4 = 0) := by show _ ∧ _; decide
  have e4 : Hid (outV [1, 3] [4] 3 4 = [1, 3, 4] ∧ outL [1, 3] [4] 3 4 = [] ∧ errC [1, 3] [4] 3 4 = 0) := by show _ ∧ _; decide
  go_enter Try.func9, Try.ntmps9
  go_wp2_with fail
  refine (begin_any 3 _).mono ?_
  rintro e w1 ⟨a, n, c, rfl, hr, hb⟩
  rw [e1.out] at hr
  have hn : n = 3 := by have := hr.1; simpa using this.symm
  subst hn
  have L1 : Hid (Below w.heap.size w (w1.alloc (.cells #[.slice a 3 c, nilS] 24))) := hb.alloc hb.size _
  have C1 : Hid (CB (w1.alloc (.cells #[.slice a 3 c, nilS] 24)) w1.heap.size (.slice a 3 c) nilS) := CB.new w1 _ _
  have R1 := Lib.hid (hr.keep (Nat.le_refl _) ((Below.refl _ _).alloc (Nat.le_refl _) (.cells #[.slice a 3 c, nilS] 24)))
  have hB1 : Hid (w.heap.size ≤ w1.heap.size) := hb.size
  clear hb hr
  go_upto_region 2 with fail
  generalize (w1.alloc (.cells #[.slice a 3 c, nilS] 24)) = w2 at *
  have f0 := C1.out.c0
  have f1 := C1.out.c1
  generalize w1.heap.size = B1 at *
  go_wp2_with fail
  refine (chg_any a 3 c _ none 0 0 [] 4 2 _ R1.out ⟨rfl, .inl rfl⟩ (by omega) (by omega)).mono ?_
  rintro e w3 ⟨a1, n1, c1, a2, n2, c2, rfl, hr1, hr2, hb⟩
  rw [e2.out.1] at hr1
  rw [e2.out.2.1] at hr2
  rw [e2.out.2.2]
  have hn1 : n1 = 2 := by have := hr1.1; simpa using this.symm
  have hn2 : n2 = 0 := by have := hr2.1; simpa using this.symm
  subst hn1 hn2
  have C2 := C1.out.below (Nat.le_refl _) hb
  have F2 := Lib.hid (fin_stores2 (c1 := c1) (c2 := c2) C2 hr1 hr2)
  have L2 : Hid (Below w.heap.size w ((w3.setCell ⟨B1, 0, none⟩ (.slice a1 2 c1)).setCell ⟨B1, 1, none⟩ (.slice a2 0 c2))) := ((L1.out.trans (hb.mono L1.out.size)).setCell (p := ⟨B1, 0, none⟩) hB1.out _).setCell (p := ⟨B1, 1, none⟩) hB1.out _
  clear f0 f1
  have f0 := C2.c0
  have f1 := C2.c1
  have g0 := C2.frozen 0
  have g1 := C2.frozen 1
  clear hb hr1 hr2 C2
  go_upto_region 3 with fail
  generalize ((w3.setCell ⟨B1, 0, none⟩ (.slice a1 2 c1)).setCell ⟨B1, 1, none⟩ (.slice a2 0 c2)) = w4 at *
  clear f0 f1 g0 g1
  have f0 := F2.out.1.c0
  have f1 := F2.out.1.c1
  go_wp2_with fail
  refine (chg_any a1 2 c1 _ a2 0 c2 _ 2 4 _ F2.out.2.1 F2.out.2.2 (by omega) (by omega)).mono ?_
  rintro e w5 ⟨a3, n3, c3, a4, n4, c4, rfl, hr3, hr4, hb⟩
  rw [e3.out.1] at hr3
  rw [e3.out.2.1] at hr4
  rw [e3.out.2.2]
  have hn3 : n3 = 2 := by have := hr3.1; simpa using this.symm
  have hn4 : n4 = 1 := by have := hr4.1; simpa using this.symm
  subst hn3 hn4
  have X1 := Lib.hid ((F2.out.2.1.keep (Nat.le_refl _) hb).keep (Nat.le_refl _) ((Below.refl _ _).alloc (Nat.le_refl _) (.cells #[.slice a3 2 c3, .slice a4 1 c4] 24)))
  have X3 := Lib.hid (hr3.keep (Nat.le_refl _) ((Below.refl _ _).alloc (Nat.le_refl _) (.cells #[.slice a3 2 c3, .slice a4 1 c4] 24)))
  have X4 := Lib.hid (hr4.keep (Nat.le_refl _) ((Below.refl _ _).alloc (Nat.le_refl _) (.cells #[.slice a3 2 c3, .slice a4 1 c4] 24)))
  have C3 := Lib.hid ((F2.out.1.below (Nat.le_refl _) hb).below (Nat.le_refl _) ((Below.refl _ _).alloc (Nat.le_refl _) (.cells #[.slice a3 2 c3, .slice a4 1 c4] 24)))
  have C4 := Lib.hid (CB.new w5 (.slice a3 2 c3) (.slice a4 1 c4))
  have L3 : Hid (Below w.heap.size w (w5.alloc (.cells #[.slice a3 2 c3, .slice a4 1 c4] 24))) := (L2.out.trans (hb.mono L2.out.size)).alloc (Nat.le_trans L2.out.size hb.size) _
  have hB2 : Hid (w.heap.size ≤ w5.heap.size) := Nat.le_trans L2.out.size hb.size
  have hBB : Hid (B1 ≠ w5.heap.size) := by
    show _ ≠ _
    have := F2.out.1.lt
    have := hb.size
    omega
  clear hb hr3 hr4
  go_upto_region 4 with fail
  generalize (w5.alloc (.cells #[.slice a3 2 c3, .slice a4 1 c4] 24)) = w6 at *
  generalize w5.heap.size = B2 at *
  clear f0 f1
  have f0 := C4.out.c0
  have f1 := C4.out.c1
  go_wp2_with fail
  refine (chg_any a3 2 c3 _ a4 1 c4 _ 3 4 _ X3.out X4.out (by omega) (by omega)).mono ?_
  rintro e w7 ⟨a5, n5, c5, a6, n6, c6, rfl, hr5, hr6, hb⟩
  rw [e4.out.1] at hr5
  rw [e4.out.2.1] at hr6
  rw [e4.out.2.2]
  have hn5 : n5 = 3 := by have := hr5.1; simpa using this.symm
  have hn6 : n6 = 0 := by have := hr6.1; simpa using this.symm
  subst hn5 hn6
  have C5 := C4.out.below (Nat.le_refl _) hb
  have F5 := Lib.hid (fin_stores2 (c1 := c5) (c2 := c6) C5 hr5 hr6)
  have F1 := Lib.hid (((X1.out.keep (Nat.le_refl _) hb).store C5 0 (.slice a5 3 c5)).store (C5.s0 _) 1 (.slice a6 0 c6))
  have D1 := Lib.hid (((C3.out.below (Nat.le_refl _) hb).set_other (p := ⟨B2, 0, none⟩) (fun e => hBB.out e.symm) (.slice a5 3 c5)).set_other (p := ⟨B2, 1, none⟩) (fun e => hBB.out e.symm) (.slice a6 0 c6))
  have L5 : Hid (Below w.heap.size w ((w7.setCell ⟨B2, 0, none⟩ (.slice a5 3 c5)).setCell ⟨B2, 1, none⟩ (.slice a6 0 c6))) := ((L3.out.trans (hb.mono L3.out.size)).setCell (p := ⟨B2, 0, none⟩) hB2.out _).setCell (p := ⟨B2, 1, none⟩) hB2.out _
  clear f0 f1
  have f0 := C5.c0
  have f1 := C5.c1
  have g0 := C5.frozen 0
  have g1 := C5.frozen 1
  clear hb hr5 hr6 C5
  go_upto_region 5 with fail
  generalize ((w7.setCell ⟨B2, 0, none⟩ (.slice a5 3 c5)).setCell ⟨B2, 1, none⟩ (.slice a6 0 c6)) = w8 at *
  clear f0 f1 g0 g1
  have f0 := F5.out.1.c0
  have f1 := F5.out.1.c1
  have g0 := D1.out.c0
  have g1 := D1.out.c1
  go_wp2_with fail
  have Y1 : Below w8.heap.size w8 (w8.alloc (.cells #[.int .i64 1, .int .i64 3] 3)) := (Below.refl _ _).alloc (Nat.le_refl _) _
  have G5 := Lib.hid (F5.out.1.below (Nat.le_refl _) Y1)
  have GR5 := Lib.hid (F5.out.2.1.keep (Nat.le_refl _) Y1)
  have M1 := Lib.hid (L5.out.trans (Y1.mono L5.out.size))
  refine (ints_any a1 2 c1 [1, 3] (some ⟨w8.heap.size, 0, none⟩) 2 2 [1, 3] _ (F1.out.keep (Nat.le_refl _) Y1) (rd_two (g := 0) (l := [1, 3]) rfl) (by omega) (by omega)).mono ?_
  rintro e w9 ⟨rfl, hb9⟩
  clear f0 f1 g0 g1 Y1
  have H5 := Lib.hid (G5.out.below (Nat.le_refl _) hb9)
  have HR5 := Lib.hid (GR5.out.keep (Nat.le_refl _) hb9)
  have M2 := Lib.hid (M1.out.trans (hb9.mono M1.out.size))
  clear hb9
  have f0 := H5.out.c0
  have f1 := H5.out.c1
  rw [show decide (([1, 3] : List Int) = [1, 3]) = true by decide]
  go_wp2_with fail
  have Y2 : Below w9.heap.size w9 (w9.alloc (.cells #[.int .i64 1, .int .i64 3, .int .i64 4] 3)) := (Below.refl _ _).alloc (Nat.le_refl _) _
  have I5 := Lib.hid (H5.out.below (Nat.le_refl _) Y2)
  have M3 := Lib.hid (M2.out.trans (Y2.mono M2.out.size))
  refine (ints_any a5 3 c5 [1, 3, 4] (some ⟨w9.heap.size, 0, none⟩) 3 3 [1, 3, 4] _ (HR5.out.keep (Nat.le_refl _) Y2) (rd_two (g := 0) (l := [1, 3, 4]) rfl) (by omega) (by omega)).mono ?_
  rintro e w10 ⟨rfl, hb10⟩
  clear f0 f1 Y2
  have J5 := Lib.hid (I5.out.below (Nat.le_refl _) hb10)
  have M4 := Lib.hid (M3.out.trans (hb10.mono M3.out.size))
  clear hb10
  have f0 := J5.out.c0
  have f1 := J5.out.c1
  rw [show decide (([1, 3, 4] : List Int) = [1, 3, 4]) = true by decide]
  go_wp2_with fail
  refine (undo_any 1 _).mono ?_
  rintro e w11 ⟨rfl, rfl⟩
  go_wp2_with fail
  go_ret
  exact ⟨rfl, M4.out⟩
end Go.Proofs.Ytedifbdjcebefaa
