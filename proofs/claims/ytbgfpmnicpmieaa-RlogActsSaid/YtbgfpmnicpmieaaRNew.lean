/- A log that is made of plain entries; Hint, Stable, Unsure of it. -/
import Derived.Test.YtbgfpmnicpmieaaRClone
namespace Go.Proofs.Ytbgfpmnicpmieaa
open Go Go.RowKit Go.Shelf Go.Sort
set_option linter.unusedVariables false
set_option linter.unusedSimpArgs false
set_option maxRecDepth 100000
set_option maxHeartbeats 1000000
theorem LB.new (w : World) (l : Lg) : LB (w.alloc (.cells #[.int .i64 l.ix, .int .i64 l.tm, .slice l.a l.n l.c, .int .i64 l.com, .int .i64 l.app, .int .i64 l.sur, .bool l.is] 64)) w.heap.size l := heap_alloc_new w _
theorem new_nop (ix tm : Int) (a : Option Addr) (n c : Nat) (ps : List (Int × Int)) (w : World) (h : RN w a n ps) (hn : n ≤ 1000) (h0 : 0 ≤ ix) (h1 : ix ≤ 1099511627776) (ht : 0 ≤ tm) (hrow : ∀ j, j < n → (ps.getD j (0, 0)).1 = ix + 1 + j) (hterm : ∀ j, j < n → termAt tm ps j ≤ (ps.getD j (0, 0)).2 ∧ 1 ≤ (ps.getD j (0, 0)).2) :
    Calls Try.prog 11 #[.int .i64 ix, .int .i64 tm, .slice a n c] w fun e w' => ∃ b a' c', e = .returned (.pointer (some ⟨b, 0, none⟩)) ∧ LB w' b ⟨ix, tm, a', n, c', ix, ix, ix + n, true⟩ ∧ RN w' a' n ps ∧ n ≤ c' ∧ w.heap.size ≤ b ∧ Below w.heap.size w w' := by
  have HR := Lib.hid h
  have HC := Lib.hid (chain_nop ix tm a n c ps w h hn h0 h1 hrow hterm)
  have d1 : decide (ix < 0) = false := decide_eq_false (by omega)
  have d2 : decide (1099511627776 < ix) = false := decide_eq_false (by omega)
  have d3 : decide (tm < 0) = false := decide_eq_false (by omega)
  clear h hrow hterm ht
  go_enter Try.func11, Try.ntmps11
  go_wp2_with fail
  refine HC.out.mono ?_
  rintro e w1 ⟨rfl, hb⟩
  have L1 := Lib.hid hb
  have R1 := Lib.hid (HR.out.keep (Nat.le_refl _) hb)
  clear hb HC
  go_wp2_with fail
  refine (clone_any a n c ps _ R1.out hn).mono ?_
  rintro e w2 ⟨a', c', rfl, hr, hc, hb⟩
  have L2 := Lib.hid (L1.out.trans (hb.mono L1.out.size))
  have R2 := Lib.hid hr
  have HCC := Lib.hid hc
  clear hb hr hc d1 d2 d3
  go_wp2_with fail
  go_ret
  exact ⟨_, a', c', rfl, LB.new w2 ⟨ix, tm, a', n, c', ix, ix, ix + n, true⟩, R2.out.keep (Nat.le_refl _) ((Below.refl _ _).alloc (Nat.le_refl _) _), HCC.out, L2.out.size, L2.out.alloc L2.out.size _⟩
theorem stable_any (b : Nat) (l : Lg) (w : World) (h : LB w b l) (hi : l.is = true) : Calls Try.prog 33 #[.pointer (some ⟨b, 0, none⟩)] w fun e w' => e = .returned (.int .i64 l.sur) ∧ w = w' := by
  have HM := Lib.hid (made_any b l w h)
  have h5 := h.c5
  rw [hi] at HM
  clear h hi
  go_enter Try.func33, Try.ntmps33
  go_wp2_with (go_at_call 41; refine HM.out.mono ?_; rintro e w' ⟨rfl, rfl⟩)
  go_ret
  exact ⟨rfl, rfl⟩
theorem hint_stop (b : Nat) (l : Lg) (ps : List (Int × Int)) (index term : Int) (w : World) (hb : LB w b l) (he : EP w l.a l.n ps) (ho : Ok l ps) (hpos : 0 < l.n) (hx : l.ix + l.n ≤ index) (ht : (ps.getD (l.n - 1) (0, 0)).2 ≤ term) :
    Calls Try.prog 14 #[.pointer (some ⟨b, 0, none⟩), .int .i64 index, .int .i64 term] w fun e w' => e = .returned (.int .i64 (l.ix + l.n)) ∧ Below w.heap.size w w' := by
  have HM := Lib.hid (made_any b l w hb)
  have HL := Lib.hid (last_any b l ps w hb ho.is he ho.small)
  have HB := Lib.hid hb
  have HE := Lib.hid he
  have HO := Lib.hid ho
  have HLa := Lib.hid ho.last
  have HI := Lib.hid ho.is
  have hsm := ho.small
  have hlo := ho.lo
  have hhi := ho.hi
  have hat : atN ps (l.ix + l.n) = l.n - 1 := by rw [ho.at]; omega
  have HAT := Lib.hid hat
  have hT := Lib.hid ht
  clear hb he ho ht hat
  go_enter Try.func14, Try.ntmps14
  go_wp2_with fail
  refine HM.out.mono ?_
  rintro e w' ⟨rfl, rfl⟩
  rw [HI.out]
  go_wp2_with fail
  refine HL.out.mono ?_
  rintro e w1 ⟨rfl, hbw⟩
  rw [HLa.out]
  have L1 := Lib.hid hbw
  have B1 := Lib.hid (HB.out.below (Nat.le_refl _) hbw)
  have E1 := Lib.hid (HE.out.keep (Nat.le_refl _) hbw)
  have h0 := B1.out.c0
  have h2 := B1.out.c2
  clear hbw HM HL HB HE HLa
  generalize (lastP l ps).2 = lt at *
  obtain ⟨bb, off, ea, hc, hdd⟩ := E1.out.at (show l.n - 1 < l.n by omega)
  rw [ea] at h2
  generalize (ps.getD (l.n - 1) (0, 0)).2 = y at *
  clear hc
  have e1 : min index (l.ix + (l.n : Int)) = l.ix + l.n := by omega
  have e2 : max (l.ix + (l.n : Int)) l.ix = l.ix + l.n := by omega
  have d1 : decide (l.ix < l.ix + (l.n : Int)) = true := decide_eq_true (by omega)
  have d2 : decide (term < y) = false := decide_eq_false (by have := hT.out; omega)
  have hk : l.n - 1 < l.n := by omega
  have KS : Hid (∀ W, Below w1.heap.size w1 W → W.cell? ⟨b, 0, none⟩ = some (.int .i64 l.ix) ∧ W.cell? ⟨b, 2, none⟩ = some (.slice (some ⟨bb, off, none⟩) l.n l.c) ∧ W.cell? ⟨bb, off + (l.n - 1) * 13 + 1, none⟩ = some (.int .i64 y) ∧ Below w1.heap.size w1 W) := by
    show ∀ W, _
    intro W h
    exact ⟨(h.cell (cell_block_lt h0)).trans h0, (h.cell (cell_block_lt h2)).trans h2, (h.cell (cell_block_lt hdd)).trans hdd, h⟩
  go_wp2_with fail
  clear h0 h2 hdd e1 e2 ea
  go_loopw [9] (fun v wr => v = .int .i64 (l.ix + l.n) ∧ wr = w1) (fun _ _ => 0)
  case atStart => exact ⟨by first | rfl | (congr 1; omega), rfl⟩
  case round =>
    obtain ⟨rfl, rfl⟩ := hrel
    go_upto_region 5 with fail
    go_region_held3 (fun W => W.cell? ⟨b, 0, none⟩ = some (.int .i64 l.ix) ∧ W.cell? ⟨b, 2, none⟩ = some (.slice (some ⟨bb, off, none⟩) l.n l.c) ∧ W.cell? ⟨bb, off + (l.n - 1) * 13 + 1, none⟩ = some (.int .i64 y) ∧ Below wr.heap.size wr W)
      (first | exact KS.out _ (Below.refl _ _) | exact KS.out _ (by assumption) | exact KS.out _ (held_3 (by assumption)) | exact KS.out _ (Below.refl _ _).drew)
      (first
        | (go_at_call 40; refine (at_from wr b l ps (l.ix + l.n) _ B1.out E1.out HO.out.small HO.out.up (held_3 (by assumption))).mono ?_; rintro e w' ⟨rfl, hb5⟩; rw [HAT.out]))
    all_goals (
      have HH := Lib.hid hb5
      clear hb5
      rename_i hHeld
      clear hHeld
      go_wp2_with fail
      go_ret
      exact ⟨rfl, L1.out.trans (HH.out.mono L1.out.size)⟩)
theorem RN.drop {w : World} {b off n : Nat} {ps : List (Int × Int)} (h : RN w (some ⟨b, off, none⟩) n ps) {k : Nat} (hk : k ≤ n) : RN w (some ⟨b, off + k * 13, none⟩) (n - k) (ps.drop k) := by
  refine ⟨by rw [List.length_drop, h.1], ?_⟩
  rcases h.2 with h0 | ⟨b', off', e, hc⟩
  · exact .inl (by omega)
  · cases e
    refine .inr ⟨b, off + k * 13, rfl, fun j hj c hc' => ?_⟩
    have h1 := hc (k + j) (by omega) c hc'
    have e : (ps.drop k).getD j (0, 0) = ps.getD (k + j) (0, 0) := by rw [List.getD_eq_getElem?_getD, List.getD_eq_getElem?_getD, List.getElem?_drop]
    rw [e, show off + k * 13 + j * 13 + c = off + (k + j) * 13 + c by omega]
    exact h1
theorem unsure_any (b : Nat) (l : Lg) (ps : List (Int × Int)) (w : World) (hb : LB w b l) (he : RN w l.a l.n ps) (ho : Ok l ps) (hpos : 0 < l.n) (hc : l.n ≤ l.c) (j : Nat) (hj : l.sur = l.ix + j) (hjl : j < l.n) :
    Calls Try.prog 34 #[.pointer (some ⟨b, 0, none⟩)] w fun e w' => (∃ a' c', e = .returned (.slice a' (l.n - j) c')) ∧ Below w.heap.size w w' := by
  have hjn : j ≤ l.n := by omega
  have hcj : ¬ l.c = j := by omega
  have HM := Lib.hid (made_any b l w hb)
  have HB := Lib.hid hb
  have HE := Lib.hid he.ep
  have HO := Lib.hid ho
  have HI := Lib.hid ho.is
  have hsm := ho.small
  have hlo := ho.lo
  have hhi := ho.hi
  have HAT : Hid (atN ps (l.ix + j + 1) = j) := by
    show _ = _
    rw [ho.at]; omega
  have h2 := hb.c2
  have h5 := hb.c5
  rw [hj] at h5
  have HR0 := he
  rcases he.2 with h0 | ⟨bb, off, ea, hxx⟩
  · omega
  clear hxx
  rw [ea] at h2 HR0
  have HRN := Lib.hid (HR0.drop hjn)
  clear hb he ho hj HR0
  go_enter Try.func34, Try.ntmps34
  go_wp2_with fail
  refine HM.out.mono ?_
  rintro e w' ⟨rfl, rfl⟩
  rw [HI.out]
  go_upto_region 3 with fail
  have KS : Hid (∀ W, Below w.heap.size w W → W.cell? ⟨b, 2, none⟩ = some (.slice (some ⟨bb, off, none⟩) l.n l.c) ∧ W.cell? ⟨b, 5, none⟩ = some (.int .i64 (l.ix + j)) ∧ Below w.heap.size w W) := by
    show ∀ W, _
    intro W h
    exact ⟨(h.cell (cell_block_lt h2)).trans h2, (h.cell (cell_block_lt h5)).trans h5, h⟩
  have hw : IntKind.i64.wrap (l.ix + (j : Int) + 1) = l.ix + j + 1 := IntWalk.i64_in _ (by omega)
  clear h2 h5 ea HM
  go_region_held3 (fun W => W.cell? ⟨b, 2, none⟩ = some (.slice (some ⟨bb, off, none⟩) l.n l.c) ∧ W.cell? ⟨b, 5, none⟩ = some (.int .i64 (l.ix + j)) ∧ Below w.heap.size w W)
    (first | exact KS.out _ (Below.refl _ _) | exact KS.out _ (by assumption) | exact KS.out _ (held_2 (by assumption)) | exact KS.out _ (Below.refl _ _).drew)
    (first
      | (go_at_call 40; refine (at_from w b l ps (l.ix + j + 1) _ HB.out HE.out HO.out.small HO.out.up (held_2 (by assumption))).mono ?_; rintro e w' ⟨rfl, hb5⟩; rw [HAT.out])
      | (go_at_call 37; refine (clone_any (some ⟨bb, off + j * 13, none⟩) (l.n - j) (l.c - j) (ps.drop j) _ (HRN.out.keep (Nat.le_refl _) hb5) (by omega)).mono ?_; rintro e w6 ⟨a6, c6, rfl, _, _, hb6⟩; have hb7 := hb5.trans (hb6.mono hb5.size)))
  all_goals (
    have HH := Lib.hid hb7
    clear hb5 hb6 hb7
    rename_i hHeld
    clear hHeld
    go_wp2_with fail
    go_ret
    exact ⟨⟨_, _, rfl⟩, HH.out⟩)
end Go.Proofs.Ytbgfpmnicpmieaa
