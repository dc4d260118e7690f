/- Copy, over maps of integers. -/
import Derived.Test.YtcooapflofiolaaDoorMIKeys
namespace Go.Proofs.YtcooapflofiolaaDoor.MI
open Go Go.RowKit Go.Shelf
set_option linter.unusedVariables false
set_option linter.unusedSimpArgs false
set_option maxRecDepth 100000
set_option maxHeartbeats 4000000
/-- A map out of its block and two rows of one's own. -/
theorem at_rows {w : World} {b ba bb : Nat} {k0 k1 : BitVec 64} {m : Mp VT} {a1 c1 a2 c2 : Nat} (hsl : m.ss.length = 8 * m.ws.length)
    (hb : w.heap[b]? = some (.cells #[.int .u64 (Sip.U k0), .int .u64 (Sip.U k1), .slice (some ⟨a1, 0, none⟩) m.ws.length c1, .slice (some ⟨a2, 0, none⟩) (8 * m.ws.length) c2, .int .i64 m.n, .int .i64 m.tb] 94 (0, 0)))
    (h1 : w.ownsRow ba 22 1 (.slice (some ⟨a1, 0, none⟩) m.ws.length c1) m.ws.length (wordsV m)) (h2 : w.ownsRow bb 135 2 (.slice (some ⟨a2, 0, none⟩) (8 * m.ws.length) c2) (8 * m.ws.length) (flatS val m.ss)) (n1 : b ≠ a1) (n2 : b ≠ a2) (n3 : a1 ≠ a2) :
    At w ⟨b, a1, a2, c1, c2⟩ k0 k1 m := by
  rcases h1.2 with ⟨h, _⟩ | ⟨g, cap, cur, e, _, hg, hc, _, _, htk⟩
  · cases h
  injection e with e1 e2 e3
  injection e1 with e1; injection e1 with e1; subst e1; subst e3
  rcases h2.2 with ⟨h, _⟩ | ⟨g2, cap2, cur2, e, _, hg2, hc2, _, _, htk2⟩
  · cases h
  injection e with f1 f2 f3
  injection f1 with f1; injection f1 with f1; subst f1; subst f3
  refine ⟨hb, ⟨cur, hg, fun j hj => ?_⟩, ⟨cur2, hg2, fun i hi => ?_⟩, hc, hc2, n1, n2, n3⟩
  · have h3 : (wordsV m)[j]? = some (.int .u64 (m.w j : Nat)) := by
      unfold wordsV Mp.w
      rw [List.getElem?_map, List.getElem?_eq_getElem hj, List.getD_eq_getElem?_getD, List.getElem?_eq_getElem hj]; rfl
    rw [← htk, List.getElem?_take] at h3
    split at h3
    · simpa using h3
    · cases h3
  · have h3 := flatS_at val m.ss i (by omega)
    have h4 : ∀ j u, (flatS val m.ss)[j]? = some u → cur2[j]? = some u := fun j u hj => by
      rw [← htk2, List.getElem?_take] at hj
      split at hj
      · simpa using hj
      · cases hj
    exact ⟨h4 _ _ h3.1, h4 _ _ h3.2⟩
theorem own_set {w : World} {base e size n : Nat} {v : Value} {xs : List Value} {b : Nat} {x y : Value} (h : w.ownsRow base e size v n xs) (hb : b < base) : ((w.setCell ⟨b, 2, none⟩ x).setCell ⟨b, 3, none⟩ y).ownsRow base e size v n xs :=
  ownsRow_setCell_below (ownsRow_setCell_below h (a := ⟨b, 2, none⟩) hb x) (a := ⟨b, 3, none⟩) hb y
theorem copy_any (p : Pl) (k0 k1 : BitVec 64) (m : Mp VT) (w : World) (h : At w p k0 k1 m) (I : MInv (hashN k0 k1) m) :
    Calls Tryd.prog 61 #[.pointer (some ⟨p.b, 0, none⟩)] w fun e w' => ∃ q : Pl, e = .returned (.pointer (some ⟨q.b, 0, none⟩)) ∧ At w' q k0 k1 m ∧ (∀ j, q.own j → w.heap.size ≤ j) ∧ Below w.heap.size w w' := by
  have HM := Lib.hid (made_any p k0 k1 m w h I.len.1)
  have HA := Lib.hid h
  have HI := Lib.hid I
  have c0 := h.c0
  have c1 := h.c1
  have c2 := h.c2
  have c3 := h.c3
  have c4 := h.c4
  have c5 := h.c5
  have hlt := h.lt (.inl rfl)
  clear h I
  go_enter Tryd.func61, Tryd.ntmps61
  go_wp2_with fail
  refine HM.out.mono ?_
  rintro e w' ⟨rfl, rfl⟩
  go_upto_region 4 with fail
  obtain ⟨w2, hw2⟩ : ∃ w2, w2 = w.alloc (.cells #[.int .u64 (Sip.U k0), .int .u64 (Sip.U k1), .slice (some ⟨p.bw, 0, none⟩) m.ws.length p.cw, .slice (some ⟨p.bs, 0, none⟩) (8 * m.ws.length) p.cs, .int .i64 m.n, .int .i64 m.tb] 94) := ⟨_, rfl⟩
  rw [← hw2]
  have hz2 : w2.heap.size = w.heap.size + 1 := by rw [hw2]; simp
  have L0 : Hid (Below w.heap.size w w2) := by rw [hw2]; exact (Below.refl _ w).alloc (Nat.le_refl _) _
  have hbx : Hid (w2.heap[w.heap.size]? = some (.cells #[.int .u64 (Sip.U k0), .int .u64 (Sip.U k1), .slice (some ⟨p.bw, 0, none⟩) m.ws.length p.cw, .slice (some ⟨p.bs, 0, none⟩) (8 * m.ws.length) p.cs, .int .i64 m.n, .int .i64 m.tb] 94 (0, 0))) := by rw [hw2]; exact heap_alloc_new w _
  have A2 : Hid (At w2 p k0 k1 m) := HA.out.below (Nat.le_refl _) L0.out
  have HZ := Lib.hid hz2
  clear hw2 hz2 c0 c1 c2 c3 c4 c5
  have SK : Hid (∀ W, Below w.heap.size w W → W.cell? ⟨p.b, 2, none⟩ = some (.slice (some ⟨p.bw, 0, none⟩) m.ws.length p.cw) ∧ W.cell? ⟨p.b, 3, none⟩ = some (.slice (some ⟨p.bs, 0, none⟩) (8 * m.ws.length) p.cs)) := by
    show ∀ W, _
    intro W hW
    exact ⟨low_cell hW (Nat.le_refl _) HA.out.c2, low_cell hW (Nat.le_refl _) HA.out.c3⟩
  have SB : Hid (∀ W, Below w2.heap.size w2 W → W.cell? ⟨w.heap.size, 2, none⟩ = some (.slice (some ⟨p.bw, 0, none⟩) m.ws.length p.cw) ∧ W.cell? ⟨w.heap.size, 3, none⟩ = some (.slice (some ⟨p.bs, 0, none⟩) (8 * m.ws.length) p.cs) ∧ W.frozen? ⟨w.heap.size, 2, none⟩ = false ∧ W.frozen? ⟨w.heap.size, 3, none⟩ = false) := by
    show ∀ W, _
    intro W hW
    have := (hW.block w.heap.size (by have := HZ.out; omega)).trans hbx.out
    exact ⟨by simp [World.cell?, this], by simp [World.cell?, this], by simp [World.frozen?, this], by simp [World.frozen?, this]⟩
  have hC1 : Hid (∀ W, Below w2.heap.size w2 W → Calls Tryd.prog 79 #[.slice (some ⟨p.bw, 0, none⟩) m.ws.length p.cw] W fun e w' => ∃ v, e = .returned v ∧ w'.ownsRow W.heap.size 22 1 v m.ws.length (wordsV m) ∧ (∃ a k, v = .slice (some ⟨a, 0, none⟩) m.ws.length k) ∧ Below W.heap.size W w') := fun W hW =>
    cloneW_any p.bw m.ws.length p.cw (wordsV m) (by rw [wordsV_len]; omega) W (words_cells (A2.out.below (Nat.le_refl _) hW)) (words_one m) (by have := HI.out.len; omega)
  have hC2 : Hid (∀ W, Below w2.heap.size w2 W → Calls Tryd.prog 95 #[.slice (some ⟨p.bs, 0, none⟩) (8 * m.ws.length) p.cs] W fun e w' => ∃ v, e = .returned v ∧ w'.ownsRow W.heap.size 135 2 v (8 * m.ws.length) (flatS val m.ss) ∧ (∃ a k, v = .slice (some ⟨a, 0, none⟩) (8 * m.ws.length) k) ∧ Below W.heap.size W w') := fun W hW =>
    cloneS_any p.bs (8 * m.ws.length) p.cs (flatS val m.ss) (by rw [flatS_len, HI.out.sl]) W (slots_cells (A2.out.below (Nat.le_refl _) hW) HI.out.sl) (slots_one _) (by have := HI.out.len; omega)
  have Lx : Hid (Below w2.heap.size w2 w2.drew) := (Below.refl _ _).drew
  have HKx : Hid (Below w.heap.size w w2.drew) := L0.out.drew
  go_cut [] (fun wx => ∃ w5 b1 a1 d1 b2 a2 d2, w5.ownsRow b1 22 1 (.slice (some ⟨a1, 0, none⟩) m.ws.length d1) m.ws.length (wordsV m) ∧ w5.ownsRow b2 135 2 (.slice (some ⟨a2, 0, none⟩) (8 * m.ws.length) d2) (8 * m.ws.length) (flatS val m.ss) ∧ w2.heap.size ≤ b1 ∧ w2.heap.size ≤ b2 ∧ a1 ≠ a2 ∧ Below w2.heap.size w2 w5 ∧ wx = (w5.setCell ⟨w.heap.size, 2, none⟩ (.slice (some ⟨a1, 0, none⟩) m.ws.length d1)).setCell ⟨w.heap.size, 3, none⟩ (.slice (some ⟨a2, 0, none⟩) (8 * m.ws.length) d2))
  case first =>
    go_region_held3 (fun W => W.cell? ⟨p.b, 2, none⟩ = some (.slice (some ⟨p.bw, 0, none⟩) m.ws.length p.cw) ∧ W.cell? ⟨p.b, 3, none⟩ = some (.slice (some ⟨p.bs, 0, none⟩) (8 * m.ws.length) p.cs))
      ((refine SK.out _ ?_; repeat (first | exact HK4.out | exact HK3.out | exact HKx.out | refine Below.setCell (p := ⟨w.heap.size, 2, none⟩) ?_ (Nat.le_refl _) _ | refine Below.setCell (p := ⟨w.heap.size, 3, none⟩) ?_ (Nat.le_refl _) _)))
      (first
        | (go_at_call 79; refine (hC1.out _ Lx.out).mono ?_; rintro e w3 ⟨v3, rfl, h3, ⟨a3, d3, rfl⟩, hb3⟩; have HB3 : Hid (Below w2.heap.size w2 w3) := Lx.out.trans hb3; have HK3 : Hid (Below w.heap.size w w3) := L0.out.trans (HB3.out.mono L0.out.size))
        | (go_at_call 95; refine (hC2.out _ HB3.out).mono ?_; rintro e w4 ⟨v4, rfl, h4, ⟨a4, d4, rfl⟩, hb4⟩; have HB4 : Hid (Below w2.heap.size w2 w4) := HB3.out.trans (hb4.mono HB3.out.size); have HK4 : Hid (Below w.heap.size w w4) := L0.out.trans (HB4.out.mono L0.out.size); obtain ⟨y2, y3, f2, f3⟩ := SB.out w4 HB4.out))
    all_goals (
      have hz3 := HB3.out.size
      have hz4 := hb4.size
      have q1 : a3 < w3.heap.size := (h3.lt a3 rfl).2
      have q2 : w3.heap.size ≤ a4 := (h4.lt a4 rfl).1
      have X1 := Lib.hid (own_below h3 (Nat.le_refl _) hb4)
      have X2 := Lib.hid h4
      clear h3 h4 hb3 hb4 y2 y3 f2 f3
      go_wp2_with fail
      go_meet
      exact ⟨w4, _, a3, d3, _, a4, d4, X1.out, X2.out, Lx.out.size, hz3, by omega, HB4.out, rfl⟩)
  case rest =>
    obtain ⟨w5, b1, a1, d1, b2, a2, d2, h1, h2, g1, g2, hne, hb, rfl⟩ := hcut
    have X1 := Lib.hid h1
    have X2 := Lib.hid h2
    have XB := Lib.hid hb
    have r1 := (h1.lt a1 rfl).1
    have r2 := (h2.lt a2 rfl).1
    clear h1 h2 hb
    go_wp2
    refine bodyPost_ret (v := .pointer (some ⟨w.heap.size, 0, none⟩)) ?_ rfl ⟨⟨w.heap.size, a1, a2, d1, d2⟩, rfl, ?_, ?_, ?_⟩
    · simp [results, Tryd.results61, go_sem]
    · have hz := HZ.out
      refine at_rows HI.out.sl ?_ (own_set X1.out (by omega)) (own_set X2.out (by omega)) (by omega) (by omega) hne
      have e1 := heap_setCell_same w5 w.heap.size 2 _ 94 (.slice (some ⟨a1, 0, none⟩) m.ws.length d1) ((XB.out.block w.heap.size (by omega)).trans hbx.out)
      exact heap_setCell_same _ w.heap.size 3 _ 94 (.slice (some ⟨a2, 0, none⟩) (8 * m.ws.length) d2) e1
    · have hz := HZ.out
      intro j hj
      exact own_ge (by omega) (by omega) (by omega) hj
    · exact ((L0.out.trans (XB.out.mono L0.out.size)).setCell (p := ⟨w.heap.size, 2, none⟩) (Nat.le_refl _) _).setCell (p := ⟨w.heap.size, 3, none⟩) (Nat.le_refl _) _
end Go.Proofs.YtcooapflofiolaaDoor.MI
