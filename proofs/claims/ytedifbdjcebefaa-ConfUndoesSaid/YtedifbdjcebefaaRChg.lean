/- One member's change: the document's. -/
import Derived.Test.YtedifbdjcebefaaConfPlain
namespace Go.Proofs.Ytedifbdjcebefaa
open Go Go.RowKit Go.Shelf Go.Sort
set_option linter.unusedVariables false
set_option linter.unusedSimpArgs false
set_option maxRecDepth 100000
set_option maxHeartbeats 2000000
theorem has_q (a : Option Addr) (n c : Nat) (l : List Int) (x : Int) (w : World) (q : Nat) (hR : Rd w a n l) (hb : n ≤ 1000) : Calls Try.prog 25 #[.slice a n c, .int .i64 x] (w.drewN q) fun e w' => e = .returned (.bool (bI l x)) ∧ ∃ m, w' = w.drewN m :=
  (has_any a n c l x _ (hR.drewN q) hb).mono fun _ _ ⟨he, hm⟩ => ⟨he, q, hm.symm⟩
theorem refwo_from (w2 : World) (a : Option Addr) (n c : Nat) (l : List Int) (x : Int) (W : World) (hR : Rd w2 a n l) (hn : n ≤ 1000) (hW : Below w2.heap.size w2 W) :
    Calls Try.prog 27 #[.slice a n c, .int .i64 x] W fun e w' => ∃ a' n' c', e = .returned (.slice a' n' c') ∧ Rd w' a' n' (woL l x) ∧ Below w2.heap.size w2 w' ∧ Below W.heap.size W w' :=
  (refwithout_any a n c l x W (hR.keep (Nat.le_refl _) hW) hn).mono fun e w' ⟨a', n', c', he, hr, hb⟩ => ⟨a', n', c', he, hr, hW.trans (hb.mono hW.size), hb⟩
theorem refwi_from (w2 : World) (a : Option Addr) (n c : Nat) (l : List Int) (x : Int) (W : World) (hR : Rd w2 a n l) (hn : n ≤ 1000) (hW : Below w2.heap.size w2 W) :
    Calls Try.prog 26 #[.slice a n c, .int .i64 x] W fun e w' => ∃ a' n' c', e = .returned (.slice a' n' c') ∧ Rd w' a' n' (wiR l x) ∧ Below w2.heap.size w2 w' ∧ Below W.heap.size W w' :=
  (refwith_any a n c l x W (hR.keep (Nat.le_refl _) hW) hn).mono fun e w' ⟨a', n', c', he, hr, hb⟩ => ⟨a', n', c', he, hr, hW.trans (hb.mono hW.size), hb⟩
theorem held_below2 {A B : Prop} {m : Nat} {w W : World} (h : A ∧ B ∧ Below m w W) : Below m w W := h.2.2
theorem refchg_1 (a : Option Addr) (n c : Nat) (V : List Int) (b : Option Addr) (m d : Nat) (L : List Int) (node : Int) (w : World) (hV : Rd w a n V) (hL : Rd w b m L) (hn : n ≤ 1000) (hm : m ≤ 1000)
    (hg : goodB V L = true) (h1 : 1 ≤ node) (h9 : node ≤ 9) :
    Calls Try.prog 11 #[.agg #[.slice a n c, .slice b m d], .int .i64 1, .int .i64 node] w (Got w (outV V L 1 node) (outL V L 1 node) (errC V L 1 node)) := by
  have L0 := Lib.hid (cw_below w (.slice a n c) (.slice b m d))
  have CA := Lib.hid (cw_a w (.slice a n c) (.slice b m d))
  have CR := Lib.hid (cw_b w (.slice a n c) (.slice b m d))
  have R1 := Lib.hid (hV.keep (Nat.le_refl _) L0.out)
  have R2 := Lib.hid (hL.keep (Nat.le_refl _) L0.out)
  have HG := Lib.hid hg
  have hca := CA.out.c0
  have hcb := CA.out.c1
  clear hV hL hg
  have hd1 : decide (node < 1) = false := decide_eq_false (by omega)
  have hd9 : decide (9 < node) = false := decide_eq_false (by omega)
  have HN1 := Lib.hid h1
  have HN9 := Lib.hid h9
  clear h1 h9
  go_enter Try.func11, Try.ntmps11
  go_wp2_with fail
  refine (refgood_any a n c V b m d L _ R1.out R2.out (by omega) (by omega)).mono ?_
  rintro e w1 ⟨rfl, hb⟩
  rw [HG.out]
  have L1 := Lib.hid (L0.out.trans (hb.mono L0.out.size))
  have CA1 := Lib.hid (CA.out.below (Nat.le_refl _) hb)
  have CR1 := Lib.hid (CR.out.below (Nat.le_refl _) hb)
  have S1 := Lib.hid (R1.out.keep (Nat.le_refl _) hb)
  have S2 := Lib.hid (R2.out.keep (Nat.le_refl _) hb)
  clear hb R1 R2 CA CR L0 hca hcb
  have hca := CA1.out.c0
  have hcb := CA1.out.c1
  go_upto_region 3 with fail
  go_quiet (first | (go_at_call_of 25 (Value.slice a n c); exact has_q a n c V node _ _ S1.out hn) | (go_at_call_of 25 (Value.slice b m d); exact has_q b m d L node _ _ S2.out hm))
  have L2 : Hid (Below w.heap.size w (w1.drewN nq)) := below_drewN' L1.out nq
  have CA2 : Hid (CB (w1.drewN nq) w.heap.size (.slice a n c) (.slice b m d)) := CA1.out
  have CR2 : Hid (CB (w1.drewN nq) (w.heap.size + 1) nilS nilS) := CR1.out
  have T1 : Hid (Rd (w1.drewN nq) a n V) := S1.out
  have T2 : Hid (Rd (w1.drewN nq) b m L) := S2.out
  generalize w1.drewN nq = w2 at *
  clear L1 CA1 CR1 S1 S2 hca hcb
  have hca := CA2.out.c0
  have hcb := CA2.out.c1
  have r0 := CR2.out.c0
  have r1 := CR2.out.c1
  have rf0 := CR2.out.frozen 0
  have rf1 := CR2.out.frozen 1
  have hp := good_parts HG.out
  have PV := Lib.hid (rises_pw hp.2.1)
  have PL := Lib.hid (rises_pw hp.2.2.1)
  have HM := Lib.hid hp.2.2.2
  have HV0 := Lib.hid hp.1
  have Z1 := Lib.hid (woL_zero hp.2.1)
  have Z2 := Lib.hid (woL_zero hp.2.2.1)
  clear hp
  have HX : Hid ((goodB V L = false ∨ node < 1 ∨ 9 < node) = False) := by
    show _ = _
    have := HN1.out
    have := HN9.out
    rw [HG.out]; simp; omega
  have HE : Hid (errC V L 1 node = if bI V node || bI L node then 5 else 0) := by
    show _ = _
    rw [errC, if_neg (by rw [HX.out]; exact id)]; rfl
  have HO1 : Hid (outV V L 1 node = if errC V L 1 node = 0 then withL (woL V node) node else []) := rfl
  have HO2 : Hid (outL V L 1 node = if errC V L 1 node = 0 then woL L node else []) := rfl
  have KS : Hid (∀ W, Below (w.heap.size + 1) w2 W → W.cell? ⟨w.heap.size, 0, none⟩ = some (.slice a n c) ∧ W.cell? ⟨w.heap.size, 1, none⟩ = some (.slice b m d) ∧ Below (w.heap.size + 1) w2 W) := by
    show ∀ W, _
    intro W h
    exact ⟨(CA2.out.under (Nat.lt_succ_self _) h).c0, (CA2.out.under (Nat.lt_succ_self _) h).c1, h⟩
  have HZ : Hid (w.heap.size + 1 ≤ w2.heap.size) := by
    show _ ≤ _
    have := CR2.out.lt; omega
  have BV : Hid (bI V node = true ↔ node ∈ V) := bI_mem
  have BL : Hid (bI L node = true ↔ node ∈ L) := bI_mem
  generalize bI V node = v at *
  generalize bI L node = l at *
  rcases (show (v = true ∨ (v = false ∧ l = true)) ∨ (v = false ∧ l = false) by cases v <;> cases l <;> simp) with hvl | ⟨rfl, rfl⟩
  · rcases hvl with rfl | ⟨rfl, rfl⟩
    · have E : Hid (errC V L 1 node = 5) := by
        show _ = _
        rw [HE.out]
        simp
      have O1 : Hid (outV V L 1 node = []) := by
        show _ = _
        rw [HO1.out, E.out]; rfl
      have O2 : Hid (outL V L 1 node = []) := by
        show _ = _
        rw [HO2.out, E.out]; rfl
      clear HO1 HO2 HE HX hca hcb
      have CZ := Lib.hid ((CR2.out.s0 nilS).s1 nilS)
      have BZ : Hid (Below w.heap.size w ((w2.setCell ⟨w.heap.size + 1, 0, none⟩ nilS).setCell ⟨w.heap.size + 1, 1, none⟩ nilS)) := (L2.out.setCell (p := ⟨w.heap.size + 1, 0, none⟩) (Nat.le_succ _) _).setCell (p := ⟨w.heap.size + 1, 1, none⟩) (Nat.le_succ _) _
      go_wp2_with fail
      generalize ((w2.setCell ⟨w.heap.size + 1, 0, none⟩ nilS).setCell ⟨w.heap.size + 1, 1, none⟩ nilS) = wz at *
      have f0 := CZ.out.c0
      have f1 := CZ.out.c1
      refine bodyPost_ret (v := .tuple #[.agg #[.slice none 0 0, .slice none 0 0], .int .i64 5]) (by simp [results, Try.results11, go_sem, f0, f1]) rfl ⟨none, 0, 0, none, 0, 0, by rw [E.out], by rw [O1.out]; exact ⟨rfl, .inl rfl⟩, by rw [O2.out]; exact ⟨rfl, .inl rfl⟩, BZ.out⟩
    · have E : Hid (errC V L 1 node = 5) := by
        show _ = _
        rw [HE.out]
        simp
      have O1 : Hid (outV V L 1 node = []) := by
        show _ = _
        rw [HO1.out, E.out]; rfl
      have O2 : Hid (outL V L 1 node = []) := by
        show _ = _
        rw [HO2.out, E.out]; rfl
      clear HO1 HO2 HE HX hca hcb
      have CZ := Lib.hid ((CR2.out.s0 nilS).s1 nilS)
      have BZ : Hid (Below w.heap.size w ((w2.setCell ⟨w.heap.size + 1, 0, none⟩ nilS).setCell ⟨w.heap.size + 1, 1, none⟩ nilS)) := (L2.out.setCell (p := ⟨w.heap.size + 1, 0, none⟩) (Nat.le_succ _) _).setCell (p := ⟨w.heap.size + 1, 1, none⟩) (Nat.le_succ _) _
      go_wp2_with fail
      generalize ((w2.setCell ⟨w.heap.size + 1, 0, none⟩ nilS).setCell ⟨w.heap.size + 1, 1, none⟩ nilS) = wz at *
      have f0 := CZ.out.c0
      have f1 := CZ.out.c1
      refine bodyPost_ret (v := .tuple #[.agg #[.slice none 0 0, .slice none 0 0], .int .i64 5]) (by simp [results, Try.results11, go_sem, f0, f1]) rfl ⟨none, 0, 0, none, 0, 0, by rw [E.out], by rw [O1.out]; exact ⟨rfl, .inl rfl⟩, by rw [O2.out]; exact ⟨rfl, .inl rfl⟩, BZ.out⟩
  · have E : Hid (errC V L 1 node = 0) := by
      show _ = _
      rw [HE.out]
      simp
    have O1 : Hid (outV V L 1 node = wiR V node) := by
      show _ = _
      rw [HO1.out, E.out]
      have hv : node ∉ V := fun h => by simpa using BV.out.2 h
      rw [woL_id hv, wiR_eq PV.out.1 hv]; rfl
    have O2 : Hid (outL V L 1 node = woL L 0) := by
      show _ = _
      rw [HO2.out, E.out]
      have hl : node ∉ L := fun h => by simpa using BL.out.2 h
      rw [woL_id hl, Z2.out]; rfl
    clear HO1 HO2 HE HX
    go_upto_region 7 with fail
    clear hca hcb r0 r1 rf0 rf1
    go_region_held3 (fun W => W.cell? ⟨w.heap.size, 0, none⟩ = some (.slice a n c) ∧ W.cell? ⟨w.heap.size, 1, none⟩ = some (.slice b m d) ∧ Below (w.heap.size + 1) w2 W)
      (first | exact KS.out _ (Below.refl _ _) | exact KS.out _ (by first | exact (Below.refl _ _).drew | exact hB2.mono HZ.out | exact hB1.mono HZ.out | exact ((hB2.mono HZ.out).setCell (p := ⟨w.heap.size + 1, 0, none⟩) (Nat.le_refl _) _).setCell (p := ⟨w.heap.size + 1, 1, none⟩) (Nat.le_refl _) _))
      (first
        | (go_at_call_of 26 (Value.slice a n c); refine (refwi_from w2 a n c V node _ T1.out hn (by first | exact (Below.refl _ _).drew | exact Below.refl _ _)).mono ?_; rintro e W1 ⟨a1, n1, c1, rfl, hr1, hB1, hb1⟩)
        | (go_at_call_of 27 (Value.slice b m d); refine (refwo_from w2 b m d L 0 _ T2.out hm (by exact hB1)).mono ?_; rintro e W2 ⟨a2, n2, c2, rfl, hr2, hB2, hb2⟩; have r0 := (CR2.out.below (Nat.le_refl _) hB2).c0; have r1 := (CR2.out.below (Nat.le_refl _) hB2).c1; have rf0 := (CR2.out.below (Nat.le_refl _) hB2).frozen 0; have rf1 := (CR2.out.below (Nat.le_refl _) hB2).frozen 1))
    rename_i hHeld
    clear hHeld
    have FS := Lib.hid (fin_stores (c1 := c1) (c2 := c2) (CR2.out.below (Nat.le_refl _) hB2) (hr1.keep (Nat.le_refl _) hb2) hr2)
    have BZ : Hid (Below w.heap.size w ((W2.setCell ⟨w.heap.size + 1, 0, none⟩ (.slice a1 n1 c1)).setCell ⟨w.heap.size + 1, 1, none⟩ (.slice a2 n2 c2))) := ((L2.out.trans (hB2.mono L2.out.size)).setCell (p := ⟨w.heap.size + 1, 0, none⟩) (Nat.le_succ _) _).setCell (p := ⟨w.heap.size + 1, 1, none⟩) (Nat.le_succ _) _
    clear hr1 hr2 hB1 hB2 hb1 hb2 r0 r1 rf0 rf1
    go_wp2_with fail
    generalize ((W2.setCell ⟨w.heap.size + 1, 0, none⟩ (.slice a1 n1 c1)).setCell ⟨w.heap.size + 1, 1, none⟩ (.slice a2 n2 c2)) = wz at *
    have f0 := FS.out.1.c0
    have f1 := FS.out.1.c1
    refine bodyPost_ret (v := .tuple #[.agg #[.slice a1 n1 c1, .slice a2 n2 c2], .int .i64 0]) (by simp [results, Try.results11, go_sem, f0, f1]) rfl ⟨a1, n1, c1, a2, n2, c2, by rw [E.out], by rw [O1.out]; exact FS.out.2.1, by rw [O2.out]; exact FS.out.2.2, BZ.out⟩
theorem refchg_2 (a : Option Addr) (n c : Nat) (V : List Int) (b : Option Addr) (m d : Nat) (L : List Int) (node : Int) (w : World) (hV : Rd w a n V) (hL : Rd w b m L) (hn : n ≤ 1000) (hm : m ≤ 1000)
    (hg : goodB V L = true) (h1 : 1 ≤ node) (h9 : node ≤ 9) :
    Calls Try.prog 11 #[.agg #[.slice a n c, .slice b m d], .int .i64 2, .int .i64 node] w (Got w (outV V L 2 node) (outL V L 2 node) (errC V L 2 node)) := by
  have L0 := Lib.hid (cw_below w (.slice a n c) (.slice b m d))
  have CA := Lib.hid (cw_a w (.slice a n c) (.slice b m d))
  have CR := Lib.hid (cw_b w (.slice a n c) (.slice b m d))
  have R1 := Lib.hid (hV.keep (Nat.le_refl _) L0.out)
  have R2 := Lib.hid (hL.keep (Nat.le_refl _) L0.out)
  have HG := Lib.hid hg
  have hca := CA.out.c0
  have hcb := CA.out.c1
  clear hV hL hg
  have hd1 : decide (node < 1) = false := decide_eq_false (by omega)
  have hd9 : decide (9 < node) = false := decide_eq_false (by omega)
  have HN1 := Lib.hid h1
  have HN9 := Lib.hid h9
  clear h1 h9
  go_enter Try.func11, Try.ntmps11
  go_wp2_with fail
  refine (refgood_any a n c V b m d L _ R1.out R2.out (by omega) (by omega)).mono ?_
  rintro e w1 ⟨rfl, hb⟩
  rw [HG.out]
  have L1 := Lib.hid (L0.out.trans (hb.mono L0.out.size))
  have CA1 := Lib.hid (CA.out.below (Nat.le_refl _) hb)
  have CR1 := Lib.hid (CR.out.below (Nat.le_refl _) hb)
  have S1 := Lib.hid (R1.out.keep (Nat.le_refl _) hb)
  have S2 := Lib.hid (R2.out.keep (Nat.le_refl _) hb)
  clear hb R1 R2 CA CR L0 hca hcb
  have hca := CA1.out.c0
  have hcb := CA1.out.c1
  go_upto_region 3 with fail
  go_quiet (first | (go_at_call_of 25 (Value.slice a n c); exact has_q a n c V node _ _ S1.out hn) | (go_at_call_of 25 (Value.slice b m d); exact has_q b m d L node _ _ S2.out hm))
  have L2 : Hid (Below w.heap.size w (w1.drewN nq)) := below_drewN' L1.out nq
  have CA2 : Hid (CB (w1.drewN nq) w.heap.size (.slice a n c) (.slice b m d)) := CA1.out
  have CR2 : Hid (CB (w1.drewN nq) (w.heap.size + 1) nilS nilS) := CR1.out
  have T1 : Hid (Rd (w1.drewN nq) a n V) := S1.out
  have T2 : Hid (Rd (w1.drewN nq) b m L) := S2.out
  generalize w1.drewN nq = w2 at *
  clear L1 CA1 CR1 S1 S2 hca hcb
  have hca := CA2.out.c0
  have hcb := CA2.out.c1
  have r0 := CR2.out.c0
  have r1 := CR2.out.c1
  have rf0 := CR2.out.frozen 0
  have rf1 := CR2.out.frozen 1
  have hp := good_parts HG.out
  have PV := Lib.hid (rises_pw hp.2.1)
  have PL := Lib.hid (rises_pw hp.2.2.1)
  have HM := Lib.hid hp.2.2.2
  have HV0 := Lib.hid hp.1
  have Z1 := Lib.hid (woL_zero hp.2.1)
  have Z2 := Lib.hid (woL_zero hp.2.2.1)
  clear hp
  have HX : Hid ((goodB V L = false ∨ node < 1 ∨ 9 < node) = False) := by
    show _ = _
    have := HN1.out
    have := HN9.out
    rw [HG.out]; simp; omega
  have HE : Hid (errC V L 2 node = if bI V node || bI L node then 5 else 0) := by
    show _ = _
    rw [errC, if_neg (by rw [HX.out]; exact id)]; rfl
  have HO1 : Hid (outV V L 2 node = if errC V L 2 node = 0 then woL V node else []) := rfl
  have HO2 : Hid (outL V L 2 node = if errC V L 2 node = 0 then withL (woL L node) node else []) := rfl
  have KS : Hid (∀ W, Below (w.heap.size + 1) w2 W → W.cell? ⟨w.heap.size, 0, none⟩ = some (.slice a n c) ∧ W.cell? ⟨w.heap.size, 1, none⟩ = some (.slice b m d) ∧ Below (w.heap.size + 1) w2 W) := by
    show ∀ W, _
    intro W h
    exact ⟨(CA2.out.under (Nat.lt_succ_self _) h).c0, (CA2.out.under (Nat.lt_succ_self _) h).c1, h⟩
  have HZ : Hid (w.heap.size + 1 ≤ w2.heap.size) := by
    show _ ≤ _
    have := CR2.out.lt; omega
  have BV : Hid (bI V node = true ↔ node ∈ V) := bI_mem
  have BL : Hid (bI L node = true ↔ node ∈ L) := bI_mem
  generalize bI V node = v at *
  generalize bI L node = l at *
  rcases (show (v = true ∨ (v = false ∧ l = true)) ∨ (v = false ∧ l = false) by cases v <;> cases l <;> simp) with hvl | ⟨rfl, rfl⟩
  · rcases hvl with rfl | ⟨rfl, rfl⟩
    · have E : Hid (errC V L 2 node = 5) := by
        show _ = _
        rw [HE.out]
        simp
      have O1 : Hid (outV V L 2 node = []) := by
        show _ = _
        rw [HO1.out, E.out]; rfl
      have O2 : Hid (outL V L 2 node = []) := by
        show _ = _
        rw [HO2.out, E.out]; rfl
      clear HO1 HO2 HE HX hca hcb
      have CZ := Lib.hid ((CR2.out.s0 nilS).s1 nilS)
      have BZ : Hid (Below w.heap.size w ((w2.setCell ⟨w.heap.size + 1, 0, none⟩ nilS).setCell ⟨w.heap.size + 1, 1, none⟩ nilS)) := (L2.out.setCell (p := ⟨w.heap.size + 1, 0, none⟩) (Nat.le_succ _) _).setCell (p := ⟨w.heap.size + 1, 1, none⟩) (Nat.le_succ _) _
      go_wp2_with fail
      generalize ((w2.setCell ⟨w.heap.size + 1, 0, none⟩ nilS).setCell ⟨w.heap.size + 1, 1, none⟩ nilS) = wz at *
      have f0 := CZ.out.c0
      have f1 := CZ.out.c1
      refine bodyPost_ret (v := .tuple #[.agg #[.slice none 0 0, .slice none 0 0], .int .i64 5]) (by simp [results, Try.results11, go_sem, f0, f1]) rfl ⟨none, 0, 0, none, 0, 0, by rw [E.out], by rw [O1.out]; exact ⟨rfl, .inl rfl⟩, by rw [O2.out]; exact ⟨rfl, .inl rfl⟩, BZ.out⟩
    · have E : Hid (errC V L 2 node = 5) := by
        show _ = _
        rw [HE.out]
        simp
      have O1 : Hid (outV V L 2 node = []) := by
        show _ = _
        rw [HO1.out, E.out]; rfl
      have O2 : Hid (outL V L 2 node = []) := by
        show _ = _
        rw [HO2.out, E.out]; rfl
      clear HO1 HO2 HE HX hca hcb
      have CZ := Lib.hid ((CR2.out.s0 nilS).s1 nilS)
      have BZ : Hid (Below w.heap.size w ((w2.setCell ⟨w.heap.size + 1, 0, none⟩ nilS).setCell ⟨w.heap.size + 1, 1, none⟩ nilS)) := (L2.out.setCell (p := ⟨w.heap.size + 1, 0, none⟩) (Nat.le_succ _) _).setCell (p := ⟨w.heap.size + 1, 1, none⟩) (Nat.le_succ _) _
      go_wp2_with fail
      generalize ((w2.setCell ⟨w.heap.size + 1, 0, none⟩ nilS).setCell ⟨w.heap.size + 1, 1, none⟩ nilS) = wz at *
      have f0 := CZ.out.c0
      have f1 := CZ.out.c1
      refine bodyPost_ret (v := .tuple #[.agg #[.slice none 0 0, .slice none 0 0], .int .i64 5]) (by simp [results, Try.results11, go_sem, f0, f1]) rfl ⟨none, 0, 0, none, 0, 0, by rw [E.out], by rw [O1.out]; exact ⟨rfl, .inl rfl⟩, by rw [O2.out]; exact ⟨rfl, .inl rfl⟩, BZ.out⟩
  · have E : Hid (errC V L 2 node = 0) := by
      show _ = _
      rw [HE.out]
      simp
    have O1 : Hid (outV V L 2 node = woL V 0) := by
      show _ = _
      rw [HO1.out, E.out]
      have hv : node ∉ V := fun h => by simpa using BV.out.2 h
      rw [woL_id hv, Z1.out]; rfl
    have O2 : Hid (outL V L 2 node = wiR L node) := by
      show _ = _
      rw [HO2.out, E.out]
      have hl : node ∉ L := fun h => by simpa using BL.out.2 h
      rw [woL_id hl, wiR_eq PL.out.1 hl]; rfl
    clear HO1 HO2 HE HX
    go_upto_region 9 with fail
    clear hca hcb r0 r1 rf0 rf1
    go_region_held3 (fun W => W.cell? ⟨w.heap.size, 0, none⟩ = some (.slice a n c) ∧ W.cell? ⟨w.heap.size, 1, none⟩ = some (.slice b m d) ∧ Below (w.heap.size + 1) w2 W)
      (first | exact KS.out _ (Below.refl _ _) | exact KS.out _ (by first | exact (Below.refl _ _).drew | exact hB2.mono HZ.out | exact hB1.mono HZ.out | exact ((hB2.mono HZ.out).setCell (p := ⟨w.heap.size + 1, 0, none⟩) (Nat.le_refl _) _).setCell (p := ⟨w.heap.size + 1, 1, none⟩) (Nat.le_refl _) _))
      (first
        | (go_at_call_of 27 (Value.slice a n c); refine (refwo_from w2 a n c V 0 _ T1.out hn (by first | exact (Below.refl _ _).drew | exact Below.refl _ _)).mono ?_; rintro e W1 ⟨a1, n1, c1, rfl, hr1, hB1, hb1⟩)
        | (go_at_call_of 26 (Value.slice b m d); refine (refwi_from w2 b m d L node _ T2.out hm (by exact hB1)).mono ?_; rintro e W2 ⟨a2, n2, c2, rfl, hr2, hB2, hb2⟩; have r0 := (CR2.out.below (Nat.le_refl _) hB2).c0; have r1 := (CR2.out.below (Nat.le_refl _) hB2).c1; have rf0 := (CR2.out.below (Nat.le_refl _) hB2).frozen 0; have rf1 := (CR2.out.below (Nat.le_refl _) hB2).frozen 1))
    rename_i hHeld
    clear hHeld
    have FS := Lib.hid (fin_stores (c1 := c1) (c2 := c2) (CR2.out.below (Nat.le_refl _) hB2) (hr1.keep (Nat.le_refl _) hb2) hr2)
    have BZ : Hid (Below w.heap.size w ((W2.setCell ⟨w.heap.size + 1, 0, none⟩ (.slice a1 n1 c1)).setCell ⟨w.heap.size + 1, 1, none⟩ (.slice a2 n2 c2))) := ((L2.out.trans (hB2.mono L2.out.size)).setCell (p := ⟨w.heap.size + 1, 0, none⟩) (Nat.le_succ _) _).setCell (p := ⟨w.heap.size + 1, 1, none⟩) (Nat.le_succ _) _
    clear hr1 hr2 hB1 hB2 hb1 hb2 r0 r1 rf0 rf1
    go_wp2_with fail
    generalize ((W2.setCell ⟨w.heap.size + 1, 0, none⟩ (.slice a1 n1 c1)).setCell ⟨w.heap.size + 1, 1, none⟩ (.slice a2 n2 c2)) = wz at *
    have f0 := FS.out.1.c0
    have f1 := FS.out.1.c1
    refine bodyPost_ret (v := .tuple #[.agg #[.slice a1 n1 c1, .slice a2 n2 c2], .int .i64 0]) (by simp [results, Try.results11, go_sem, f0, f1]) rfl ⟨a1, n1, c1, a2, n2, c2, by rw [E.out], by rw [O1.out]; exact FS.out.2.1, by rw [O2.out]; exact FS.out.2.2, BZ.out⟩
theorem refchg_3 (a : Option Addr) (n c : Nat) (V : List Int) (b : Option Addr) (m d : Nat) (L : List Int) (node : Int) (w : World) (hV : Rd w a n V) (hL : Rd w b m L) (hn : n ≤ 1000) (hm : m ≤ 1000)
    (hg : goodB V L = true) (h1 : 1 ≤ node) (h9 : node ≤ 9) :
    Calls Try.prog 11 #[.agg #[.slice a n c, .slice b m d], .int .i64 3, .int .i64 node] w (Got w (outV V L 3 node) (outL V L 3 node) (errC V L 3 node)) := by
  have L0 := Lib.hid (cw_below w (.slice a n c) (.slice b m d))
  have CA := Lib.hid (cw_a w (.slice a n c) (.slice b m d))
  have CR := Lib.hid (cw_b w (.slice a n c) (.slice b m d))
  have R1 := Lib.hid (hV.keep (Nat.le_refl _) L0.out)
  have R2 := Lib.hid (hL.keep (Nat.le_refl _) L0.out)
  have HG := Lib.hid hg
  have hca := CA.out.c0
  have hcb := CA.out.c1
  clear hV hL hg
  have hd1 : decide (node < 1) = false := decide_eq_false (by omega)
  have hd9 : decide (9 < node) = false := decide_eq_false (by omega)
  have HN1 := Lib.hid h1
  have HN9 := Lib.hid h9
  clear h1 h9
  go_enter Try.func11, Try.ntmps11
  go_wp2_with fail
  refine (refgood_any a n c V b m d L _ R1.out R2.out (by omega) (by omega)).mono ?_
  rintro e w1 ⟨rfl, hb⟩
  rw [HG.out]
  have L1 := Lib.hid (L0.out.trans (hb.mono L0.out.size))
  have CA1 := Lib.hid (CA.out.below (Nat.le_refl _) hb)
  have CR1 := Lib.hid (CR.out.below (Nat.le_refl _) hb)
  have S1 := Lib.hid (R1.out.keep (Nat.le_refl _) hb)
  have S2 := Lib.hid (R2.out.keep (Nat.le_refl _) hb)
  clear hb R1 R2 CA CR L0 hca hcb
  have hca := CA1.out.c0
  have hcb := CA1.out.c1
  go_upto_region 3 with fail
  go_quiet (first | (go_at_call_of 25 (Value.slice a n c); exact has_q a n c V node _ _ S1.out hn) | (go_at_call_of 25 (Value.slice b m d); exact has_q b m d L node _ _ S2.out hm))
  have L2 : Hid (Below w.heap.size w (w1.drewN nq)) := below_drewN' L1.out nq
  have CA2 : Hid (CB (w1.drewN nq) w.heap.size (.slice a n c) (.slice b m d)) := CA1.out
  have CR2 : Hid (CB (w1.drewN nq) (w.heap.size + 1) nilS nilS) := CR1.out
  have T1 : Hid (Rd (w1.drewN nq) a n V) := S1.out
  have T2 : Hid (Rd (w1.drewN nq) b m L) := S2.out
  generalize w1.drewN nq = w2 at *
  clear L1 CA1 CR1 S1 S2 hca hcb
  have hca := CA2.out.c0
  have hcb := CA2.out.c1
  have r0 := CR2.out.c0
  have r1 := CR2.out.c1
  have rf0 := CR2.out.frozen 0
  have rf1 := CR2.out.frozen 1
  have hp := good_parts HG.out
  have PV := Lib.hid (rises_pw hp.2.1)
  have PL := Lib.hid (rises_pw hp.2.2.1)
  have HM := Lib.hid hp.2.2.2
  have HV0 := Lib.hid hp.1
  have Z1 := Lib.hid (woL_zero hp.2.1)
  have Z2 := Lib.hid (woL_zero hp.2.2.1)
  clear hp
  have HX : Hid ((goodB V L = false ∨ node < 1 ∨ 9 < node) = False) := by
    show _ = _
    have := HN1.out
    have := HN9.out
    rw [HG.out]; simp; omega
  have HE : Hid (errC V L 3 node = if bI L node then 0 else 4) := by
    show _ = _
    rw [errC, if_neg (by rw [HX.out]; exact id)]; rfl
  have HO1 : Hid (outV V L 3 node = if errC V L 3 node = 0 then withL (woL V node) node else []) := rfl
  have HO2 : Hid (outL V L 3 node = if errC V L 3 node = 0 then woL L node else []) := rfl
  have KS : Hid (∀ W, Below (w.heap.size + 1) w2 W → W.cell? ⟨w.heap.size, 0, none⟩ = some (.slice a n c) ∧ W.cell? ⟨w.heap.size, 1, none⟩ = some (.slice b m d) ∧ Below (w.heap.size + 1) w2 W) := by
    show ∀ W, _
    intro W h
    exact ⟨(CA2.out.under (Nat.lt_succ_self _) h).c0, (CA2.out.under (Nat.lt_succ_self _) h).c1, h⟩
  have HZ : Hid (w.heap.size + 1 ≤ w2.heap.size) := by
    show _ ≤ _
    have := CR2.out.lt; omega
  have BV : Hid (bI V node = true ↔ node ∈ V) := bI_mem
  have BL : Hid (bI L node = true ↔ node ∈ L) := bI_mem
  generalize bI V node = v at *
  generalize bI L node = l at *
  cases l
  · have E : Hid (errC V L 3 node = 4) := by
      show _ = _
      rw [HE.out]
      simp
    have O1 : Hid (outV V L 3 node = []) := by
      show _ = _
      rw [HO1.out, E.out]; rfl
    have O2 : Hid (outL V L 3 node = []) := by
      show _ = _
      rw [HO2.out, E.out]; rfl
    clear HO1 HO2 HE HX hca hcb
    have CZ := Lib.hid ((CR2.out.s0 nilS).s1 nilS)
    have BZ : Hid (Below w.heap.size w ((w2.setCell ⟨w.heap.size + 1, 0, none⟩ nilS).setCell ⟨w.heap.size + 1, 1, none⟩ nilS)) := (L2.out.setCell (p := ⟨w.heap.size + 1, 0, none⟩) (Nat.le_succ _) _).setCell (p := ⟨w.heap.size + 1, 1, none⟩) (Nat.le_succ _) _
    go_wp2_with fail
    generalize ((w2.setCell ⟨w.heap.size + 1, 0, none⟩ nilS).setCell ⟨w.heap.size + 1, 1, none⟩ nilS) = wz at *
    have f0 := CZ.out.c0
    have f1 := CZ.out.c1
    refine bodyPost_ret (v := .tuple #[.agg #[.slice none 0 0, .slice none 0 0], .int .i64 4]) (by simp [results, Try.results11, go_sem, f0, f1]) rfl ⟨none, 0, 0, none, 0, 0, by rw [E.out], by rw [O1.out]; exact ⟨rfl, .inl rfl⟩, by rw [O2.out]; exact ⟨rfl, .inl rfl⟩, BZ.out⟩
  · have E : Hid (errC V L 3 node = 0) := by
      show _ = _
      rw [HE.out]
      simp
    have HL : Hid (node ∈ L) := BL.out.1 rfl
    have hvf : v = false := by
      cases v with
      | false => rfl
      | true => exact absurd (BV.out.1 rfl) (meet_not HM.out HL.out)
    subst hvf
    have O1 : Hid (outV V L 3 node = wiR V node) := by
      show _ = _
      rw [HO1.out, E.out]
      have hv := meet_not HM.out HL.out
      rw [woL_id hv, wiR_eq PV.out.1 hv]; rfl
    have O2 : Hid (outL V L 3 node = woL L node) := by
      show _ = _
      rw [HO2.out, E.out]
      rfl
    clear HO1 HO2 HE HX
    go_upto_region 14 with fail
    clear hca hcb r0 r1 rf0 rf1
    go_region_held3 (fun W => W.cell? ⟨w.heap.size, 0, none⟩ = some (.slice a n c) ∧ W.cell? ⟨w.heap.size, 1, none⟩ = some (.slice b m d) ∧ Below (w.heap.size + 1) w2 W)
      (first | exact KS.out _ (Below.refl _ _) | exact KS.out _ (by first | exact (Below.refl _ _).drew | exact hB2.mono HZ.out | exact hB1.mono HZ.out | exact ((hB2.mono HZ.out).setCell (p := ⟨w.heap.size + 1, 0, none⟩) (Nat.le_refl _) _).setCell (p := ⟨w.heap.size + 1, 1, none⟩) (Nat.le_refl _) _))
      (first
        | (go_at_call_of 26 (Value.slice a n c); refine (refwi_from w2 a n c V node _ T1.out hn (by first | exact (Below.refl _ _).drew | exact Below.refl _ _)).mono ?_; rintro e W1 ⟨a1, n1, c1, rfl, hr1, hB1, hb1⟩)
        | (go_at_call_of 27 (Value.slice b m d); refine (refwo_from w2 b m d L node _ T2.out hm (by exact hB1)).mono ?_; rintro e W2 ⟨a2, n2, c2, rfl, hr2, hB2, hb2⟩; have r0 := (CR2.out.below (Nat.le_refl _) hB2).c0; have r1 := (CR2.out.below (Nat.le_refl _) hB2).c1; have rf0 := (CR2.out.below (Nat.le_refl _) hB2).frozen 0; have rf1 := (CR2.out.below (Nat.le_refl _) hB2).frozen 1))
    rename_i hHeld
    clear hHeld
    have FS := Lib.hid (fin_stores (c1 := c1) (c2 := c2) (CR2.out.below (Nat.le_refl _) hB2) (hr1.keep (Nat.le_refl _) hb2) hr2)
    have BZ : Hid (Below w.heap.size w ((W2.setCell ⟨w.heap.size + 1, 0, none⟩ (.slice a1 n1 c1)).setCell ⟨w.heap.size + 1, 1, none⟩ (.slice a2 n2 c2))) := ((L2.out.trans (hB2.mono L2.out.size)).setCell (p := ⟨w.heap.size + 1, 0, none⟩) (Nat.le_succ _) _).setCell (p := ⟨w.heap.size + 1, 1, none⟩) (Nat.le_succ _) _
    clear hr1 hr2 hB1 hB2 hb1 hb2 r0 r1 rf0 rf1
    go_wp2_with fail
    generalize ((W2.setCell ⟨w.heap.size + 1, 0, none⟩ (.slice a1 n1 c1)).setCell ⟨w.heap.size + 1, 1, none⟩ (.slice a2 n2 c2)) = wz at *
    have f0 := FS.out.1.c0
    have f1 := FS.out.1.c1
    refine bodyPost_ret (v := .tuple #[.agg #[.slice a1 n1 c1, .slice a2 n2 c2], .int .i64 0]) (by simp [results, Try.results11, go_sem, f0, f1]) rfl ⟨a1, n1, c1, a2, n2, c2, by rw [E.out], by rw [O1.out]; exact FS.out.2.1, by rw [O2.out]; exact FS.out.2.2, BZ.out⟩
theorem refchg_4 (a : Option Addr) (n c : Nat) (V : List Int) (b : Option Addr) (m d : Nat) (L : List Int) (node : Int) (w : World) (hV : Rd w a n V) (hL : Rd w b m L) (hn : n ≤ 1000) (hm : m ≤ 1000)
    (hg : goodB V L = true) (h1 : 1 ≤ node) (h9 : node ≤ 9) :
    Calls Try.prog 11 #[.agg #[.slice a n c, .slice b m d], .int .i64 4, .int .i64 node] w (Got w (outV V L 4 node) (outL V L 4 node) (errC V L 4 node)) := by
  have L0 := Lib.hid (cw_below w (.slice a n c) (.slice b m d))
  have CA := Lib.hid (cw_a w (.slice a n c) (.slice b m d))
  have CR := Lib.hid (cw_b w (.slice a n c) (.slice b m d))
  have R1 := Lib.hid (hV.keep (Nat.le_refl _) L0.out)
  have R2 := Lib.hid (hL.keep (Nat.le_refl _) L0.out)
  have HG := Lib.hid hg
  have hca := CA.out.c0
  have hcb := CA.out.c1
  clear hV hL hg
  have hd1 : decide (node < 1) = false := decide_eq_false (by omega)
  have hd9 : decide (9 < node) = false := decide_eq_false (by omega)
  have HN1 := Lib.hid h1
  have HN9 := Lib.hid h9
  clear h1 h9
  go_enter Try.func11, Try.ntmps11
  go_wp2_with fail
  refine (refgood_any a n c V b m d L _ R1.out R2.out (by omega) (by omega)).mono ?_
  rintro e w1 ⟨rfl, hb⟩
  rw [HG.out]
  have L1 := Lib.hid (L0.out.trans (hb.mono L0.out.size))
  have CA1 := Lib.hid (CA.out.below (Nat.le_refl _) hb)
  have CR1 := Lib.hid (CR.out.below (Nat.le_refl _) hb)
  have S1 := Lib.hid (R1.out.keep (Nat.le_refl _) hb)
  have S2 := Lib.hid (R2.out.keep (Nat.le_refl _) hb)
  clear hb R1 R2 CA CR L0 hca hcb
  have hca := CA1.out.c0
  have hcb := CA1.out.c1
  go_upto_region 3 with fail
  go_quiet (first | (go_at_call_of 25 (Value.slice a n c); exact has_q a n c V node _ _ S1.out hn) | (go_at_call_of 25 (Value.slice b m d); exact has_q b m d L node _ _ S2.out hm))
  have L2 : Hid (Below w.heap.size w (w1.drewN nq)) := below_drewN' L1.out nq
  have CA2 : Hid (CB (w1.drewN nq) w.heap.size (.slice a n c) (.slice b m d)) := CA1.out
  have CR2 : Hid (CB (w1.drewN nq) (w.heap.size + 1) nilS nilS) := CR1.out
  have T1 : Hid (Rd (w1.drewN nq) a n V) := S1.out
  have T2 : Hid (Rd (w1.drewN nq) b m L) := S2.out
  generalize w1.drewN nq = w2 at *
  clear L1 CA1 CR1 S1 S2 hca hcb
  have hca := CA2.out.c0
  have hcb := CA2.out.c1
  have r0 := CR2.out.c0
  have r1 := CR2.out.c1
  have rf0 := CR2.out.frozen 0
  have rf1 := CR2.out.frozen 1
  have hp := good_parts HG.out
  have PV := Lib.hid (rises_pw hp.2.1)
  have PL := Lib.hid (rises_pw hp.2.2.1)
  have HM := Lib.hid hp.2.2.2
  have HV0 := Lib.hid hp.1
  have Z1 := Lib.hid (woL_zero hp.2.1)
  have Z2 := Lib.hid (woL_zero hp.2.2.1)
  clear hp
  have HX : Hid ((goodB V L = false ∨ node < 1 ∨ 9 < node) = False) := by
    show _ = _
    have := HN1.out
    have := HN9.out
    rw [HG.out]; simp; omega
  have HE : Hid (errC V L 4 node = if bI V node || bI L node then (if woL V node = [] then 2 else 0) else 4) := by
    show _ = _
    rw [errC, if_neg (by rw [HX.out]; exact id)]; rfl
  have HO1 : Hid (outV V L 4 node = if errC V L 4 node = 0 then woL V node else []) := rfl
  have HO2 : Hid (outL V L 4 node = if errC V L 4 node = 0 then woL L node else []) := rfl
  have KS : Hid (∀ W, Below (w.heap.size + 1) w2 W → W.cell? ⟨w.heap.size, 0, none⟩ = some (.slice a n c) ∧ W.cell? ⟨w.heap.size, 1, none⟩ = some (.slice b m d) ∧ Below (w.heap.size + 1) w2 W) := by
    show ∀ W, _
    intro W h
    exact ⟨(CA2.out.under (Nat.lt_succ_self _) h).c0, (CA2.out.under (Nat.lt_succ_self _) h).c1, h⟩
  have HZ : Hid (w.heap.size + 1 ≤ w2.heap.size) := by
    show _ ≤ _
    have := CR2.out.lt; omega
  have BV : Hid (bI V node = true ↔ node ∈ V) := bI_mem
  have BL : Hid (bI L node = true ↔ node ∈ L) := bI_mem
  generalize bI V node = v at *
  generalize bI L node = l at *
  rcases (show (v = true ∨ (v = false ∧ l = true)) ∨ (v = false ∧ l = false) by cases v <;> cases l <;> simp) with hvl | ⟨rfl, rfl⟩
  · rcases hvl with rfl | ⟨rfl, rfl⟩
    · have HI : Hid (node ∈ V) := BV.out.1 rfl
      by_cases hl1 : n = 1
      · have hw0 : Hid (woL V node = []) := by
          show _ = _
          exact (woL_none PV.out.1 HI.out).2 (by rw [T1.out.1]; exact hl1)
        subst hl1
        have E : Hid (errC V L 4 node = 2) := by
          show _ = _
          rw [HE.out]
          rw [hw0.out]; simp
        have O1 : Hid (outV V L 4 node = []) := by
          show _ = _
          rw [HO1.out, E.out]; rfl
        have O2 : Hid (outL V L 4 node = []) := by
          show _ = _
          rw [HO2.out, E.out]; rfl
        clear HO1 HO2 HE HX
        have CZ := Lib.hid ((CR2.out.s0 nilS).s1 nilS)
        have BZ : Hid (Below w.heap.size w ((w2.setCell ⟨w.heap.size + 1, 0, none⟩ nilS).setCell ⟨w.heap.size + 1, 1, none⟩ nilS)) := (L2.out.setCell (p := ⟨w.heap.size + 1, 0, none⟩) (Nat.le_succ _) _).setCell (p := ⟨w.heap.size + 1, 1, none⟩) (Nat.le_succ _) _
        go_wp2_with fail
        generalize ((w2.setCell ⟨w.heap.size + 1, 0, none⟩ nilS).setCell ⟨w.heap.size + 1, 1, none⟩ nilS) = wz at *
        have f0 := CZ.out.c0
        have f1 := CZ.out.c1
        refine bodyPost_ret (v := .tuple #[.agg #[.slice none 0 0, .slice none 0 0], .int .i64 2]) (by simp [results, Try.results11, go_sem, f0, f1]) rfl ⟨none, 0, 0, none, 0, 0, by rw [E.out], by rw [O1.out]; exact ⟨rfl, .inl rfl⟩, by rw [O2.out]; exact ⟨rfl, .inl rfl⟩, BZ.out⟩
      · have hw0 : Hid (woL V node ≠ []) := by
          show _ ≠ _
          intro h
          exact hl1 (by rw [← T1.out.1]; exact (woL_none PV.out.1 HI.out).1 h)
        have hz0 : ((n : Int) == 1) = false := by simp; omega
        have E : Hid (errC V L 4 node = 0) := by
          show _ = _
          rw [HE.out]
          simp [hw0.out]
        have O1 : Hid (outV V L 4 node = woL V node) := by
          show _ = _
          rw [HO1.out, E.out]
          rfl
        have O2 : Hid (outL V L 4 node = woL L node) := by
          show _ = _
          rw [HO2.out, E.out]
          rfl
        clear HO1 HO2 HE HX
        go_upto_region 17 with fail
        clear hca hcb r0 r1 rf0 rf1
        go_region_held3 (fun W => W.cell? ⟨w.heap.size, 0, none⟩ = some (.slice a n c) ∧ W.cell? ⟨w.heap.size, 1, none⟩ = some (.slice b m d) ∧ Below (w.heap.size + 1) w2 W)
          (first | exact KS.out _ (Below.refl _ _) | exact KS.out _ (by first | exact (Below.refl _ _).drew | exact hB2.mono HZ.out | exact hB1.mono HZ.out | exact ((hB2.mono HZ.out).setCell (p := ⟨w.heap.size + 1, 0, none⟩) (Nat.le_refl _) _).setCell (p := ⟨w.heap.size + 1, 1, none⟩) (Nat.le_refl _) _))
          (first
            | (go_at_call_of 27 (Value.slice a n c); refine (refwo_from w2 a n c V node _ T1.out hn (by first | exact (Below.refl _ _).drew | exact Below.refl _ _)).mono ?_; rintro e W1 ⟨a1, n1, c1, rfl, hr1, hB1, hb1⟩)
            | (go_at_call_of 27 (Value.slice b m d); refine (refwo_from w2 b m d L node _ T2.out hm (by exact hB1)).mono ?_; rintro e W2 ⟨a2, n2, c2, rfl, hr2, hB2, hb2⟩; have r0 := (CR2.out.below (Nat.le_refl _) hB2).c0; have r1 := (CR2.out.below (Nat.le_refl _) hB2).c1; have rf0 := (CR2.out.below (Nat.le_refl _) hB2).frozen 0; have rf1 := (CR2.out.below (Nat.le_refl _) hB2).frozen 1))
        rename_i hHeld
        clear hHeld
        have FS := Lib.hid (fin_stores (c1 := c1) (c2 := c2) (CR2.out.below (Nat.le_refl _) hB2) (hr1.keep (Nat.le_refl _) hb2) hr2)
        have BZ : Hid (Below w.heap.size w ((W2.setCell ⟨w.heap.size + 1, 0, none⟩ (.slice a1 n1 c1)).setCell ⟨w.heap.size + 1, 1, none⟩ (.slice a2 n2 c2))) := ((L2.out.trans (hB2.mono L2.out.size)).setCell (p := ⟨w.heap.size + 1, 0, none⟩) (Nat.le_succ _) _).setCell (p := ⟨w.heap.size + 1, 1, none⟩) (Nat.le_succ _) _
        clear hr1 hr2 hB1 hB2 hb1 hb2 r0 r1 rf0 rf1
        go_wp2_with fail
        generalize ((W2.setCell ⟨w.heap.size + 1, 0, none⟩ (.slice a1 n1 c1)).setCell ⟨w.heap.size + 1, 1, none⟩ (.slice a2 n2 c2)) = wz at *
        have f0 := FS.out.1.c0
        have f1 := FS.out.1.c1
        refine bodyPost_ret (v := .tuple #[.agg #[.slice a1 n1 c1, .slice a2 n2 c2], .int .i64 0]) (by simp [results, Try.results11, go_sem, f0, f1]) rfl ⟨a1, n1, c1, a2, n2, c2, by rw [E.out], by rw [O1.out]; exact FS.out.2.1, by rw [O2.out]; exact FS.out.2.2, BZ.out⟩
    · have hw0 : Hid (woL V node ≠ []) := by
        show _ ≠ _
        have hv : node ∉ V := fun h => by simpa using BV.out.2 h
        rw [woL_id hv]; exact HV0.out
      have E : Hid (errC V L 4 node = 0) := by
        show _ = _
        rw [HE.out]
        simp [hw0.out]
      have O1 : Hid (outV V L 4 node = woL V node) := by
        show _ = _
        rw [HO1.out, E.out]
        rfl
      have O2 : Hid (outL V L 4 node = woL L node) := by
        show _ = _
        rw [HO2.out, E.out]
        rfl
      clear HO1 HO2 HE HX
      go_upto_region 17 with fail
      clear hca hcb r0 r1 rf0 rf1
      go_region_held3 (fun W => W.cell? ⟨w.heap.size, 0, none⟩ = some (.slice a n c) ∧ W.cell? ⟨w.heap.size, 1, none⟩ = some (.slice b m d) ∧ Below (w.heap.size + 1) w2 W)
        (first | exact KS.out _ (Below.refl _ _) | exact KS.out _ (by first | exact (Below.refl _ _).drew | exact hB2.mono HZ.out | exact hB1.mono HZ.out | exact ((hB2.mono HZ.out).setCell (p := ⟨w.heap.size + 1, 0, none⟩) (Nat.le_refl _) _).setCell (p := ⟨w.heap.size + 1, 1, none⟩) (Nat.le_refl _) _))
        (first
          | (go_at_call_of 27 (Value.slice a n c); refine (refwo_from w2 a n c V node _ T1.out hn (by first | exact (Below.refl _ _).drew | exact Below.refl _ _)).mono ?_; rintro e W1 ⟨a1, n1, c1, rfl, hr1, hB1, hb1⟩)
          | (go_at_call_of 27 (Value.slice b m d); refine (refwo_from w2 b m d L node _ T2.out hm (by exact hB1)).mono ?_; rintro e W2 ⟨a2, n2, c2, rfl, hr2, hB2, hb2⟩; have r0 := (CR2.out.below (Nat.le_refl _) hB2).c0; have r1 := (CR2.out.below (Nat.le_refl _) hB2).c1; have rf0 := (CR2.out.below (Nat.le_refl _) hB2).frozen 0; have rf1 := (CR2.out.below (Nat.le_refl _) hB2).frozen 1))
      rename_i hHeld
      clear hHeld
      have FS := Lib.hid (fin_stores (c1 := c1) (c2 := c2) (CR2.out.below (Nat.le_refl _) hB2) (hr1.keep (Nat.le_refl _) hb2) hr2)
      have BZ : Hid (Below w.heap.size w ((W2.setCell ⟨w.heap.size + 1, 0, none⟩ (.slice a1 n1 c1)).setCell ⟨w.heap.size + 1, 1, none⟩ (.slice a2 n2 c2))) := ((L2.out.trans (hB2.mono L2.out.size)).setCell (p := ⟨w.heap.size + 1, 0, none⟩) (Nat.le_succ _) _).setCell (p := ⟨w.heap.size + 1, 1, none⟩) (Nat.le_succ _) _
      clear hr1 hr2 hB1 hB2 hb1 hb2 r0 r1 rf0 rf1
      go_wp2_with fail
      generalize ((W2.setCell ⟨w.heap.size + 1, 0, none⟩ (.slice a1 n1 c1)).setCell ⟨w.heap.size + 1, 1, none⟩ (.slice a2 n2 c2)) = wz at *
      have f0 := FS.out.1.c0
      have f1 := FS.out.1.c1
      refine bodyPost_ret (v := .tuple #[.agg #[.slice a1 n1 c1, .slice a2 n2 c2], .int .i64 0]) (by simp [results, Try.results11, go_sem, f0, f1]) rfl ⟨a1, n1, c1, a2, n2, c2, by rw [E.out], by rw [O1.out]; exact FS.out.2.1, by rw [O2.out]; exact FS.out.2.2, BZ.out⟩
  · have E : Hid (errC V L 4 node = 4) := by
      show _ = _
      rw [HE.out]
      simp
    have O1 : Hid (outV V L 4 node = []) := by
      show _ = _
      rw [HO1.out, E.out]; rfl
    have O2 : Hid (outL V L 4 node = []) := by
      show _ = _
      rw [HO2.out, E.out]; rfl
    clear HO1 HO2 HE HX hca hcb
    have CZ := Lib.hid ((CR2.out.s0 nilS).s1 nilS)
    have BZ : Hid (Below w.heap.size w ((w2.setCell ⟨w.heap.size + 1, 0, none⟩ nilS).setCell ⟨w.heap.size + 1, 1, none⟩ nilS)) := (L2.out.setCell (p := ⟨w.heap.size + 1, 0, none⟩) (Nat.le_succ _) _).setCell (p := ⟨w.heap.size + 1, 1, none⟩) (Nat.le_succ _) _
    go_wp2_with fail
    generalize ((w2.setCell ⟨w.heap.size + 1, 0, none⟩ nilS).setCell ⟨w.heap.size + 1, 1, none⟩ nilS) = wz at *
    have f0 := CZ.out.c0
    have f1 := CZ.out.c1
    refine bodyPost_ret (v := .tuple #[.agg #[.slice none 0 0, .slice none 0 0], .int .i64 4]) (by simp [results, Try.results11, go_sem, f0, f1]) rfl ⟨none, 0, 0, none, 0, 0, by rw [E.out], by rw [O1.out]; exact ⟨rfl, .inl rfl⟩, by rw [O2.out]; exact ⟨rfl, .inl rfl⟩, BZ.out⟩
end Go.Proofs.Ytedifbdjcebefaa
