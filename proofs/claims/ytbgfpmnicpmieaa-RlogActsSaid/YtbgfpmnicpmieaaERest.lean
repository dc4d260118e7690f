/- Restore: the code's and the document's; what is not known to be safe. -/
import Derived.Test.YtbgfpmnicpmieaaEKs
namespace Go.Proofs.Ytbgfpmnicpmieaa
open Go Go.RowKit Go.Shelf Go.Sort
set_option linter.unusedVariables false
set_option linter.unusedSimpArgs false
set_option maxRecDepth 100000
set_option maxHeartbeats 1000000
def resB (ix tm : Int) : Bool := decide (0 < ix) && (decide (ix ≤ 1099511627776) && decide (0 < tm))
def resL (ix tm : Int) (a : Option Addr) (c : Nat) : Lg := ⟨ix, tm, a, 0, c, ix, ix, ix, true⟩
def RestP (w : World) (m b : Nat) (l : Lg) (es : List Ent) (ix tm : Int) (e : Ending) (w' : World) : Prop :=
  (resB ix tm = false ∧ e = .returned (.tuple #[]) ∧ LG w' m b l es ∧ Kept (· = b) w w') ∨
  (resB ix tm = true ∧ e = .returned (.tuple #[]) ∧ Kept (· = b) w w' ∧ ∃ a c, LG w' m b (resL ix tm a c) [] ∧ ∀ j, gOf (resL ix tm a c) = some j → w.heap.size ≤ j)
def RestR (w : World) (m b : Nat) (l : Lg) (es : List Ent) (ix tm : Int) (e : Ending) (w' : World) : Prop :=
  (resB ix tm = false ∧ e = .returned (.tuple #[]) ∧ RG w' m b l es ∧ Kept (· = b) w w') ∨
  (resB ix tm = true ∧ e = .returned (.tuple #[]) ∧ Kept (· = b) w w' ∧ ∃ a c, RG w' m b (resL ix tm a c) [] ∧ ∀ j, gOf (resL ix tm a c) = some j → w.heap.size ≤ j)
theorem newB_nil {ix tm : Int} (h : resB ix tm = true) : newB ix tm [] = true := by
  simp only [resB, Bool.and_eq_true, decide_eq_true_eq] at h
  rw [newB, decide_eq_true (by omega), decide_eq_true (by omega), decide_eq_true (by omega)]; rfl
theorem LB.s6 {w b l} (h : LB w b l) (x : Bool) : LB (w.setCell ⟨b, 6, none⟩ (.bool x)) b { l with is := x } := by
  have := heap_setCell_same w b 6 _ 64 (.bool x) h
  unfold LB; rw [this]; rfl
theorem er_nil (w : World) : ER w none 0 [] := ⟨rfl, .inl rfl⟩
theorem eks_nil (w : World) : EKs w [] := fun _ h => absurd h (List.not_mem_nil)
theorem restore_any (m b : Nat) (l : Lg) (es : List Ent) (ix tm : Int) (w : World) (hg : LG w m b l es) (hi : l.is = true) :
    Calls Try.prog 30 #[.pointer (some ⟨b, 0, none⟩), .int .i64 ix, .int .i64 tm] w (RestP w m b l es ix tm) := by
  have HM := Lib.hid (made_any b l w hg.lb)
  have HI := Lib.hid hi
  have HG := Lib.hid hg
  have HQ : Hid (resB ix tm = (decide (0 < ix) && (decide (ix ≤ 1099511627776) && decide (0 < tm)))) := rfl
  clear hg hi
  go_enter Try.func30, Try.ntmps30
  cases hr : resB ix tm
  · have HF := Lib.hid hr
    have h := HQ.out.symm.trans hr
    clear hr
    go_wp2_with fail
    refine HM.out.mono ?_
    rintro e w' ⟨rfl, rfl⟩
    rw [HI.out]
    by_cases c1 : 0 < ix
    rotate_left
    · have d1 : decide (0 < ix) = false := decide_eq_false c1
      clear c1 h
      go_wp2_with fail
      refine bodyPost_end (v := .tuple #[]) (by simp [results, Try.results30, go_sem]) rfl ?_
      exact .inl ⟨HF.out, rfl, HG.out, Kept.refl _ _⟩
    have d1 : decide (0 < ix) = true := decide_eq_true c1
    by_cases c2 : ix ≤ 1099511627776
    rotate_left
    · have d2 : decide (ix ≤ 1099511627776) = false := decide_eq_false c2
      clear c1 c2 h
      go_wp2_with fail
      refine bodyPost_end (v := .tuple #[]) (by simp [results, Try.results30, go_sem]) rfl ?_
      exact .inl ⟨HF.out, rfl, HG.out, Kept.refl _ _⟩
    have d2 : decide (ix ≤ 1099511627776) = true := decide_eq_true c2
    have d3 : decide (0 < tm) = false := by rw [d1, d2] at h; simpa using h
    clear c1 c2 h
    go_wp2_with fail
    refine bodyPost_end (v := .tuple #[]) (by simp [results, Try.results30, go_sem]) rfl ?_
    exact .inl ⟨HF.out, rfl, HG.out, Kept.refl _ _⟩
  have HF := Lib.hid hr
  have h := HQ.out.symm.trans hr
  simp only [Bool.and_eq_true] at h
  obtain ⟨d1, d2, d3⟩ := h
  clear hr
  go_wp2_with fail
  refine HM.out.mono ?_
  rintro e w' ⟨rfl, rfl⟩
  rw [HI.out]
  go_wp2_with fail
  refine (new_any ix tm none 0 0 [] _ (er_nil _) (eks_nil _) (by omega)).mono ?_
  rintro e w1 (⟨hf, _⟩ | ⟨_, nb, a', c', rfl, hB, hO, hnb, hw⟩)
  · rw [newB_nil HF.out] at hf; cases hf
  clear d1 d2 d3
  have HB := Lib.hid hB
  have HO := Lib.hid hO
  have HW := Lib.hid hw
  have G1 := Lib.hid (HG.out.below (Nat.le_refl _) hw)
  have n0 := hB.c0
  have n1 := hB.c1
  have n2 := hB.c2
  have n3 := hB.c3
  have n4 := hB.c4
  have n5 := hB.c5
  have n6 := hB.c6
  have b0 := G1.out.lb.c0
  have b1 := G1.out.lb.c1
  have b2 := G1.out.lb.c2
  have b3 := G1.out.lb.c3
  have b4 := G1.out.lb.c4
  have b5 := G1.out.lb.c5
  have b6 := G1.out.lb.c6
  have f0 := G1.out.lb.frozen 0
  have f1 := G1.out.lb.frozen 1
  have f2 := G1.out.lb.frozen 2
  have f3 := G1.out.lb.frozen 3
  have f4 := G1.out.lb.frozen 4
  have f5 := G1.out.lb.frozen 5
  have f6 := G1.out.lb.frozen 6
  clear hB hO hw
  dsimp only at n0 n1 n2 n3 n4 n5 n6
  go_wp2_with fail
  have hbw := HG.out.lb.lt
  have HNE : Hid ((Value.slice a' 0 c').ownBlock ≠ some b) := fun h => absurd (HO.out.lt _ h).1 (Nat.not_le_of_lt hbw)
  have HMW : Hid (m ≤ w.heap.size) := Nat.le_trans G1.out.mb (Nat.le_of_lt hbw)
  have KK := Lib.hid (Kept.of (S := (· = b)) HW.out (Nat.le_refl _))
  have HLT := Lib.hid HO.out.lt
  refine bodyPost_end (v := .tuple #[]) (by simp [results, Try.results30, go_sem]) rfl ?_
  refine .inr ⟨HF.out, rfl, ?_, a', c', ⟨((((((G1.out.lb.s0 ix).s1 tm).s2 a' 0 c').s3 ix).s4 ix).s5 ix).s6 true, ?_, G1.out.mb⟩, fun j hj => (HLT.out j hj).1⟩
  · exact ((((((KK.out.setCell (p := ⟨b, 0, none⟩) rfl _).setCell (p := ⟨b, 1, none⟩) rfl _).setCell (p := ⟨b, 2, none⟩) rfl _).setCell (p := ⟨b, 3, none⟩) rfl _).setCell (p := ⟨b, 4, none⟩) rfl _).setCell (p := ⟨b, 5, none⟩) rfl _).setCell (p := ⟨b, 6, none⟩) rfl _
  · exact own_raise (own_set (own_set (own_set (own_set (own_set (own_set (own_set HO.out ⟨b, 0, none⟩ _ HNE.out) ⟨b, 1, none⟩ _ HNE.out) ⟨b, 2, none⟩ _ HNE.out) ⟨b, 3, none⟩ _ HNE.out) ⟨b, 4, none⟩ _ HNE.out) ⟨b, 5, none⟩ _ HNE.out) ⟨b, 6, none⟩ _ HNE.out) (fun j hj => Nat.le_trans HMW.out (HLT.out j hj).1)
theorem refrestore_any (m b : Nat) (l : Lg) (es : List Ent) (ix tm : Int) (w : World) (hg : RG w m b l es) :
    Calls Try.prog 51 #[.pointer (some ⟨b, 0, none⟩), .int .i64 ix, .int .i64 tm] w (RestR w m b l es ix tm) := by
  have HG := Lib.hid hg
  have HQ : Hid (resB ix tm = (decide (0 < ix) && (decide (ix ≤ 1099511627776) && decide (0 < tm)))) := rfl
  clear hg
  go_enter Try.func51, Try.ntmps51
  cases hr : resB ix tm
  · have HF := Lib.hid hr
    have h := HQ.out.symm.trans hr
    clear hr
    by_cases c1 : 0 < ix
    rotate_left
    · have d1 : decide (1 ≤ ix) = false := decide_eq_false (by omega)
      clear c1 h
      go_wp2_with fail
      refine bodyPost_end (v := .tuple #[]) (by simp [results, Try.results51, go_sem]) rfl ?_
      exact .inl ⟨HF.out, rfl, HG.out, Kept.refl _ _⟩
    have d1 : decide (1 ≤ ix) = true := decide_eq_true (by omega)
    by_cases c2 : ix ≤ 1099511627776
    rotate_left
    · have d2 : decide (ix ≤ 1099511627776) = false := decide_eq_false c2
      clear c1 c2 h
      go_wp2_with fail
      refine bodyPost_end (v := .tuple #[]) (by simp [results, Try.results51, go_sem]) rfl ?_
      exact .inl ⟨HF.out, rfl, HG.out, Kept.refl _ _⟩
    have d2 : decide (ix ≤ 1099511627776) = true := decide_eq_true c2
    have d3' : decide (0 < tm) = false := by rw [decide_eq_true c1, d2] at h; simpa using h
    have d3 : decide (1 ≤ tm) = false := decide_eq_false (by have := of_decide_eq_false d3'; omega)
    clear c1 c2 h d3'
    go_wp2_with fail
    refine bodyPost_end (v := .tuple #[]) (by simp [results, Try.results51, go_sem]) rfl ?_
    exact .inl ⟨HF.out, rfl, HG.out, Kept.refl _ _⟩
  have HF := Lib.hid hr
  have h := HQ.out.symm.trans hr
  simp only [Bool.and_eq_true] at h
  obtain ⟨d1', d2, d3'⟩ := h
  have d1 : decide (1 ≤ ix) = true := decide_eq_true (by have := of_decide_eq_true d1'; omega)
  have d3 : decide (1 ≤ tm) = true := decide_eq_true (by have := of_decide_eq_true d3'; omega)
  clear hr d1' d3'
  go_wp2_with fail
  refine (refnew_any ix tm none 0 0 [] _ (er_nil _) (eks_nil _) (by omega)).mono ?_
  rintro e w1 (⟨hf, _⟩ | ⟨_, nb, a', c', rfl, hRG, hw⟩)
  · rw [newB_nil HF.out] at hf; cases hf
  clear d1 d2 d3
  have hB := hRG.lb
  have HO := Lib.hid hRG.own
  have HW := Lib.hid hw
  have G1 := Lib.hid (HG.out.below (Nat.le_refl _) hw)
  have n0 := hB.c0
  have n1 := hB.c1
  have n2 := hB.c2
  have n3 := hB.c3
  have n4 := hB.c4
  have n5 := hB.c5
  have b0 := G1.out.lb.c0
  have b1 := G1.out.lb.c1
  have b2 := G1.out.lb.c2
  have b3 := G1.out.lb.c3
  have b4 := G1.out.lb.c4
  have b5 := G1.out.lb.c5
  have f0 := G1.out.lb.frozen 0
  have f1 := G1.out.lb.frozen 1
  have f2 := G1.out.lb.frozen 2
  have f3 := G1.out.lb.frozen 3
  have f4 := G1.out.lb.frozen 4
  have f5 := G1.out.lb.frozen 5
  clear hB hRG hw
  dsimp only at n0 n1 n2 n3 n4 n5 HO
  go_wp2_with fail
  have hbw := HG.out.lb.lt
  have HNE : Hid ((Value.slice a' 0 c').ownBlock ≠ some b) := fun h => absurd (HO.out.lt _ h).1 (Nat.not_le_of_lt hbw)
  have HMW : Hid (m ≤ w.heap.size) := Nat.le_trans G1.out.mb (Nat.le_of_lt hbw)
  have KK := Lib.hid (Kept.of (S := (· = b)) HW.out (Nat.le_refl _))
  have HLT := Lib.hid HO.out.lt
  refine bodyPost_end (v := .tuple #[]) (by simp [results, Try.results51, go_sem]) rfl ?_
  refine .inr ⟨HF.out, rfl, ?_, a', c', ⟨(((((G1.out.lb.s0 ix).s1 tm).s2 a' 0 c').s3 ix).s4 ix).s5 ix, ?_, G1.out.mb⟩, fun j hj => (HLT.out j hj).1⟩
  · exact (((((KK.out.setCell (p := ⟨b, 0, none⟩) rfl _).setCell (p := ⟨b, 1, none⟩) rfl _).setCell (p := ⟨b, 2, none⟩) rfl _).setCell (p := ⟨b, 3, none⟩) rfl _).setCell (p := ⟨b, 4, none⟩) rfl _).setCell (p := ⟨b, 5, none⟩) rfl _
  · exact own_raise (own_set (own_set (own_set (own_set (own_set (own_set HO.out ⟨b, 0, none⟩ _ HNE.out) ⟨b, 1, none⟩ _ HNE.out) ⟨b, 2, none⟩ _ HNE.out) ⟨b, 3, none⟩ _ HNE.out) ⟨b, 4, none⟩ _ HNE.out) ⟨b, 5, none⟩ _ HNE.out) (fun j hj => Nat.le_trans HMW.out (HLT.out j hj).1)
def unsE (l : Lg) (es : List Ent) : List Ent := es.drop (l.sur - l.ix).toNat
theorem unsureE_any (m b : Nat) (l : Lg) (es : List Ent) (w : World) (hg : LG w m b l es) (hi : Inv l es) :
    Calls Try.prog 34 #[.pointer (some ⟨b, 0, none⟩)] w (Fresh w (unsE l es)) := by
  have HM := Lib.hid (made_any b l w hg.lb)
  have HG := Lib.hid hg
  have HV := Lib.hid hi
  have HI := Lib.hid hi.ok.is
  have hsm := hi.ok.small
  have hlo := hi.ok.lo
  have hhi := hi.ok.hi
  have s1 := hi.s1
  have s2 := hi.s2
  obtain ⟨j, hj⟩ : ∃ j, j = (l.sur - l.ix).toNat := ⟨_, rfl⟩
  have HE : Hid (unsE l es = es.drop j) := by show _ = _; rw [unsE, hj]
  have hjn : j ≤ l.n := by omega
  have hsj : l.sur = l.ix + j := by omega
  have HAT : Hid (atN (pts es) (l.ix + j + 1) = j) := by
    show _ = _
    rw [hi.ok.at]; omega
  have h2 := hg.lb.c2
  have h5 := hg.lb.c5
  rw [hsj] at h5
  obtain ⟨a2, c2, hsl, her⟩ := slice_from hg hjn
  have HER := Lib.hid her
  clear hg hi hj her s1 s2 hsj
  go_enter Try.func34, Try.ntmps34
  go_wp2_with fail
  refine HM.out.mono ?_
  rintro e w' ⟨rfl, rfl⟩
  rw [HI.out]
  go_upto_region 3 with fail
  have KS : Hid (∀ W, Below w.heap.size w W → W.cell? ⟨b, 2, none⟩ = some (.slice l.a l.n l.c) ∧ W.cell? ⟨b, 5, none⟩ = some (.int .i64 (l.ix + j)) ∧ Below w.heap.size w W) := by
    show ∀ W, _
    intro W h
    exact ⟨(h.cell (cell_block_lt h2)).trans h2, (h.cell (cell_block_lt h5)).trans h5, h⟩
  have hw : IntKind.i64.wrap (l.ix + (j : Int) + 1) = l.ix + j + 1 := IntWalk.i64_in _ (by omega)
  clear h2 h5 HM
  go_region_held3 (fun W => W.cell? ⟨b, 2, none⟩ = some (.slice l.a l.n l.c) ∧ W.cell? ⟨b, 5, none⟩ = some (.int .i64 (l.ix + j)) ∧ Below w.heap.size w W)
    (first | exact KS.out _ (Below.refl _ _) | exact KS.out _ (by assumption) | exact KS.out _ (held_2 (by assumption)) | exact KS.out _ (Below.refl _ _).drew)
    (first
      | (go_at_call 40; refine (at_from w b l (pts es) (l.ix + j + 1) _ HG.out.lb HG.out.ep HV.out.ok.small HV.out.ok.up (held_2 (by assumption))).mono ?_; rintro e w' ⟨rfl, hb5⟩; rw [HAT.out])
      | (go_at_call 37; (with_reducible refine (clone_from w a2 (l.n - j) c2 _ _ HER.out (by omega) (by assumption)).mono ?_); rintro e w6 ⟨a6, c6, rfl, ho6, hb6⟩))
  all_goals (
    have HH := Lib.hid ho6
    have HB := Lib.hid hb6
    clear ho6 hb6 hsl
    go_wp2_with fail
    go_ret
    exact ⟨a6, _, c6, rfl, by rw [HE.out]; exact HH.out, HB.out⟩)
theorem refunsureE_any (m b : Nat) (l : Lg) (es : List Ent) (w : World) (hg : RG w m b l es) (hi : Inv l es) :
    Calls Try.prog 58 #[.pointer (some ⟨b, 0, none⟩)] w (Fresh w (unsE l es)) := by
  have HG := Lib.hid hg
  have HV := Lib.hid hi
  have hsm := hi.ok.small
  have hlo := hi.ok.lo
  have hhi := hi.ok.hi
  have s1 := hi.s1
  have s2 := hi.s2
  have hel := hg.len
  have HE : Hid (slcE l es (l.sur + 1) (l.n : Int) = unsE l es) := by
    show _ = _
    rw [slcE, if_neg (by omega)]
    split
    · rw [unsE, List.drop_eq_nil_of_le (by omega)]
    · rw [unsE, show (l.sur + 1 - l.ix - 1).toNat = (l.sur - l.ix).toNat by omega, List.take_of_length_le (by rw [List.length_drop]; omega)]
  have h2 := hg.lb.c2
  have h5 := hg.lb.c5
  have hw : IntKind.i64.wrap (l.sur + 1) = l.sur + 1 := IntWalk.i64_in _ (by omega)
  clear hg hi hel
  go_enter Try.func58, Try.ntmps58
  go_upto_region 1 with fail
  go_region_with (refine (refslice_any m b l es (l.sur + 1) (l.n : Int) _ (HG.out.below (Nat.le_refl _) (Below.refl _ _).drew) HV.out.ok).mono ?_; rintro e w1 ⟨a1, n1, c1, rfl, ho1, hb1⟩)
  all_goals (
    have HH := Lib.hid ho1
    have HB := Lib.hid ((Below.refl w.heap.size w).drew.trans hb1)
    clear ho1 hb1
    go_wp2_with fail
    go_ret
    exact ⟨a1, n1, c1, rfl, by rw [← HE.out]; exact HH.out, HB.out⟩)
end Go.Proofs.Ytbgfpmnicpmieaa
