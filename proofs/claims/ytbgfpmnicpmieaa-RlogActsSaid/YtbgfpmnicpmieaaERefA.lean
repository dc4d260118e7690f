/- Term, Newer, Commit, Sure: the document's and the code's. -/
import Derived.Test.YtbgfpmnicpmieaaERef
namespace Go.Proofs.Ytbgfpmnicpmieaa
open Go Go.RowKit Go.Shelf Go.Sort
set_option linter.unusedVariables false
set_option linter.unusedSimpArgs false
set_option maxRecDepth 100000
set_option maxHeartbeats 1000000
theorem refterm_any (m b : Nat) (l : Lg) (es : List Ent) (i : Int) (w : World) (hg : RG w m b l es) (ho : Ok l (pts es)) :
    Calls Try.prog 52 #[.pointer (some ⟨b, 0, none⟩), .int .i64 i] w fun e w' => e = .returned (.tuple #[.int .i64 (termF l (pts es) i).1, .int .i64 (termF l (pts es) i).2]) ∧ Below w.heap.size w w' := by
  have HT : Hid (termF l (pts es) i = if i < l.ix then (0, 11) else if l.ix + l.n < i then (0, 6) else if i = l.ix then (l.tm, 0) else (((pts es).getD (i - l.ix - 1).toNat (0, 0)).2, 0)) := rfl
  have HL := Lib.hid (reflast_any m b l es w hg ho.small)
  have HG := Lib.hid hg
  have hsm := ho.small
  have hlo := ho.lo
  have hhi := ho.hi
  have HLa := Lib.hid ho.last
  clear hg ho
  go_enter Try.func52, Try.ntmps52
  go_wp2_with fail
  refine HL.out.mono ?_
  rintro e w1 ⟨rfl, hbw⟩
  rw [HLa.out]
  have L1 := Lib.hid hbw
  have G1 := Lib.hid (HG.out.below (Nat.le_refl _) hbw)
  have h0 := G1.out.lb.c0
  have h1 := G1.out.lb.c1
  have h2 := G1.out.lb.c2
  clear hbw HL HG HLa
  generalize (lastP l (pts es)).2 = lt at *
  by_cases c1 : i < l.ix
  · have hT : Hid (termF l (pts es) i = (0, 11)) := by show _ = _; rw [HT.out, if_pos c1]
    have hd : decide (i < l.ix) = true := decide_eq_true c1
    go_wp2_with fail
    go_ret2
    exact ⟨by rw [hT.out]; rfl, L1.out⟩
  have hd1 : decide (i < l.ix) = false := decide_eq_false c1
  by_cases c2 : l.ix + l.n < i
  · have hT : Hid (termF l (pts es) i = (0, 6)) := by show _ = _; rw [HT.out, if_neg c1, if_pos c2]
    have hd : decide (l.ix + (l.n : Int) < i) = true := decide_eq_true c2
    go_wp2_with fail
    go_ret2
    exact ⟨by rw [hT.out]; rfl, L1.out⟩
  have hd2 : decide (l.ix + (l.n : Int) < i) = false := decide_eq_false c2
  by_cases c3 : i = l.ix
  · have hT : Hid (termF l (pts es) i = (l.tm, 0)) := by show _ = _; rw [HT.out, if_neg c1, if_neg c2, if_pos c3]
    have hd : (i == l.ix) = true := by simpa using c3
    have C3 := Lib.hid c3
    clear c3 c1 c2
    go_wp2_with fail
    go_ret2
    exact ⟨by rw [hT.out]; rfl, L1.out⟩
  have hT : Hid (termF l (pts es) i = (((pts es).getD (i - l.ix - 1).toNat (0, 0)).2, 0)) := by show _ = _; rw [HT.out, if_neg c1, if_neg c2, if_neg c3]
  have hd3 : (i == l.ix) = false := by simpa using c3
  obtain ⟨k, hk, hkn⟩ : ∃ k : Nat, (i - l.ix - 1).toNat = k ∧ k < l.n := ⟨_, rfl, by omega⟩
  rw [hk] at hT
  obtain ⟨bb, off, ea, hc, hdd⟩ := G1.out.ep.at hkn
  rw [ea] at h2
  generalize ((pts es).getD k (0, 0)).2 = y at *
  have hw1 : IntKind.i64.wrap (i - l.ix) = i - l.ix := IntWalk.i64_in _ (by omega)
  have hw2 : IntKind.i64.wrap (i - l.ix - 1) = k := by rw [IntWalk.i64_in _ (by omega)]; omega
  clear hc hk c1 c2 c3 ea
  go_wp2_with fail
  go_quiet (fail)
  go_wp2
  go_ret2
  exact ⟨by rw [hT.out]; rfl, below_drewN' L1.out nq⟩
def nwrB (l : Lg) (es : List Ent) (index term : Int) : Bool := decide ((lastP l (pts es)).2 < term) || (term == (lastP l (pts es)).2 && decide (l.ix + l.n ≤ index))
theorem refnewer_any (m b : Nat) (l : Lg) (es : List Ent) (i t : Int) (w : World) (hg : RG w m b l es) (ho : Ok l (pts es)) :
    Calls Try.prog 54 #[.pointer (some ⟨b, 0, none⟩), .int .i64 i, .int .i64 t] w fun e w' => e = .returned (.bool (nwrB l es i t)) ∧ Below w.heap.size w w' := by
  have HQ : Hid (nwrB l es i t = (decide ((lastP l (pts es)).2 < t) || (t == (lastP l (pts es)).2 && decide (l.ix + l.n ≤ i)))) := rfl
  have HL := Lib.hid (reflast_any m b l es w hg ho.small)
  have HLa := Lib.hid ho.last
  clear hg ho
  go_enter Try.func54, Try.ntmps54
  go_wp2_with fail
  refine HL.out.mono ?_
  rintro e w1 ⟨rfl, hbw⟩
  rw [HLa.out]
  have L1 := Lib.hid hbw
  clear hbw HL HLa
  generalize (lastP l (pts es)).2 = lt at *
  generalize l.ix + (l.n : Int) = li at *
  cases c1 : decide (lt < t)
  · cases c2 : (t == lt)
    · have HF : Hid (nwrB l es i t = false) := by show _ = _; rw [HQ.out, c1, c2]; rfl
      go_wp2_with fail
      go_ret
      exact ⟨ret_bool HF.out.symm, L1.out⟩
    · have HF : Hid (nwrB l es i t = decide (li ≤ i)) := by show _ = _; rw [HQ.out, c1, c2]; rfl
      go_wp2_with fail
      go_ret
      exact ⟨ret_bool HF.out.symm, L1.out⟩
  · have HF : Hid (nwrB l es i t = true) := by show _ = _; rw [HQ.out, c1]; rfl
    go_wp2_with fail
    go_ret
    exact ⟨ret_bool HF.out.symm, L1.out⟩
theorem newer_any (m b : Nat) (l : Lg) (es : List Ent) (i t : Int) (w : World) (hg : LG w m b l es) (ho : Ok l (pts es)) :
    Calls Try.prog 32 #[.pointer (some ⟨b, 0, none⟩), .int .i64 i, .int .i64 t] w fun e w' => e = .returned (.bool (nwrB l es i t)) ∧ Below w.heap.size w w' := by
  have HQ : Hid (nwrB l es i t = (decide ((lastP l (pts es)).2 < t) || (t == (lastP l (pts es)).2 && decide (l.ix + l.n ≤ i)))) := rfl
  have HM := Lib.hid (made_any b l w hg.lb)
  have HI := Lib.hid ho.is
  have HL := Lib.hid (last_any b l (pts es) w hg.lb ho.is hg.ep ho.small)
  have HLa := Lib.hid ho.last
  clear hg ho
  go_enter Try.func32, Try.ntmps32
  go_wp2_with fail
  refine HM.out.mono ?_
  rintro e w' ⟨rfl, rfl⟩
  rw [HI.out]
  go_wp2_with fail
  refine HL.out.mono ?_
  rintro e w1 ⟨rfl, hbw⟩
  rw [HLa.out]
  have L1 := Lib.hid hbw
  clear hbw HL HLa
  generalize (lastP l (pts es)).2 = lt at *
  generalize l.ix + (l.n : Int) = li at *
  cases c1 : decide (lt < t)
  · cases c2 : (t == lt)
    · have HF : Hid (nwrB l es i t = false) := by show _ = _; rw [HQ.out, c1, c2]; rfl
      go_wp2_with fail
      go_ret
      exact ⟨ret_bool HF.out.symm, L1.out⟩
    · have HF : Hid (nwrB l es i t = decide (li ≤ i)) := by show _ = _; rw [HQ.out, c1, c2]; rfl
      go_wp2_with fail
      go_ret
      exact ⟨ret_bool HF.out.symm, L1.out⟩
  · have HF : Hid (nwrB l es i t = true) := by show _ = _; rw [HQ.out, c1]; rfl
    go_wp2_with fail
    go_ret
    exact ⟨ret_bool HF.out.symm, L1.out⟩
theorem refcommit_any (m b : Nat) (l : Lg) (es : List Ent) (i : Int) (w : World) (hg : RG w m b l es) (hi : Inv l es) :
    Calls Try.prog 46 #[.pointer (some ⟨b, 0, none⟩), .int .i64 i] w fun e w' => e = .returned (.bool (comB l i)) ∧ RG w' m b (comL l i) es ∧ Kept (· = b) w w' := by
  have HL := Lib.hid (reflast_any m b l es w hg hi.ok.small)
  have HG := Lib.hid hg
  have HLa := Lib.hid hi.ok.last
  have HQ : Hid (comB l i = (decide (l.com < i) && decide (i ≤ l.ix + l.n))) := rfl
  have HC : Hid (comL l i = if comB l i then { l with com := i } else l) := rfl
  clear hg hi
  go_enter Try.func46, Try.ntmps46
  go_wp2_with fail
  refine HL.out.mono ?_
  rintro e w1 ⟨rfl, hb⟩
  rw [HLa.out]
  have G1 := Lib.hid (HG.out.below (Nat.le_refl _) hb)
  have K1 : Hid (Kept (· = b) w w1) := Kept.of hb (Nat.le_refl _)
  clear hb HL HG HLa
  generalize (lastP l (pts es)).2 = lt at *
  have c3 := G1.out.lb.c3
  have f3 := G1.out.lb.frozen 3
  obtain ⟨la, hla⟩ : ∃ la, la = l.ix + (l.n : Int) := ⟨_, rfl⟩
  rw [← hla] at HQ ⊢
  clear hla
  by_cases c1 : i ≤ l.com
  · have d1 : decide (i ≤ l.com) = true := decide_eq_true c1
    have HF : Hid (comB l i = false) := by show _ = _; rw [HQ.out, decide_eq_false (by omega)]; rfl
    have HLL : Hid (comL l i = l) := by show _ = _; rw [HC.out, HF.out]; rfl
    clear c1
    go_wp2_with fail
    go_ret
    exact ⟨ret_bool HF.out.symm, by rw [HLL.out]; exact G1.out, K1.out⟩
  have d1 : decide (i ≤ l.com) = false := decide_eq_false c1
  by_cases c2 : la < i
  · have d2 : decide (la < i) = true := decide_eq_true c2
    have HF : Hid (comB l i = false) := by show _ = _; rw [HQ.out, decide_eq_true (by omega), decide_eq_false (by omega)]; rfl
    have HLL : Hid (comL l i = l) := by show _ = _; rw [HC.out, HF.out]; rfl
    clear c1 c2
    go_wp2_with fail
    go_ret
    exact ⟨ret_bool HF.out.symm, by rw [HLL.out]; exact G1.out, K1.out⟩
  have d2 : decide (la < i) = false := decide_eq_false c2
  have HF : Hid (comB l i = true) := by show _ = _; rw [HQ.out, decide_eq_true (by omega), decide_eq_true (by omega)]; rfl
  have HLL : Hid (comL l i = { l with com := i }) := by show _ = _; rw [HC.out, HF.out]; rfl
  clear c1 c2
  go_wp2_with fail
  go_ret
  exact ⟨ret_bool HF.out.symm, by rw [HLL.out]; exact G1.out.set (G1.out.lb.s3 i) rfl rfl rfl, K1.out.setCell (p := ⟨b, 3, none⟩) rfl _⟩
def surL (l : Lg) (i : Int) : Lg := { l with sur := max l.sur (min i (l.ix + l.n)) }
theorem surL_inv {l : Lg} {es : List Ent} (h : Inv l es) (i : Int) : Inv (surL l i) es := by
  have h1 := h.s1
  have h2 := h.s2
  exact ⟨⟨h.ok.is, h.ok.len, h.ok.row, h.ok.small, h.ok.lo, h.ok.hi⟩, h.ch, h.a1, h.a2, h.a3, by unfold surL; dsimp only; omega, by unfold surL; dsimp only; omega, h.top⟩
theorem sure_any (m b : Nat) (l : Lg) (es : List Ent) (i : Int) (w : World) (hg : LG w m b l es) (hi : Inv l es) :
    Calls Try.prog 29 #[.pointer (some ⟨b, 0, none⟩), .int .i64 i] w fun e w' => e = .returned (.tuple #[]) ∧ LG w' m b (surL l i) es ∧ Kept (· = b) w w' := by
  have HM := Lib.hid (made_any b l w hg.lb)
  have HI := Lib.hid hi.ok.is
  have HL := Lib.hid (last_any b l (pts es) w hg.lb hi.ok.is hg.ep hi.ok.small)
  have HG := Lib.hid hg
  have HLa := Lib.hid hi.ok.last
  have HS : Hid (surL l i = { l with sur := max l.sur (min i (l.ix + l.n)) }) := rfl
  clear hg hi
  go_enter Try.func29, Try.ntmps29
  go_wp2_with fail
  refine HM.out.mono ?_
  rintro e w' ⟨rfl, rfl⟩
  rw [HI.out]
  go_wp2_with fail
  refine HL.out.mono ?_
  rintro e w1 ⟨rfl, hb⟩
  rw [HLa.out]
  have G1 := Lib.hid (HG.out.below (Nat.le_refl _) hb)
  have K1 : Hid (Kept (· = b) w w1) := Kept.of hb (Nat.le_refl _)
  clear hb HL HG HLa
  generalize (lastP l (pts es)).2 = lt at *
  have c5 := G1.out.lb.c5
  have f5 := G1.out.lb.frozen 5
  generalize l.ix + (l.n : Int) = la at *
  go_wp2_with fail
  refine bodyPost_end (v := .tuple #[]) (by simp [results, Try.results29, go_sem]) rfl ?_
  exact ⟨rfl, by rw [HS.out]; exact G1.out.set (G1.out.lb.s5 _) rfl rfl rfl, K1.out.setCell (p := ⟨b, 5, none⟩) rfl _⟩
theorem refsure_any (m b : Nat) (l : Lg) (es : List Ent) (i : Int) (w : World) (hg : RG w m b l es) (hi : Inv l es) :
    Calls Try.prog 47 #[.pointer (some ⟨b, 0, none⟩), .int .i64 i] w fun e w' => e = .returned (.tuple #[]) ∧ RG w' m b (surL l i) es ∧ Kept (· = b) w w' := by
  have HL := Lib.hid (reflast_any m b l es w hg hi.ok.small)
  have HG := Lib.hid hg
  have HLa := Lib.hid hi.ok.last
  have HS : Hid (surL l i = { l with sur := max l.sur (min i (l.ix + l.n)) }) := rfl
  clear hg hi
  go_enter Try.func47, Try.ntmps47
  go_wp2_with fail
  refine HL.out.mono ?_
  rintro e w1 ⟨rfl, hb⟩
  rw [HLa.out]
  have G1 := Lib.hid (HG.out.below (Nat.le_refl _) hb)
  have K1 : Hid (Kept (· = b) w w1) := Kept.of hb (Nat.le_refl _)
  clear hb HL HG HLa
  generalize (lastP l (pts es)).2 = lt at *
  have c5 := G1.out.lb.c5
  have f5 := G1.out.lb.frozen 5
  generalize l.ix + (l.n : Int) = la at *
  have HE : Hid ({ l with sur := l.sur } = l) := rfl
  by_cases c1 : la < i
  · have d1 : decide (la < i) = true := decide_eq_true c1
    by_cases c2 : l.sur < la
    · have d2 : decide (l.sur < la) = true := decide_eq_true c2
      have HX : Hid (max l.sur (min i la) = la) := by show _ = _; omega
      go_wp2_with fail
      refine bodyPost_end (v := .tuple #[]) (by simp [results, Try.results47, go_sem]) rfl ?_
      exact ⟨rfl, by rw [HS.out, HX.out]; exact G1.out.set (G1.out.lb.s5 _) rfl rfl rfl, K1.out.setCell (p := ⟨b, 5, none⟩) rfl _⟩
    · have d2 : decide (l.sur < la) = false := decide_eq_false c2
      have HX : Hid (max l.sur (min i la) = l.sur) := by show _ = _; omega
      go_wp2_with fail
      refine bodyPost_end (v := .tuple #[]) (by simp [results, Try.results47, go_sem]) rfl ?_
      exact ⟨rfl, by rw [HS.out, HX.out]; exact G1.out, K1.out⟩
  · have d1 : decide (la < i) = false := decide_eq_false c1
    by_cases c2 : l.sur < i
    · have d2 : decide (l.sur < i) = true := decide_eq_true c2
      have HX : Hid (max l.sur (min i la) = i) := by show _ = _; omega
      go_wp2_with fail
      refine bodyPost_end (v := .tuple #[]) (by simp [results, Try.results47, go_sem]) rfl ?_
      exact ⟨rfl, by rw [HS.out, HX.out]; exact G1.out.set (G1.out.lb.s5 _) rfl rfl rfl, K1.out.setCell (p := ⟨b, 5, none⟩) rfl _⟩
    · have d2 : decide (l.sur < i) = false := decide_eq_false c2
      have HX : Hid (max l.sur (min i la) = l.sur) := by show _ = _; omega
      go_wp2_with fail
      refine bodyPost_end (v := .tuple #[]) (by simp [results, Try.results47, go_sem]) rfl ?_
      exact ⟨rfl, by rw [HS.out, HX.out]; exact G1.out, K1.out⟩
end Go.Proofs.Ytbgfpmnicpmieaa
