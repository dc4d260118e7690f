/- Slice of the document's log; are lists alike. -/
import Derived.Test.YtbgfpmnicpmieaaERefA
namespace Go.Proofs.Ytbgfpmnicpmieaa
open Go Go.RowKit Go.Shelf Go.Sort
set_option linter.unusedVariables false
set_option linter.unusedSimpArgs false
set_option maxRecDepth 100000
set_option maxHeartbeats 1000000
theorem er_one (w : World) (e : Ent) : ER (w.alloc (.cells e.cs'.toArray 37)) (some ⟨w.heap.size, 0, none⟩) 1 [e] := by
  refine ⟨rfl, .inr ⟨w.heap.size, 0, rfl, fun j hj c hc => ?_⟩⟩
  obtain rfl : j = 0 := by omega
  exact box37 w e c hc
def selE (es : List Ent) (f M k : Nat) : List Ent := ((es.take k).drop f).take M
theorem selE_len (es : List Ent) (f M k : Nat) (hk : k ≤ es.length) : (selE es f M k).length = min (k - f) M := by
  simp only [selE, List.length_take, List.length_drop]; omega
theorem selE_yes (es : List Ent) (f M k : Nat) (hk : k < es.length) (h1 : f ≤ k) (h2 : k - f < M) : selE es f M (k + 1) = selE es f M k ++ [es.getD k default] := by
  unfold selE
  rw [List.take_succ_eq_append_getElem hk, List.drop_append_of_le_length (by simp; omega), List.getD_eq_getElem?_getD, List.getElem?_eq_getElem hk]
  have e1 : ((es.take k).drop f ++ [es[k]]).take M = (es.take k).drop f ++ [es[k]] := List.take_of_length_le (by simp only [List.length_append, List.length_drop, List.length_take, List.length_cons, List.length_nil]; omega)
  have e2 : ((es.take k).drop f).take M = (es.take k).drop f := List.take_of_length_le (by simp only [List.length_drop, List.length_take]; omega)
  rw [e1, e2]
  rfl
theorem selE_no (es : List Ent) (f M k : Nat) (hk : k < es.length) (h : k < f ∨ M ≤ k - f) : selE es f M (k + 1) = selE es f M k := by
  unfold selE
  rcases h with h | h
  · rw [List.drop_eq_nil_of_le (by simp; omega), List.drop_eq_nil_of_le (by simp; omega)]
  · by_cases hf : f ≤ k
    · rw [List.take_succ_eq_append_getElem hk, List.drop_append_of_le_length (by simp; omega), List.take_append_of_le_length (by simp; omega)]
    · rw [List.drop_eq_nil_of_le (by simp; omega), List.drop_eq_nil_of_le (by simp; omega)]
theorem selE_all (l : Lg) (es : List Ent) (from' most : Int) (h : ¬ from' ≤ l.ix) : selE es (from' - l.ix - 1).toNat most.toNat es.length = slcE l es from' most := by
  rw [selE, List.take_length, slcE, if_neg h]
  split
  · rename_i h1
    rw [show most.toNat = 0 by omega]; simp
  · rfl
theorem refslice_any (m b : Nat) (l : Lg) (es : List Ent) (from' most : Int) (w : World) (hg : RG w m b l es) (ho : Ok l (pts es)) :
    Calls Try.prog 53 #[.pointer (some ⟨b, 0, none⟩), .int .i64 from', .int .i64 most] w (Fresh w (slcE l es from' most)) := by
  have HF : Hid (slcE l es from' most = if from' ≤ l.ix then [] else if most < 1 then [] else (es.drop (from' - l.ix - 1).toNat).take most.toNat) := rfl
  have h0 := hg.lb.c0
  have h2 := hg.lb.c2
  have HE := Lib.hid hg.er
  have HL := Lib.hid hg.len
  have HO := Lib.hid ho
  have hsm := ho.small
  clear hg ho
  by_cases c1 : from' ≤ l.ix
  · have d1 : decide (from' ≤ l.ix) = true := decide_eq_true c1
    have HE : Hid (slcE l es from' most = []) := by show _ = _; rw [HF.out, if_pos c1]
    clear c1
    go_enter Try.func53, Try.ntmps53
    go_wp2_with fail
    go_ret
    exact ⟨none, 0, 0, rfl, by rw [HE.out]; exact World.ownsRow_nil _ _ _ _, Below.refl _ _⟩
  have d1 : decide (from' ≤ l.ix) = false := decide_eq_false c1
  have HR := Lib.hid (selE_all l es from' most c1)
  obtain ⟨f, hf⟩ : ∃ f, f = (from' - l.ix - 1).toNat := ⟨_, rfl⟩
  obtain ⟨M, hM⟩ : ∃ M, M = most.toNat := ⟨_, rfl⟩
  rw [← hf, ← hM] at HR
  have hff : from' = l.ix + 1 + f := by omega
  have HFF := Lib.hid hff
  have HMM := Lib.hid hM
  obtain ⟨s, hs⟩ : ∃ s, s = w.heap.size := ⟨_, rfl⟩
  have HS := Lib.hid hs
  clear hf hM hff c1 hs HF
  go_enter Try.func53, Try.ntmps53
  go_wp2_with fail
  go_loopw [7, 21] (fun ov iv wr => ∃ k q : Nat, k ≤ l.n ∧ iv = .int .i64 k ∧ q = min (k - f) M ∧ wr.ownsRow s 37 13 ov q (flatE (selE es f M k)) ∧ Below s w wr) (fun _ iv _ => l.n - (intOf iv).toNat)
  case atStart => exact ⟨0, 0, Nat.zero_le _, rfl, by omega, by rw [show selE es f M 0 = [] by simp [selE]]; exact World.ownsRow_nil _ _ _ _, Below.refl _ _⟩
  case round =>
    obtain ⟨k, q, hk, rfl, hq, hown, hB⟩ := hrel
    have E1 := HE.out.keep (Nat.le_of_eq HS.out.symm) hB
    have HB := Lib.hid hB
    have hsz : s ≤ wr.heap.size := by have := hB.size; have := HS.out; omega
    obtain ⟨oa, oc, rfl, _, _⟩ := own_er hown
    have HOWN := Lib.hid hown
    have HQ := Lib.hid hq
    have hq1 : q ≤ 1000 := by omega
    clear hB hown hq
    by_cases hlt : k < l.n
    · obtain ⟨bb, off, ea, hc⟩ := E1.row hlt
      have hkl : k < es.length := by have := HL.out; omega
      have hei : (es.getD k default).i = l.ix + 1 + k := by
        have := HO.out.row k (by rw [pts_len]; exact hkl)
        rwa [pts_at es hkl] at this
      have HY := Lib.hid (selE_yes es f M k hkl)
      have HN := Lib.hid (selE_no es f M k hkl)
      rw [ea] at h2
      have q0 := hc 0 (by omega)
      have q1 := hc 1 (by omega)
      have q2 := hc 2 (by omega)
      have q3 := hc 3 (by omega)
      have q4 := hc 4 (by omega)
      have q5 := hc 5 (by omega)
      have q6 := hc 6 (by omega)
      have q7 := hc 7 (by omega)
      have q8 := hc 8 (by omega)
      have q9 := hc 9 (by omega)
      have q10 := hc 10 (by omega)
      have q11 := hc 11 (by omega)
      have q12 := hc 12 (by omega)
      clear hc E1 hkl h2 h0
      generalize es.getD k default = e at *
      have HEI := Lib.hid hei
      simp only [List.getD_cons_zero, List.getD_cons_succ] at q0 q1 q2 q3 q4 q5 q6 q7 q8 q9 q10 q11 q12
      rw [Nat.add_zero] at q0
      rw [ea]
      have L1 : Hid (Below s w (wr.alloc (.cells e.cs'.toArray 37))) := HB.out.alloc hsz _
      by_cases c2 : from' ≤ e.i
      · have d2 : decide (from' ≤ e.i) = true := decide_eq_true c2
        by_cases c3 : (q : Int) < most
        · have d3 : decide ((q : Int) < most) = true := decide_eq_true c3
          have HS1 : Hid (selE es f M (k + 1) = selE es f M k ++ [e]) := by
            show _ = _
            exact HY.out (by have := HFF.out; omega) (by have := HFF.out; have := HMM.out; have := HQ.out; omega)
          have HQ1 : Hid (q + 1 = min (k + 1 - f) M) := by show _ = _; have := HFF.out; have := HMM.out; have := HQ.out; omega
          have hX := (HOWN.out.alloc (.cells e.cs'.toArray 37)).alloc (.cells e.cs'.toArray 37)
          have hs2 : s ≤ ((wr.alloc (.cells e.cs'.toArray 37)).alloc (.cells e.cs'.toArray 37)).heap.size := by simp; omega
          have hYY := er_one (wr.alloc (.cells e.cs'.toArray 37)) e
          rw [show (wr.alloc (.cells e.cs'.toArray 37)).heap.size = wr.heap.size + 1 by simp] at hYY
          obtain ⟨v', w', hr, ho2, hgr, _⟩ := run_appE s 22 _ q (selE es f M k) _ hX hs2 ⟨wr.heap.size + 1, 0, none⟩ 1 1 [e] hYY (by omega)
          have HRR := Lib.hid hr
          have HO2 : Hid (w'.ownsRow s 37 13 v' (q + 1) (flatE (selE es f M (k + 1)))) := by show World.ownsRow _ _ _ _ _ _ _; rw [HS1.out]; exact ho2
          have HB2 : Hid (Below s w w') := (L1.out.alloc (by simp; omega) _).grown hgr hs2 (fun j ej => own_blk HOWN.out ej)
          clear hX hs2 hYY hr ho2 hgr hei c2 c3
          go_wp2_with (at_builtin; refine wpList_run rfl _ _ rfl _ _ rfl rfl _ _ HRR.out ?_)
          go_roundw
          case rel => exact ⟨k + 1, q + 1, by omega, by go_num, HQ1.out, HO2.out, HB2.out⟩
          case measure => simp [intOf]; omega
        · have d3 : decide ((q : Int) < most) = false := decide_eq_false c3
          have HS1 : Hid (selE es f M (k + 1) = selE es f M k) := by
            show _ = _
            exact HN.out (by have := HFF.out; have := HMM.out; have := HQ.out; omega)
          have HQ1 : Hid (q = min (k + 1 - f) M) := by show _ = _; have := HFF.out; have := HMM.out; have := HQ.out; omega
          clear hei c2 c3
          go_wp2_with fail
          go_roundw
          case rel => exact ⟨k + 1, q, by omega, by go_num, HQ1.out, by rw [HS1.out]; exact HOWN.out.alloc _, L1.out⟩
          case measure => simp [intOf]; omega
      · have d2 : decide (from' ≤ e.i) = false := decide_eq_false c2
        have HS1 : Hid (selE es f M (k + 1) = selE es f M k) := by
          show _ = _
          exact HN.out (.inl (by have := HFF.out; omega))
        have HQ1 : Hid (q = min (k + 1 - f) M) := by show _ = _; have := HFF.out; have := HQ.out; omega
        clear hei c2
        go_wp2_with fail
        go_roundw
        case rel => exact ⟨k + 1, q, by omega, by go_num, HQ1.out, by rw [HS1.out]; exact HOWN.out.alloc _, L1.out⟩
        case measure => simp [intOf]; omega
    · have HD : Hid (selE es f M k = slcE l es from' most) := by show _ = _; rw [← HR.out, show k = es.length by have := HL.out; omega]
      go_wp2
      go_ret
      exact ⟨oa, q, oc, rfl, by rw [← HS.out, ← HD.out]; exact HOWN.out, by rw [← HS.out]; exact HB.out⟩
end Go.Proofs.Ytbgfpmnicpmieaa
