/- What a log is behind a Match: plainly. -/
import Derived.Test.YtbgfpmnicpmieaaEMatch
namespace Go.Proofs.Ytbgfpmnicpmieaa
open Go Go.RowKit
set_option linter.unusedVariables false
set_option linter.unusedSimpArgs false
/-- The term at a place: the base's ahead of all entries. -/
def tmAt (tm : Int) (es : List Ent) : Nat → Int
  | 0 => tm
  | j + 1 => (es.getD j default).t
theorem chain_iff (ix tm : Int) (es : List Ent) : chainB ix tm es = true ↔ ∀ j, j < es.length → goodE (es.getD j default) = true ∧ (es.getD j default).i = ix + 1 + j ∧ tmAt tm es j ≤ (es.getD j default).t := by
  induction es generalizing ix tm with
  | nil => simp [chainB]
  | cons e es ih =>
    constructor
    · intro h j hj
      obtain ⟨h1, h2, h3, h4⟩ := chain_cons h
      cases j with
      | zero => exact ⟨h1, by rw [List.getD_cons_zero, h2]; simp, h3⟩
      | succ j =>
        obtain ⟨g1, g2, g3⟩ := (ih e.i e.t).1 h4 j (by simpa using hj)
        rw [List.getD_cons_succ]
        refine ⟨g1, by rw [g2, h2]; omega, ?_⟩
        cases j with
        | zero => exact g3
        | succ j => exact g3
    · intro h
      have h0 := h 0 (by simp)
      simp only [List.getD_cons_zero] at h0
      obtain ⟨g1, g2, g3⟩ := h0
      simp only [chainB, Bool.and_eq_true, decide_eq_true_eq, beq_iff_eq]
      refine ⟨⟨⟨g1, by rw [g2]; simp⟩, g3⟩, (ih e.i e.t).2 fun j hj => ?_⟩
      obtain ⟨k1, k2, k3⟩ := h (j + 1) (by simpa using hj)
      rw [List.getD_cons_succ] at k1 k2 k3
      refine ⟨k1, by rw [k2, g2]; omega, ?_⟩
      cases j with
      | zero => exact k3
      | succ j => exact k3
theorem termF_at {l : Lg} {es : List Ent} {i : Int} (hl : es.length = l.n) (h0 : l.ix ≤ i) (h1 : i ≤ l.ix + l.n) : termF l (pts es) i = (tmAt l.tm es (i - l.ix).toNat, 0) := by
  rw [termF, if_neg (by omega), if_neg (by omega)]
  split
  · rename_i h; subst h; simp [tmAt]
  · rename_i h
    obtain ⟨j, hj⟩ : ∃ j, (i - l.ix).toNat = j + 1 := ⟨(i - l.ix).toNat - 1, by omega⟩
    rw [hj, show (i - l.ix - 1).toNat = j by omega, pts_at es (by omega)]
    rfl
theorem tmAt_take (tm : Int) (es : List Ent) {j k : Nat} (h : j ≤ k) : tmAt tm (es.take k) j = tmAt tm es j := by
  cases j with
  | zero => rfl
  | succ j => simp only [tmAt]; rw [List.getD_eq_getElem?_getD, List.getD_eq_getElem?_getD, List.getElem?_take, if_pos (by omega)]
theorem getD_left (xs ys : List Ent) {i : Nat} (h : i < xs.length) : (xs ++ ys).getD i default = xs.getD i default := by
  rw [List.getD_eq_getElem?_getD, List.getD_eq_getElem?_getD, List.getElem?_append_left h]
theorem getD_right (xs ys : List Ent) {i : Nat} (h : xs.length ≤ i) : (xs ++ ys).getD i default = ys.getD (i - xs.length) default := by
  rw [List.getD_eq_getElem?_getD, List.getD_eq_getElem?_getD, List.getElem?_append_right h]
theorem getD_take (es : List Ent) {i k : Nat} (h : i < k) : (es.take k).getD i default = es.getD i default := by
  rw [List.getD_eq_getElem?_getD, List.getD_eq_getElem?_getD, List.getElem?_take, if_pos h]
theorem getD_drop (es : List Ent) (i k : Nat) : (es.drop k).getD i default = es.getD (k + i) default := by
  rw [List.getD_eq_getElem?_getD, List.getD_eq_getElem?_getD, List.getElem?_drop]
/-- What a good Match knows. -/
structure MatIn (l : Lg) (es : List Ent) (index term : Int) (ys : List Ent) : Prop where
  lo : l.ix ≤ index
  hi : index + matK l es ys ≤ l.ix + l.n
  tm : term = tmAt l.tm es (index - l.ix).toNat
  ch : chainB index term ys = true
  same : ∀ j, j < matK l es ys → (ys.getD j default).t = tmAt l.tm es ((index - l.ix).toNat + j + 1)
theorem mat_parts {l : Lg} {es : List Ent} {index term : Int} {ys : List Ent} (hl : es.length = l.n) (h : matOk l es index term ys = true) : MatIn l es index term ys := by
  simp only [matOk, Bool.and_eq_true, beq_iff_eq] at h
  obtain ⟨h1, h2, h3⟩ := h
  have h4 := term_in h1
  have hin := mat_in h1 h3
  refine ⟨h4.1, hin, ?_, h3, fun j hj => ?_⟩
  · rw [← h2, termF_at hl h4.1 h4.2]
  · have g1 := firstO_same l (pts es) ys j hj
    have g2 := chain_row h3 j (by have := firstO_le l (pts es) ys; unfold matK at hj; omega)
    rw [g2] at g1
    simp only [othB, Bool.or_eq_false_iff, bne_eq_false_iff_eq] at g1
    rw [termF_at hl (by omega) (by unfold matK at hin hj; omega)] at g1
    rw [← g1.2]
    dsimp only
    congr 1
    omega
theorem matE_len {l : Lg} {es : List Ent} {index term : Int} {ys : List Ent} (hl : es.length = l.n) (h : MatIn l es index term ys) (hk : matK l es ys < ys.length) : (matE l es index (matK l es ys) ys).length = (index + matK l es ys - l.ix).toNat + (ys.length - matK l es ys) := by
  have := h.lo
  have := h.hi
  rw [matE, List.length_append, List.length_take, List.length_drop, hl]
  omega
/-- The term at each place of the new log: the old one's up to the first other entry, the leader's behind it. -/
theorem mat_tm {l : Lg} {es : List Ent} {index term : Int} {ys : List Ent} (hl : es.length = l.n) (h : MatIn l es index term ys) (j : Nat) (hj : j < ys.length) (hk : matK l es ys < ys.length) :
    tmAt l.tm (matE l es index (matK l es ys) ys) ((index - l.ix).toNat + j + 1) = (ys.getD j default).t := by
  have h1 := h.lo
  have h2 := h.hi
  simp only [tmAt, matE]
  have hlen : (es.take (index + matK l es ys - l.ix).toNat).length = (index + matK l es ys - l.ix).toNat := by rw [List.length_take, hl]; omega
  by_cases hjk : j < matK l es ys
  · rw [getD_left _ _ (by rw [hlen]; omega), getD_take _ (by omega), h.same j hjk]
    rfl
  · rw [getD_right _ _ (by rw [hlen]; omega), hlen, getD_drop]
    congr 2
    omega
/-- A Match keeps a chain. -/
theorem mat_chain {l : Lg} {es : List Ent} {index term : Int} {ys : List Ent} (hl : es.length = l.n) (hc : chainB l.ix l.tm es = true) (h : MatIn l es index term ys) (hk : matK l es ys < ys.length) : chainB l.ix l.tm (matE l es index (matK l es ys) ys) = true := by
  have h1 := h.lo
  have h2 := h.hi
  have hE := (chain_iff _ _ _).1 hc
  have hY := (chain_iff _ _ _).1 h.ch
  rw [chain_iff]
  intro i hi
  rw [matE_len hl h hk] at hi
  have hlen : (es.take (index + matK l es ys - l.ix).toNat).length = (index + matK l es ys - l.ix).toNat := by rw [List.length_take, hl]; omega
  by_cases hik : i < (index + matK l es ys - l.ix).toNat
  · obtain ⟨g1, g2, g3⟩ := hE i (by omega)
    have e : (matE l es index (matK l es ys) ys).getD i default = es.getD i default := by
      rw [matE, getD_left _ _ (by rw [hlen]; omega), getD_take _ hik]
    rw [e]
    refine ⟨g1, g2, ?_⟩
    cases i with
    | zero => exact g3
    | succ i =>
      simp only [tmAt] at g3 ⊢
      rw [matE, getD_left _ _ (by rw [hlen]; omega), getD_take _ (by omega)]
      exact g3
  · have e : (matE l es index (matK l es ys) ys).getD i default = ys.getD (matK l es ys + (i - (index + matK l es ys - l.ix).toNat)) default := by
      rw [matE, getD_right _ _ (by rw [hlen]; omega), hlen, getD_drop]
    obtain ⟨g1, g2, g3⟩ := hY (matK l es ys + (i - (index + matK l es ys - l.ix).toNat)) (by omega)
    rw [e]
    refine ⟨g1, by rw [g2]; omega, ?_⟩
    refine Int.le_trans (Int.le_of_eq ?_) g3
    rcases Nat.eq_zero_or_pos (matK l es ys + (i - (index + matK l es ys - l.ix).toNat)) with h0 | h0
    · rw [h0]
      have hk0 : matK l es ys = 0 := by omega
      have hi0 : i = (index - l.ix).toNat := by rw [hk0] at h0 hik; omega
      simp only [tmAt]
      rw [h.tm, ← hi0]
      cases i with
      | zero => rfl
      | succ i =>
        simp only [tmAt]
        rw [matE, getD_left _ _ (by rw [hlen]; omega), getD_take _ (by omega)]
    · obtain ⟨q, hq⟩ : ∃ q, matK l es ys + (i - (index + matK l es ys - l.ix).toNat) = q + 1 := ⟨_, (Nat.succ_pred_eq_of_pos h0).symm⟩
      rw [hq]
      have := mat_tm hl h q (by omega) hk
      rw [show (index - l.ix).toNat + q + 1 = i by omega] at this
      exact this
end Go.Proofs.Ytbgfpmnicpmieaa
