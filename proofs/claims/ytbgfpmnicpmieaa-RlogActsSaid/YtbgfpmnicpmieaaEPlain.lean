/- What a chain is, and where a hint stops: plainly. -/
import Derived.Test.YtbgfpmnicpmieaaEOpen
namespace Go.Proofs.Ytbgfpmnicpmieaa
open Go Go.RowKit
set_option linter.unusedVariables false
set_option linter.unusedSimpArgs false
theorem chain_cons {ix tm : Int} {e : Ent} {es : List Ent} (h : chainB ix tm (e :: es) = true) : goodE e = true ∧ e.i = ix + 1 ∧ tm ≤ e.t ∧ chainB e.i e.t es = true := by
  simp only [chainB, Bool.and_eq_true, decide_eq_true_eq, beq_iff_eq] at h
  exact ⟨h.1.1.1, by omega, h.1.2, h.2⟩
theorem chain_row {ix tm : Int} {es : List Ent} (h : chainB ix tm es = true) : ∀ j, j < es.length → (es.getD j default).i = ix + 1 + j := by
  induction es generalizing ix tm with
  | nil => intro j hj; simp at hj
  | cons e es ih =>
    obtain ⟨_, h1, _, h2⟩ := chain_cons h
    intro j hj
    cases j with
    | zero => rw [List.getD_cons_zero, h1]; simp
    | succ j =>
      rw [List.getD_cons_succ, ih h2 j (by simpa using hj), h1]; omega
theorem new_parts {ix tm : Int} {es : List Ent} (h : newB ix tm es = true) : 0 ≤ ix ∧ ix ≤ 1099511627776 ∧ 0 ≤ tm ∧ chainB ix tm es = true := by
  simp only [newB, Bool.and_eq_true, decide_eq_true_eq] at h
  exact ⟨h.1, h.2.1, h.2.2.1, h.2.2.2⟩
theorem ok_of {ix tm : Int} {es : List Ent} {a : Option Addr} {n c : Nat} {com app sur : Int} (h : chainB ix tm es = true) (h0 : 0 ≤ ix) (h1 : ix ≤ 2199023255552) (hn : es.length = n) (hs : n ≤ 1000) : Ok ⟨ix, tm, a, n, c, com, app, sur, true⟩ (pts es) :=
  ⟨rfl, by rw [pts_len]; exact hn, fun j hj => by
    rw [pts_len] at hj
    rw [pts_at es hj]
    exact chain_row h j hj, hs, h0, h1⟩
theorem hintN_le (ps : List (Int × Int)) (term : Int) : ∀ j, hintN ps term j ≤ j
  | 0 => Nat.le_refl _
  | j + 1 => by
    rw [hintN]
    split
    · have := hintN_le ps term j; omega
    · exact Nat.le_refl _
theorem hintN_spec (ps : List (Int × Int)) (term : Int) : ∀ n j, hintN ps term n ≤ j → j < n → term < (ps.getD j (0, 0)).2
  | 0, j, _, h => absurd h (Nat.not_lt_zero _)
  | n + 1, j, h1, h2 => by
    rw [hintN] at h1
    split at h1
    · rename_i h
      rcases Nat.lt_succ_iff_lt_or_eq.1 h2 with h3 | rfl
      · exact hintN_spec ps term n j h1 h3
      · exact h
    · omega
/-- All that the law asks of a hint. -/
theorem hint_facts {l : Lg} {ps : List (Int × Int)} (index term : Int) (ho : Ok l ps) :
    l.ix ≤ l.ix + (hintN ps term (hint0 l index) : Nat) ∧ l.ix + (hintN ps term (hint0 l index) : Nat) ≤ l.ix + l.n ∧
    (index < l.ix + (hintN ps term (hint0 l index) : Nat) → hintN ps term (hint0 l index) = 0) ∧
    ∀ i, l.ix + (hintN ps term (hint0 l index) : Nat) < i → i ≤ l.ix + l.n → i ≤ index → ∃ t, termF l ps i = (t, 0) ∧ term < t := by
  have h1 := hintN_le ps term (hint0 l index)
  have h2 : hint0 l index ≤ l.n := by unfold hint0; omega
  refine ⟨by omega, by omega, fun h => ?_, fun i hi h3 h4 => ?_⟩
  · unfold hint0 at h1 h2 ⊢
    unfold hint0 at h
    omega
  · refine ⟨(ps.getD (i - l.ix - 1).toNat (0, 0)).2, ?_, hintN_spec ps term (hint0 l index) _ ?_ ?_⟩
    · rw [termF, if_neg (by omega), if_neg (by omega), if_neg (by omega)]
    · omega
    · unfold hint0; omega
end Go.Proofs.Ytbgfpmnicpmieaa
