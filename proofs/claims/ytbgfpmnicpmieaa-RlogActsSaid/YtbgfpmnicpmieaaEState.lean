/- A log over entries that were given at first, while it is committed, applied and compacted. -/
import Derived.Test.YtbgfpmnicpmieaaESame
namespace Go.Proofs.Ytbgfpmnicpmieaa
open Go Go.RowKit Go.Shelf Go.Sort
set_option linter.unusedVariables false
set_option linter.unusedSimpArgs false
set_option maxRecDepth 100000
set_option maxHeartbeats 1000000
/-- The state: a log over what is left of the entries. -/
structure St (w : World) (m b : Nat) (es0 : List Ent) (l : Lg) (q A : Nat) : Prop where
  lg : LG w m b l (es0.drop q)
  inv : Inv l (es0.drop q)
  ix : l.ix = q
  ap : l.app = A
  q1 : q ≤ es0.length
theorem St.keep {w w' m b es0 l q A} {k : Nat} (h : St w m b es0 l q A) (hm : w.heap.size ≤ k) (hb : Below k w w') : St w' m b es0 l q A := ⟨h.lg.below hm hb, h.inv, h.ix, h.ap, h.q1⟩
theorem st_new {w m b a n c} {es : List Ent} (h : LG w m b ⟨0, 0, a, n, c, 0, 0, 0 + n, true⟩ es) (hc : chainB 0 0 es = true) (hn : n ≤ 200) : St w m b es ⟨0, 0, a, n, c, 0, 0, 0 + n, true⟩ 0 0 := by
  have hl := h.len
  refine ⟨h, ⟨ok_of hc (by omega) (by omega) hl (by omega), hc, ?_, ?_, ?_, ?_, ?_, ?_⟩, rfl, rfl, Nat.zero_le _⟩ <;> dsimp only <;> omega
theorem St.com {w w' m b es0 l q A} (h : St w m b es0 l q A) (i : Int) (hg : LG w' m b (comL l i) (es0.drop q)) : St w' m b es0 (comL l i) q A := by
  refine ⟨hg, comL_inv h.inv i, ?_, ?_, h.q1⟩
  · unfold comL; split <;> exact h.ix
  · unfold comL; split <;> exact h.ap
theorem St.cpt {w w' m b es0 l q A} (h : St w m b es0 l q A) {i : Int} {e : Ending} (hp : CompactP w m b l (es0.drop q) i e w') : (∃ v, e = .returned (.bool v)) ∧ Kept (· = b) w w' ∧ ∃ l' q', St w' m b es0 l' q' A := by
  rcases hp with ⟨h1, rfl, h2, h3⟩ | ⟨h1, rfl, h3, a, c, h4, _⟩
  · exact ⟨⟨_, rfl⟩, h3, l, q, h2, h.inv, h.ix, h.ap, h.q1⟩
  · refine ⟨⟨_, rfl⟩, h3, ?_⟩
    rw [List.drop_drop] at h4
    have hinv := cpt_inv h.inv h1 a c
    rw [List.drop_drop] at hinv
    have hx := h.ix
    have hlen := h.lg.len
    rw [List.length_drop] at hlen
    simp only [cptB, Bool.and_eq_true, decide_eq_true_eq] at h1
    have g1 := h.inv.a2
    have g2 := h.inv.a3
    have hk : (cptK l i : Int) = i - l.ix - 1 := by unfold cptK; omega
    exact ⟨_, q + (cptK l i + 1), h4, hinv, by dsimp only; omega, h.ap, by omega⟩
/-- What Apply hands back: the next entries of all. -/
theorem St.app {w w' m b es0 l q A} (h : St w m b es0 l q A) (most : Int) (hg : LG w' m b (appL l most) (es0.drop q)) : ∃ N : Nat, (appE l (es0.drop q) most).length = N ∧ A + N ≤ es0.length ∧ ((A + N : Nat) : Int) ≤ l.com ∧ (∀ j, j < N → (appE l (es0.drop q) most).getD j default = es0.getD (A + j) default) ∧ St w' m b es0 (appL l most) q (A + N) ∧ (appL l most).com = l.com := by
  have hx := h.ix
  have hA := h.ap
  have a1 := h.inv.a1
  have a2 := h.inv.a2
  have a3 := h.inv.a3
  have hlen := h.lg.len
  rw [List.length_drop] at hlen
  have hN : appN l most = min (l.com - l.app) most := rfl
  have hinv := appL_inv h.inv most
  by_cases hc : appN l most < 1
  · have e1 : appL l most = l := by rw [appL, if_pos hc]
    rw [e1] at hg ⊢
    refine ⟨0, by rw [appE, if_pos hc]; rfl, by have := h.q1; omega, by omega, fun j hj => absurd hj (Nat.not_lt_zero _), ⟨hg, h.inv, hx, by rw [hA]; rfl, h.q1⟩, rfl⟩
  · have e1 : appL l most = { l with app := l.app + appN l most } := by rw [appL, if_neg hc]
    have e2 : appE l (es0.drop q) most = (es0.drop A).take (appN l most).toNat := by
      rw [appE, if_neg hc, List.drop_drop]
      congr 2
      omega
    have hn : ((appN l most).toNat : Int) = appN l most := by omega
    refine ⟨(appN l most).toNat, ?_, by omega, by omega, fun j hj => ?_, ⟨hg, hinv, ?_, ?_, h.q1⟩, ?_⟩
    · rw [e2, List.length_take, List.length_drop]; omega
    · rw [e2, getD_take _ hj, getD_drop]
    · rw [e1]; exact hx
    · rw [e1]; dsimp only; omega
    · rw [e1]
theorem quiet_load37 {o : Oper} {a : Act} {C : World → Prop} {K : Act → Prop} (x : Operand) (b off : Nat) (e : Ent) (ho : o.op = .load 37 x) (hx : a.eval x = .pointer (some ⟨b, off, none⟩)) (hc : ∀ W, C W → ∀ c, c < 13 → W.cell? ⟨b, off + c, none⟩ = some (e.cs'.getD c undef)) (hK : K (a.put o.dst e.v)) : o.quiet Try.prog a C K :=
  ⟨_, fun W hW => by
    have h := hc W hW
    have q0 := h 0 (by omega)
    have q1 := h 1 (by omega)
    have q2 := h 2 (by omega)
    have q3 := h 3 (by omega)
    have q4 := h 4 (by omega)
    have q5 := h 5 (by omega)
    have q6 := h 6 (by omega)
    have q7 := h 7 (by omega)
    have q8 := h 8 (by omega)
    have q9 := h 9 (by omega)
    have q10 := h 10 (by omega)
    have q11 := h 11 (by omega)
    have q12 := h 12 (by omega)
    simp only [List.getD_cons_zero, List.getD_cons_succ] at q0 q1 q2 q3 q4 q5 q6 q7 q8 q9 q10 q11 q12
    rw [Nat.add_zero] at q0
    clear h hc
    unfold Oper.quietAt
    generalize a.eval = ev at *
    simp [go_sem, ho, hx, q0, q1, q2, q3, q4, q5, q6, q7, q8, q9, q10, q11, q12], hK⟩
/-- An entry in a block of its own. -/
theorem box37 (w : World) (e : Ent) (c : Nat) (hc : c < 13) : (w.alloc (.cells e.cs'.toArray 37)).cell? ⟨w.heap.size, 0 + c, none⟩ = some (e.cs'.getD c undef) := by
  rw [cell_of_row _ _ _ e.cs'.toArray 37 _ (heap_alloc_new w _)]
  rw [List.getElem?_toArray, List.getD_eq_getElem?_getD, Nat.zero_add, List.getElem?_eq_getElem (show c < e.cs'.length by simpa using hc)]
  rfl
end Go.Proofs.Ytbgfpmnicpmieaa
