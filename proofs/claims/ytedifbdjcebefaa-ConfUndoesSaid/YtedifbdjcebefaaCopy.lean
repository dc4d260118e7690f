/- A list laid behind an empty one: a copy, in a region that draws too. -/
import Derived.Test.YtedifbdjcebefaaLives
import Derived.Deep.AppendLies
namespace Go.Proofs.Ytedifbdjcebefaa
open Go Go.RowKit Go.Shelf Go.Sort
set_option linter.unusedVariables false
set_option linter.unusedSimpArgs false
theorem run_copy (p : Addr) (ty : TypeId) (a : Option Addr) (n c : Nat) (l : List Int) (w : World) (hR : Rd w a n l) (hn : n ≤ 1000) :
    ∃ a' c' w', (Builtin.append_ #[22, 22] ty #[.slice (some p) 0 0, .slice a n c]).run Try.prog w = .ok (.slice a' n c') w' ∧ Rd w' a' n l ∧ Below w.heap.size w w' := by
  obtain ⟨i0, hi, hz0, hz1, hz2⟩ := info_parts Try.info3
  have hl := hR.1
  rcases Nat.eq_zero_or_pos n with rfl | hpos
  · have hl0 : l = [] := List.eq_nil_of_length_eq_zero hl
    subst hl0
    refine ⟨some p, 0, w, ?_, ⟨rfl, .inl rfl⟩, Below.refl _ _⟩
    cases a <;> simp [Builtin.append_, run_underlying Try.underlying22, sizeOf, typeInfo, hi, Builtin.lenOf, Builtin.firstCells, loadCells, loadCellsFrom, storeCells]
  · obtain ⟨b, off, rfl, hall⟩ := hR.all hpos
    have hr := run_append_grow (P := Try.prog) w 22 ty 3 i0 (.int .i64 0) Try.underlying22 hi hz0 p 0 0 [] (by simp) (by simp) ⟨b, off, none⟩ n c (l.map (Value.int .i64)) (by rw [hz1]; simpa using hl) (fun j v hv => by
      have hj : j < l.length := by have := (List.getElem?_eq_some_iff.1 hv).1; simpa using this
      rw [Addr.add_lit, hall j (by omega)]
      rw [List.getElem?_map, List.getElem?_eq_getElem hj] at hv
      rw [List.getD_eq_getElem?_getD, List.getElem?_eq_getElem hj]
      simpa using hv) (by omega) (by omega) (growslice_fits (by omega) (by rw [hz2]; omega))
    refine ⟨_, _, _, (by simpa using hr), rd_range hl ?_, ((Below.refl _ w).drew).alloc (Nat.le_refl _) _⟩
    refine range_new _ _ _ 0 fun j v hv => ?_
    rw [Nat.zero_add, Array.getElem?_append_left (by have := (List.getElem?_eq_some_iff.1 hv).1; simpa using this)]
    simpa using hv
theorem step_copy {ops : Array Oper} {o : Oper} {a : Act} {w : World} {K : Act → World → Prop} {Q : Exit → Act → World → Prop} {E : Prop} (hgd : o.guard = none) (s x : Operand)
    (ho : o.op = .call { callee := .builtin .append, args := #[s, x], argTypes := #[22, 22] })
    (p : Addr) (hs : a.eval s = .slice (some p) 0 0) (ad : Option Addr) (n c : Nat) (hx : a.eval x = .slice ad n c) (l : List Int) (hR : Rd w ad n l) (hn : n ≤ 1000)
    (h : ∀ a' c' w', Rd w' a' n l → Below w.heap.size w w' → K (a.put o.dst (.slice a' n c')) w') :
    if Region.wanted o (yielded ops a.tmps) = true then Oper.wp Try.prog o a w K Q else E := by
  have hw : Region.wanted o (yielded ops a.tmps) = true := by simp [Region.wanted, hgd]
  rw [if_pos hw]
  obtain ⟨a', c', w', hr, h2, h3⟩ := run_copy p o.type ad n c l w hR hn
  unfold Oper.wp execOp
  simp only [ho, resolve, invoke, builtin, Sem.run_bind, Sem.run_pure, Result.andThen_ok, List.map_toArray, List.map_cons, List.map_nil, hs, hx, hr]
  exact h a' c' w' h2 h3
theorem step_copy2 {ops : Array Oper} {o : Oper} {a : Act} {w w1 : World} {K : Act → World → Prop} {Q : Exit → Act → World → Prop} {E : Prop} (hgd : o.guard = none) (s x : Operand)
    (ho : o.op = .call { callee := .builtin .append, args := #[s, x], argTypes := #[22, 22] })
    (p : Addr) (hs : a.eval s = .slice (some p) 0 0) (ad : Option Addr) (n c : Nat) (hx : a.eval x = .slice ad n c) (l : List Int) (hR : Rd w1 ad n l) (hW : Below w1.heap.size w1 w) (hn : n ≤ 1000)
    (h : ∀ a' c' w', Rd w' a' n l → Below w.heap.size w w' → Below w1.heap.size w1 w' → K (a.put o.dst (.slice a' n c')) w') :
    if Region.wanted o (yielded ops a.tmps) = true then Oper.wp Try.prog o a w K Q else E :=
  step_copy hgd s x ho p hs ad n c hx l (hR.keep (Nat.le_refl _) hW) hn fun a' c' w' h1 h2 => h a' c' w' h1 h2 (hW.trans (h2.mono hW.size))
theorem wpList_copy {ops : Array Oper} {rest : List Oper} {o : Oper} {a : Act} {w : World} {Q : Exit → Act → World → Prop} (hgd : o.guard = none) (s x : Operand)
    (ho : o.op = .call { callee := .builtin .append, args := #[s, x], argTypes := #[22, 22] })
    (p : Addr) (hs : a.eval s = .slice (some p) 0 0) (ad : Option Addr) (n c : Nat) (hx : a.eval x = .slice ad n c) (l : List Int) (hR : Rd w ad n l) (hn : n ≤ 1000)
    (h : ∀ a' c' w', Rd w' a' n l → Below w.heap.size w w' → wpList Try.prog ops Q rest (a.put o.dst (.slice a' n c')) w') : wpList Try.prog ops Q (o :: rest) a w :=
  wpList_plain hgd fun K hK => by
    obtain ⟨a', c', w', hr, h2, h3⟩ := run_copy p o.type ad n c l w hR hn
    unfold Oper.wp execOp
    simp only [ho, resolve, invoke, builtin, Sem.run_bind, Sem.run_pure, Result.andThen_ok, List.map_toArray, List.map_cons, List.map_nil, hs, hx, hr]
    exact hK _ _ (h a' c' w' h2 h3)
end Go.Proofs.Ytedifbdjcebefaa
