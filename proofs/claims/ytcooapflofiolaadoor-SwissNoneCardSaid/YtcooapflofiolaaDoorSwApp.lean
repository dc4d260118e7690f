/- Appending within a region that draws; rows; the slots that have a key, in their order. -/
import Derived.Test.YtcooapflofiolaaDoorSwScan
import Derived.Test.YtcooapflofiolaaDoorSwCall
import Derived.Maps.AppendAt
import Derived.Deep.RegionLaw
namespace Go.Proofs.YtcooapflofiolaaDoor
open Go Go.RowKit
set_option linter.unusedSimpArgs false
set_option linter.unusedVariables false
set_option linter.unusedSectionVars false
set_option maxRecDepth 100000
variable {V : Type} [Inhabited V]
/-- The full slots ahead of a place. -/
def accF (m : Mp V) (j : Nat) : List (ByteArray × V) := ((List.range j).filter fun i => decide (m.c i < 128)).map m.s
theorem accF_succ (m : Mp V) (j : Nat) : accF m (j + 1) = accF m j ++ (if m.c j < 128 then [m.s j] else []) := by
  unfold accF
  rw [List.range_succ, List.filter_append, List.map_append]
  congr 1
  by_cases h : m.c j < 128 <;> simp [h]
theorem accF_skip (m : Mp V) (a : Nat) : ∀ d, (∀ i, a ≤ i → i < a + d → ¬ m.c i < 128) → accF m (a + d) = accF m a
  | 0, _ => rfl
  | d + 1, h => by
    rw [← Nat.add_assoc, accF_succ, if_neg (h (a + d) (by omega) (by omega)), List.append_nil, accF_skip m a d (fun i h1 h2 => h i h1 (by omega))]
theorem accF_full (m : Mp V) : accF m (8 * m.ws.length) = fullL m := rfl
theorem accF_len (m : Mp V) (j : Nat) : (accF m j).length ≤ j := by
  unfold accF; rw [List.length_map]; have := List.length_filter_le (fun i => decide (m.c i < 128)) (List.range j); rwa [List.length_range] at this
def flatS (val : V → Value) (l : List (ByteArray × V)) : List Value := l.flatMap fun s => [.string s.1, val s.2]
theorem flatS_len (val : V → Value) (l : List (ByteArray × V)) : (flatS val l).length = l.length * 2 := by
  induction l with
  | nil => rfl
  | cons s l ih => simp only [flatS, List.flatMap_cons, List.length_append] at *; rw [ih]; simp; omega
theorem flatS_app (val : V → Value) (l r : List (ByteArray × V)) : flatS val (l ++ r) = flatS val l ++ flatS val r := by simp [flatS]
theorem flatS_at (val : V → Value) : ∀ (l : List (ByteArray × V)) (j : Nat), j < l.length → (flatS val l)[j * 2]? = some (.string (l.getD j default).1) ∧ (flatS val l)[j * 2 + 1]? = some (val (l.getD j default).2)
  | s :: l, 0, _ => by simp [flatS]
  | s :: l, j + 1, h => by
    have := flatS_at val l j (by simpa using h)
    have e : flatS val (s :: l) = Value.string s.1 :: val s.2 :: flatS val l := rfl
    rw [e, show (j + 1) * 2 = j * 2 + 1 + 1 by omega, List.getElem?_cons_succ, List.getElem?_cons_succ, List.getElem?_cons_succ, List.getElem?_cons_succ]
    simpa using this
/-- What a row holds is read. -/
theorem own_read {w : World} {base e size n : Nat} {v : Value} {xs : List Value} (h : w.ownsRow base e size v n xs) (hn : 0 < n) : ∃ g cap, v = .slice (some ⟨g, 0, none⟩) n cap ∧ n ≤ cap ∧ base ≤ g ∧ g < w.heap.size ∧ ∀ j x, xs[j]? = some x → w.cell? ⟨g, j, none⟩ = some x := by
  obtain ⟨h1, h2⟩ := h
  rcases h2 with ⟨_, h0⟩ | ⟨g, cap, cur, rfl, h3, h4, h5, h6, h7, h8⟩
  · omega
  · refine ⟨g, cap, rfl, h5, h3, (Array.getElem?_eq_some_iff.1 h4).1, fun j x hx => ?_⟩
    rw [cell_of_row _ _ _ _ _ _ h4]
    rw [← h8, List.getElem?_take] at hx
    split at hx
    · simpa using hx
    · cases hx
theorem own_val {w : World} {base e size n : Nat} {v : Value} {xs : List Value} (h : w.ownsRow base e size v n xs) : ∃ a c, v = .slice a n c ∧ n ≤ c := by
  rcases h.2 with ⟨rfl, rfl⟩ | ⟨g, cap, cur, rfl, h3, h4, h5, h6, h7, h8⟩
  · exact ⟨none, 0, rfl, Nat.le_refl _⟩
  · exact ⟨_, _, rfl, h5⟩
theorem own_below {w w' : World} {base e size n : Nat} {v : Value} {xs : List Value} {m : Nat} (h : w.ownsRow base e size v n xs) (hm : w.heap.size ≤ m) (hb : Below m w w') : w'.ownsRow base e size v n xs := by
  refine ⟨h.1, ?_⟩
  rcases h.2 with h0 | ⟨g, cap, cur, h1, h2, h3, h4⟩
  · exact .inl h0
  · exact .inr ⟨g, cap, cur, h1, h2, (hb.block g (Nat.lt_of_lt_of_le (Array.getElem?_eq_some_iff.1 h3).1 hm)).trans h3, h4⟩
theorem own_kept {w w' : World} {base e size n : Nat} {v : Value} {xs : List Value} {S : Nat → Prop} (h : w.ownsRow base e size v n xs) (hk : Kept S w w') (hs : ∀ j, base ≤ j → ¬ S j) : w'.ownsRow base e size v n xs := by
  refine ⟨h.1, ?_⟩
  rcases h.2 with h0 | ⟨g, cap, cur, h1, h2, h3, h4⟩
  · exact .inl h0
  · exact .inr ⟨g, cap, cur, h1, h2, (hk.block g (Array.getElem?_eq_some_iff.1 h3).1 (hs g h2)).trans h3, h4⟩
theorem new2 (W : World) (x y : Value) (t : TypeId) : ∀ j u, [x, y][j]? = some u → (W.alloc (.cells #[x, y] t)).drew.cell? (Addr.add ⟨W.heap.size, 0, none⟩ j) = some u := by
  intro j u h
  match j with
  | 0 => simp at h; subst h; simp [Addr.add]
  | 1 => simp at h; subst h; simp [Addr.add]
  | j + 2 => simp at h
/-- A call of a Go function, as one step of a region that draws. -/
theorem step_call {P : Program} {ops : Array Oper} {o : Oper} {a : Act} {w : World} {K : Act → World → Prop} {Q : Exit → Act → World → Prop} {E : Prop} (hgd : o.guard = none) (f : FuncId) (args : Array Value) (ho : ∃ us ats, o.op = .call { callee := .value (.func f), args := us, argTypes := ats })
    (hr : (execOp a.eval o).run P w = .ok (.enter f args) w) (hc : Calls P f args w fun e w' => ∃ v, e = .returned v ∧ K (a.put o.dst v) w') :
    if Region.wanted o (yielded ops a.tmps) = true then Oper.wp P o a w K Q else E := by
  have hw : Region.wanted o (yielded ops a.tmps) = true := by simp [Region.wanted, hgd]
  rw [if_pos hw]
  unfold Oper.wp
  rw [hr]
  refine hc.mono ?_
  rintro e w' ⟨v, rfl, h⟩
  exact h
theorem step_own {P : Program} {ops : Array Oper} {o : Oper} {a : Act} {w : World} {K : Act → World → Prop} {Q : Exit → Act → World → Prop} {E : Prop} (hgd : o.guard = none) (s x : Operand) (t : TypeId)
    (ho : o.op = .call { callee := .builtin .append, args := #[s, x], argTypes := #[t, t] }) (base e : Nat) (z : Value) (size bytes : Nat) (ht : P.underlying t = some (.slice e))
    (hinfo : (P.info? e).map (fun i => (i.zero, i.size, i.bytes)) = some (some z, size, bytes)) (hzs : z.cells.size = size) (hsz : 0 < size)
    (v : Value) (n : Nat) (xs : List Value) (hs : a.eval s = v) (hX : w.ownsRow base e size v n xs) (hb : base ≤ w.heap.size)
    (q : Addr) (m c : Nat) (hx : a.eval x = .slice (some q) m c) (ys : List Value) (hl : ys.length = m * size) (hY : ∀ j u, ys[j]? = some u → w.cell? (q.add j) = some u) (h1 : ∀ u ∈ ys, u.oneCell' = true)
    (h63 : n + m ≤ maxLen) (hbytes : (n + m) * bytes ≤ 140737488355328)
    (h : ∀ v' w', w'.ownsRow base e size v' (n + m) (xs ++ ys) → Below base w w' → K (a.put o.dst v') w') :
    if Region.wanted o (yielded ops a.tmps) = true then Oper.wp P o a w K Q else E := by
  have hw : Region.wanted o (yielded ops a.tmps) = true := by simp [Region.wanted, hgd]
  rw [if_pos hw]
  obtain ⟨i0, hi, hz0, hz1, hz2⟩ := info_parts hinfo
  obtain ⟨v', w', hr, h2, h3, _, h5⟩ := run_append_own_at (P := P) w base t o.type e i0 z size bytes ht hi hz0 hz1 hz2 hzs hsz v n xs hX q m c ys hl hY h1 h63 hbytes hb
  unfold Oper.wp execOp
  simp only [ho, resolve, invoke, builtin, Sem.run_bind, Sem.run_pure, Result.andThen_ok, List.map_toArray, List.map_cons, List.map_nil, hs, hx, hr]
  exact h v' w' h2 ((Below.refl _ w).grown h3 hb (fun k ek => (hX.lt k ek).1))
theorem wpList_runT {P : Program} (t : TypeId) {ops : Array Oper} {rest : List Oper} {o : Oper} {a : Act} {w : World} {Q : Exit → Act → World → Prop} (hgd : o.guard = none) (s x : Operand)
    (ho : o.op = .call { callee := .builtin .append, args := #[s, x], argTypes := #[t, t] }) (vs vx : Value) (hs : a.eval s = vs) (hx : a.eval x = vx)
    (v' : Value) (w' : World) (hr : (Builtin.append_ #[t, t] o.type #[vs, vx]).run P w = .ok v' w') (h : wpList P ops Q rest (a.put o.dst v') w') : wpList P ops Q (o :: rest) a w :=
  wpList_plain hgd fun K hK => by
    unfold Oper.wp execOp
    simp only [ho, resolve, invoke, builtin, Sem.run_bind, Sem.run_pure, Result.andThen_ok, List.map_toArray, List.map_cons, List.map_nil, hs, hx, hr]
    exact hK _ _ h
theorem flatS_get (val : V → Value) (l : List (ByteArray × V)) {j : Nat} {u : Value} (h : (flatS val l)[j]? = some u) : j / 2 < l.length ∧ ((j % 2 = 0 ∧ u = .string (l.getD (j / 2) default).1) ∨ (j % 2 = 1 ∧ u = val (l.getD (j / 2) default).2)) := by
  have hj : j < l.length * 2 := by have := (List.getElem?_eq_some_iff.1 h).1; rwa [flatS_len] at this
  have h2 := flatS_at val l (j / 2) (by omega)
  refine ⟨by omega, ?_⟩
  rcases Nat.mod_two_eq_zero_or_one j with e | e
  · rw [show j / 2 * 2 = j by omega, h] at h2
    exact .inl ⟨e, by simpa using h2.1⟩
  · rw [show j / 2 * 2 + 1 = j by omega, h] at h2
    exact .inr ⟨e, by simpa using h2.2⟩
def wordsV (m : Mp V) : List Value := m.ws.map fun x => Value.int .u64 (x : Nat)
theorem wordsV_at (m : Mp V) {j : Nat} {u : Value} (h : (wordsV m)[j]? = some u) : j < m.ws.length ∧ u = .int .u64 (m.w j : Nat) := by
  have hj : j < m.ws.length := by have := (List.getElem?_eq_some_iff.1 h).1; simpa [wordsV] using this
  refine ⟨hj, ?_⟩
  simp [wordsV, hj] at h
  rw [← h]
  unfold Mp.w
  simp [List.getD_eq_getElem?_getD, hj]
theorem wordsV_len (m : Mp V) : (wordsV m).length = m.ws.length := List.length_map _
end Go.Proofs.YtcooapflofiolaaDoor
