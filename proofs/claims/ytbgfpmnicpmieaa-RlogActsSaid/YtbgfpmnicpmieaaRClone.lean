/- Rows of plain entries: appended, cloned; a log that is made of them. -/
import Derived.Test.YtbgfpmnicpmieaaRNop
import Derived.Laws.AppendOwn
namespace Go.Proofs.Ytbgfpmnicpmieaa
open Go Go.RowKit Go.Shelf Go.Sort
set_option linter.unusedVariables false
set_option linter.unusedSimpArgs false
set_option maxRecDepth 100000
set_option maxHeartbeats 1000000
theorem Try.info37 : (Try.prog.info? 37).map (fun i => (i.zero, i.size, i.bytes)) = some (some (.agg #[.int .i64 0, .int .i64 0, .int .i64 0, .int .i64 0, .int .i64 0, .int .i64 0, eS, eS, eS, eS, .int .i64 0, nS, nS]), 13, 168) := by kernel_rfl
/-- All cells of plain entries, one behind the other. -/
def flat (ps : List (Int × Int)) : List Value := (List.range (ps.length * 13)).map fun j => (nopC (ps.getD (j / 13) (0, 0)).1 (ps.getD (j / 13) (0, 0)).2).getD (j % 13) undef
theorem flat_len (ps : List (Int × Int)) : (flat ps).length = ps.length * 13 := by simp [flat]
theorem flat_get (ps : List (Int × Int)) {j c : Nat} (hj : j < ps.length) (hc : c < 13) : (flat ps)[j * 13 + c]? = some ((nopC (ps.getD j (0, 0)).1 (ps.getD j (0, 0)).2).getD c undef) := by
  have h : j * 13 + c < ps.length * 13 := by omega
  unfold flat
  rw [List.getElem?_map, List.getElem?_range h]
  simp only [Option.map_some]
  rw [show (j * 13 + c) / 13 = j by omega, show (j * 13 + c) % 13 = c by omega]
theorem flat_at (ps : List (Int × Int)) {i : Nat} {v : Value} (h : (flat ps)[i]? = some v) : i / 13 < ps.length ∧ v = (nopC (ps.getD (i / 13) (0, 0)).1 (ps.getD (i / 13) (0, 0)).2).getD (i % 13) undef := by
  have hi : i < ps.length * 13 := by have := (List.getElem?_eq_some_iff.1 h).1; rwa [flat_len] at this
  have h2 := flat_get ps (j := i / 13) (c := i % 13) (by omega) (by omega)
  rw [show i / 13 * 13 + i % 13 = i by omega, h] at h2
  exact ⟨by omega, by simpa using h2⟩
theorem RN.news {w : World} {b off n : Nat} {ps : List (Int × Int)} (h : RN w (some ⟨b, off, none⟩) n ps) : ∀ j v, (flat ps)[j]? = some v → w.cell? ((⟨b, off, none⟩ : Addr).add j) = some v := by
  intro j v hv
  obtain ⟨h1, rfl⟩ := flat_at ps hv
  rw [Addr.add_lit]
  rcases h.2 with h0 | ⟨b', off', e, hc⟩
  · have := h.1; omega
  · cases e
    have := hc (j / 13) (by rw [← h.1]; exact h1) (j % 13) (by omega)
    rwa [show off + j / 13 * 13 + j % 13 = off + j by omega] at this
theorem rn_new {w : World} {n : Nat} {ps : List (Int × Int)} (cur : Array Value) (hl : ps.length = n) (h : ∀ (i : Nat) (v : Value), (flat ps)[i]? = some v → cur[i]? = some v) : RN (w.alloc (.cells cur 37)) (some ⟨w.heap.size, 0, none⟩) n ps :=
  ⟨hl, .inr ⟨w.heap.size, 0, rfl, fun j hj c hc => by
    rw [cell_of_row _ _ _ cur 37 _ (heap_alloc_new w _)]
    exact h _ _ (by rw [Nat.zero_add]; exact flat_get ps (by omega) hc)⟩⟩
theorem RN.addr {w : World} {p : Addr} {n : Nat} {ps : List (Int × Int)} (h : RN w (some p) n ps) (hn : 0 < n) : ∃ b off, p = ⟨b, off, none⟩ := by
  rcases h.2 with h0 | ⟨b, off, e, _⟩
  · omega
  · cases e; exact ⟨b, off, rfl⟩
/-- Plain entries behind others, where there is no room. -/
theorem run_app (ty : TypeId) (p : Addr) (n : Nat) (xs : List (Int × Int)) (q : Addr) (m c : Nat) (ys : List (Int × Int)) (w : World) (hX : RN w (some p) n xs) (hY : RN w (some q) m ys) (hn : n ≤ 1000) (hm : m ≤ 1000) (hpos : 0 < m) :
    ∃ c' w', (Builtin.append_ #[22, 22] ty #[.slice (some p) n n, .slice (some q) m c]).run Try.prog w = .ok (.slice (some ⟨w.heap.size, 0, none⟩) (n + m) c') w' ∧ RN w' (some ⟨w.heap.size, 0, none⟩) (n + m) (xs ++ ys) ∧ Below w.heap.size w w' ∧ n + m ≤ c' := by
  obtain ⟨i0, hi, hz0, hz1, hz2⟩ := info_parts Try.info37
  have hxl := hX.1
  have hyl := hY.1
  obtain ⟨bq, oq, rfl⟩ := hY.addr hpos
  have hold : ∀ j v, (flat xs)[j]? = some v → w.cell? (p.add j) = some v := by
    intro j v hv
    rcases Nat.eq_zero_or_pos n with h0 | h0
    · have h1 := flat_at xs hv; omega
    · obtain ⟨b, off, rfl⟩ := hX.addr h0
      exact hX.news j v hv
  have hr := run_append_grow (P := Try.prog) w 22 ty 37 i0 _ Try.underlying22 hi hz0 p n n (flat xs) (by rw [hz1, flat_len, hxl]) hold ⟨bq, oq, none⟩ m c (flat ys) (by rw [hz1, flat_len, hyl]) hY.news (by omega) (by omega) (growslice_fits (by omega) (by rw [hz2]; omega))
  refine ⟨_, _, hr, rn_new _ (by simp; omega) (fun i v hv => ?_), ((Below.refl _ w).drew).alloc (Nat.le_refl _) _, grownCap_ge _ _ _ _⟩
  obtain ⟨h1, rfl⟩ := flat_at _ hv
  rw [List.length_append] at h1
  rw [Array.append_assoc]
  by_cases hi1 : i / 13 < xs.length
  · rw [Array.getElem?_append_left (by simp [flat_len]; omega)]
    have := flat_get xs (j := i / 13) (c := i % 13) hi1 (by omega)
    rw [show i / 13 * 13 + i % 13 = i by omega] at this
    rw [List.getElem?_toArray, this]
    have e : (xs ++ ys).getD (i / 13) (0, 0) = xs.getD (i / 13) (0, 0) := by rw [List.getD_eq_getElem?_getD, List.getD_eq_getElem?_getD, List.getElem?_append_left hi1]
    rw [e]
  · rw [Array.getElem?_append_right (by simp [flat_len]; omega), Array.getElem?_append_left (by simp [flat_len]; omega)]
    have := flat_get ys (j := i / 13 - xs.length) (c := i % 13) (by omega) (by omega)
    rw [List.size_toArray, flat_len, List.getElem?_toArray]
    rw [show (i / 13 - xs.length) * 13 + i % 13 = i - xs.length * 13 by omega] at this
    rw [this]
    have e : (xs ++ ys).getD (i / 13) (0, 0) = ys.getD (i / 13 - xs.length) (0, 0) := by rw [List.getD_eq_getElem?_getD, List.getD_eq_getElem?_getD, List.getElem?_append_right (by omega)]
    rw [e]
theorem run_app0 (ty : TypeId) (p : Addr) (q : Option Addr) (c : Nat) (w : World) : (Builtin.append_ #[22, 22] ty #[.slice (some p) 0 0, .slice q 0 c]).run Try.prog w = .ok (.slice (some p) 0 0) w := by
  obtain ⟨i0, hi, hz0, hz1, hz2⟩ := info_parts Try.info37
  cases q <;> simp [Builtin.append_, run_underlying Try.underlying22, sizeOf, typeInfo, hi, Builtin.lenOf, Builtin.firstCells, loadCells, loadCellsFrom, storeCells]
theorem wpList_run {ops : Array Oper} {rest : List Oper} {o : Oper} {a : Act} {w : World} {Q : Exit → Act → World → Prop} (hgd : o.guard = none) (s x : Operand)
    (ho : o.op = .call { callee := .builtin .append, args := #[s, x], argTypes := #[22, 22] }) (vs vx : Value) (hs : a.eval s = vs) (hx : a.eval x = vx)
    (v' : Value) (w' : World) (hr : (Builtin.append_ #[22, 22] o.type #[vs, vx]).run Try.prog w = .ok v' w') (h : wpList Try.prog ops Q rest (a.put o.dst v') w') : wpList Try.prog ops Q (o :: rest) a w :=
  wpList_plain hgd fun K hK => by
    unfold Oper.wp execOp
    simp only [ho, resolve, invoke, builtin, Sem.run_bind, Sem.run_pure, Result.andThen_ok, List.map_toArray, List.map_cons, List.map_nil, hs, hx, hr]
    exact hK _ _ h
theorem clone_any (a : Option Addr) (n c : Nat) (ps : List (Int × Int)) (w : World) (h : RN w a n ps) (hn : n ≤ 1000) :
    Calls Try.prog 37 #[.slice a n c] w fun e w' => ∃ a' c', e = .returned (.slice a' n c') ∧ RN w' a' n ps ∧ n ≤ c' ∧ Below w.heap.size w w' := by
  have q22 : ∀ (w : World) (a : Option Addr) (n c n' c' : Nat), (binOp .eql 22 (.slice a n c) (.slice none n' c')).run Try.prog w = .ok (.bool a.isNone) w := fun w a n c n' c' => Lib.run_eql_slice_nil w _ _ a n c n' c' Try.underlying22
  cases a with
  | none =>
    have h0 : n = 0 := by
      rcases h.2 with h | ⟨b, off, e, _⟩
      · exact h
      · cases e
    subst h0
    go_enter Try.func37, Try.ntmps37
    go_wp2
    go_ret
    first | exact ⟨none, 0, rfl, h, Nat.le_refl _, Below.refl _ _⟩ | exact ⟨none, ⟨0, rfl⟩, h, Below.refl _ _⟩
  | some p =>
    have HR := Lib.hid h
    have L1 : Hid (Below w.heap.size w (w.alloc (.cells #[] 37))) := (Below.refl _ w).alloc (Nat.le_refl _) _
    clear h
    rcases Nat.eq_zero_or_pos n with rfl | hpos
    · go_enter Try.func37, Try.ntmps37
      go_wp2_with (at_builtin; refine wpList_run rfl _ _ rfl _ _ rfl rfl _ _ (run_app0 _ ⟨w.heap.size, 0, none⟩ (some p) c _) ?_)
      go_ret
      have hr : RN (w.alloc (.cells #[] 37)) (some ⟨w.heap.size, 0, none⟩) 0 ps := ⟨HR.out.1, .inl rfl⟩
      first | exact ⟨_, _, rfl, hr, Nat.le_refl _, L1.out⟩ | exact ⟨_, ⟨_, rfl⟩, hr, L1.out⟩
    · obtain ⟨c', w', hr, h1, h2, h4⟩ := run_app 22 ⟨w.heap.size, 0, none⟩ 0 [] p n c ps (w.alloc (.cells #[] 37)) ⟨rfl, .inl rfl⟩ (HR.out.keep (Nat.le_refl _) L1.out) (by omega) hn hpos
      rw [Nat.zero_add, List.nil_append] at h1
      rw [Nat.zero_add] at hr h4
      rw [show (w.alloc (.cells #[] 37)).heap.size = w.heap.size + 1 by simp] at h1 hr
      have H1 := Lib.hid h1
      have H2 := Lib.hid (L1.out.trans (h2.mono (by simp)))
      have H3 := Lib.hid hr
      clear h1 h2 hr
      go_enter Try.func37, Try.ntmps37
      go_wp2_with (at_builtin; refine wpList_run rfl _ _ rfl _ _ rfl rfl _ _ H3.out ?_)
      go_ret
      exact ⟨_, _, rfl, H1.out, h4, H2.out⟩
end Go.Proofs.Ytbgfpmnicpmieaa
