/- Texts of this seat, set one behind the other. -/
import Derived.Test.YtbgfpmnicpmieaaERefConf
import Derived.Deep.AppendLies
import Derived.RangeFuncNested
import Derived.RangeFuncBound
import Derived.RangeFuncCalls
import Derived.RangeFuncLeaves
import Derived.Shelf.Abstract
import Derived.Shelf.RegionOpen
import Derived.OwnWalkIn
import Derived.TacticsInMore
import Derived.LoopNIn
import Derived.LoopIn
import Derived.RangeFuncBox
import Derived.Deep.RegionHeld
/- A copy of a list of numbers. -/
namespace Go.Proofs.Ytbgfpmnicpmieaa
open Go Go.RowKit Go.Shelf Go.Sort
set_option linter.unusedVariables false
set_option linter.unusedSimpArgs false
set_option maxRecDepth 100000
set_option maxHeartbeats 1000000
theorem info3I : Option.map (fun i => (i.zero, i.size, i.bytes)) (Try.prog.info? 3) = some (some (.int .i64 0), 1, 8) := by kernel_rfl
theorem rd_range {w : World} {g n : Nat} {l : List Int} (hl : l.length = n) (h : w.rangeAt g 0 (l.map (Value.int .i64))) : Rd w (some ⟨g, 0, none⟩) n l :=
  ⟨hl, .inr ⟨g, 0, rfl, fun j hj => h j _ (by
    rw [List.getElem?_map, List.getElem?_eq_getElem (by omega), List.getD_eq_getElem?_getD, List.getElem?_eq_getElem (by omega)]; rfl)⟩⟩
theorem range_new (w : World) (cur : Array Value) (vs : List Value) (o : Nat) (h : ∀ j v, vs[j]? = some v → cur[o + j]? = some v) : (w.alloc (.cells cur 3)).rangeAt w.heap.size o vs := fun j v hv => by
  rw [cell_of_row _ _ _ cur 3 _ (heap_alloc_new w _)]; exact h j v hv
theorem run_copyI (p : Addr) (ty : TypeId) (a : Option Addr) (n c : Nat) (l : List Int) (w : World) (hR : Rd w a n l) (hn : n ≤ 1000) :
    ∃ a' c' w', (Builtin.append_ #[33, 33] ty #[.slice (some p) 0 0, .slice a n c]).run Try.prog w = .ok (.slice a' n c') w' ∧ Rd w' a' n l ∧ Below w.heap.size w w' ∧ (0 < n → ∀ q, a' = some q → w.heap.size ≤ q.block) := by
  obtain ⟨i0, hi, hz0, hz1, hz2⟩ := info_parts info3I
  have hl := hR.1
  rcases Nat.eq_zero_or_pos n with rfl | hpos
  · have hl0 : l = [] := List.eq_nil_of_length_eq_zero hl
    subst hl0
    refine ⟨some p, 0, w, ?_, ⟨rfl, .inl rfl⟩, Below.refl _ _, fun h => absurd h (Nat.lt_irrefl _)⟩
    cases a <;> simp [Builtin.append_, run_underlying Try.underlying33, sizeOf, typeInfo, hi, Builtin.lenOf, Builtin.firstCells, loadCells, loadCellsFrom, storeCells]
  · obtain ⟨b, off, rfl, hall⟩ := hR.all hpos
    have hr := run_append_grow (P := Try.prog) w 33 ty 3 i0 (.int .i64 0) Try.underlying33 hi hz0 p 0 0 [] (by simp) (by simp) ⟨b, off, none⟩ n c (l.map (Value.int .i64)) (by rw [hz1]; simpa using hl) (fun j v hv => by
      have hj : j < l.length := by have := (List.getElem?_eq_some_iff.1 hv).1; simpa using this
      rw [Addr.add_lit, hall j (by omega)]
      rw [List.getElem?_map, List.getElem?_eq_getElem hj] at hv
      rw [List.getD_eq_getElem?_getD, List.getElem?_eq_getElem hj]
      simpa using hv) (by omega) (by omega) (growslice_fits (by omega) (by rw [hz2]; omega))
    refine ⟨_, _, _, (by simpa using hr), rd_range hl ?_, ((Below.refl _ w).drew).alloc (Nat.le_refl _) _, fun _ q e => by cases e; exact Nat.le_refl _⟩
    refine range_new _ _ _ 0 fun j v hv => ?_
    rw [Nat.zero_add, Array.getElem?_append_left (by have := (List.getElem?_eq_some_iff.1 hv).1; simpa using this)]
    simpa using hv
theorem wpList_runI {ops : Array Oper} {rest : List Oper} {o : Oper} {a : Act} {w : World} {Q : Exit → Act → World → Prop} (hgd : o.guard = none) (s x : Operand)
    (ho : o.op = .call { callee := .builtin .append, args := #[s, x], argTypes := #[33, 33] }) (vs vx : Value) (hs : a.eval s = vs) (hx : a.eval x = vx)
    (v' : Value) (w' : World) (hr : (Builtin.append_ #[33, 33] o.type #[vs, vx]).run Try.prog w = .ok v' w') (h : wpList Try.prog ops Q rest (a.put o.dst v') w') : wpList Try.prog ops Q (o :: rest) a w :=
  wpList_plain hgd fun K hK => by
    unfold Oper.wp execOp
    simp only [ho, resolve, invoke, builtin, Sem.run_bind, Sem.run_pure, Result.andThen_ok, List.map_toArray, List.map_cons, List.map_nil, hs, hx, hr]
    exact hK _ _ h
def ClonP (n : Nat) (l : List Int) (w : World) (e : Ending) (w' : World) : Prop := ∃ a' c', e = .returned (.slice a' n c') ∧ Rd w' a' n l ∧ Below w.heap.size w w' ∧ (0 < n → ∀ q, a' = some q → w.heap.size ≤ q.block)
theorem clonep {n : Nat} {l : List Int} {w w' : World} {e : Ending} {a : Option Addr} {c : Nat} (h : e = .returned (.slice a n c)) (h1 : Rd w' a n l) (h2 : Below w.heap.size w w') (h3 : 0 < n → ∀ q, a = some q → w.heap.size ≤ q.block) : ClonP n l w e w' := ⟨a, c, h, h1, h2, h3⟩
theorem cloneI_any (a : Option Addr) (n c : Nat) (l : List Int) (w : World) (h : Rd w a n l) (hn : n ≤ 1000) :
    Calls Try.prog 60 #[.slice a n c] w (ClonP n l w) := by
  have q33 : ∀ (w : World) (a : Option Addr) (n c n' c' : Nat), (binOp .eql 33 (.slice a n c) (.slice none n' c')).run Try.prog w = .ok (.bool a.isNone) w := fun w a n c n' c' => Lib.run_eql_slice_nil w _ _ a n c n' c' Try.underlying33
  cases a with
  | none =>
    have h0 : n = 0 := by
      rcases h.2 with h | ⟨b, off, e, _⟩
      · exact h
      · cases e
    subst h0
    have hl : l = [] := List.eq_nil_of_length_eq_zero h.1
    subst hl
    have hrd : Hid (Rd w none 0 []) := ⟨rfl, .inl rfl⟩
    clear h hn
    go_enter Try.func60, Try.ntmps60
    go_wp2
    go_ret
    exact clonep rfl hrd.out (Below.refl _ _) (fun h => absurd h (Nat.lt_irrefl _))
  | some p =>
    have L1 : Hid (Below w.heap.size w (w.alloc (.cells #[] 3))) := (Below.refl _ w).alloc (Nat.le_refl _) _
    obtain ⟨a', c', w', hr, h2, h3, h4⟩ := run_copyI ⟨w.heap.size, 0, none⟩ 33 (some p) n c l (w.alloc (.cells #[] 3)) (h.keep (Nat.le_refl _) L1.out) hn
    have H1 := Lib.hid h2
    have H2 : Hid (Below w.heap.size w w') := L1.out.trans (h3.mono L1.out.size)
    have H3 := Lib.hid hr
    have H4 : Hid (0 < n → ∀ q, a' = some q → w.heap.size ≤ q.block) := fun h q e => by have := h4 h q e; simp at this; omega
    clear h2 hr h3 h hn h4
    go_enter Try.func60, Try.ntmps60
    go_wp2_with (at_builtin; refine wpList_runI rfl _ _ rfl _ _ rfl rfl _ _ H3.out ?_)
    go_ret
    exact clonep rfl H1.out H2.out H4.out
end Go.Proofs.Ytbgfpmnicpmieaa

/- Entries one by one, the last one first. -/
namespace Go.Proofs.Ytbgfpmnicpmieaa
open Go Go.RowKit Go.Shelf Go.Sort
attribute [local go_sem] Oper.semAt_some
set_option linter.unusedVariables false
set_option linter.unusedSimpArgs false
set_option maxRecDepth 100000
set_option maxHeartbeats 2000000
theorem back_any (a : Option Addr) (n c : Nat) (w : World) : Calls Try.prog 59 #[.slice a n c] w fun e w' => e = .returned (.func (.func 66) #[] #[.pointer (some ⟨w.heap.size, 0, none⟩)]) ∧ w' = w.alloc (.cells #[.slice a n c] 22) := by
  go_enter Try.func59, Try.ntmps59
  go_wp2
  go_ret
  exact ⟨rfl, rfl⟩
/-- What a round keeps: all below block m. -/
def Kp (m : Nat) (W W' : World) : Prop := ∀ j, j < m → W'.heap[j]? = W.heap[j]?
theorem Kp.refl (m : Nat) (W : World) : Kp m W W := fun _ _ => rfl
theorem Kp.t {m : Nat} {A B C : World} (h : Kp m A B) (k : Kp m B C) : Kp m A C := fun j hj => (k j hj).trans (h j hj)
theorem Kp.b {m n : Nat} (h1 : m ≤ n) (W : World) (l : Nat) (o o' : Obj) (hl : n ≤ l) (h : W.heap[l]? = some o) (_ : o.isCells = false) (_ : o.isWalk = false) : Kp m W (W.putObj l o') :=
  fun j hj => World.putObj_heap_other (by omega)
theorem ER.kp {w w' : World} {a : Option Addr} {n : Nat} {es : List Ent} {m : Nat} (h : ER w a n es) (hm : w.heap.size ≤ m) (hb : ∀ j, j < m → w'.heap[j]? = w.heap[j]?) : ER w' a n es := by
  refine ⟨h.1, ?_⟩
  rcases h.2 with h0 | ⟨b, off, e, hc⟩
  · exact .inl h0
  · refine .inr ⟨b, off, e, fun j hj c hc' => ?_⟩
    have hlt : b < m := Nat.lt_of_lt_of_le (cell_block_lt (hc j hj c hc')) hm
    rw [World.cell?_of_block (w := w) (hb b hlt)]
    exact hc j hj c hc'
/-- The entries with their numbers, the last one first, from below a number. -/
def bk : Nat → List Nat
  | 0 => []
  | j + 1 => j :: bk j
theorem bk_len : ∀ j, (bk j).length = j
  | 0 => rfl
  | j + 1 => by rw [bk, List.length_cons, bk_len j]
theorem iter_in (F : Fence) (n : Nat) (h66 : F.fn 66) (hw : F = Fence.wide) (hn : 1 ≤ n) (lp Bs m : Nat) (a : Option Addr) (k c : Nat) (es : List Ent) (hk : k ≤ 1000) (J Jx : List Nat → World → Prop)
    (hY : ∀ (pre : List Nat) (x : Nat) W, J pre W → pre.length < k → YieldAt F (n - 1) Try.prog lp #[.int .i64 (x : Int), (es.getD x default).v] W fun e W' =>
      (e = .returned (.bool true) ∧ J (pre ++ [x]) W' ∧ Kp m W W') ∨ (e = .returned (.bool false) ∧ Jx (pre ++ [x]) W'))
    (W w0 : World) (hBs : W.heap[Bs]? = some (.cells #[.slice a k c] 22 (0, 0))) (hbs : Bs < m) (hm : w0.heap.size ≤ m) (hbm : ∀ j, j < m → W.heap[j]? = w0.heap[j]?) (hR : ER w0 a k es) (hj : J [] W) :
    CallsIn F n Try.prog 66 #[.func (.yield lp) #[] #[], .pointer (some ⟨Bs, 0, none⟩)] W fun e W' => (∃ v, e = .returned v) ∧
      ((∃ ys, ys = bk k ∧ J ys W') ∨ (∃ pre, pre <+: bk k ∧ Jx pre W')) := by
  subst hw
  have hl := hR.1
  have cg : W.cell? ⟨Bs, 0, none⟩ = some (.slice a k c) := by simp [World.cell?, hBs]
  have hw1 : IntKind.i64.wrap ((k : Int) - 1) = (k : Int) - 1 := IntWalk.i64_in _ (by omega)
  refine callsIn_of_wp Try.func66 rfl h66 ?_ rfl
  simp only [Try.ntmps66, List.size_toArray, List.length_cons, List.length_nil, Nat.reduceAdd, Nat.reduceSub, Array.replicate_succ, Array.replicate_zero, List.push_toArray, List.append_toArray, List.nil_append, List.cons_append]
  have HR := Lib.hid hR
  have HL := Lib.hid hl
  have HBM := Lib.hid hbm
  have HBS := Lib.hid hBs
  clear hR hl hbm
  gi_wp2
  gi_loopw [3] (fun i wr => ∃ (q : Nat) (pre : List Nat), q ≤ k ∧ i = .int .i64 ((q : Int) - 1) ∧ pre ++ bk q = bk k ∧ J pre wr ∧ Kp m W wr) (fun i _ => (intOf i + 1).toNat)
  case atStart => exact ⟨k, [], Nat.le_refl _, rfl, rfl, hj, Kp.refl _ _⟩
  case round =>
    obtain ⟨q, pre, hq, rfl, hpre, hJk, hK⟩ := hrel
    have HRr := Lib.hid (HR.out.kp hm (fun j hj => (hK j hj).trans (HBM.out j hj)))
    have HPRE := Lib.hid hpre
    have hpl : pre.length + q = k := by have := congrArg List.length hpre; rw [List.length_append, bk_len, bk_len] at this; exact this
    clear cg hpre hw1
    cases q with
    | zero =>
      have d1 : decide (0 ≤ ((0 : Nat) : Int) - 1) = false := decide_eq_false (by omega)
      have HP : Hid (pre = bk k) := by show _ = _; have := HPRE.out; rwa [bk, List.append_nil] at this
      gi_wp2
      go_end0
      exact ⟨⟨_, rfl⟩, .inl ⟨pre, HP.out, hJk⟩⟩
    | succ q =>
      have hlt : q < k := by omega
      have hx := hY pre q wr hJk (by omega)
      obtain ⟨fn, tmps, assign, body, hy, hRR⟩ := hx
      clear hY
      have cg' : wr.cell? ⟨Bs, 0, none⟩ = some (.slice a k c) := by simp [World.cell?, hK Bs hbs, HBS.out]
      obtain ⟨b, off, rfl, hc⟩ := HRr.out.row hlt
      have HT : Hid ((pre ++ [q]) ++ bk q = bk k) := by show _ = _; rw [List.append_assoc]; exact HPRE.out
      have q0 := hc 0 (by omega)
      have q1 := hc 1 (by omega)
      have q2 := hc 2 (by omega)
      have q3 := hc 3 (by omega)
      have q4 := hc 4 (by omega)
      have q5 := hc 5 (by omega)
      have q6 := hc 6 (by omega)
      have q7 := hc 7 (by omega)
      have q8 := hc 8 (by omega)
      have q9 := hc 9 (by omega)
      have q10 := hc 10 (by omega)
      have q11 := hc 11 (by omega)
      have q12 := hc 12 (by omega)
      clear hc
      generalize es.getD q default = x at *
      simp only [List.getD_cons_zero, List.getD_cons_succ] at q0 q1 q2 q3 q4 q5 q6 q7 q8 q9 q10 q11 q12
      rw [Nat.add_zero] at q0
      have hsub : (((q + 1 : Nat) : Int) - 1) = (q : Int) := by omega
      rw [hsub]
      have d1 : decide (0 ≤ (q : Int)) = true := decide_eq_true (by omega)
      have hw2 : IntKind.i64.wrap ((q : Int) - 1) = (q : Int) - 1 := IntWalk.i64_in _ (by omega)
      gi_wp2
      refine hRR.mono ?_
      rintro e W3 (⟨rfl, hJ3, hk3⟩ | ⟨rfl, hJx3⟩)
      · gi_wp2
        go_roundw
        case rel => exact ⟨q, _, by omega, rfl, HT.out, hJ3, hK.t hk3⟩
        case measure => simp [intOf]
      · gi_wp2
        refine bodyPost_ret (results_none rfl _ _ _) rfl ?_
        exact ⟨⟨_, rfl⟩, .inr ⟨_, ⟨_, HT.out⟩, hJx3⟩⟩
theorem iter_stops (n : Nat) (hn : 1 ≤ n) (Bs : Nat) (a : Option Addr) (k c : Nat) (es : List Ent) (hk : k ≤ 1000) (w : World) (hBs : w.heap[Bs]? = some (.cells #[.slice a k c] 22 (0, 0))) (hR : ER w a k es) :
    SeqStopsK Fence.wide n Try.prog 66 #[.pointer (some ⟨Bs, 0, none⟩)] (fun x : Nat => #[Value.int .i64 (x : Int), (es.getD x default).v]) (Kp w.heap.size) (fun ys => ys = bk k) (fun pre => pre <+: bk k) k w := fun lp J Jx W hW _ _ hY hj =>
  iter_in Fence.wide n trivial rfl hn lp Bs w.heap.size a k c es hk J Jx hY W w ((hW.block _ (Array.getElem?_eq_some_iff.1 hBs).1).trans hBs) (Array.getElem?_eq_some_iff.1 hBs).1 (Nat.le_refl _) hW.block hR hj
end Go.Proofs.Ytbgfpmnicpmieaa

/- Conf of the code's log. -/
namespace Go.Proofs.Ytbgfpmnicpmieaa
open Go Go.RowKit Go.Shelf Go.Sort
attribute [local go_sem] Oper.semAt_some
set_option linter.unusedVariables false
set_option linter.unusedSimpArgs false
set_option maxRecDepth 100000
set_option maxHeartbeats 4000000
def ConfP (w : World) (x : Ent) (e : Ending) (w' : World) : Prop := ∃ va vc la lc, e = .returned (.tuple #[.agg #[.slice va x.vn vc, .slice la x.ln lc], .int .i64 x.i]) ∧ Rd w' va x.vn x.V ∧ Rd w' la x.ln x.L ∧ Below w.heap.size w w'
theorem bk_none (es : List Ent) : ∀ j, (∀ p, p ∈ bk j → (es.getD p default).k ≠ 3) → cnfN es j = default
  | 0, _ => rfl
  | j + 1, h => by
    rw [cnfN, if_neg (h j (by simp [bk])), bk_none es j (fun p hp => h p (by simp [bk, hp]))]
theorem bk_first (es : List Ent) : ∀ (j : Nat) (q r : List Nat) (x : Nat), q ++ x :: r = bk j → (∀ p, p ∈ q → (es.getD p default).k ≠ 3) → (es.getD x default).k = 3 → cnfN es j = es.getD x default
  | 0, q, r, x, h, _, _ => by cases q <;> cases h
  | j + 1, [], r, x, h, _, h3 => by
    rw [bk, List.nil_append] at h
    injection h with h1 h2
    subst h1
    rw [cnfN, if_pos h3]
  | j + 1, y :: q, r, x, h, hq, h3 => by
    rw [bk, List.cons_append] at h
    injection h with h1 h2
    have hy := hq y (by simp)
    rw [h1] at hy
    rw [cnfN, if_neg hy, bk_first es j q r x h2 (fun p hp => hq p (by simp [hp])) h3]
theorem cells_lie {W W' : World} {row : Option Nat} (hg : W.grownBy W' row) (hr : ∀ r, row = some r → ∃ o : Obj, W.heap[r]? = some o ∧ o.isCells = false) {p : Addr} {v : Value} (h : W.cell? p = some v) : W'.cell? p = some v := by
  have hb : W'.heap[p.block]? = W.heap[p.block]? := hg.block _ (cell_block_lt h) (fun e => by
    obtain ⟨o, ho, hc⟩ := hr _ e.symm
    cases o <;> simp [World.cell?, ho, Obj.isCells] at h hc)
  rw [World.cell?_of_block (w := W) hb]
  exact h
theorem Rd.lie {W W' : World} {row : Option Nat} (hg : W.grownBy W' row) (hr : ∀ r, row = some r → ∃ o : Obj, W.heap[r]? = some o ∧ o.isCells = false) {a : Option Addr} {n : Nat} {l : List Int} (h : Rd W a n l) : Rd W' a n l := by
  refine ⟨h.1, ?_⟩
  rcases h.2 with h0 | ⟨b, off, e, hc⟩
  · exact .inl h0
  · exact .inr ⟨b, off, e, fun j hj => cells_lie hg hr (hc j hj)⟩
/-- What lies in the results' boxes. -/
def RB2 (s : Nat) (x : Ent) (W : World) : Prop := ∃ va vc la lc, W.heap[s]? = some (.cells #[.slice va x.vn vc, .slice la x.ln lc] 35 (0, 0)) ∧ W.heap[s + 1]? = some (.cells #[.int .i64 x.i] 3 (0, 0)) ∧ Rd W va x.vn x.V ∧ Rd W la x.ln x.L
theorem rb2_own {β : Type} (s : Nat) (f : β → Ent) : Own (fun (p : β) W => RB2 s (f p) W) := by
  rintro p W W' row ⟨va, vc, la, lc, h1, h2, h3, h4⟩ hg hr
  refine ⟨va, vc, la, lc, (hg.block _ (Array.getElem?_eq_some_iff.1 h1).1 (fun e => ?_)).trans h1, (hg.block _ (Array.getElem?_eq_some_iff.1 h2).1 (fun e => ?_)).trans h2, h3.lie hg hr, h4.lie hg hr⟩
  · obtain ⟨o, ho, hc⟩ := hr _ e.symm
    rw [h1] at ho; cases ho; cases hc
  · obtain ⟨o, ho, hc⟩ := hr _ e.symm
    rw [h2] at ho; cases ho; cases hc
/-- A round's box. -/
def BX (B : Nat) (x : Ent) (W : World) : Prop := W.heap[B]? = some (.cells x.cs'.toArray 37 (0, 0))
theorem bx_own {β : Type} (B : Nat) (x : Ent) : Own (fun (_ : β) W => BX B x W) := by
  rintro p W W' row h hg hr
  refine (hg.block _ (Array.getElem?_eq_some_iff.1 h).1 (fun e => ?_)).trans h
  obtain ⟨o, ho, hc⟩ := hr _ e.symm
  rw [show W.heap[B]? = _ from h] at ho; cases ho; cases hc
end Go.Proofs.Ytbgfpmnicpmieaa

/- A region that draws its order, within a round of a range over a function: what is shown of every order outside holds there too. -/
namespace Go.Proofs.Ytbgfpmnicpmieaa
open Go
set_option linter.unusedVariables false
section
variable {P : Program} {n lp : Nat}
theorem rowsIn_of {row : String} {args : Array Value} {w : World} {R : Value → World → Prop} (h : Rows P row args w R) : RowsIn (Fence.wide.inRound lp) n P row args w R :=
  fun c cs _ => let ⟨v, w', r, s⟩ := h c cs; ⟨v, w', r, stepsIn_wide.2 s⟩
theorem upon_in {o : Oper} {a : Act} {K : Act → World → Prop} {Q0 Q : Exit → Act → World → Prop} (hp : ∀ c a w, ¬ Q0 (.panic c) a w) (ho : ¬ LetsOut Q0) {r : Result Next} (h : o.upon P a K Q0 r) : o.uponIn (Fence.wide.inRound lp) n P a K Q r := by
  cases r with
  | ok x w' =>
    cases x <;> simp only [Oper.upon, Oper.uponIn] at h ⊢
    case value => exact h
    case skip => exact h
    case defer => exact h
    case enter f args =>
      refine ⟨fun hd => by simp [Fence.wide] at hd, CallsIn.inRound lp (callsIn_wide.2 (Calls.mono h fun e w'' he => ?_))⟩
      cases e with
      | returned u => exact he
      | panicked c => exact (hp _ _ _ he).elim
      | outgrown => exact (ho he).elim
    case row row args => exact ⟨fun hd => by simp [Fence.wide] at hd, rowsIn_of h⟩
  | halt x w' =>
    cases x <;> simp only [Oper.upon, Oper.uponIn] at h ⊢
    case panic u => exact (hp _ _ _ h).elim
theorem opIn_of {ops : Array Oper} {i : Nat} {a : Act} {w : World} {K : Act → World → Prop} {Q0 Q : Exit → Act → World → Prop} (hnd : ∀ (j : Nat) (o : Oper), ops[j]? = some o → ∀ c, o.op ≠ .defer c) (hp : ∀ c a w, ¬ Q0 (.panic c) a w) (ho : ¬ LetsOut Q0)
    (h : wpOp P ops Q0 i K a w) : wpOpIn (Fence.wide.inRound lp) n P ops Q i K a w := by
  unfold wpOp at h
  unfold wpOpIn
  cases hi : ops[i]? with
  | none => rw [hi] at h; exact h
  | some o =>
    rw [hi] at h
    simp only at h ⊢
    by_cases hw : Region.wanted o (yielded ops a.tmps) = true
    · rw [if_pos hw] at h ⊢
      rcases h with h | ⟨_, h⟩
      · refine ⟨fun _ _ => trivial, ?_⟩
        rw [Oper.semAt_eq _ _ _ (hnd i o hi)]
        exact upon_in hp ho h
      · exact (ho h).elim
    · rw [if_neg hw] at h ⊢
      exact ⟨fun _ _ => trivial, h⟩
theorem anyIn_of {md : Region.Mode} {ops : Array Oper} {Q0 Q : Exit → Act → World → Prop} (hnd : ∀ (j : Nat) (o : Oper), ops[j]? = some o → ∀ c, o.op ≠ .defer c) (hp : ∀ c a w, ¬ Q0 (.panic c) a w) (ho : ¬ LetsOut Q0) (hn : ∀ a w, Q0 .normal a w → Q .normal a w) :
    ∀ (fuel : Nat) (listed : Array Bool) (a : Act) (w : World), wpAny P md ops Q0 fuel listed a w → wpAnyIn (Fence.wide.inRound lp) n P md ops Q fuel listed a w := by
  intro fuel
  induction fuel with
  | zero => intro listed a w h; exact ⟨h.1, hn _ _ h.2⟩
  | succ fuel ih => intro listed a w h; exact ⟨fun h0 => hn _ _ (h.1 h0), fun i hi => wpOpIn_mono (fun a' w' h' => ih _ _ _ h') (opIn_of hnd hp ho (h.2 i hi))⟩
def noDefer (l : List Oper) : Bool := l.all fun o => match o.op with | .defer _ => false | _ => true
theorem noDefer_spec {l : List Oper} (h : noDefer l = true) (j : Nat) (o : Oper) (ho : l.toArray[j]? = some o) (c) : o.op ≠ .defer c := by
  intro e
  have hm : o ∈ l := List.mem_of_getElem? (by simpa using ho)
  have := List.all_eq_true.1 h o hm
  simp [e] at this
/-- The post of a region that ends as it should, or not at all. -/
def EndsIn (K : Act → World → Prop) : Exit → Act → World → Prop
  | .normal, a, w => K a w
  | _, _, _ => False
theorem region_in_round {id : Nat} {Q : Exit → Act → World → Prop} {a : Act} {w : World} {l : List Oper} (S : World → Prop) (hnd : noDefer l = true) (hm : P.follows .mixedOrders = true)
    (h : wpAnyH P .any l.toArray (EndsIn fun a w => Q .normal a w) S l.toArray.size (Array.replicate l.toArray.size false) a w.drew) : (Code.region id l.toArray true).wpIn (Fence.wide.inRound lp) n P Q a w :=
  wpIn_region_any hm (anyIn_of (Q0 := EndsIn fun a w => Q .normal a w) (Q := Q) (noDefer_spec hnd) (fun _ _ _ h => h) (fun ⟨_, _, h⟩ => h) (fun _ _ h => h) _ _ _ _ (wpAny_of_held _ _ _ _ h))
end
theorem if_t {c : Prop} [Decidable c] {A B : Prop} (hc : c) (h : A) : if c then A else B := by rw [if_pos hc]; exact h
end Go.Proofs.Ytbgfpmnicpmieaa

/- Conf of the code's log: the walk. -/
namespace Go.Proofs.Ytbgfpmnicpmieaa
open Go Go.RowKit Go.Shelf Go.Sort
attribute [local go_sem] Oper.semAt_some
set_option linter.unusedVariables false
set_option linter.unusedSimpArgs false
set_option maxRecDepth 100000
set_option maxHeartbeats 4000000
theorem Rd.far {w : World} {a : Option Addr} {n M : Nat} {l : List Int} (h : Rd w a n l) (hne : 0 < n → ∀ q, a = some q → M ≤ q.block) {p : Addr} (hp : p.block < M) (v : Value) : Rd (w.setCell p v) a n l := by
  refine ⟨h.1, ?_⟩
  rcases h.2 with h0 | ⟨b, off, e, hc⟩
  · exact .inl h0
  · refine .inr ⟨b, off, e, fun j hj => ?_⟩
    have := hne (by omega) _ e
    rw [World.cell?_setCell_far _ _ _ _ (by show p.block ≠ b; intro e2; simp at this; omega)]
    exact hc j hj
theorem conf_ends {W w7 : World} {s m : Nat} {y : Ent} {a6 a7 : Option Addr} {k6 k7 : Nat} (hm : m = s + 3) (hmW : m ≤ W.heap.size) (hb : Below W.heap.size W w7) (hs0 : W.heap[s]? = some (.cells #[.slice none 0 0, .slice none 0 0] 35 (0, 0))) (hs1 : W.heap[s + 1]? = some (.cells #[.int .i64 0] 3 (0, 0)))
    (h6 : Rd w7 a6 y.vn y.V) (h7 : Rd w7 a7 y.ln y.L) (n6 : 0 < y.vn → ∀ q, a6 = some q → W.heap.size ≤ q.block) (n7 : 0 < y.ln → ∀ q, a7 = some q → W.heap.size ≤ q.block) :
    KeepsFrom m W (((w7.setCell ⟨s, 0, none⟩ (.slice a6 y.vn k6)).setCell ⟨s, 1, none⟩ (.slice a7 y.ln k7)).setCell ⟨s + 1, 0, none⟩ (.int .i64 y.i)) ∧
    RB2 s y (((w7.setCell ⟨s, 0, none⟩ (.slice a6 y.vn k6)).setCell ⟨s, 1, none⟩ (.slice a7 y.ln k7)).setCell ⟨s + 1, 0, none⟩ (.int .i64 y.i)) ∧
    Below s W (((w7.setCell ⟨s, 0, none⟩ (.slice a6 y.vn k6)).setCell ⟨s, 1, none⟩ (.slice a7 y.ln k7)).setCell ⟨s + 1, 0, none⟩ (.int .i64 y.i)) := by
  have hsz := hb.size
  have e0 := (hb.block s (by omega)).trans hs0
  have e1 := (hb.block (s + 1) (by omega)).trans hs1
  have f1 : ((w7.setCell ⟨s, 0, none⟩ (.slice a6 y.vn k6)).setCell ⟨s, 1, none⟩ (.slice a7 y.ln k7)).heap[s]? = some (.cells #[.slice a6 y.vn k6, .slice a7 y.ln k7] 35 (0, 0)) := by
    simp [World.setCell, Array.getElem?_modify, e0]
  have f2 : ((w7.setCell ⟨s, 0, none⟩ (.slice a6 y.vn k6)).setCell ⟨s, 1, none⟩ (.slice a7 y.ln k7)).heap[s + 1]? = some (.cells #[.int .i64 0] 3 (0, 0)) := by
    rw [Below.heap_setCell _ _ _ _ (by show s + 1 ≠ s; omega), Below.heap_setCell _ _ _ _ (by show s + 1 ≠ s; omega)]; exact e1
  refine ⟨⟨by simpa [World.setCell] using hsz, fun k o hk hko _ => ?_⟩, ⟨a6, k6, a7, k7, ?_, ?_, ?_, ?_⟩, ?_⟩
  · have hkl := (Array.getElem?_eq_some_iff.1 hko).1
    rw [Below.heap_setCell _ _ _ _ (by show k ≠ s + 1; omega), Below.heap_setCell _ _ _ _ (by show k ≠ s; omega), Below.heap_setCell _ _ _ _ (by show k ≠ s; omega)]
    exact (hb.block k hkl).trans hko
  · rw [Below.heap_setCell _ _ _ _ (by show s ≠ s + 1; omega)]; exact f1
  · simp only [World.setCell, Array.getElem?_modify]
    simp only [World.setCell, Array.getElem?_modify] at f2
    rw [f2]; simp
  · exact ((h6.far n6 (p := ⟨s, 0, none⟩) (by show s < _; omega) _).far n6 (p := ⟨s, 1, none⟩) (by show s < _; omega) _).far n6 (p := ⟨s + 1, 0, none⟩) (by show s + 1 < _; omega) _
  · exact ((h7.far n7 (p := ⟨s, 0, none⟩) (by show s < _; omega) _).far n7 (p := ⟨s, 1, none⟩) (by show s < _; omega) _).far n7 (p := ⟨s + 1, 0, none⟩) (by show s + 1 < _; omega) _
  · exact (((hb.mono (B' := s) (by omega)).setCell (p := ⟨s, 0, none⟩) (Nat.le_refl _) _).setCell (p := ⟨s, 1, none⟩) (Nat.le_refl _) _).setCell (p := ⟨s + 1, 0, none⟩) (by show s ≤ s + 1; omega) _
theorem conf_any (m b : Nat) (l : Lg) (es : List Ent) (w : World) (hg : LG w m b l es) (hi : l.is = true) (hsm : l.n ≤ 1000) (hk : EKs w es) (hsz : ∀ e, e ∈ es → e.vn ≤ 1000 ∧ e.ln ≤ 1000) :
    Calls Try.prog 28 #[.pointer (some ⟨b, 0, none⟩)] w (ConfP w (cnfE es)) := by
  have L0 : Hid (Below w.heap.size w ((w.alloc (.cells #[.slice none 0 0, .slice none 0 0] 35)).alloc (.cells #[.int .i64 0] 3))) := ((Below.refl _ w).alloc (Nat.le_refl _) _).alloc (by simp) _
  have G0 := Lib.hid (hg.below (Nat.le_refl _) L0.out)
  have HM := Lib.hid (made_any b l _ G0.out.lb)
  have HI := Lib.hid hi
  have HG := Lib.hid hg
  have HEL := Lib.hid hg.len
  have HRd : Hid (∀ x, Rd w (es.getD x default).va (es.getD x default).vn (es.getD x default).V ∧ Rd w (es.getD x default).la (es.getD x default).ln (es.getD x default).L ∧ (es.getD x default).vn ≤ 1000 ∧ (es.getD x default).ln ≤ 1000) := by
    show ∀ x, _
    intro x
    by_cases hx : x < es.length
    · exact ⟨(hk.at hx).v, (hk.at hx).l, (hsz _ (getD_mem hx)).1, (hsz _ (getD_mem hx)).2⟩
    · rw [List.getD_eq_getElem?_getD, List.getElem?_eq_none (by omega)]
      exact ⟨⟨rfl, .inl rfl⟩, ⟨rfl, .inl rfl⟩, Nat.zero_le _, Nat.zero_le _⟩
  clear hg hi hk hsz
  refine (callsIn_wide (n := 4)).1 ?_
  refine callsIn_of_wp_marks Try.func28 rfl trivial ?_ rfl
  simp only [Try.ntmps28, List.size_toArray, List.length_cons, List.length_nil, Nat.reduceAdd, Nat.reduceSub, Array.replicate_succ, Array.replicate_zero, List.push_toArray, List.append_toArray, List.nil_append, List.cons_append]
  refine wpIn_wide.2 ?_
  go_wp2_with fail
  refine HM.out.mono ?_
  rintro e w' ⟨rfl, rfl⟩
  rw [HI.out]
  have c2 := G0.out.lb.c2
  go_wp2_with fail
  refine (back_any _ _ _ _).mono ?_
  rintro e w' ⟨rfl, rfl⟩
  clear c2
  go_wp2_with fail
  refine (wpIn_wide (n := 4)).1 ?_
  obtain ⟨s, hs⟩ : ∃ s, s = w.heap.size := ⟨_, rfl⟩
  rw [← hs]
  obtain ⟨W0, hW0⟩ : ∃ W0, (((w.alloc (Obj.cells #[Value.slice none 0 0, Value.slice none 0 0] 35)).alloc (Obj.cells #[Value.int IntKind.i64 0] 3)).alloc (Obj.cells #[Value.slice l.a l.n l.c] 22)) = W0 := ⟨_, rfl⟩
  have hz : W0.heap.size = s + 3 := by rw [← hW0]; simp [hs]
  have b0 : W0.heap[s]? = some (.cells #[.slice none 0 0, .slice none 0 0] 35 (0, 0)) := by
    rw [← hW0, hs, Below.heap_alloc _ _ _ (by simp; omega), Below.heap_alloc _ _ _ (by simp)]; exact heap_alloc_new w _
  have b1 : W0.heap[s + 1]? = some (.cells #[.int .i64 0] 3 (0, 0)) := by
    rw [← hW0, hs, Below.heap_alloc _ _ _ (by simp)]
    have h := heap_alloc_new (w.alloc (Obj.cells #[Value.slice none 0 0, Value.slice none 0 0] 35)) (Obj.cells #[Value.int IntKind.i64 0] 3)
    rwa [World.size_alloc] at h
  have bS : W0.heap[s + 1 + 1]? = some (.cells #[.slice l.a l.n l.c] 22 (0, 0)) := by
    have h := heap_alloc_new ((w.alloc (Obj.cells #[Value.slice none 0 0, Value.slice none 0 0] 35)).alloc (Obj.cells #[Value.int IntKind.i64 0] 3)) (Obj.cells #[Value.slice l.a l.n l.c] 22)
    rw [World.size_alloc, World.size_alloc, hW0, ← hs] at h; exact h
  have hB0 : Below s w W0 := by
    rw [← hW0, hs]; exact L0.out.alloc (by simp; omega) _
  rw [hW0]
  have HS := Lib.hid hs
  have hER : ER W0 l.a l.n es := HG.out.er.keep (Nat.le_of_eq hs.symm) hB0
  clear hs hW0
  refine wpIn_rangeFunc_ownH (n := 4) rfl (by omega) (gf := 66) (lb := #[.pointer (some ⟨s + 1 + 1, 0, none⟩)]) rfl trivial (enters_of Try.func66 (by kernel_rfl) rfl)
    (iter_stops 3 (by omega) (s + 1 + 1) l.a l.n l.c es hsm W0 bS hER) Kp.t (Kp.b (Nat.le_refl _)) (Below.refl _ _) (fun _ => rfl)
    (fun pre W => (∀ p, p ∈ pre → (es.getD p default).k ≠ 3) ∧ Below W0.heap.size W0 W)
    (fun c pre W => (c = .ret ∧ ∃ q x, pre = q ++ [x] ∧ (∀ p, p ∈ q → (es.getD p default).k ≠ 3) ∧ (es.getD x default).k = 3) ∧ RB2 s (es.getD (pre.getLastD 0) default) W ∧ Below s w W)
    (OwnFrom.and (ownFrom_pure _ (fun pre : List Nat => ∀ p, p ∈ pre → (es.getD p default).k ≠ 3)) (ownFrom_below (Nat.le_refl _) (Nat.le_refl _)))
    (fun c => OwnFrom.and (ownFrom_pure _ (fun pre : List Nat => c = .ret ∧ ∃ q x, pre = q ++ [x] ∧ (∀ p, p ∈ q → (es.getD p default).k ≠ 3) ∧ (es.getD x default).k = 3)) (OwnFrom.and (Own.from (rb2_own s (fun pre : List Nat => es.getD (pre.getLastD 0) default)) _) (ownFrom_below (by rw [HS.out]; exact Nat.le_refl _) (by omega))))
    ⟨fun p h => absurd h (List.not_mem_nil), Below.refl _ _⟩
    (fun x a' W => ∃ B, W0.heap.size ≤ B ∧ a' = { tmps := #[Value.pointer (some { block := b, off := 0 }), undef, Value.pointer (some { block := s, off := 0 }),
          Value.pointer (some { block := s + 1, off := 0 }), undef, Value.pointer (some { block := B, off := 0 }),
          Value.pointer (some { block := b, off := 0 }), Value.bool true, Value.bool false, undef,
          Value.pointer (some { block := b, off := 0 }), Value.pointer (some { block := b, off := 0 }),
          Value.pointer (some { block := b, off := 2 }), Value.slice l.a l.n l.c,
          Value.func (Fn.func 66) #[] #[Value.pointer (some { block := s + 1 + 1, off := 0 })], .int .i64 (x : Int), (es.getD x default).v,
          undef, undef, undef, undef, undef, undef, undef, undef, undef, undef, undef, undef, undef, undef, undef], defers := [] } ∧ BX B (es.getD x default) W)
    (fun x a' => by
      rintro _ W W' row ⟨B, h1, h2, h3⟩ hg hr
      exact ⟨B, h1, h2, bx_own (β := Unit) B _ () W W' row h3 hg (fun r e => (hr r e).2)⟩) ?assign ?body ?done ?stop
  case assign =>
    intro lp pre x W K hI hK
    gi_wp2
    exact hK _ _ ((KeepsOthers.alloc W _).from _) (fun j hj => Below.heap_alloc W _ j (by have := hI.2.size; omega)) ⟨hI.1, hI.2.alloc hI.2.size _⟩ ⟨W.heap.size, hI.2.size, rfl, heap_alloc_new W _⟩
  case body =>
    rintro lp pre x a' W hl hlr ⟨hne, hB⟩ ⟨B, hBB, rfl, hbx⟩ hlt
    obtain ⟨y, hy⟩ : ∃ y, y = es.getD x default := ⟨_, rfl⟩
    have hrd := HRd.out x
    rw [← hy] at hbx hrd ⊢
    have HY := Lib.hid hy
    have HNE := Lib.hid hne
    have HBX := Lib.hid hbx
    have hx0 : W.cell? ⟨B, 0, none⟩ = some (.int .i64 y.i) := by unfold BX at hbx; simp [World.cell?, hbx]
    have hx2 : W.cell? ⟨B, 2, none⟩ = some (.int .i64 y.k) := by unfold BX at hbx; simp [World.cell?, hbx]
    have hx11 : W.cell? ⟨B, 11, none⟩ = some (.slice y.va y.vn y.vc) := by unfold BX at hbx; simp [World.cell?, hbx]
    have hx12 : W.cell? ⟨B, 12, none⟩ = some (.slice y.la y.ln y.lc) := by unfold BX at hbx; simp [World.cell?, hbx]
    have hBw : B < W.heap.size := cell_block_lt hx0
    have hs0 := (hB.block s (by omega)).trans b0
    have hs1 := (hB.block (s + 1) (by omega)).trans b1
    clear hy hbx hne b0 b1 bS hER
    by_cases c3 : y.k = 3
    rotate_left
    · have d3 : (y.k == 3) = false := by simpa using c3
      have C3 := Lib.hid c3
      clear c3
      gi_wp2
      refine ⟨KeepsFrom.refl _ _, Kp.refl _ _, fun p hp => ?_, hB⟩
      rcases List.mem_append.1 hp with h | h
      · exact HNE.out p h
      · rw [List.mem_singleton] at h; subst h; rw [← HY.out]; exact C3.out
    have d3 : (y.k == 3) = true := by simpa using c3
    have C3 := Lib.hid c3
    have hBw0 : Below s w W := hB0.trans (hB.mono (by omega))
    have HV : Hid (Rd W y.va y.vn y.V) := hrd.1.keep (Nat.le_of_eq HS.out.symm) hBw0
    have HL : Hid (Rd W y.la y.ln y.L) := hrd.2.1.keep (Nat.le_of_eq HS.out.symm) hBw0
    have hvn := hrd.2.2.1
    have hln := hrd.2.2.2
    have hs0c : W.cell? ⟨s, 0, none⟩ = some (.slice none 0 0) := by simp [World.cell?, hs0]
    have hs0d : W.cell? ⟨s, 1, none⟩ = some (.slice none 0 0) := by simp [World.cell?, hs0]
    have hs1c : W.cell? ⟨s + 1, 0, none⟩ = some (.int .i64 0) := by simp [World.cell?, hs1]
    have hf0 : W.frozen? ⟨s, 0, none⟩ = false := by simp [World.frozen?, hs0]
    have hf1 : W.frozen? ⟨s, 1, none⟩ = false := by simp [World.frozen?, hs0]
    have hf2 : W.frozen? ⟨s + 1, 0, none⟩ = false := by simp [World.frozen?, hs1]
    have mx : Try.prog.follows .mixedOrders = true := by kernel_rfl
    have hfn : Fence.wide.fn 60 := trivial
    have hn2 : 1 ≤ 4 - 1 - 1 := by omega
    clear c3 hrd
    gi_wp2
    have hS : (fun V : World => V.cell? ⟨B, 0, none⟩ = some (.int .i64 y.i) ∧ V.cell? ⟨B, 11, none⟩ = some (.slice y.va y.vn y.vc) ∧ V.cell? ⟨B, 12, none⟩ = some (.slice y.la y.ln y.lc)) W.drew := ⟨hx0, hx11, hx12⟩
    refine region_in_round (fun V : World => V.cell? ⟨B, 0, none⟩ = some (.int .i64 y.i) ∧ V.cell? ⟨B, 11, none⟩ = some (.slice y.va y.vn y.vc) ∧ V.cell? ⟨B, 12, none⟩ = some (.slice y.la y.ln y.lc)) (by kernel_rfl) mx ?_
    refine wpAnyH_take (i := 0) (v := .pointer (some ⟨B, 11, none⟩)) rfl (by kernel_rfl) (by kernel_rfl) (by kernel_rfl) (fun _ _ _ h => h) (.inl ⟨rfl, fun V hV => by simp [execOp, go_sem]⟩) hS ?_
    simp only [Act.put, List.setIfInBounds_toArray, List.set_cons_succ, List.set_cons_zero]
    refine wpAnyH_take (i := 1) (v := .pointer (some ⟨B, 11, none⟩)) rfl (by kernel_rfl) (by kernel_rfl) (by kernel_rfl) (fun _ _ _ h => h) (.inl ⟨rfl, fun V hV => by simp [execOp, go_sem]⟩) hS ?_
    simp only [Act.put, List.setIfInBounds_toArray, List.set_cons_succ, List.set_cons_zero]
    refine wpAnyH_take (i := 2) (v := .slice y.va y.vn y.vc) rfl (by kernel_rfl) (by kernel_rfl) (by kernel_rfl) (fun _ _ _ h => h) (.inl ⟨rfl, fun V hV => by have h9 := hV.2.1; simp [execOp, go_sem, h9]⟩) hS ?_
    simp only [Act.put, List.setIfInBounds_toArray, List.set_cons_succ, List.set_cons_zero]
    refine wpAnyH_take (i := 4) (v := .pointer (some ⟨B, 11, none⟩)) rfl (by kernel_rfl) (by kernel_rfl) (by kernel_rfl) (fun _ _ _ h => h) (.inl ⟨rfl, fun V hV => by simp [execOp, go_sem]⟩) hS ?_
    simp only [Act.put, List.setIfInBounds_toArray, List.set_cons_succ, List.set_cons_zero]
    refine wpAnyH_take (i := 5) (v := .pointer (some ⟨B, 12, none⟩)) rfl (by kernel_rfl) (by kernel_rfl) (by kernel_rfl) (fun _ _ _ h => h) (.inl ⟨rfl, fun V hV => by simp [execOp, go_sem]⟩) hS ?_
    simp only [Act.put, List.setIfInBounds_toArray, List.set_cons_succ, List.set_cons_zero]
    refine wpAnyH_take (i := 6) (v := .slice y.la y.ln y.lc) rfl (by kernel_rfl) (by kernel_rfl) (by kernel_rfl) (fun _ _ _ h => h) (.inl ⟨rfl, fun V hV => by have h9 := hV.2.2; simp [execOp, go_sem, h9]⟩) hS ?_
    simp only [Act.put, List.setIfInBounds_toArray, List.set_cons_succ, List.set_cons_zero]
    refine wpAnyH_take (i := 9) (v := .pointer (some ⟨B, 0, none⟩)) rfl (by kernel_rfl) (by kernel_rfl) (by kernel_rfl) (fun _ _ _ h => h) (.inl ⟨rfl, fun V hV => by simp [execOp, go_sem]⟩) hS ?_
    simp only [Act.put, List.setIfInBounds_toArray, List.set_cons_succ, List.set_cons_zero]
    refine wpAnyH_take (i := 10) (v := .int .i64 y.i) rfl (by kernel_rfl) (by kernel_rfl) (by kernel_rfl) (fun _ _ _ h => h) (.inl ⟨rfl, fun V hV => by have h9 := hV.1; simp [execOp, go_sem, h9]⟩) hS ?_
    simp only [Act.put, List.setIfInBounds_toArray, List.set_cons_succ, List.set_cons_zero]
    refine wpAnyH_ready (rs := [3]) (by kernel_rfl) (by simp) (AllReadyH.cons (o := { dst := some 23, op := Op.call { callee := Callee.value (Operand.func 60), args := #[Operand.tmp 22], argTypes := #[33] }, type := 33, pos := "rlog.go:241", after := #[{ on := 2, ground := Ground.data }], guard := none }) rfl (fun K hK => ?_) AllReadyH.nil)
    refine if_t (by kernel_rfl) ?_
    unfold Oper.wp
    simp [execOp, go_sem]
    refine (cloneI_any y.va y.vn y.vc y.V W.drew (HV.out.keep (Nat.le_refl _) (Below.refl _ _).drew) hvn).mono ?_
    rintro e w6 ⟨a6, k6, rfl, hr6, hb6, hn6⟩
    have hb6' : Below W.heap.size W w6 := (Below.refl W.heap.size W).drew.trans hb6
    refine hK.out _ _ ⟨kept_low hb6' (Nat.le_refl _) hx0, kept_low hb6' (Nat.le_refl _) hx11, kept_low hb6' (Nat.le_refl _) hx12⟩ (fun hS6 => ?_)
    clear hK K
    try simp only [Act.put, List.setIfInBounds_toArray, List.set_cons_succ, List.set_cons_zero]
    refine wpAnyH_ready (rs := [7]) (by kernel_rfl) (by simp) (AllReadyH.cons (o := { dst := some 27, op := Op.call { callee := Callee.value (Operand.func 60), args := #[Operand.tmp 26], argTypes := #[33] }, type := 33, pos := "rlog.go:241", after := #[{ on := 6, ground := Ground.data }, { on := 3, ground := Ground.chain }], guard := none }) rfl (fun K hK => ?_) AllReadyH.nil)
    refine if_t (by kernel_rfl) ?_
    unfold Oper.wp
    simp [execOp, go_sem]
    refine (cloneI_any y.la y.ln y.lc y.L w6 (HL.out.keep (Nat.le_refl _) hb6') hln).mono ?_
    rintro e w7 ⟨a7, k7, rfl, hr7, hb7, hn7⟩
    have hb7' : Below W.heap.size W w7 := hb6'.trans (hb7.mono hb6'.size)
    refine hK.out _ _ ⟨kept_low hb7' (Nat.le_refl _) hx0, kept_low hb7' (Nat.le_refl _) hx11, kept_low hb7' (Nat.le_refl _) hx12⟩ (fun hS7 => ?_)
    clear hK K
    try simp only [Act.put, List.setIfInBounds_toArray, List.set_cons_succ, List.set_cons_zero]
    refine wpAnyH_take (i := 8) (v := .agg #[.slice a6 y.vn k6, .slice a7 y.ln k7]) rfl (by kernel_rfl) (by kernel_rfl) (by kernel_rfl) (fun _ _ _ h => h) (.inl ⟨rfl, fun V hV => by simp [execOp, go_sem]⟩) hS7 ?_
    simp only [Act.put, List.setIfInBounds_toArray, List.set_cons_succ, List.set_cons_zero]
    have s0c := kept_low hb7' (Nat.le_refl _) hs0c
    have s0d := kept_low hb7' (Nat.le_refl _) hs0d
    have s1c := kept_low hb7' (Nat.le_refl _) hs1c
    have g0 : w7.frozen? ⟨s, 0, none⟩ = false := (hb7'.frozen (p := ⟨s, 0, none⟩) (by show s < _; omega)).trans hf0
    have g1 : w7.frozen? ⟨s, 1, none⟩ = false := (hb7'.frozen (p := ⟨s, 1, none⟩) (by show s < _; omega)).trans hf1
    have g2 : w7.frozen? ⟨s + 1, 0, none⟩ = false := (hb7'.frozen (p := ⟨s + 1, 0, none⟩) (by show s + 1 < _; omega)).trans hf2
    refine wpAnyH_ready (rs := [11]) (by kernel_rfl) (by simp) (AllReadyH.cons (o := { dst := none, op := Op.store 35 (Operand.tmp 2) (Operand.tmp 28), type := 0, pos := "rlog.go:241", after := #[{ on := 8, ground := Ground.data }, { on := 7, ground := Ground.chain }, { on := 0, ground := Ground.phase }, { on := 1, ground := Ground.phase }, { on := 2, ground := Ground.phase }, { on := 3, ground := Ground.phase }, { on := 4, ground := Ground.phase }, { on := 5, ground := Ground.phase }, { on := 6, ground := Ground.phase }, { on := 7, ground := Ground.phase }, { on := 8, ground := Ground.phase }, { on := 9, ground := Ground.textOnly Departure.lateStores }, { on := 10, ground := Ground.textOnly Departure.lateStores }], guard := none }) rfl (fun K hK => ?_) AllReadyH.nil)
    refine if_t (by kernel_rfl) ?_
    unfold Oper.wp
    simp [execOp, go_sem, s0c, s0d, g0, g1]
    have hbs : s ≠ B := by omega
    have hbs1 : s + 1 ≠ B := by omega
    have hf8 : ∀ (p : Addr) (v : Value) (V : World) (o : Nat), p.block ≠ B → (V.setCell p v).cell? ⟨B, o, none⟩ = V.cell? ⟨B, o, none⟩ := fun p v V o h => World.cell?_setCell_far V p _ v h
    refine hK.out _ _ ⟨?_, ?_, ?_⟩ (fun hS8 => ?_)
    · rw [hf8 _ _ _ _ hbs, hf8 _ _ _ _ hbs]; exact hS7.1
    · rw [hf8 _ _ _ _ hbs, hf8 _ _ _ _ hbs]; exact hS7.2.1
    · rw [hf8 _ _ _ _ hbs, hf8 _ _ _ _ hbs]; exact hS7.2.2
    clear hK K
    try simp only [Act.put, List.setIfInBounds_toArray, List.set_cons_succ, List.set_cons_zero]
    refine wpAnyH_ready (rs := [12]) (by kernel_rfl) (by simp) (AllReadyH.cons (o := { dst := none, op := Op.store 3 (Operand.tmp 3) (Operand.tmp 30), type := 0, pos := "rlog.go:241", after := #[{ on := 10, ground := Ground.data }, { on := 11, ground := Ground.chain }, { on := 0, ground := Ground.phase }, { on := 1, ground := Ground.phase }, { on := 2, ground := Ground.phase }, { on := 3, ground := Ground.phase }, { on := 4, ground := Ground.phase }, { on := 5, ground := Ground.phase }, { on := 6, ground := Ground.phase }, { on := 7, ground := Ground.phase }, { on := 8, ground := Ground.phase }, { on := 9, ground := Ground.phase }, { on := 10, ground := Ground.phase }, { on := 11, ground := Ground.phase }], guard := none }) rfl (fun K hK => ?_) AllReadyH.nil)
    refine if_t (by kernel_rfl) ?_
    unfold Oper.wp
    simp [execOp, go_sem, s1c, g2]
    refine hK.out _ _ ⟨?_, ?_, ?_⟩ (fun hS9 => ?_)
    · rw [hf8 _ _ _ _ hbs1]; exact hS8.1
    · rw [hf8 _ _ _ _ hbs1]; exact hS8.2.1
    · rw [hf8 _ _ _ _ hbs1]; exact hS8.2.2
    clear hK K
    try simp only [Act.put, List.setIfInBounds_toArray, List.set_cons_succ, List.set_cons_zero]
    refine wpAnyH_done (by kernel_rfl) ?_ _
    show _
    clear hS hS6 hS7 hS8 hS9 hf8
    unfold EndsIn
    gi_wp2
    obtain ⟨t1, t2, t3⟩ := conf_ends (k6 := k6) (k7 := k7) hz hB.size hb7' hs0 hs1 (hr6.keep (Nat.le_refl _) hb7) hr7 hn6 (fun h q e => Nat.le_trans hb6'.size (hn7 h q e))
    refine ⟨t1, ⟨rfl, pre, x, rfl, HNE.out, by rw [← HY.out]; exact C3.out⟩, ?_, hBw0.trans t3⟩
    have hlast : (pre ++ [x]).getLastD 0 = x := by simp
    rw [hlast, ← HY.out]
    exact t2
  case done =>
    rintro D ys W hD rfl ⟨hne, hB⟩ hK
    have hs0 := (hB.block s (by omega)).trans b0
    have hs1 := (hB.block (s + 1) (by omega)).trans b1
    have hs0c : W.cell? ⟨s, 0, none⟩ = some (.slice none 0 0) := by simp [World.cell?, hs0]
    have hs0d : W.cell? ⟨s, 1, none⟩ = some (.slice none 0 0) := by simp [World.cell?, hs0]
    have hs1c : W.cell? ⟨s + 1, 0, none⟩ = some (.int .i64 0) := by simp [World.cell?, hs1]
    have hf0 : W.frozen? ⟨s, 0, none⟩ = false := by simp [World.frozen?, hs0]
    have hf1 : W.frozen? ⟨s, 1, none⟩ = false := by simp [World.frozen?, hs0]
    have hf2 : W.frozen? ⟨s + 1, 0, none⟩ = false := by simp [World.frozen?, hs1]
    gi_wp2
    go_wp2_with fail
    have hK2 : (((W.setCell ⟨s, 0, none⟩ (.slice none 0 0)).setCell ⟨s, 1, none⟩ (.slice none 0 0)).setCell ⟨s + 1, 0, none⟩ (.int .i64 0)).heap[D]? = some (.deferred (some [])) := by
      rw [Below.heap_setCell _ _ _ _ (by show D ≠ s + 1; omega), Below.heap_setCell _ _ _ _ (by show D ≠ s; omega), Below.heap_setCell _ _ _ _ (by show D ≠ s; omega)]; exact hK
    refine ⟨by simp, .inl ⟨_, _, rfl, run_takeDeferred hK2, ?_⟩⟩
    have hR2 : RB2 s default (((W.setCell ⟨s, 0, none⟩ (.slice none 0 0)).setCell ⟨s, 1, none⟩ (.slice none 0 0)).setCell ⟨s + 1, 0, none⟩ (.int .i64 0)) := by
      refine ⟨none, 0, none, 0, ?_, ?_, ⟨rfl, .inl rfl⟩, ⟨rfl, .inl rfl⟩⟩
      · rw [Below.heap_setCell _ _ _ _ (by show s ≠ s + 1; omega)]
        simp [World.setCell, Array.getElem?_modify, hs0]
        exact ⟨rfl, rfl⟩
      · have f2 : ((W.setCell ⟨s, 0, none⟩ (.slice none 0 0)).setCell ⟨s, 1, none⟩ (.slice none 0 0)).heap[s + 1]? = some (.cells #[.int .i64 0] 3 (0, 0)) := by
          rw [Below.heap_setCell _ _ _ _ (by show s + 1 ≠ s; omega), Below.heap_setCell _ _ _ _ (by show s + 1 ≠ s; omega)]; exact hs1
        simp only [World.setCell, Array.getElem?_modify]
        simp only [World.setCell, Array.getElem?_modify] at f2
        rw [f2]; simp
        rfl
    have hB2 : Below s w (((W.setCell ⟨s, 0, none⟩ (.slice none 0 0)).setCell ⟨s, 1, none⟩ (.slice none 0 0)).setCell ⟨s + 1, 0, none⟩ (.int .i64 0)) := (((hB0.trans (hB.mono (by omega))).setCell (p := ⟨s, 0, none⟩) (Nat.le_refl _) _).setCell (p := ⟨s, 1, none⟩) (Nat.le_refl _) _).setCell (p := ⟨s + 1, 0, none⟩) (by show s ≤ s + 1; omega) _
    have hE : cnfE es = default := by
      unfold cnfE
      rw [HEL.out]; exact bk_none es _ hne
    rw [← hE] at hR2
    generalize ((W.setCell ⟨s, 0, none⟩ (.slice none 0 0)).setCell ⟨s, 1, none⟩ (.slice none 0 0)).setCell ⟨s + 1, 0, none⟩ (.int .i64 0) = W1 at *
    have hB3 : Below s w (W1.putObj D (.deferred none)) := hB2.trans (belowK_b (w := W0) (by omega) W1 D _ _ hD hK2 rfl rfl)
    have hR3 : RB2 s (cnfE es) (W1.putObj D (.deferred none)) := Own.putObj (rb2_own s (fun _ : Unit => cnfE es)) (s := ()) _ hR2 hK2 rfl
    obtain ⟨va, vc, la, lc, z1, z2, z3, z4⟩ := hR3
    have r0 : (W1.putObj D (.deferred none)).cell? ⟨s, 0, none⟩ = some (.slice va (cnfE es).vn vc) := by simp [World.cell?, z1]
    have r1 : (W1.putObj D (.deferred none)).cell? ⟨s, 1, none⟩ = some (.slice la (cnfE es).ln lc) := by simp [World.cell?, z1]
    have r2 : (W1.putObj D (.deferred none)).cell? ⟨s + 1, 0, none⟩ = some (.int .i64 (cnfE es).i) := by simp [World.cell?, z2]
    refine ⟨.tuple #[.agg #[.slice va (cnfE es).vn vc, .slice la (cnfE es).ln lc], .int .i64 (cnfE es).i], ?_, ?_⟩
    · simp [results, Try.results28, go_sem, r0, r1, r2]
    · exact ⟨va, vc, la, lc, rfl, z3, z4, by rw [← HS.out]; exact hB3⟩
  case stop =>
    rintro D c pre W hD hpre ⟨⟨rfl, q, x, rfl, hq, hx3⟩, hR, hB⟩ hK
    have hE : cnfE es = es.getD x default := by
      obtain ⟨r, hr⟩ := hpre
      unfold cnfE
      rw [HEL.out]
      exact bk_first es l.n q r x (by rw [← hr]; simp) hq hx3
    have hlast : (q ++ [x]).getLastD 0 = x := by simp
    rw [hlast, ← hE] at hR
    gi_wp2
    refine ⟨by simp, .inl ⟨_, _, rfl, run_takeDeferred hK, ?_⟩⟩
    have hB3 : Below s w (W.putObj D (.deferred none)) := hB.trans (belowK_b (w := W0) (by omega) W D _ _ hD hK rfl rfl)
    have hR3 : RB2 s (cnfE es) (W.putObj D (.deferred none)) := Own.putObj (rb2_own s (fun _ : Unit => cnfE es)) (s := ()) _ hR hK rfl
    obtain ⟨va, vc, la, lc, z1, z2, z3, z4⟩ := hR3
    have r0 : (W.putObj D (.deferred none)).cell? ⟨s, 0, none⟩ = some (.slice va (cnfE es).vn vc) := by simp [World.cell?, z1]
    have r1 : (W.putObj D (.deferred none)).cell? ⟨s, 1, none⟩ = some (.slice la (cnfE es).ln lc) := by simp [World.cell?, z1]
    have r2 : (W.putObj D (.deferred none)).cell? ⟨s + 1, 0, none⟩ = some (.int .i64 (cnfE es).i) := by simp [World.cell?, z2]
    refine ⟨.tuple #[.agg #[.slice va (cnfE es).vn vc, .slice la (cnfE es).ln lc], .int .i64 (cnfE es).i], ?_, ?_⟩
    · simp [results, Try.results28, go_sem, r0, r1, r2]
    · exact ⟨va, vc, la, lc, rfl, z3, z4, by rw [← HS.out]; exact hB3⟩
end Go.Proofs.Ytbgfpmnicpmieaa
