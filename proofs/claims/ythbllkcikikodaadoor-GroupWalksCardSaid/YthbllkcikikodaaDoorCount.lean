/- The walk of group.Count over its iterator, over this seat's program. -/
import Derived.Test.YthbllkcikikodaaDoorSets
import Derived.Test.YthbllkcikikodaaDoorRange
import Derived.Shelf.RegionOpen
import Derived.OwnWalkIn
import Derived.TacticsInMore
import Derived.LoopNIn
import Derived.LoopIn
namespace Go.Proofs.YthbllkcikikodaaDoor
open Go Go.RowKit Go.Shelf
attribute [local go_sem] Oper.semAt_some
set_option linter.unusedVariables false
set_option maxRecDepth 100000
set_option linter.unusedSimpArgs false

/-- What the iterator's variable holds, for the measure. -/
def setAt (B : Nat) (w : World) : Nat :=
  match w.cell? ⟨B, 0, none⟩ with
  | some (.int _ n) => n.toNat
  | _ => 0
theorem boxed_putObj {W : World} {B l : Nat} {t : TypeId} {v : Value} (h : Boxed W B t v) (o : Obj) (hne : B ≠ l) : Boxed (W.putObj l o) B t v := (World.putObj_heap_other hne).trans h

set_option maxHeartbeats 2000000 in
theorem count_any (x : Nat) (hx : x < 256) (w : World) : Calls Tryd.prog 13 #[.int .u8 (x : Int)] w fun e w' => e = .returned (.int .i64 (cntF x : Nat)) ∧ Below w.heap.size w w' := by
  have HX := Lib.hid hx
  clear hx
  refine (callsIn_wide (n := 3)).1 ?_
  refine callsIn_of_wp_marks Tryd.func13 rfl trivial ?_ rfl
  simp only [Tryd.ntmps13, List.size_toArray, List.length_cons, List.length_nil, Nat.reduceAdd, Nat.reduceSub, Array.replicate_succ, Array.replicate_zero, List.push_toArray, List.append_toArray, List.nil_append, List.cons_append]
  gi_wp2_with (refine ⟨trivial, ?_⟩; gi_at_call 28; refine (callsIn_wide.2 (slots_any _ _)).mono ?_; rintro e w' ⟨rfl, rfl⟩)
  obtain ⟨s, hs⟩ : ∃ s, s = w.heap.size := ⟨_, rfl⟩
  rw [← hs]
  obtain ⟨W0, hW0⟩ : ∃ W0, (w.alloc (Obj.cells #[Value.int IntKind.i64 0] 3)).alloc (Obj.cells #[Value.int IntKind.u8 (x : Int)] 5) = W0 := ⟨_, rfl⟩
  have hz : W0.heap.size = s + 2 := by rw [← hW0]; simp [hs]
  have bN : Boxed W0 s 3 (.int .i64 0) := by rw [← hW0, hs]; exact (Boxed.new w 3 _).alloc _
  have bX : Boxed W0 (s + 1) 5 (.int .u8 (x : Int)) := by
    rw [← hW0]; have := Boxed.new (w.alloc (Obj.cells #[Value.int IntKind.i64 0] 3)) 5 (.int .u8 (x : Int)); simpa [hs] using this
  have hB0 : Below s w W0 := by rw [← hW0, hs]; exact ((Below.refl _ w).alloc (Nat.le_refl _) _).alloc (by simp) _
  rw [hW0]
  have HS := Lib.hid hs
  clear hs hW0
  refine range_enter (by omega) (gf := 31) (lb := #[.pointer (some ⟨s + 1, 0, none⟩)]) rfl (enters_of Tryd.func31 (by kernel_rfl) rfl) fun fn => ?_
  generalize hr : loopRec fn _ _ _ _ _ = r
  have hrs : r.state = .ready := by rw [← hr]; rfl
  have hrp : r.pending = none := by rw [← hr]; rfl
  have hr0 : { r with state := .ready, pending := none } = r := by rw [← hr]; rfl
  have hround : ∀ (k : Nat) (v : Int) (W : World), k < 256 → Boxed W s 3 (.int .i64 k) → W.heap[W0.heap.size + 1]? = some (.loop r) →
      YieldAt Fence.wide 1 Tryd.prog (W0.heap.size + 1) #[.int .i64 v] W (fun e W' => e = .returned (.bool true) ∧ Boxed W' s 3 (.int .i64 ((k : Int) + 1)) ∧ W'.heap[W0.heap.size + 1]? = some (.loop r) ∧
        (∀ j, j ≠ s → j ≠ W0.heap.size + 1 → W'.heap[j]? = W.heap[j]?) ∧ Below s W W') := by
    intro k v W hk hb hL
    obtain ⟨W1, hW1⟩ : ∃ W1, W.putObj (W0.heap.size + 1) (.loop (busyRec r)) = W1 := ⟨_, rfl⟩
    have hb1 : Boxed W1 s 3 (.int .i64 k) := by rw [← hW1]; exact boxed_putObj hb _ (by omega)
    have hc := hb1.cell
    have hf := hb1.frozen
    have hlt := (Array.getElem?_eq_some_iff.1 hL).1
    have hl2 : W1.heap[W0.heap.size + 1]? = some (.loop (busyRec r)) := by rw [← hW1]; exact World.putObj_heap_same hlt
    refine yield_round hrs hL (by rw [← hr]; rfl) trivial { tmps := #[Value.int IntKind.u8 ↑x, undef, Value.int IntKind.i64 0, Value.pointer (some { block := s, off := 0 }), Value.int IntKind.u8 ↑x, Value.func (Fn.func 31) #[] #[Value.pointer (some { block := s + 1, off := 0 })], .int .i64 v, undef, undef, undef], defers := [] } W1 hW1 ?_ ?_
    · intro K hK
      rw [(congrArg Loop.assign hr).symm, (congrArg Loop.params hr).symm, (congrArg Loop.tmps hr).symm]
      dsimp only [loopRec]
      refine wpIn_skip ?_
      show K _ _
      simpa using hK
    · rw [(congrArg Loop.body hr).symm]
      dsimp only [loopRec]
      have hk' : (k : Int) ≤ 300 := by omega
      have HR0 := Lib.hid hr0
      have HL2 := Lib.hid hl2
      have HZ := Lib.hid hz
      have HW1 := Lib.hid hW1
      generalize W0.heap.size = D at *
      clear hr hr0 hrs hrp hW1 hl2 hL hz
      gi_wp2
      refine ⟨?_, rfl, ?_, ?_, ?_, ?_⟩
      · rw [Below.heap_setCell _ _ _ _ (by have := HZ.out; simp; omega)]; exact HL2.out
      · have := boxed_putObj (hb1.set (.int .i64 ((k : Int) + 1))) (.loop r) (l := D + 1) (by have := HZ.out; omega)
        rw [HR0.out]; exact this
      · rw [HR0.out]; exact World.putObj_heap_same (by
          have h2 := (Array.getElem?_eq_some_iff.1 HL2.out).1
          simpa [World.setCell] using h2)
      · intro j h1 h2
        rw [World.putObj_heap_other h2, Below.heap_setCell _ _ _ _ h1, ← HW1.out, World.putObj_heap_other h2]
      · have hb0 : Below s W W1 := by
          rw [← HW1.out]
          exact ⟨rfl, rfl, rfl, by simp, fun j hj => World.putObj_heap_other (by have := HZ.out; omega)⟩
        refine (hb0.setCell (p := ⟨s, 0, none⟩) (Nat.le_refl _) _).trans ⟨rfl, rfl, rfl, by simp, fun j hj => World.putObj_heap_other (by have := HZ.out; omega)⟩
  have hH0 := HX.out
  obtain ⟨W1, hW1⟩ : ∃ W1, (W0.alloc (Obj.deferred (some []))).alloc (Obj.loop r) = W1 := ⟨_, rfl⟩
  rw [hW1]
  have hL1 : W1.heap[W0.heap.size + 1]? = some (.loop r) := by
    rw [← hW1]; have := World.alloc_heap_new (W0.alloc (.deferred (some []))) (.loop r); rwa [World.size_alloc] at this
  have hD1 : W1.heap[W0.heap.size]? = some (.deferred (some [])) := by
    rw [← hW1]; exact (Below.heap_alloc _ _ _ (by simp)).trans (World.alloc_heap_new W0 _)
  have bN1 : Boxed W1 s 3 (.int .i64 ((0 : Nat) : Int)) := by rw [← hW1]; exact (bN.alloc _).alloc _
  have bX1 : Boxed W1 (s + 1) 5 (.int .u8 (x : Int)) := by rw [← hW1]; exact (bX.alloc _).alloc _
  have hB1 : Below s w W1 := by rw [← hW1]; exact (hB0.alloc (by omega) _).alloc (by simp; omega) _
  have HRS := Lib.hid hrs
  have HRP := Lib.hid hrp
  clear hW1 bN bX hB0 hrs hrp hr0 hr
  generalize W0.heap.size = D at *
  have HZ := Lib.hid hz
  clear hz
  refine callsIn_of_wp Tryd.func31 rfl trivial ?_ rfl
  simp only [Tryd.ntmps31, List.size_toArray, List.length_cons, List.length_nil, Nat.reduceAdd, Nat.reduceSub, Array.replicate_succ, Array.replicate_zero, List.push_toArray, List.append_toArray, List.nil_append, List.cons_append]
  gi_wp2
  gi_loopw [3] (fun _ wr => ∃ k y : Nat, y < 256 ∧ Hid (k + cntF y = cntF x) ∧ Boxed wr s 3 (.int .i64 k) ∧ Boxed wr (s + 1) 5 (.int .u8 (y : Int)) ∧ wr.heap[D + 1]? = some (.loop r) ∧ wr.heap[D]? = some (.deferred (some [])) ∧ Below s w wr) (fun _ wr => setAt (s + 1) wr)
  case atStart => exact ⟨0, x, HX.out, (show 0 + cntF x = cntF x by omega), bN1, bX1, hL1, hD1, hB1⟩
  case round =>
    obtain ⟨k, y, hy, HK, hN, hXx, hL, hD, hB⟩ := hrel
    have hcX := hXx.cell
    have hc8 := (sets_all ⟨y, hy⟩).2.2.2.1
    have hcx8 := (sets_all ⟨x, hH0⟩).2.2.2.1
    simp only at hc8 hcx8
    have hk8 : k < 256 := by have := HK.out; omega
    by_cases h0 : y = 0
    · subst h0
      have hk : k = cntF x := by have := HK.out; have h00 : cntF 0 = 0 := rfl; omega
      have hz0 : (((0 : Nat) : Int) != 0) = false := by simp
      have HK2 := Lib.hid hk
      clear hround hk
      gi_wp2
      refine ⟨trivial, ?_⟩
      gi_wp2
      refine ⟨fun _ _ => trivial, ?_⟩
      gi_wp2
      refine bodyPost_end (results_none rfl _ _ _) rfl ?_
      have hend := run_endLoop (P := Tryd.prog) hL (by rw [HRS.out]; simp)
      refine ⟨_, _, hend, ?_⟩
      rw [HRP.out]
      have bNe : Boxed (wr.putObj (D + 1) (.loop { r with state := .exhausted })) s 3 (.int .i64 (k : Int)) := boxed_putObj hN _ (by have := HZ.out; omega)
      have hDe : (wr.putObj (D + 1) (.loop { r with state := .exhausted })).heap[D]? = some (.deferred (some [])) := (World.putObj_heap_other (by omega)).trans hD
      have hBe : Below s w (wr.putObj (D + 1) (.loop { r with state := .exhausted })) := hB.trans ⟨rfl, rfl, rfl, by simp, fun j hj => World.putObj_heap_other (by have := HZ.out; omega)⟩
      rw [HRP.out] at bNe hDe hBe
      generalize wr.putObj (D + 1) _ = We at *
      have hce := bNe.cell
      dsimp only
      gi_wp2
      refine ⟨by simp, .inl ⟨_, _, rfl, run_takeDeferred hDe, ?_⟩⟩
      refine ⟨_, results_tmp rfl _ _ _, ?_, ?_⟩
      · rw [← HK2.out]; rfl
      · rw [← HS.out]
        exact hBe.trans ⟨rfl, rfl, rfl, by simp, fun j hj => World.putObj_heap_other (by have := HZ.out; omega)⟩
    · obtain ⟨hn1, hn2, -⟩ := sets_all ⟨y, hy⟩
      obtain ⟨hn3, hn4, hn5⟩ := hn2 h0
      simp only at hn1 hn3 hn4 hn5
      have hz0 : ((y : Int) != 0) = true := by rw [bne_iff_ne]; omega
      have hy0 := hround k (firstF y : Nat) wr hk8 hN hL
      obtain ⟨fn2, tmps, assign, body, hyy, hR⟩ := hy0
      clear hround
      gi_wp2_with (first | (refine ⟨trivial, ?_⟩; gi_at_call 9; refine (callsIn_wide.2 (first_any _ hy _)).mono ?_; rintro e w' ⟨rfl, rfl⟩))
      refine hR.mono ?_
      rintro e W3 ⟨rfl, hN3, hL3, hk3, hB3⟩
      have hX3 : Boxed W3 (s + 1) 5 (.int .u8 (y : Int)) := (hk3 _ (by omega) (by have := HZ.out; omega)).trans hXx
      have hD3 : W3.heap[D]? = some (.deferred (some [])) := (hk3 _ (by have := HZ.out; omega) (by omega)).trans hD
      have hcX3 := hX3.cell
      have hfX3 := hX3.frozen
      clear hcX hR hyy
      gi_wp2_with (first | (refine ⟨trivial, ?_⟩; gi_at_call 11; refine (callsIn_wide.2 (next_any _ hy _)).mono ?_; rintro e w' ⟨rfl, rfl⟩))
      go_roundw
      case rel =>
        refine ⟨k + 1, nextF y, hn1, (show k + 1 + cntF (nextF y) = cntF x by have := HK.out; omega), ?_, hX3.set _, ?_, ?_, (hB.trans hB3).setCell (p := ⟨s + 1, 0, none⟩) (by simp) _⟩
        · have := hN3.other (B' := s + 1) (by omega) (.int .u8 (nextF y : Nat)); simpa using this
        · rw [Below.heap_setCell _ _ _ _ (by have := HZ.out; simp; omega)]; exact hL3
        · rw [Below.heap_setCell _ _ _ _ (by have := HZ.out; simp; omega)]; exact hD3
      case measure =>
        have e1 := (hX3.set (.int .u8 (nextF y : Nat))).cell
        have e2 := hXx.cell
        simp only [setAt, e1, e2]
        simpa using hn3
end Go.Proofs.YthbllkcikikodaaDoor
