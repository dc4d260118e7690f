/- The walk of probe.At, over this seat's program. -/
import Derived.Test.YthbllkcikikodaaFns
namespace Go.Proofs.Ythbllkcikikodaa
open Go Go.RowKit Go.Shelf
attribute [local go_sem] Oper.semAt_some
set_option linter.unusedVariables false
set_option linter.unusedSimpArgs false

set_option maxRecDepth 100000 in
set_option maxHeartbeats 4000000 in
theorem at_any (h i g : Int) (h0 : 0 ≤ h) (h1 : h < 18446744073709551616) (w : World) :
    Calls Try.prog 15 #[.int .u64 h, .int .i64 i, .int .i64 g] w (fun e w' => e = .returned (.int .i64 (refAt h i g)) ∧ Below w.heap.size w w') := by
  have hlen := seqL_len h g
  refine (callsIn_wide (n := 3)).1 ?_
  refine callsIn_of_wp_marks Try.func15 rfl trivial ?_ rfl
  simp only [Try.ntmps15, List.size_toArray, List.length_cons, List.length_nil, Nat.reduceAdd, Nat.reduceSub, Array.replicate_succ, Array.replicate_zero, List.push_toArray, List.append_toArray, List.nil_append, List.cons_append]
  refine wpIn_wide.2 ?_
  go_wp2
  go_step3
  go_wp2
  go_step3
  go_wp2_with (go_at_call 18; refine (seq_any _ _ _).mono ?_; rintro e w' ⟨rfl, rfl⟩)
  refine (wpIn_wide (n := 3)).1 ?_
  obtain ⟨s, hs⟩ : ∃ s, s = w.heap.size := ⟨_, rfl⟩
  rw [← hs]
  obtain ⟨W0, hW0⟩ : ∃ W0, (((((w.alloc (Obj.cells #[Value.int IntKind.i64 i] 3)).alloc (Obj.cells #[Value.int IntKind.i64 0] 3)).alloc (Obj.cells #[Value.int IntKind.i64 0] 3)).alloc (Obj.cells #[Value.int IntKind.u64 h] 22)).alloc (Obj.cells #[Value.int IntKind.i64 g] 3)) = W0 := ⟨_, rfl⟩
  have hz : W0.heap.size = s + 5 := by rw [← hW0]; simp [hs]
  have bI : Boxed W0 s 3 (.int .i64 i) := by
    rw [← hW0, hs]; exact ((((Boxed.new w 3 _).alloc _).alloc _).alloc _).alloc _
  have bK : Boxed W0 (s + 1) 3 (.int .i64 0) := by
    rw [← hW0]; have := ((((Boxed.new (w.alloc (Obj.cells #[Value.int IntKind.i64 i] 3)) 3 (.int .i64 0)).alloc (Obj.cells #[Value.int IntKind.i64 0] 3)).alloc (Obj.cells #[Value.int IntKind.u64 h] 22)).alloc (Obj.cells #[Value.int IntKind.i64 g] 3)); simpa [hs] using this
  have bA : Boxed W0 (s + 1 + 1) 3 (.int .i64 0) := by
    rw [← hW0]; have := (((Boxed.new ((w.alloc (Obj.cells #[Value.int IntKind.i64 i] 3)).alloc (Obj.cells #[Value.int IntKind.i64 0] 3)) 3 (.int .i64 0)).alloc (Obj.cells #[Value.int IntKind.u64 h] 22)).alloc (Obj.cells #[Value.int IntKind.i64 g] 3)); simpa [hs] using this
  have bH : W0.heap[s + 1 + 1 + 1]? = some (.cells #[.int .u64 h] 22 (0, 0)) := by
    rw [← hW0]; have := ((Boxed.new (((w.alloc (Obj.cells #[Value.int IntKind.i64 i] 3)).alloc (Obj.cells #[Value.int IntKind.i64 0] 3)).alloc (Obj.cells #[Value.int IntKind.i64 0] 3)) 22 (.int .u64 h)).alloc (Obj.cells #[Value.int IntKind.i64 g] 3)); simpa [hs, Boxed] using this
  have bG : W0.heap[s + 1 + 1 + 1 + 1]? = some (.cells #[.int .i64 g] 3 (0, 0)) := by
    rw [← hW0]; have := (Boxed.new ((((w.alloc (Obj.cells #[Value.int IntKind.i64 i] 3)).alloc (Obj.cells #[Value.int IntKind.i64 0] 3)).alloc (Obj.cells #[Value.int IntKind.i64 0] 3)).alloc (Obj.cells #[Value.int IntKind.u64 h] 22)) 3 (.int .i64 g)); simpa [hs, Boxed] using this
  have hB0 : Below s w W0 := by
    rw [← hW0, hs]; exact (((((Below.refl _ w).alloc (Nat.le_refl _) _).alloc (by simp) _).alloc (by simp; omega) _).alloc (by simp; omega) _).alloc (by simp; omega) _
  rw [hW0]
  have HS := Lib.hid hs
  clear hs hW0
  refine wpIn_rangeFunc_ownG (n := 3) rfl (by omega) (gf := 19) (lb := #[.pointer (some ⟨s + 1 + 1 + 1 + 1, 0, none⟩), .pointer (some ⟨s + 1 + 1 + 1, 0, none⟩)]) rfl trivial (enters_of Try.func19 (by kernel_rfl) rfl)
    (seq_stops 2 (by omega) (s + 1 + 1 + 1 + 1) (s + 1 + 1 + 1) h g h0 h1 W0 bG bH) Kp.t (Kp.b (by omega) (by omega)) (Below.refl _ _) (fun _ => rfl)
    (fun pre W => (Boxed W s 3 (.int .i64 i) ∧ Boxed W (s + 1) 3 (.int .i64 pre.length) ∧ Boxed W (s + 1 + 1) 3 (.int .i64 0)) ∧ (∀ j : Nat, j < pre.length → (j : Int) ≠ i) ∧ Below s w W)
    (fun c pre W => Boxed W (s + 1 + 1) 3 (.int .i64 (pre.getLastD 0)) ∧ (c = .exit 0 ∧ (pre.dropLast.length : Int) = i ∧ ∃ x, pre = pre.dropLast ++ [x]) ∧ Below s w W)
    (OwnFrom.and (OwnFrom.and (Own.from (boxed_own s 3 (fun _ => .int .i64 i)) _) (OwnFrom.and (Own.from (boxed_own (s + 1) 3 (fun pre : List Int => .int .i64 pre.length)) _) (Own.from (boxed_own (s + 1 + 1) 3 (fun _ => .int .i64 0)) _)))
      (OwnFrom.and (ownFrom_pure _ (fun pre : List Int => ∀ j : Nat, j < pre.length → (j : Int) ≠ i)) (ownFrom_below (by rw [HS.out]; exact Nat.le_refl _) (by omega))))
    (fun c => OwnFrom.and (Own.from (boxed_own (s + 1 + 1) 3 (fun pre : List Int => .int .i64 (pre.getLastD 0))) _)
      (OwnFrom.and (ownFrom_pure _ (fun pre : List Int => c = .exit 0 ∧ (pre.dropLast.length : Int) = i ∧ ∃ x, pre = pre.dropLast ++ [x])) (ownFrom_below (by rw [HS.out]; exact Nat.le_refl _) (by omega))))
    ⟨⟨bI, bK, bA⟩, fun j hj => by simp at hj, hB0⟩
    (fun x => { tmps := #[Value.int IntKind.u64 h, Value.int IntKind.i64 i, Value.int IntKind.i64 g, undef,
          Value.pointer (some { block := s, off := 0 }), undef, Value.int IntKind.i64 0,
          Value.pointer (some { block := s + 1, off := 0 }),
          Value.pointer (some { block := s + 1 + 1, off := 0 }), .int .i64 x, Value.int IntKind.u64 h,
          Value.int IntKind.i64 g,
          Value.func (Fn.func 19) #[]
            #[Value.pointer (some { block := s + 1 + 1 + 1 + 1, off := 0 }),
              Value.pointer (some { block := s + 1 + 1 + 1, off := 0 })],
          .int .i64 x, undef, undef, undef, undef, undef, undef, undef], defers := [] }) ?assign ?body ?done ?stop
  case assign =>
    intro l x W K hK
    gi_wp2
    exact hK
  case body =>
    rintro l pre x W ⟨⟨hI, hk, hA⟩, hne, hB⟩ hlt
    have hcI := hI.cell
    have hcK := hk.cell
    have hcA := hA.cell
    have hfK := hk.frozen
    have hfA := hA.frozen
    have hpl : pre.length < 1024 := by omega
    by_cases hst : (pre.length : Int) = i
    · have hst' : ((pre.length : Int) == i) = true := beq_iff_eq.2 hst
      have HST := Lib.hid hst
      clear hst
      gi_wp2
      exact ⟨(KeepsOthers.setCell _ _ _).from _, by simpa using hA.set (.int .i64 x), ⟨rfl, by simpa using HST.out, x, by simp⟩, hB.setCell (p := ⟨s + 1 + 1, 0, none⟩) (by simp; omega) _⟩
    · have hst' : ((pre.length : Int) == i) = false := beq_eq_false_iff_ne.2 hst
      have HST := Lib.hid hst
      have HNE := Lib.hid hne
      clear hst hne
      gi_wp2
      refine ⟨(KeepsOthers.setCell _ _ _).from _, Kp.set _ _ _ (by omega) (by omega), ⟨hI.other (by omega) _, by simpa using hk.set (.int .i64 ((pre.length : Int) + 1)), hA.other (by omega) _⟩, fun j hj => ?_, hB.setCell (p := ⟨s + 1, 0, none⟩) (by simp) _⟩
      simp at hj
      rcases Nat.lt_or_ge j pre.length with h2 | h2
      · exact HNE.out j h2
      · obtain rfl : j = pre.length := by omega
        exact HST.out
  case done =>
    rintro D ys W hD rfl ⟨⟨hI, hk, hA⟩, hne, hB⟩ hK
    have hc := hA.cell
    have HNE := Lib.hid hne
    clear hne
    go_wp2
    rw [Exit.noGoto_ret]
    refine ⟨by simp, .inl ⟨_, _, rfl, run_takeDeferred hK, ?_⟩⟩
    refine ⟨_, results_tmp rfl _ _ _, ?_, ?_⟩
    · rw [refAt_done HNE.out]; rfl
    rw [← HS.out]; exact hB.trans (belowK_b (w := W0) (by omega) W D _ _ hD hK rfl rfl)
  case stop =>
    rintro D c pre W hD hpre ⟨hA, ⟨rfl, hst, x, hx⟩, hB⟩ hK
    have hc := hA.cell
    have HX := Lib.hid hx
    have HST := Lib.hid hst
    clear hx hst
    gi_wp2
    go_wp2
    rw [Exit.noGoto_ret]
    refine ⟨by simp, .inl ⟨_, _, rfl, run_takeDeferred hK, ?_⟩⟩
    refine ⟨_, results_tmp rfl _ _ _, ?_, ?_⟩
    · show Ending.returned (.int .i64 (pre.getLast?.getD 0)) = _
      refine ret_int ?_
      rw [refAt_stop (q := pre.dropLast) (x := x) (by rw [← HX.out]; exact hpre) HST.out]
      rw [HX.out]; simp
    · rw [← HS.out]; exact hB.trans (belowK_b (w := W0) (by omega) W D _ _ hD hK rfl rfl)
end Go.Proofs.Ythbllkcikikodaa
