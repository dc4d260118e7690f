/- The walk of corbellaw04.gather, over this seat's program. -/
import Derived.Test.YthbllkcikikodaaSeq
import Derived.WalkSpells
import Derived.RangeFuncBox
namespace Go.Proofs.Ythbllkcikikodaa
open Go Go.RowKit Go.Shelf
attribute [local go_sem] Oper.semAt_some
set_option linter.unusedVariables false
set_option linter.unusedSimpArgs false

/-- What an append to a slice in a box does, where the box lies below the slice's own blocks. -/
theorem appended2 {W w1 : World} {n₀ B : Nat} {t e : TypeId} {size : Nat} {v v' : Value} {k m : Nat} {xs ys : List Value} {tmp : Obj}
    (hv : Boxed W B t v) (hB : B < n₀) (hrow : W.ownsRow n₀ e size v k xs) (hn₀ : n₀ ≤ W.heap.size)
    (hown' : w1.ownsRow n₀ e size v' m ys) (hgrow : (W.alloc tmp).grownBy w1 v.ownBlock) :
    Boxed w1 B t v ∧ Boxed (w1.setCell ⟨B, 0, none⟩ v') B t v' ∧ (w1.setCell ⟨B, 0, none⟩ v').ownsRow n₀ e size v' m ys ∧ KeepsOthers W (w1.setCell ⟨B, 0, none⟩ v') ∧
      (∀ j, j < n₀ → j ≠ B → (w1.setCell ⟨B, 0, none⟩ v').heap[j]? = W.heap[j]?) ∧ Below B W (w1.setCell ⟨B, 0, none⟩ v') := by
  have hob : ∀ j, v.ownBlock = some j → n₀ ≤ j := by
    intro j ej
    rcases hrow.2 with ⟨rfl, _⟩ | ⟨g, cap, cur, rfl, hb, _, _⟩
    · simp [Value.ownBlock] at ej
    · obtain rfl : g = j := by simpa [Value.ownBlock] using ej
      exact hb
  have hob' : ∀ j, v'.ownBlock = some j → n₀ ≤ j := by
    intro j ej
    rcases hown'.2 with ⟨rfl, _⟩ | ⟨g, cap, cur, rfl, hb, _, _⟩
    · simp [Value.ownBlock] at ej
    · obtain rfl : g = j := by simpa [Value.ownBlock] using ej
      exact hb
  have hv1 : Boxed w1 B t v := (hv.alloc tmp).kept hgrow (fun h => by have := hob B h.symm; omega)
  have hkeep : ∀ j, j < n₀ → j ≠ B → (w1.setCell ⟨B, 0, none⟩ v').heap[j]? = W.heap[j]? := by
    intro j hj hjB
    rw [Below.heap_setCell _ _ _ _ hjB, hgrow.block j (by simp; omega) (fun h => by have := hob j h.symm; omega), Below.heap_alloc _ _ _ (by omega)]
  refine ⟨hv1, hv1.set v', hown'.kept (grownBy_setCell' w1 B v') ?_, ?_, hkeep, ?_⟩
  · refine .inr (fun h => ?_); have := hob' B h; omega
  · refine ((KeepsOthers.alloc W tmp).trans (KeepsOthers.of_grownBy hgrow fun j o ej hj => ?_)).trans (KeepsOthers.setCell _ _ _)
    rcases (hrow.alloc tmp).2 with ⟨rfl, _⟩ | ⟨g, cap, cur, rfl, _, hgb, _⟩
    · simp [Value.ownBlock] at ej
    · obtain rfl : g = j := by simpa [Value.ownBlock] using ej
      rw [hgb] at hj; cases hj; rfl
  · refine (((Below.refl B W).alloc (by omega) tmp).grown hgrow (by simp; omega) fun j ej => ?_).setCell (p := ⟨B, 0, none⟩) (Nat.le_refl _) v'
    have := hob j ej; omega

theorem own_weak {w : World} {base base' : Nat} {e : TypeId} {size n : Nat} {v : Value} {xs : List Value} (h : w.ownsRow base e size v n xs) (hb : base' ≤ base) : w.ownsRow base' e size v n xs :=
  ⟨h.1, h.2.imp id (fun ⟨g, cap, cur, a, b, c⟩ => ⟨g, cap, cur, a, Nat.le_trans hb b, c⟩)⟩

theorem own_blk {w : World} {base : Nat} {e : TypeId} {size n : Nat} {v : Value} {xs : List Value} (h : w.ownsRow base e size v n xs) {j : Nat} (ej : v.ownBlock = some j) : base ≤ j := by
  rcases h.2 with ⟨rfl, _⟩ | ⟨g, cap, cur, rfl, hb, _, _⟩
  · simp [Value.ownBlock] at ej
  · obtain rfl : g = j := by simpa [Value.ownBlock] using ej
    exact hb

theorem Try.info3 : (Try.prog.info? 3).map (fun i => (i.zero, i.size, i.bytes)) = some (some (.int .i64 0), 1, 8) := by kernel_rfl

theorem seq_not_nil (a b : Addr) (w : World) : (binOp .eql 35 (.func (.func 19) #[] #[.pointer (some a), .pointer (some b)]) .nilFunc).run Try.prog w = .ok (.bool false) w := by kernel_rfl

/-- What gather collects. -/
def gatherL (h g stop : Int) : List Int := if 0 ≤ stop then (seqL h g).take stop.toNat else seqL h g
theorem gatherL_done {h g stop : Int} (hs : ∀ j : Nat, j < (seqL h g).length → (j : Int) ≠ stop) : gatherL h g stop = seqL h g := by
  unfold gatherL; split
  · rename_i h0
    refine List.take_of_length_le ?_
    rcases Nat.lt_or_ge stop.toNat (seqL h g).length with h1 | h1
    · exact absurd (by omega) (hs _ h1)
    · exact h1
  · rfl
theorem gatherL_stop {h g stop : Int} {q : List Int} {x : Int} (hq : q ++ [x] <+: seqL h g) (hs : (q.length : Int) = stop) : gatherL h g stop = q := by
  unfold gatherL; rw [if_pos (by omega)]
  obtain ⟨r, hr⟩ := hq
  rw [← hr, show stop.toNat = q.length by omega, List.append_assoc, List.take_left]

def GatherPost (w : World) (L : List Int) (e : Ending) (w' : World) : Prop := ∃ v, e = .returned v ∧ w'.ownsRow w.heap.size 3 1 v L.length (L.map (Value.int .i64)) ∧ Below w.heap.size w w'

set_option maxRecDepth 100000 in
set_option maxHeartbeats 4000000 in
theorem gather_any (h g stop : Int) (h0 : 0 ≤ h) (h1 : h < 18446744073709551616) (w : World) :
    Calls Try.prog 10 #[.int .u64 h, .int .i64 g, .int .i64 stop] w (GatherPost w (gatherL h g stop)) := by
  have hlen := seqL_len h g
  obtain ⟨i0, hi, hz0, hz1, hz2⟩ := info_parts Try.info3
  refine (callsIn_wide (n := 3)).1 ?_
  refine callsIn_of_wp_marks Try.func10 rfl trivial ?_ rfl
  simp only [Try.ntmps10, List.size_toArray, List.length_cons, List.length_nil, Nat.reduceAdd, Nat.reduceSub, Array.replicate_succ, Array.replicate_zero, List.push_toArray, List.append_toArray, List.nil_append, List.cons_append]
  have hnn := seq_not_nil
  gi_wp2_with (refine ⟨trivial, ?_⟩; gi_at_call 18; refine (callsIn_wide.2 (seq_any _ _ _)).mono ?_; rintro e w' ⟨rfl, rfl⟩)
  clear hnn
  obtain ⟨s, hs⟩ : ∃ s, s = w.heap.size := ⟨_, rfl⟩
  rw [← hs]
  obtain ⟨W0, hW0⟩ : ∃ W0, ((((w.alloc (Obj.cells #[Value.int IntKind.i64 stop] 3)).alloc (Obj.cells #[Value.slice none 0 0] 23)).alloc (Obj.cells #[Value.int IntKind.u64 h] 22)).alloc (Obj.cells #[Value.int IntKind.i64 g] 3)) = W0 := ⟨_, rfl⟩
  have hz : W0.heap.size = s + 4 := by rw [← hW0]; simp [hs]
  have bS : Boxed W0 s 3 (.int .i64 stop) := by
    rw [← hW0, hs]; exact (((Boxed.new w 3 _).alloc _).alloc _).alloc _
  have bL : Boxed W0 (s + 1) 23 (.slice none 0 0) := by
    rw [← hW0]; have := (((Boxed.new (w.alloc (Obj.cells #[Value.int IntKind.i64 stop] 3)) 23 (.slice none 0 0)).alloc (Obj.cells #[Value.int IntKind.u64 h] 22)).alloc (Obj.cells #[Value.int IntKind.i64 g] 3)); simpa [hs] using this
  have bH : W0.heap[s + 1 + 1]? = some (.cells #[.int .u64 h] 22 (0, 0)) := by
    rw [← hW0]; have := (Boxed.new ((w.alloc (Obj.cells #[Value.int IntKind.i64 stop] 3)).alloc (Obj.cells #[Value.slice none 0 0] 23)) 22 (.int .u64 h)).alloc (Obj.cells #[Value.int IntKind.i64 g] 3); simpa [hs, Boxed] using this
  have bG : W0.heap[s + 1 + 1 + 1]? = some (.cells #[.int .i64 g] 3 (0, 0)) := by
    rw [← hW0]; have := (Boxed.new (((w.alloc (Obj.cells #[Value.int IntKind.i64 stop] 3)).alloc (Obj.cells #[Value.slice none 0 0] 23)).alloc (Obj.cells #[Value.int IntKind.u64 h] 22)) 3 (.int .i64 g)); simpa [hs, Boxed] using this
  have hB0 : Below s w W0 := by
    rw [← hW0, hs]; exact ((((Below.refl _ w).alloc (Nat.le_refl _) _).alloc (by simp) _).alloc (by simp; omega) _).alloc (by simp; omega) _
  rw [hW0]
  have HS := Lib.hid hs
  clear hs hW0
  refine wpIn_rangeFunc_ownG (n := 3) rfl (by omega) (gf := 19) (lb := #[.pointer (some ⟨s + 1 + 1 + 1, 0, none⟩), .pointer (some ⟨s + 1 + 1, 0, none⟩)]) rfl trivial (enters_of Try.func19 (by kernel_rfl) rfl)
    (seq_stops 2 (by omega) (s + 1 + 1 + 1) (s + 1 + 1) h g h0 h1 W0 bG bH) Kp.t (Kp.b (by omega) (by omega)) (Below.refl _ _) (fun _ => rfl)
    (fun pre W => (∃ v, Boxed W (s + 1) 23 v ∧ W.ownsRow (s + 4) 3 1 v pre.length (pre.map (Value.int .i64)) ∧ (∀ j : Nat, j < pre.length → (j : Int) ≠ stop)) ∧ (Boxed W s 3 (.int .i64 stop) ∧ Boxed W (s + 1 + 1 + 1) 3 (.int .i64 g)) ∧ Below s w W)
    (fun c pre W => (∃ v, Boxed W (s + 1) 23 v ∧ W.ownsRow (s + 4) 3 1 v (pre.length - 1) (pre.dropLast.map (Value.int .i64)) ∧ (c = .exit 0 ∧ (pre.dropLast.length : Int) = stop ∧ ∃ x, pre = pre.dropLast ++ [x])) ∧ Below s w W)
    (OwnFrom.and (Own.from (holdsRow_own (s + 4) (s + 1) 23 3 1 (fun pre : List Int => pre.length) (fun pre : List Int => pre.map (Value.int .i64)) (fun (pre : List Int) v => ∀ j : Nat, j < pre.length → (j : Int) ≠ stop)) _)
      (OwnFrom.and (OwnFrom.and (Own.from (boxed_own s 3 (fun _ => .int .i64 stop)) _) (Own.from (boxed_own (s + 1 + 1 + 1) 3 (fun _ => .int .i64 g)) _)) (ownFrom_below (by rw [HS.out]; exact Nat.le_refl _) (by omega))))
    (fun c => OwnFrom.and (Own.from (holdsRow_own (s + 4) (s + 1) 23 3 1 (fun pre : List Int => pre.length - 1) (fun pre : List Int => pre.dropLast.map (Value.int .i64)) (fun (pre : List Int) v => (c = .exit 0 ∧ (pre.dropLast.length : Int) = stop ∧ ∃ x, pre = pre.dropLast ++ [x]))) _)
      (ownFrom_below (by rw [HS.out]; exact Nat.le_refl _) (by omega)))
    ⟨⟨_, bL, World.ownsRow_nil _ _ _ _, fun j hj => by simp at hj⟩, ⟨bS, bG⟩, hB0⟩
    (fun x => { tmps := #[Value.int IntKind.u64 h, Value.int IntKind.i64 g, Value.int IntKind.i64 stop, undef, undef,
          Value.pointer (some { block := s, off := 0 }), Value.slice none 0 0,
          Value.pointer (some { block := s + 1, off := 0 }),
          Value.func (Fn.func 19) #[] #[Value.pointer (some { block := s + 1 + 1 + 1, off := 0 }), Value.pointer (some { block := s + 1 + 1, off := 0 })],
          .int .i64 x, Value.int IntKind.u64 h, Value.int IntKind.i64 g,
          Value.func (Fn.func 19) #[] #[Value.pointer (some { block := s + 1 + 1 + 1, off := 0 }), Value.pointer (some { block := s + 1 + 1, off := 0 })],
          Value.func (Fn.func 19) #[] #[Value.pointer (some { block := s + 1 + 1 + 1, off := 0 }), Value.pointer (some { block := s + 1 + 1, off := 0 })],
          Value.bool false,
          Value.func (Fn.func 19) #[] #[Value.pointer (some { block := s + 1 + 1 + 1, off := 0 }), Value.pointer (some { block := s + 1 + 1, off := 0 })],
          .int .i64 x, undef, undef, undef, undef, undef, undef, undef, undef, undef], defers := [] }) ?assign ?body ?done ?stop
  case assign =>
    intro l x W K hK
    gi_wp2
    exact hK
  case body =>
    rintro l pre x W ⟨⟨v, hv, hrow, hne⟩, ⟨hS, hG⟩, hB⟩ hlt
    have hc := hv.cell
    have hcS := hS.cell
    obtain ⟨A, cc, rfl⟩ : ∃ A c, v = .slice A pre.length c := by
      rcases hrow.2 with ⟨rfl, h0⟩ | ⟨g, cap, cur, rfl, _⟩
      · exact ⟨none, 0, by rw [h0]⟩
      · exact ⟨_, _, rfl⟩
    by_cases hst : (pre.length : Int) = stop
    · have hst' : ((pre.length : Int) == stop) = true := beq_iff_eq.2 hst
      have HST := Lib.hid hst
      clear hst
      gi_wp2
      exact ⟨KeepsFrom.refl _ _, ⟨_, hv, by simpa using hrow, rfl, by simpa using HST.out, x, by simp⟩, hB⟩
    · have hst' : ((pre.length : Int) == stop) = false := beq_eq_false_iff_ne.2 hst
      have HST := Lib.hid hst
      have HNE := Lib.hid hne
      clear hst hne
      gi_wp2_with (gi_at_builtin; refine wpListIn_append_own _ rfl _ _ 23 rfl (s + 4) 3 i0 (.int .i64 0) 1 8 Try.underlying23 hi hz0 hz1 hz2 rfl (by decide) _ _ _ rfl (hrow.alloc _) ⟨W.heap.size, 0, none⟩ 1 1 [.int .i64 x] rfl rfl (cell_one_new _ _ _) (by simp [Value.oneCell']) (by simp only [maxLen]; omega) (by omega) (by have := hG.lt; simp; omega) ?_; intro v' w1 hown' hgrow _; obtain ⟨g', cap', rfl⟩ := ownsRow_succ hown'; obtain ⟨hv1, hv2, hr2, hk2, hkp2, hb2⟩ := appended2 hv (by omega) hrow (by have := hG.lt; omega) hown' hgrow; have hc1 := hv1.cell; have hf1 := hv1.frozen)
      refine ⟨hk2.from _, ⟨hkp2 _ (by omega) (by omega), hkp2 _ (by omega) (by omega)⟩, ⟨_, hv2, by simpa using hr2, fun j hj => ?_⟩, ⟨(hkp2 _ (by omega) (by omega)).trans hS, (hkp2 _ (by omega) (by omega)).trans hG⟩, hB.trans (hb2.mono (by omega))⟩
      simp at hj
      rcases Nat.lt_or_ge j pre.length with h2 | h2
      · exact HNE.out j h2
      · obtain rfl : j = pre.length := by omega
        exact HST.out
  case done =>
    rintro D ys W hD rfl ⟨⟨v, hv, hrow, hne⟩, ⟨hS, hG⟩, hB⟩ hK
    have hc := hv.cell
    gi_wp2
    refine ⟨by simp, .inl ⟨_, _, rfl, run_takeDeferred hK, ?_⟩⟩
    refine ⟨_, results_tmp rfl _ _ _, v, rfl, ?_, ?_⟩
    · rw [gatherL_done hne]; exact own_weak (ownsRow_putObj hrow _ hK rfl) (by rw [← HS.out]; omega)
    · rw [← HS.out]; exact hB.trans (belowK_b (w := W0) (by omega) W D _ _ hD hK rfl rfl)
  case stop =>
    rintro D c pre W hD hpre ⟨⟨v, hv, hrow, rfl, hst, x, hx⟩, hB⟩ hK
    have hc := hv.cell
    have HX := Lib.hid hx
    have HST := Lib.hid hst
    clear hx hst
    gi_wp2
    refine ⟨by simp, .inl ⟨_, _, rfl, run_takeDeferred hK, ?_⟩⟩
    refine ⟨_, results_tmp rfl _ _ _, v, rfl, ?_, ?_⟩
    · rw [gatherL_stop (q := pre.dropLast) (x := x) (by rw [← HX.out]; exact hpre) HST.out]
      have := (ownsRow_putObj hrow (Obj.deferred none) hK rfl)
      rw [show pre.length - 1 = pre.dropLast.length by simp] at this
      exact own_weak this (by rw [← HS.out]; omega)
    · rw [← HS.out]; exact hB.trans (belowK_b (w := W0) (by omega) W D _ _ hD hK rfl rfl)
end Go.Proofs.Ythbllkcikikodaa
