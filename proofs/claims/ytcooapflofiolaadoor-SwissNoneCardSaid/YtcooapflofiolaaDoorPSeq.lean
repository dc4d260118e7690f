/- The walks of probe.Good, probe.Seq and its iterator, over this seat's program. -/
import Derived.RangeFuncNested
import Derived.RangeFuncBound
import Derived.RangeFuncCalls
import Derived.RangeFuncLeaves
import Derived.Shelf.Abstract
import Derived.Shelf.RegionOpen
import Derived.WalkKit
import Derived.OwnWalkIn
import Derived.TacticsInMore
import Derived.LoopNIn
import Derived.LoopIn
import Derived.Maps.AppendAt
import Derived.Lib.Hide
import Derived.Deep.QuietTactic
import Derived.BigQuiet
import Derived.Test.YtcooapflofiolaaDoorGSets
import Derived.Test.YtcooapflofiolaaDoorPPlain
namespace Go.Proofs.YtcooapflofiolaaDoor
open Go Go.RowKit Go.Shelf
attribute [local go_sem] Oper.semAt_some
set_option linter.unusedVariables false
set_option linter.unusedSimpArgs false

theorem ret_bool {a b : Bool} (h : a = b) : Ending.returned (.bool a) = .returned (.bool b) := by rw [h]
set_option maxHeartbeats 1000000 in
theorem good_any (g : Int) (w : World) : Calls Tryd.prog 116 #[.int .i64 g] w fun e w' => e = .returned (.bool (goodB g)) ∧ w = w' := by
  by_cases h1 : 1 ≤ g
  · by_cases h2 : g ≤ 1024
    · go_enter Tryd.func116, Tryd.ntmps116
      go_wp2
      go_ret
      exact ⟨ret_bool (by simp [goodB, h1, h2]; rfl), rfl⟩
    · have h2' : decide (g ≤ 1024) = false := decide_eq_false h2
      go_enter Tryd.func116, Tryd.ntmps116
      go_wp2
      go_ret
      exact ⟨ret_bool (by simp [goodB]; omega), rfl⟩
  · have h1' : decide (1 ≤ g) = false := decide_eq_false h1
    go_enter Tryd.func116, Tryd.ntmps116
    go_wp2
    go_ret
    exact ⟨ret_bool (by simp [goodB]; omega), rfl⟩

/-- probe.Seq: both arguments are boxed; the function value captures the boxes. -/
theorem seq_any (h g : Int) (w : World) : Calls Tryd.prog 100 #[.int .u64 h, .int .i64 g] w fun e w' =>
    e = .returned (.func (.func 115) #[] #[.pointer (some ⟨w.heap.size + 1, 0, none⟩), .pointer (some ⟨w.heap.size, 0, none⟩)]) ∧ w' = (w.alloc (Obj.cells #[Value.int IntKind.u64 h] 22)).alloc (Obj.cells #[Value.int IntKind.i64 g] 3) := by
  go_enter Tryd.func100, Tryd.ntmps100
  go_wp2
  go_ret
  exact ⟨rfl, rfl⟩

/-- What a round over the groups keeps: the two boxes. -/
def Kp (Bg Bh : Nat) (W W' : World) : Prop := W'.heap[Bg]? = W.heap[Bg]? ∧ W'.heap[Bh]? = W.heap[Bh]?
theorem Kp.refl (Bg Bh : Nat) (W : World) : Kp Bg Bh W W := ⟨rfl, rfl⟩
theorem Kp.t {Bg Bh : Nat} {A B C : World} (h : Kp Bg Bh A B) (k : Kp Bg Bh B C) : Kp Bg Bh A C := ⟨k.1.trans h.1, k.2.trans h.2⟩
theorem Kp.b {Bg Bh n : Nat} (h1 : Bg < n) (h2 : Bh < n) (W : World) (l : Nat) (o o' : Obj) (hl : n ≤ l) (h : W.heap[l]? = some o) (_ : o.isCells = false) (_ : o.isWalk = false) : Kp Bg Bh W (W.putObj l o') :=
  ⟨World.putObj_heap_other (by omega), World.putObj_heap_other (by omega)⟩
theorem Kp.below {Bg Bh n : Nat} {W W' : World} (hb : Below n W W') (h1 : Bg < n) (h2 : Bh < n) : Kp Bg Bh W W' := ⟨hb.block _ h1, hb.block _ h2⟩
theorem Kp.set {Bg Bh : Nat} (W : World) (b : Nat) (v : Value) (h1 : Bg ≠ b) (h2 : Bh ≠ b) : Kp Bg Bh W (W.setCell ⟨b, 0, none⟩ v) := ⟨Below.heap_setCell _ _ _ _ h1, Below.heap_setCell _ _ _ _ h2⟩

set_option maxRecDepth 100000 in
set_option maxHeartbeats 2000000 in
/-- The iterator: all groups in their order, or those up to where a round has said 'no more'. -/
theorem seq1_in (F : Fence) (n : Nat) (h19 : F.fn 115) (h11 : F.fn 116) (hw : F = Fence.wide) (hn : 1 ≤ n) (l Bg Bh : Nat) (h g : Int) (h0 : 0 ≤ h) (h1 : h < 18446744073709551616) (J Jx : List Int → World → Prop)
    (hY : ∀ pre x W, J pre W → pre.length < (seqL h g).length → YieldAt F (n - 1) Tryd.prog l #[.int .i64 x] W fun e W' =>
      (e = .returned (.bool true) ∧ J (pre ++ [x]) W' ∧ Kp Bg Bh W W') ∨ (e = .returned (.bool false) ∧ Jx (pre ++ [x]) W'))
    (W : World) (hBg : W.heap[Bg]? = some (.cells #[.int .i64 g] 3 (0, 0))) (hBh : W.heap[Bh]? = some (.cells #[.int .u64 h] 22 (0, 0))) (hj : J [] W) :
    CallsIn F n Tryd.prog 115 #[.func (.yield l) #[] #[], .pointer (some ⟨Bg, 0, none⟩), .pointer (some ⟨Bh, 0, none⟩)] W fun e W' => (∃ v, e = .returned v) ∧
      ((∃ ys, ys = seqL h g ∧ J ys W') ∨ (∃ pre, pre <+: seqL h g ∧ Jx pre W')) := by
  subst hw
  have cg : W.cell? ⟨Bg, 0, none⟩ = some (.int .i64 g) := by simp [World.cell?, hBg]
  have ch : W.cell? ⟨Bh, 0, none⟩ = some (.int .u64 h) := by simp [World.cell?, hBh]
  cases hg : goodB g with
  | false =>
    have hl := seqL_bad (h := h) hg
    have HG := Lib.hid hg
    clear hg
    refine callsIn_of_wp Tryd.func115 rfl h19 ?_ rfl
    simp only [Tryd.ntmps115, List.size_toArray, List.length_cons, List.length_nil, Nat.reduceAdd, Nat.reduceSub, Array.replicate_succ, Array.replicate_zero, List.push_toArray, List.append_toArray, List.nil_append, List.cons_append]
    gi_wp2_with (gi_at_call 116; refine (callsIn_wide.2 (good_any _ _)).mono ?_; rintro e w' ⟨rfl, rfl⟩; rw [HG.out])
    gi_wp2
    refine bodyPost_ret (results_none rfl _ _ _) rfl ?_
    exact ⟨⟨_, rfl⟩, .inl ⟨[], hl.symm, hj⟩⟩
  | true =>
    have hb := goodB_bounds hg
    have hlen : (seqL h g).length = g.toNat := by rw [seqL_good hg, seqN_length]
    obtain ⟨hn0, rfl⟩ := Int.eq_ofNat_of_zero_le h0
    have eat : bits .and .u64 (hn0 : Int) (g - 1) = ((pre hn0 g.toNat 0 : Nat) : Int) := by rw [and_good_u64 hg hn0 (by omega), pre_zero]
    have hp0 : pre hn0 g.toNat 0 < g.toNat := pre_lt _ _ _ (by omega)
    have HG := Lib.hid hg
    clear hg
    refine callsIn_of_wp Tryd.func115 rfl h19 ?_ rfl
    simp only [Tryd.ntmps115, List.size_toArray, List.length_cons, List.length_nil, Nat.reduceAdd, Nat.reduceSub, Array.replicate_succ, Array.replicate_zero, List.push_toArray, List.append_toArray, List.nil_append, List.cons_append]
    gi_wp2_with (gi_at_call 116; refine (callsIn_wide.2 (good_any _ _)).mono ?_; rintro e w' ⟨rfl, rfl⟩; rw [HG.out])
    gi_loopw [4, 16] (fun at_ i wr => ∃ k : Nat, k ≤ g.toNat ∧ i = .int .i64 k ∧ at_ = .int .i64 (pre hn0 g.toNat k : Nat) ∧ J (seqN hn0 g.toNat k) wr ∧ Kp Bg Bh W wr) (fun _ i _ => g.toNat - (intOf i).toNat)
    case atStart => exact ⟨0, Nat.zero_le _, rfl, rfl, hj, Kp.refl _ _ _⟩
    case round =>
      obtain ⟨k, hk, rfl, rfl, hJk, hK⟩ := hrel
      have cg' : wr.cell? ⟨Bg, 0, none⟩ = some (.int .i64 g) := by simp [World.cell?, hK.1, hBg]
      clear cg ch eat
      by_cases hlt : k < g.toNat
      · have hx := hY (seqN hn0 g.toNat k) (el hn0 g.toNat k : Nat) wr hJk (by rw [hlen, seqN_length]; exact hlt)
        obtain ⟨fn, tmps, assign, body, hy, hR⟩ := hx
        clear hY
        have hpk : pre hn0 g.toNat k < g.toNat := pre_lt _ _ _ (by omega)
        have hlt' : (k : Int) < g := by omega
        have eel : bits .and .i64 ((pre hn0 g.toNat k : Int) + (k : Int)) (g - 1) = (el hn0 g.toNat k : Nat) := by
          rw [show ((pre hn0 g.toNat k : Nat) : Int) + (k : Int) = ((pre hn0 g.toNat k + k : Nat) : Int) by omega, and_good_i64 HG.out _ (by omega), el_pre]
        gi_wp2
        refine hR.mono ?_
        rintro e W3 (⟨rfl, hJ3, hk3⟩ | ⟨rfl, hJx3⟩)
        · gi_wp2
          go_roundw
          case rel => exact ⟨k + 1, hlt, by simp, by rw [pre_succ], by rw [seqN_succ]; exact hJ3, hK.t hk3⟩
          case measure => simp [intOf]; omega
        · gi_wp2
          refine bodyPost_ret (results_none rfl _ _ _) rfl ?_
          exact ⟨⟨_, rfl⟩, .inr ⟨_, by rw [seqL_good HG.out, ← seqN_succ]; exact seqN_pre _ _ hlt, hJx3⟩⟩
      · have hge : ¬ (k : Int) < g := by omega
        gi_wp2
        go_end0
        obtain rfl : k = g.toNat := by omega
        exact ⟨⟨_, rfl⟩, .inl (by rw [seqL_good HG.out]; exact hJk)⟩

theorem seq_stops (n : Nat) (hn : 1 ≤ n) (Bg Bh : Nat) (h g : Int) (h0 : 0 ≤ h) (h1 : h < 18446744073709551616) (w : World) (hBg : w.heap[Bg]? = some (.cells #[.int .i64 g] 3 (0, 0))) (hBh : w.heap[Bh]? = some (.cells #[.int .u64 h] 22 (0, 0))) :
    SeqStopsK Fence.wide n Tryd.prog 115 #[.pointer (some ⟨Bg, 0, none⟩), .pointer (some ⟨Bh, 0, none⟩)] (fun x : Int => #[Value.int .i64 x]) (Kp Bg Bh) (fun ys => ys = seqL h g) (fun pre => pre <+: seqL h g) (seqL h g).length w := fun l J Jx W hW _ _ hY hj =>
  seq1_in Fence.wide n trivial trivial rfl hn l Bg Bh h g h0 h1 J Jx hY W ((hW.block _ (Array.getElem?_eq_some_iff.1 hBg).1).trans hBg) ((hW.block _ (Array.getElem?_eq_some_iff.1 hBh).1).trans hBh) hj
end Go.Proofs.YtcooapflofiolaaDoor
