/- A list's values, one by one; gathered; sorted. -/
import Derived.RangeFuncNested
import Derived.RangeFuncBound
import Derived.RangeFuncCalls
import Derived.RangeFuncLeaves
import Derived.Shelf.Abstract
import Derived.Shelf.RegionOpen
import Derived.OwnWalkIn
import Derived.TacticsInMore
import Derived.LoopNIn
import Derived.LoopIn
import Derived.Maps.AppendAt
import Derived.RangeFuncBox
import Derived.Sort.OwnSortedInts
import Derived.Test.YtbjhpifllgoffaaBase
namespace Go.Proofs.Ytbjhpifllgoffaa
open Go Go.RowKit Go.Shelf Go.Sort
attribute [local go_sem] Oper.semAt_some
set_option linter.unusedVariables false
set_option linter.unusedSimpArgs false
set_option maxRecDepth 100000
set_option maxHeartbeats 2000000
theorem vals_any (a : Option Addr) (n c : Nat) (w : World) : Calls Try.prog 37 #[.slice a n c] w fun e w' => e = .returned (.func (.func 41) #[] #[.pointer (some ⟨w.heap.size, 0, none⟩)]) ∧ w' = w.alloc (.cells #[.slice a n c] 22) := by
  go_enter Try.func37, Try.ntmps37
  go_wp2
  go_ret
  exact ⟨rfl, rfl⟩
/-- What a round keeps: all below block m. -/
def Kp (m : Nat) (W W' : World) : Prop := ∀ j, j < m → W'.heap[j]? = W.heap[j]?
theorem Kp.refl (m : Nat) (W : World) : Kp m W W := fun _ _ => rfl
theorem Kp.t {m : Nat} {A B C : World} (h : Kp m A B) (k : Kp m B C) : Kp m A C := fun j hj => (k j hj).trans (h j hj)
theorem Kp.b {m n : Nat} (h1 : m ≤ n) (W : World) (l : Nat) (o o' : Obj) (hl : n ≤ l) (h : W.heap[l]? = some o) (_ : o.isCells = false) (_ : o.isWalk = false) : Kp m W (W.putObj l o') :=
  fun j hj => World.putObj_heap_other (by omega)
theorem Rd.kp {w w' : World} {a : Option Addr} {n : Nat} {l : List Int} {m : Nat} (h : Rd w a n l) (hm : w.heap.size ≤ m) (hb : ∀ j, j < m → w'.heap[j]? = w.heap[j]?) : Rd w' a n l := by
  refine ⟨h.1, ?_⟩
  rcases h.2 with h0 | ⟨b, off, e, hc⟩
  · exact .inl h0
  · refine .inr ⟨b, off, e, fun j hj => ?_⟩
    have hlt : b < m := Nat.lt_of_lt_of_le (cell_block_lt (hc j hj)) hm
    rw [World.cell?_of_block (w := w) (hb b hlt)]
    exact hc j hj
/-- The iterator. -/
theorem vals1_in (F : Fence) (n : Nat) (h44 : F.fn 41) (hw : F = Fence.wide) (hn : 1 ≤ n) (lp Bs m : Nat) (a : Option Addr) (k c : Nat) (l : List Int) (hk : k ≤ 1000) (J Jx : List Int → World → Prop)
    (hY : ∀ pre x W, J pre W → pre.length < l.length → YieldAt F (n - 1) Try.prog lp #[.int .i64 x] W fun e W' =>
      (e = .returned (.bool true) ∧ J (pre ++ [x]) W' ∧ Kp m W W') ∨ (e = .returned (.bool false) ∧ Jx (pre ++ [x]) W'))
    (W w0 : World) (hBs : W.heap[Bs]? = some (.cells #[.slice a k c] 22 (0, 0))) (hm : w0.heap.size ≤ m) (hbm : ∀ j, j < m → W.heap[j]? = w0.heap[j]?) (hR : Rd w0 a k l) (hj : J [] W) :
    CallsIn F n Try.prog 41 #[.func (.yield lp) #[] #[], .pointer (some ⟨Bs, 0, none⟩)] W fun e W' => (∃ v, e = .returned v) ∧
      ((∃ ys, ys = l ∧ J ys W') ∨ (∃ pre, pre <+: l ∧ Jx pre W')) := by
  subst hw
  have hl := hR.1
  have cg : W.cell? ⟨Bs, 0, none⟩ = some (.slice a k c) := by simp [World.cell?, hBs]
  refine callsIn_of_wp Try.func41 rfl h44 ?_ rfl
  simp only [Try.ntmps41, List.size_toArray, List.length_cons, List.length_nil, Nat.reduceAdd, Nat.reduceSub, Array.replicate_succ, Array.replicate_zero, List.push_toArray, List.append_toArray, List.nil_append, List.cons_append]
  have HR := Lib.hid hR
  have HL := Lib.hid hl
  have HBM := Lib.hid hbm
  clear hR hl hbm
  gi_wp2
  gi_loopw [7] (fun i wr => ∃ q : Nat, q ≤ k ∧ i = .int .i64 q ∧ J (l.take q) wr ∧ Kp m W wr) (fun i _ => k - (intOf i).toNat)
  case atStart => exact ⟨0, Nat.zero_le _, rfl, hj, Kp.refl _ _⟩
  case round =>
    obtain ⟨q, hq, rfl, hJk, hK⟩ := hrel
    have HRr := Lib.hid (HR.out.kp hm (fun j hj => (hK j hj).trans (HBM.out j hj)))
    clear cg
    by_cases hlt : q < k
    · have hx := hY (l.take q) (l.getD q 0) wr hJk (by rw [List.length_take, HL.out]; omega)
      obtain ⟨fn, tmps, assign, body, hy, hRR⟩ := hx
      clear hY
      obtain ⟨b, off, rfl, hc⟩ := HRr.out.at hlt
      have HT := Lib.hid (take_snoc l q (by rw [HL.out]; exact hlt))
      generalize l.getD q 0 = y at *
      gi_wp2
      refine hRR.mono ?_
      rintro e W3 (⟨rfl, hJ3, hk3⟩ | ⟨rfl, hJx3⟩)
      · gi_wp2
        go_roundw
        case rel => exact ⟨q + 1, hlt, by simp, by rw [HT.out]; exact hJ3, hK.t hk3⟩
        case measure => simp [intOf]; omega
      · gi_wp2
        refine bodyPost_ret (results_none rfl _ _ _) rfl ?_
        exact ⟨⟨_, rfl⟩, .inr ⟨_, by rw [← HT.out]; exact List.take_prefix _ _, hJx3⟩⟩
    · have hge : ¬ (q : Int) < k := by omega
      gi_wp2
      go_end0
      obtain rfl : q = k := by omega
      rw [List.take_of_length_le (by rw [HL.out]; exact Nat.le_refl _)] at hJk
      first | exact ⟨⟨_, rfl⟩, .inl ⟨l, rfl, hJk⟩⟩ | exact ⟨⟨_, rfl⟩, .inl hJk⟩
theorem vals_stops (n : Nat) (hn : 1 ≤ n) (Bs m : Nat) (a : Option Addr) (k c : Nat) (l : List Int) (hk : k ≤ 1000) (w : World) (hBs : w.heap[Bs]? = some (.cells #[.slice a k c] 22 (0, 0))) (hm : w.heap.size ≤ m) (hR : Rd w a k l) :
    SeqStopsK Fence.wide n Try.prog 41 #[.pointer (some ⟨Bs, 0, none⟩)] (fun x : Int => #[Value.int .i64 x]) (Kp w.heap.size) (fun ys => ys = l) (fun pre => pre <+: l) l.length w := fun lp J Jx W hW _ _ hY hj =>
  vals1_in Fence.wide n trivial rfl hn lp Bs w.heap.size a k c l hk J Jx hY W w ((hW.block _ (Array.getElem?_eq_some_iff.1 hBs).1).trans hBs) (Nat.le_refl _) hW.block hR hj
/-- What an append to a slice in a box does, where the box lies below the slice's own blocks. -/
theorem appended2 {W w1 : World} {n₀ B : Nat} {t e : TypeId} {size : Nat} {v v' : Value} {k m : Nat} {xs ys : List Value} {tmp : Obj}
    (hv : Boxed W B t v) (hB : B < n₀) (hrow : W.ownsRow n₀ e size v k xs) (hn₀ : n₀ ≤ W.heap.size)
    (hown' : w1.ownsRow n₀ e size v' m ys) (hgrow : (W.alloc tmp).grownBy w1 v.ownBlock) :
    Boxed w1 B t v ∧ Boxed (w1.setCell ⟨B, 0, none⟩ v') B t v' ∧ (w1.setCell ⟨B, 0, none⟩ v').ownsRow n₀ e size v' m ys ∧ KeepsOthers W (w1.setCell ⟨B, 0, none⟩ v') ∧
      (∀ j, j < n₀ → j ≠ B → (w1.setCell ⟨B, 0, none⟩ v').heap[j]? = W.heap[j]?) ∧ Below B W (w1.setCell ⟨B, 0, none⟩ v') := by
  have hob : ∀ j, v.ownBlock = some j → n₀ ≤ j := fun j ej => own_blk hrow ej
  have hob' : ∀ j, v'.ownBlock = some j → n₀ ≤ j := fun j ej => own_blk hown' ej
  have hv1 : Boxed w1 B t v := (hv.alloc tmp).kept hgrow (fun h => by have := hob B h.symm; omega)
  have hkeep : ∀ j, j < n₀ → j ≠ B → (w1.setCell ⟨B, 0, none⟩ v').heap[j]? = W.heap[j]? := by
    intro j hj hjB
    rw [Below.heap_setCell _ _ _ _ hjB, hgrow.block j (by simp; omega) (fun h => by have := hob j h.symm; omega), Below.heap_alloc _ _ _ (by omega)]
  refine ⟨hv1, hv1.set v', hown'.kept (grownBy_setCell' w1 B v') ?_, ?_, hkeep, ?_⟩
  · refine .inr (fun h => ?_); have := hob' B h; omega
  · refine ((KeepsOthers.alloc W tmp).trans (KeepsOthers.of_grownBy hgrow fun j o ej hj => ?_)).trans (KeepsOthers.setCell _ _ _)
    rcases (hrow.alloc tmp).2 with ⟨rfl, _⟩ | ⟨g, cap, cur, rfl, _, hgb, _⟩
    · simp [Value.ownBlock] at ej
    · obtain rfl : g = j := by simpa [Value.ownBlock] using ej
      rw [hgb] at hj; cases hj; rfl
  · refine (((Below.refl B W).alloc (by omega) tmp).grown hgrow (by simp; omega) fun j ej => ?_).setCell (p := ⟨B, 0, none⟩) (Nat.le_refl _) v'
    have := hob j ej; omega
theorem own_weak {w : World} {base base' : Nat} {e : TypeId} {size n : Nat} {v : Value} {xs : List Value} (h : w.ownsRow base e size v n xs) (hb : base' ≤ base) : w.ownsRow base' e size v n xs :=
  ⟨h.1, h.2.imp id (fun ⟨g, cap, cur, a, b, c⟩ => ⟨g, cap, cur, a, Nat.le_trans hb b, c⟩)⟩
def Gath (w : World) (L : List Int) (e : Ending) (w' : World) : Prop := ∃ v, e = .returned v ∧ w'.ownsRow w.heap.size 3 1 v L.length (L.map (Value.int .i64)) ∧ Below w.heap.size w w'
set_option maxHeartbeats 4000000 in
theorem app_any (Bs : Nat) (a : Option Addr) (k c : Nat) (l : List Int) (hk : k ≤ 1000) (w : World) (hBs : w.heap[Bs]? = some (.cells #[.slice a k c] 22 (0, 0))) (hR : Rd w a k l) :
    Calls Try.prog 43 #[.slice none 0 0, .func (.func 41) #[] #[.pointer (some ⟨Bs, 0, none⟩)]] w (Gath w l) := by
  have hlen := hR.1
  obtain ⟨i0, hi, hz0, hz1, hz2⟩ := info_parts Try.info3
  refine (callsIn_wide (n := 3)).1 ?_
  refine callsIn_of_wp_marks Try.func43 rfl trivial ?_ rfl
  simp only [Try.ntmps43, List.size_toArray, List.length_cons, List.length_nil, Nat.reduceAdd, Nat.reduceSub, Array.replicate_succ, Array.replicate_zero, List.push_toArray, List.append_toArray, List.nil_append, List.cons_append]
  gi_wp2
  obtain ⟨s, hs⟩ : ∃ s, s = w.heap.size := ⟨_, rfl⟩
  rw [← hs]
  obtain ⟨W0, hW0⟩ : ∃ W0, w.alloc (Obj.cells #[Value.slice none 0 0] 22) = W0 := ⟨_, rfl⟩
  have hz : W0.heap.size = s + 1 := by rw [← hW0]; simp [hs]
  have bS : Boxed W0 s 22 (.slice none 0 0) := by
    rw [← hW0, hs]; exact Boxed.new w 22 _
  have hB0 : Below s w W0 := by
    rw [← hW0, hs]; exact (Below.refl _ w).alloc (Nat.le_refl _) _
  rw [hW0]
  have HS := Lib.hid hs
  have HLEN := Lib.hid hlen
  clear hs hW0 hlen
  refine wpIn_rangeFunc_ownG (n := 3) rfl (by omega) (gf := 41) (lb := #[.pointer (some ⟨Bs, 0, none⟩)]) rfl trivial (enters_of Try.func41 (by kernel_rfl) rfl)
    (vals_stops 2 (by omega) Bs w.heap.size a k c l hk w hBs (Nat.le_refl _) hR) Kp.t (Kp.b (by have := HS.out; omega)) (by rw [← HS.out]; exact hB0) (fun _ => rfl)
    (fun pre W => (∃ v, Boxed W s 22 v ∧ W.ownsRow (s + 1) 3 1 v pre.length (pre.map (Value.int .i64)) ∧ True) ∧ Below s w W)
    (fun c pre W => (∃ v, Boxed W s 22 v ∧ W.ownsRow (s + 1) 3 1 v pre.length (pre.map (Value.int .i64)) ∧ False) ∧ Below s w W)
    (OwnFrom.and (Own.from (holdsRow_own (s + 1) s 22 3 1 (fun pre : List Int => pre.length) (fun pre : List Int => pre.map (Value.int .i64)) (fun (pre : List Int) v => True)) _)
      (ownFrom_below (by rw [HS.out]; exact Nat.le_refl _) (by omega)))
    (fun c => OwnFrom.and (Own.from (holdsRow_own (s + 1) s 22 3 1 (fun pre : List Int => pre.length) (fun pre : List Int => pre.map (Value.int .i64)) (fun (pre : List Int) v => False)) _)
      (ownFrom_below (by rw [HS.out]; exact Nat.le_refl _) (by omega)))
    ⟨⟨_, bS, World.ownsRow_nil _ _ _ _, trivial⟩, hB0⟩
    (fun x => { tmps := #[Value.slice none 0 0, Value.func (Fn.func 41) #[] #[Value.pointer (some { block := Bs, off := 0 })],
          Value.pointer (some { block := s, off := 0 }), undef, Value.slice none 0 0, .int .i64 x,
          Value.func (Fn.func 41) #[] #[Value.pointer (some { block := Bs, off := 0 })], .int .i64 x, undef, undef, undef,
          undef, undef], defers := [] }) ?assign ?body ?done ?stop
  case assign =>
    intro lp x W K hK
    gi_wp2
    exact hK
  case body =>
    rintro lp pre x W ⟨⟨v, hv, hrow, _⟩, hB⟩ hlt
    have hc := hv.cell
    obtain ⟨A, cc, rfl⟩ : ∃ A c, v = .slice A pre.length c := by
      rcases hrow.2 with ⟨rfl, h0⟩ | ⟨g, cap, cur, rfl, _⟩
      · exact ⟨none, 0, by rw [h0]⟩
      · exact ⟨_, _, rfl⟩
    have hlt' : pre.length < 1000 := by have := HLEN.out; omega
    gi_wp2_with (gi_at_builtin; refine wpListIn_append_own _ rfl _ _ 22 rfl (s + 1) 3 i0 (.int .i64 0) 1 8 Try.underlying22 hi hz0 hz1 hz2 rfl (by decide) _ _ _ rfl (hrow.alloc _) ⟨W.heap.size, 0, none⟩ 1 1 [.int .i64 x] rfl rfl (cell_one_new _ _ _) (by simp [Value.oneCell']) (by simp only [maxLen]; omega) (by omega) (by have := hv.lt; simp; omega) ?_; intro v' w1 hown' hgrow _; obtain ⟨g', cap', rfl⟩ := ownsRow_succ hown'; obtain ⟨hv1, hv2, hr2, hk2, hkp2, hb2⟩ := appended2 hv (by omega) hrow (by have := hv.lt; omega) hown' hgrow; have hc1 := hv1.cell; have hf1 := hv1.frozen)
    exact ⟨hk2.from _, fun j hj => hkp2 j (by have := HS.out; omega) (by have := HS.out; omega), ⟨_, hv2, by simpa using hr2, trivial⟩, hB.trans hb2⟩
  case done =>
    rintro D ys W hD rfl ⟨⟨v, hv, hrow, _⟩, hB⟩ hK
    have hc := hv.cell
    gi_wp2
    refine ⟨by simp, .inl ⟨_, _, rfl, run_takeDeferred hK, ?_⟩⟩
    refine ⟨_, results_tmp rfl _ _ _, v, rfl, ?_, ?_⟩
    · exact own_weak (ownsRow_putObj hrow _ hK rfl) (by rw [← HS.out]; omega)
    · rw [← HS.out]; exact hB.trans (belowK_b (w := W0) (by omega) W D _ _ hD hK rfl rfl)
  case stop =>
    rintro D c pre W hD hpre ⟨⟨v, hv, hrow, hf⟩, hB⟩ hK
    exact hf.elim
end Go.Proofs.Ytbjhpifllgoffaa
