/- The groups of a hash, step by step: the round's variable is the step. -/
import Derived.Test.YtcooapflofiolaaDoorSwCall
namespace Go.Proofs.YtcooapflofiolaaDoor
open Go Go.RowKit Go.Shelf
attribute [local go_sem] Oper.semAt_some
set_option linter.unusedVariables false
set_option linter.unusedSimpArgs false
set_option maxRecDepth 100000
set_option maxHeartbeats 2000000
theorem range_pre {n m : Nat} (h : n ≤ m) : List.range n <+: List.range m := by
  obtain ⟨d, rfl⟩ := Nat.exists_eq_add_of_le h
  rw [List.range_add]; exact List.prefix_append _ _
theorem seqk_in (F : Fence) (n : Nat) (h19 : F.fn 115) (h11 : F.fn 116) (hw : F = Fence.wide) (hn : 1 ≤ n) (l Bg Bh : Nat) (hn0 : Nat) (g : Nat) (h1 : hn0 < 18446744073709551616) (hg : goodB (g : Int) = true) (J Jx : List Nat → World → Prop)
    (hY : ∀ pre x W, J pre W → pre.length < g → YieldAt F (n - 1) Tryd.prog l #[.int .i64 (el hn0 g x : Nat)] W fun e W' =>
      (e = .returned (.bool true) ∧ J (pre ++ [x]) W' ∧ Kp Bg Bh W W') ∨ (e = .returned (.bool false) ∧ Jx (pre ++ [x]) W'))
    (W : World) (hBg : W.heap[Bg]? = some (.cells #[.int .i64 g] 3 (0, 0))) (hBh : W.heap[Bh]? = some (.cells #[.int .u64 hn0] 22 (0, 0))) (hj : J [] W) :
    CallsIn F n Tryd.prog 115 #[.func (.yield l) #[] #[], .pointer (some ⟨Bg, 0, none⟩), .pointer (some ⟨Bh, 0, none⟩)] W fun e W' => (∃ v, e = .returned v) ∧
      ((∃ ys, ys = List.range g ∧ J ys W') ∨ (∃ pre, pre <+: List.range g ∧ Jx pre W')) := by
  subst hw
  have cg : W.cell? ⟨Bg, 0, none⟩ = some (.int .i64 g) := by simp [World.cell?, hBg]
  have ch : W.cell? ⟨Bh, 0, none⟩ = some (.int .u64 hn0) := by simp [World.cell?, hBh]
  have hb := goodB_bounds hg
  have eat : bits .and .u64 (hn0 : Int) ((g : Int) - 1) = ((pre hn0 g 0 : Nat) : Int) := by rw [and_good_u64 hg hn0 (by omega), pre_zero]; rfl
  have hp0 : pre hn0 g 0 < g := pre_lt _ _ _ (by omega)
  have HG := Lib.hid hg
  clear hg
  refine callsIn_of_wp Tryd.func115 rfl h19 ?_ rfl
  simp only [Tryd.ntmps115, List.size_toArray, List.length_cons, List.length_nil, Nat.reduceAdd, Nat.reduceSub, Array.replicate_succ, Array.replicate_zero, List.push_toArray, List.append_toArray, List.nil_append, List.cons_append]
  gi_wp2_with (gi_at_call 116; refine (callsIn_wide.2 (good_any _ _)).mono ?_; rintro e w' ⟨rfl, rfl⟩; rw [HG.out])
  gi_loopw [4, 16] (fun at_ i wr => ∃ k : Nat, k ≤ g ∧ i = .int .i64 k ∧ at_ = .int .i64 (pre hn0 g k : Nat) ∧ J (List.range k) wr ∧ Kp Bg Bh W wr) (fun _ i _ => g - (intOf i).toNat)
  case atStart => exact ⟨0, Nat.zero_le _, rfl, rfl, hj, Kp.refl _ _ _⟩
  case round =>
    obtain ⟨k, hk, rfl, rfl, hJk, hK⟩ := hrel
    have cg' : wr.cell? ⟨Bg, 0, none⟩ = some (.int .i64 g) := by simp [World.cell?, hK.1, hBg]
    clear cg ch eat
    by_cases hlt : k < g
    · have hx := hY (List.range k) k wr hJk (by rw [List.length_range]; exact hlt)
      obtain ⟨fn, tmps, assign, body, hy, hR⟩ := hx
      clear hY
      have hpk : pre hn0 g k < g := pre_lt _ _ _ (by omega)
      have hlt' : (k : Int) < g := by omega
      have eel : bits .and .i64 ((pre hn0 g k : Int) + (k : Int)) ((g : Int) - 1) = (el hn0 g k : Nat) := by
        rw [show ((pre hn0 g k : Nat) : Int) + (k : Int) = ((pre hn0 g k + k : Nat) : Int) by omega, and_good_i64 HG.out _ (by omega), el_pre]; rfl
      gi_wp2
      refine hR.mono ?_
      rintro e W3 (⟨rfl, hJ3, hk3⟩ | ⟨rfl, hJx3⟩)
      · gi_wp2
        go_roundw
        case rel => exact ⟨k + 1, hlt, by simp, by rw [pre_succ], by rw [List.range_succ]; exact hJ3, hK.t hk3⟩
        case measure => simp [intOf]; omega
      · gi_wp2
        refine bodyPost_ret (results_none rfl _ _ _) rfl ?_
        exact ⟨⟨_, rfl⟩, .inr ⟨_, by rw [← List.range_succ]; exact range_pre hlt, hJx3⟩⟩
    · have hge : ¬ (k : Int) < g := by omega
      gi_wp2
      go_end0
      obtain rfl : k = g := by omega
      exact ⟨⟨_, rfl⟩, .inl hJk⟩
theorem seqk_stops (n : Nat) (hn : 1 ≤ n) (Bg Bh : Nat) (hn0 g : Nat) (h1 : hn0 < 18446744073709551616) (hg : goodB (g : Int) = true) (w : World) (hBg : w.heap[Bg]? = some (.cells #[.int .i64 g] 3 (0, 0))) (hBh : w.heap[Bh]? = some (.cells #[.int .u64 hn0] 22 (0, 0))) :
    SeqStopsK Fence.wide n Tryd.prog 115 #[.pointer (some ⟨Bg, 0, none⟩), .pointer (some ⟨Bh, 0, none⟩)] (fun x : Nat => #[Value.int .i64 (el hn0 g x : Nat)]) (Kp Bg Bh) (fun ys => ys = List.range g) (fun pre => pre <+: List.range g) g w := fun l J Jx W hW _ _ hY hj =>
  seqk_in Fence.wide n trivial trivial rfl hn l Bg Bh hn0 g h1 hg J Jx hY W ((hW.block _ (Array.getElem?_eq_some_iff.1 hBg).1).trans hBg) ((hW.block _ (Array.getElem?_eq_some_iff.1 hBh).1).trans hBh) hj
end Go.Proofs.YtcooapflofiolaaDoor
