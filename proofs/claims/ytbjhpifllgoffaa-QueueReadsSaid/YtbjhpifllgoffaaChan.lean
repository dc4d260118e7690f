/- A queue of numbers: what New, Push, Pop and Len do to its channel. -/
import Derived.Test.YtbjhpifllgoffaaProg
import Derived.WalkKit
import Derived.WalkSpells
import Derived.WalkMore
import Derived.Lib.Hide
import Derived.Conc.LoneCalls
import Derived.Conc.LoneSelect
import Derived.Conc.LoneSelectN
import Derived.KernelRfl
import Derived.Laws.Rows
namespace Go.Proofs.Ytbjhpifllgoffaa
open Go.Conc Go.RowKit
set_option linter.unusedVariables false
set_option linter.unusedSimpArgs false
set_option maxRecDepth 100000
set_option maxHeartbeats 1000000

/-! ### a plain part of a body, walked as code, ahead of a communication -/
section
variable {P : Program} {Q : Goroutine → World → Prop}
theorem LoneTo.steps {g g' : Goroutine} {w w' : World} (h : Steps P (solo g w) (solo g' w')) (h' : LoneTo P Q g' w') : LoneTo P Q g w :=
  let ⟨g₂, w₂, hs, hq⟩ := h'; ⟨g₂, w₂, h.trans hs, hq⟩
/-- A part that runs to its end. -/
def OnlyEnds (K : Act → World → Prop) : Exit → Act → World → Prop := Exit.then K fun _ _ _ => False
theorem LoneTo.code_k {c : Code} {b : Frame} {k : List Item} {cs : List Frame} {a : Act} {w : World}
    (h : ∀ K : Act → World → Prop, (∀ a w, LoneTo P Q (G (b.at a k) cs) w → K a w) → c.wp P (Exit.then K fun _ _ _ => False) a w) : LoneTo P Q (G (b.at a (.code c :: k)) cs) w := by
  obtain ⟨e, a', w', hq, harr⟩ := h (fun a w => LoneTo P Q (G (b.at a k) cs) w) (fun _ _ h => h) b k cs
  cases e with
  | normal => exact LoneTo.steps harr hq
  | _ => exact hq.elim
theorem LoneTo.seq {x y : Code} {b : Frame} {k : List Item} {cs : List Frame} {a : Act} {w : World}
    (h : LoneTo P Q (G (b.at a (.code x :: .code y :: k)) cs) w) : LoneTo P Q (G (b.at a (.code (.seq x y) :: k)) cs) w :=
  LoneTo.steps (.one step_seq) h
end

theorem run_equalIn_chan_nil {P : Program} (w : World) (n : Nat) (t e : TypeId) (d : ChanDir) (c : Option Nat) (h : P.underlying t = some (.chan d e)) : (Op.equalIn (n + 1) t (.chan c) (.chan none)).run P w = .ok c.isNone w := by
  cases c <;> simp [Op.equalIn, run_underlying h]
theorem run_equal_chan_nil {P : Program} (w : World) (t e : TypeId) (d : ChanDir) (c : Option Nat) (h : P.underlying t = some (.chan d e)) : (Op.equal t (.chan c) (.chan none)).run P w = .ok c.isNone w := run_equalIn_chan_nil w 9999 t e d c h
theorem run_neq_chan_nil {P : Program} (w : World) (t e : TypeId) (d : ChanDir) (c : Option Nat) (h : P.underlying t = some (.chan d e)) : (binOp .neq t (.chan c) (.chan none)).run P w = .ok (.bool (!c.isNone)) w := by
  simp only [binOp]
  simp [run_equal_chan_nil w t e d c h]
theorem neq72 (w : World) (c : Option Nat) : (binOp .neq 72 (.chan c) (.chan none)).run Try.prog w = .ok (.bool (!c.isNone)) w := run_neq_chan_nil w 72 _ _ c Try.underlying72
attribute [local go_sem] neq72
theorem made_any (b c : Nat) (w : World) (h : w.cell? ⟨b, 0, none⟩ = some (.chan (some c))) : Calls Try.prog 29 #[.pointer (some ⟨b, 0, none⟩)] w fun e w' => e = .returned (.bool true) ∧ w = w' := by
  go_enter Try.func29, Try.ntmps29
  go_wp2
  go_ret
  exact ⟨rfl, rfl⟩
theorem e11 (b : Nat) (x : Int) : Frame.enter Try.prog 11 #[.pointer (some ⟨b, 0, none⟩), .int .i64 x] .normal = (base 11).at ⟨#[.pointer (some ⟨b, 0, none⟩), .int .i64 x, undef, undef, undef, undef, undef, undef, undef, undef, undef, undef, undef, undef, undef, undef], []⟩ [.code (Try.f11.body.getD .skip)] := by
  simp [Frame.enter, Frame.at, Try.func11, base, Try.f11]
theorem push_room (b c cap s r : Nat) (buf : Array Value) (x : Int) (w : World) (h : w.cell? ⟨b, 0, none⟩ = some (.chan (some c))) (hc : w.heap[c]? = some (.chan cap buf false s r false)) (hr : buf.size < cap) :
    Calls Try.prog 11 #[.pointer (some ⟨b, 0, none⟩), .int .i64 x] w fun e w' => e = .returned (.bool true) ∧ w' = w.setChan c cap (buf.push (.int .i64 x)) false (s + 1) r false := by
  refine calls_of_loneTo fun cs => ?_
  rw [e11]
  simp only [Try.f11, Option.getD_some]
  refine LoneTo.seq ?_
  refine LoneTo.code_k fun K hK => ?_
  go_wp2

  refine LoneTo.seq ?_
  refine LoneTo.code_k fun K hK => ?_
  go_wp2_with (go_at_call 29; refine (made_any b c _ h).mono ?_; rintro e w2 ⟨rfl, rfl⟩)
  refine LoneTo.seq ?_
  refine LoneTo.code_k fun K hK => ?_
  go_wp2
  refine LoneTo.goes (n := 20) ?_
  s_c stepG_seq
  s_reg
  s_stop
  refine LoneTo.step (step_lone_select_send_room (c := c) (cap := cap) (buf := buf) (s := s) (r := r) (tm := false) (stepG_comm (cases := #[scase c (.int .i64 x) (.int .i64 0)]) (blocking := false) (shape := .select) (w' := w) rfl rfl (by decide) (by simp [go_sem, execOp, scase, Act.eval])) hc hr) ?_
  rw [Frame.finish_at]
  walk_nrm
  refine LoneTo.goes (n := 20) ?_
  s_op
  s_op
  s_c stepG_region_end
  s_c stepG_block
  s_cond true
  s_c stepG_seq
  s_reg
  s_op
  s_c stepG_region_end
  s_c stepG_ret'
  s_stop
  refine LoneTo.done ⟨.returned (.bool true), _, rfl, ⟨rfl, rfl⟩, rfl, rfl, rfl, rfl, _, Try.func11, by simp [results, Try.f11, Frame.at]⟩
theorem push_full (b c cap s r : Nat) (buf : Array Value) (x : Int) (w : World) (h : w.cell? ⟨b, 0, none⟩ = some (.chan (some c))) (hc : w.heap[c]? = some (.chan cap buf false s r false)) (hr : cap ≤ buf.size) :
    Calls Try.prog 11 #[.pointer (some ⟨b, 0, none⟩), .int .i64 x] w fun e w' => e = .returned (.bool false) ∧ w' = w := by
  refine calls_of_loneTo fun cs => ?_
  rw [e11]
  simp only [Try.f11, Option.getD_some]
  refine LoneTo.seq ?_
  refine LoneTo.code_k fun K hK => ?_
  go_wp2

  refine LoneTo.seq ?_
  refine LoneTo.code_k fun K hK => ?_
  go_wp2_with (go_at_call 29; refine (made_any b c _ h).mono ?_; rintro e w2 ⟨rfl, rfl⟩)
  refine LoneTo.seq ?_
  refine LoneTo.code_k fun K hK => ?_
  go_wp2
  refine LoneTo.goes (n := 20) ?_
  s_c stepG_seq
  s_reg
  s_stop
  refine LoneTo.step (step_lone_select_send_full (c := c) (cap := cap) (buf := buf) (s := s) (r := r) (tm := false) (stepG_comm (cases := #[scase c (.int .i64 x) (.int .i64 0)]) (blocking := false) (shape := .select) (w' := w) rfl rfl (by decide) (by simp [go_sem, execOp, scase, Act.eval])) hc hr) ?_
  rw [Frame.finish_at]
  walk_nrm
  refine LoneTo.goes (n := 20) ?_
  s_op
  s_op
  s_c stepG_region_end
  s_c stepG_block
  s_cond false
  s_c stepG_seq
  s_reg
  s_op
  s_c stepG_region_end
  s_c stepG_ret'
  s_stop
  refine LoneTo.done ⟨.returned (.bool false), _, rfl, ⟨rfl, rfl⟩, rfl, rfl, rfl, rfl, _, Try.func11, by simp [results, Try.f11, Frame.at]⟩
theorem e10 (b : Nat) : Frame.enter Try.prog 10 #[.pointer (some ⟨b, 0, none⟩)] .normal = (base 10).at ⟨#[.pointer (some ⟨b, 0, none⟩), undef, undef, undef, undef, undef, undef, undef, undef, undef, undef, undef, undef, undef, undef, undef, undef, undef, undef], []⟩ [.code (Try.f10.body.getD .skip)] := by
  simp [Frame.enter, Frame.at, Try.func10, base, Try.f10]
theorem pop_some (b c cap s r : Nat) (buf : Array Value) (x : Int) (w : World) (h : w.cell? ⟨b, 0, none⟩ = some (.chan (some c))) (hc : w.heap[c]? = some (.chan cap buf false s r false)) (hr : 0 < buf.size) (hx : buf.getD 0 undef = .int .i64 x) :
    Calls Try.prog 10 #[.pointer (some ⟨b, 0, none⟩)] w fun e w' => e = .returned (.tuple #[.int .i64 x, .bool true]) ∧ w' = w.setChan c cap (buf.extract 1 buf.size) false s (r + 1) false := by
  refine calls_of_loneTo fun cs => ?_
  rw [e10]
  simp only [Try.f10, Option.getD_some]
  refine LoneTo.seq ?_
  refine LoneTo.code_k fun K hK => ?_
  go_wp2
  refine LoneTo.seq ?_
  refine LoneTo.code_k fun K hK => ?_
  go_wp2_with (go_at_call 29; refine (made_any b c _ h).mono ?_; rintro e w2 ⟨rfl, rfl⟩)
  refine LoneTo.seq ?_
  refine LoneTo.code_k fun K hK => ?_
  go_wp2
  refine LoneTo.goes (n := 20) ?_
  s_c stepG_seq
  s_reg
  s_stop
  refine LoneTo.step (step_lone_select_recv_buf (c := c) (cap := cap) (buf := buf) (closed := false) (s := s) (r := r) (tm := false) (stepG_comm (cases := #[rcase c (.int .i64 0)]) (blocking := false) (shape := .select) (w' := w) rfl rfl (by decide) (by simp [go_sem, execOp, rcase, Act.eval])) hc hr) ?_
  rw [Frame.finish_at, hx]
  walk_nrm
  refine LoneTo.goes (n := 24) ?_
  s_op
  s_op
  s_c stepG_region_end
  s_c stepG_block
  s_cond true
  s_c stepG_seq
  s_reg
  s_op
  s_op
  s_c stepG_region_end
  s_c stepG_seq
  s_reg
  s_op
  s_op
  s_op
  s_c stepG_region_end
  s_c stepG_ret'
  s_stop
  refine LoneTo.done ⟨.returned (.tuple #[.int .i64 x, .bool true]), _, rfl, ⟨rfl, rfl⟩, rfl, rfl, rfl, rfl, _, Try.func10, by simp [results, Try.f10, Frame.at]⟩
theorem pop_none (b c cap s r : Nat) (w : World) (h : w.cell? ⟨b, 0, none⟩ = some (.chan (some c))) (hc : w.heap[c]? = some (.chan cap #[] false s r false)) :
    Calls Try.prog 10 #[.pointer (some ⟨b, 0, none⟩)] w fun e w' => e = .returned (.tuple #[.int .i64 0, .bool false]) ∧ w' = w := by
  refine calls_of_loneTo fun cs => ?_
  rw [e10]
  simp only [Try.f10, Option.getD_some]
  refine LoneTo.seq ?_
  refine LoneTo.code_k fun K hK => ?_
  go_wp2
  refine LoneTo.seq ?_
  refine LoneTo.code_k fun K hK => ?_
  go_wp2_with (go_at_call 29; refine (made_any b c _ h).mono ?_; rintro e w2 ⟨rfl, rfl⟩)
  refine LoneTo.seq ?_
  refine LoneTo.code_k fun K hK => ?_
  go_wp2
  refine LoneTo.goes (n := 20) ?_
  s_c stepG_seq
  s_reg
  s_stop
  refine LoneTo.step (step_lone_select_default (c := c) (z := .int .i64 0) (cap := cap) (s := s) (r := r) (tm := false) (stepG_comm (cases := #[rcase c (.int .i64 0)]) (blocking := false) (shape := .select) (w' := w) rfl rfl (by decide) (by simp [go_sem, execOp, rcase, Act.eval])) hc) ?_
  rw [Frame.finish_at]
  walk_nrm
  refine LoneTo.goes (n := 20) ?_
  s_op
  s_op
  s_c stepG_region_end
  s_c stepG_block
  s_cond false
  s_c stepG_seq
  s_reg
  s_op
  s_op
  s_op
  s_c stepG_region_end
  s_c stepG_ret'
  s_stop
  refine LoneTo.done ⟨.returned (.tuple #[.int .i64 0, .bool false]), _, rfl, ⟨rfl, rfl⟩, rfl, rfl, rfl, rfl, _, Try.func10, by simp [results, Try.f10, Frame.at]⟩
theorem len_any (b c cap s r : Nat) (buf : Array Value) (w : World) (h : w.cell? ⟨b, 0, none⟩ = some (.chan (some c))) (hc : w.heap[c]? = some (.chan cap buf false s r false)) :
    Calls Try.prog 12 #[.pointer (some ⟨b, 0, none⟩)] w fun e w' => e = .returned (.int .i64 buf.size) ∧ w = w' := by
  have hl := fun (ty : TypeId) => run_len_chan (P := Try.prog) (w := w) 72 ty Try.underlying72 hc
  simp only [goInt] at hl
  go_enter Try.func12, Try.ntmps12
  go_wp2_with (go_at_call 29; refine (made_any b c _ h).mono ?_; rintro e w2 ⟨rfl, rfl⟩)
  go_ret
  exact ⟨rfl, rfl⟩
theorem bytes3 : ∃ i, Try.prog.info? 3 = some i ∧ i.bytes = 8 := by
  have h : (Try.prog.info? 3).map (·.bytes) = some 8 := by kernel_rfl
  obtain ⟨i, hi, hb⟩ := Option.map_eq_some_iff.1 h
  exact ⟨i, hi, hb⟩
theorem new_none (most : Int) (w : World) (h : most < 1 ∨ 10000 < most) : Calls Try.prog 8 #[.int .i64 most] w fun e w' => e = .returned (.pointer none) ∧ w = w' := by
  by_cases h1 : most < 1
  · go_enter Try.func8, Try.ntmps8
    go_wp2
    go_ret
    exact ⟨rfl, rfl⟩
  · have h2 : 10000 < most := by omega
    clear h
    go_enter Try.func8, Try.ntmps8
    go_wp2
    go_ret
    exact ⟨rfl, rfl⟩
theorem new_some (most : Nat) (w : World) (h1 : 1 ≤ most) (h2 : most ≤ 10000) : Calls Try.prog 8 #[.int .i64 most] w fun e w' => e = .returned (.pointer (some ⟨w.heap.size + 1, 0, none⟩)) ∧ w' = (w.alloc (.chan most #[] false 0 0 false)).alloc (.cells #[.chan (some w.heap.size)] 74 (0, 0)) := by
  have a1 : ¬ (most : Int) < 1 := by omega
  have a2 : ¬ (10000 : Int) < most := by omega
  have hmc : (Instr.makeChan 72 (.int .i64 most)).run Try.prog w = .ok (.chan (some w.heap.size)) (w.alloc (.chan most #[] false 0 0 false)) := by
    obtain ⟨i, hi, hb⟩ := bytes3
    exact run_makeChan Try.underlying72 hi .i64 most (by omega) (by rw [hb]; omega)
  go_enter Try.func8, Try.ntmps8
  go_wp2
  go_ret
  exact ⟨rfl, rfl⟩
end Go.Proofs.Ytbjhpifllgoffaa
