/- What no call made has nothing. -/
import Derived.Test.YtbjhpifllgoffaaLives
import Derived.Test.YtbjhpifllgoffaaOpen
namespace Go.Proofs.Ytbjhpifllgoffaa
open Go Go.RowKit Go.Maps Go.Conc
set_option linter.unusedVariables false
set_option linter.unusedSimpArgs false
set_option maxRecDepth 100000
set_option maxHeartbeats 2000000
theorem neq58 (w : World) (c : Option Nat) : (binOp .neq 58 (.chan c) (.chan none)).run Try.prog w = .ok (.bool (!c.isNone)) w := run_neq_chan_nil w 58 _ _ c Try.underlying58
def NoQ (w : World) (p : Option Addr) : Prop := p = none ∨ ∃ b, p = some ⟨b, 0, none⟩ ∧ w.cell? ⟨b, 0, none⟩ = some (.chan none)
def NoR (w : World) (p : Option Addr) : Prop := p = none ∨ ∃ b, p = some ⟨b, 0, none⟩ ∧ w.cell? ⟨b, 1, none⟩ = some (.map none)
section
attribute [local go_sem] neq58
theorem smade_no (p : Option Addr) (w : World) (h : NoQ w p) : Calls Try.prog 34 #[.pointer p] w fun e w' => e = .returned (.bool false) ∧ w = w' := by
  rcases h with rfl | ⟨b, rfl, hc⟩
  · go_enter Try.func34, Try.ntmps34
    go_wp2
    go_ret
    exact ⟨rfl, rfl⟩
  · go_enter Try.func34, Try.ntmps34
    go_wp2
    go_ret
    exact ⟨rfl, rfl⟩
end
theorem rmade_no (p : Option Addr) (w : World) (h : NoR w p) : Calls Try.prog 30 #[.pointer p] w fun e w' => e = .returned (.bool false) ∧ w = w' := by
  have q := fun (w : World) (r : Option Nat) => run_neq_map_nil (P := Try.prog) w 67 3 3 r Try.underlying67
  rcases h with rfl | ⟨b, rfl, hc⟩
  · go_enter Try.func30, Try.ntmps30
    go_wp2
    go_ret
    exact ⟨rfl, rfl⟩
  · go_enter Try.func30, Try.ntmps30
    go_wp2
    go_ret
    exact ⟨rfl, rfl⟩
theorem slen_no (p : Option Addr) (w : World) (h : NoQ w p) : Calls Try.prog 28 #[.pointer p] w fun e w' => e = .returned (.int .i64 0) ∧ w = w' := by
  have C := Lib.hid (smade_no p w h)
  clear h
  go_enter Try.func28, Try.ntmps28
  go_wp2_with (go_at_call 34; refine C.out.mono ?_; rintro e w2 ⟨rfl, rfl⟩)
  go_ret
  exact ⟨rfl, rfl⟩
theorem spop_no (p : Option Addr) (w : World) (h : NoQ w p) : Calls Try.prog 26 #[.pointer p] w fun e w' => e = .returned (.tuple #[.string ⟨#[]⟩, .bool false]) ∧ w = w' := by
  have C := Lib.hid (smade_no p w h)
  clear h
  go_enter Try.func26, Try.ntmps26
  go_wp2_with (go_at_call 34; refine C.out.mono ?_; rintro e w2 ⟨rfl, rfl⟩)
  go_ret2
  exact ⟨rfl, rfl⟩
theorem spush_no (p : Option Addr) (x : Value) (w : World) (h : NoQ w p) : Calls Try.prog 27 #[.pointer p, x] w fun e w' => e = .returned (.bool false) ∧ w = w' := by
  have C := Lib.hid (smade_no p w h)
  clear h
  go_enter Try.func27, Try.ntmps27
  go_wp2_with (go_at_call 34; refine C.out.mono ?_; rintro e w2 ⟨rfl, rfl⟩)
  go_ret
  exact ⟨rfl, rfl⟩
theorem rlen_no (p : Option Addr) (w : World) (h : NoR w p) : Calls Try.prog 18 #[.pointer p] w fun e w' => e = .returned (.int .i64 0) ∧ w = w' := by
  have C := Lib.hid (rmade_no p w h)
  clear h
  go_enter Try.func18, Try.ntmps18
  go_wp2_with (go_at_call 30; refine C.out.mono ?_; rintro e w2 ⟨rfl, rfl⟩)
  go_ret
  exact ⟨rfl, rfl⟩
theorem rsaid_no (p : Option Addr) (x y : Int) (w : World) (h : NoR w p) : Calls Try.prog 15 #[.pointer p, .int .i64 x, .int .i64 y] w fun e w' => e = .returned (.tuple #[]) ∧ w = w' := by
  have C := Lib.hid (rmade_no p w h)
  clear h
  go_enter Try.func15, Try.ntmps15
  go_wp2_with (go_at_call 30; refine C.out.mono ?_; rintro e w2 ⟨rfl, rfl⟩)
  refine bodyPost_ret (results_none rfl _ _ _) rfl ?_
  exact ⟨rfl, rfl⟩
theorem radd_no (p : Option Addr) (x y z : Int) (w : World) (h : NoR w p) : Calls Try.prog 14 #[.pointer p, .int .i64 x, .int .i64 y, .int .i64 z] w fun e w' => e = .returned (.bool false) ∧ w = w' := by
  have C := Lib.hid (rmade_no p w h)
  clear h
  go_enter Try.func14, Try.ntmps14
  go_wp2_with (go_at_call 30; refine C.out.mono ?_; rintro e w2 ⟨rfl, rfl⟩)
  go_ret
  exact ⟨rfl, rfl⟩
theorem rdrop_no (p : Option Addr) (w : World) (h : NoR w p) : Calls Try.prog 24 #[.pointer p] w fun e w' => e = .returned (.slice none 0 0) ∧ w = w' := by
  have C := Lib.hid (rmade_no p w h)
  clear h
  go_enter Try.func24, Try.ntmps24
  go_wp2_with (go_at_call 30; refine C.out.mono ?_; rintro e w2 ⟨rfl, rfl⟩)
  go_ret
  exact ⟨rfl, rfl⟩
theorem NoR.keep {w w' : World} {p : Option Addr} {m : Nat} (h : NoR w p) (hb : Below m w w') (hm : w.heap.size ≤ m) : NoR w' p :=
  h.imp id fun ⟨b, e, hc⟩ => ⟨b, e, (hb.cell (Nat.lt_of_lt_of_le (cell_block_lt hc) hm)).trans hc⟩
theorem NoQ.keep {w w' : World} {p : Option Addr} {m : Nat} (h : NoQ w p) (hb : Below m w w') (hm : w.heap.size ≤ m) : NoQ w' p :=
  h.imp id fun ⟨b, e, hc⟩ => ⟨b, e, (hb.cell (Nat.lt_of_lt_of_le (cell_block_lt hc) hm)).trans hc⟩
theorem rready_no (p : Option Addr) (a : Option Addr) (n c : Nat) (a2 : Option Addr) (n2 c2 : Nat) (x : Int) (w : World) (h : NoR w p) : Calls Try.prog 16 #[.pointer p, .agg #[.slice a n c, .slice a2 n2 c2], .int .i64 x] w fun e w' => e = .returned (.slice none 0 0) ∧ Below w.heap.size w w' := by
  have L1 : Below w.heap.size w (w.alloc (.cells #[.slice a n c, .slice a2 n2 c2] 32)) := (Below.refl _ w).alloc (Nat.le_refl _) _
  have C := Lib.hid (rmade_no p _ (h.keep L1 (Nat.le_refl _)))
  clear h
  have HL := Lib.hid L1
  clear L1
  go_enter Try.func16, Try.ntmps16
  go_wp2_with (go_at_call 30; refine C.out.mono ?_; rintro e w2 ⟨rfl, rfl⟩)
  go_ret
  exact ⟨rfl, HL.out⟩
def NnW (w : World) (s : Nat) (a : Option Addr) (n c : Nat) (a2 : Option Addr) (n2 c2 : Nat) (wr : World) : Prop :=
  Below s w wr ∧ wr.heap[s]? = some (.cells #[.slice a n c, .slice a2 n2 c2] 32 (0, 0)) ∧ wr.heap[s + 2]? = some (.cells #[.slice none 0 0, .map none] 69 (0, 0)) ∧ s + 2 < wr.heap.size
theorem NnW.below {w wr w' : World} {s : Nat} {a : Option Addr} {n c : Nat} {a2 : Option Addr} {n2 c2 : Nat} (h : NnW w s a n c a2 n2 c2 wr) (hb : Below wr.heap.size wr w') : NnW w s a n c a2 n2 c2 w' := by
  obtain ⟨h1, h2, h3, h4⟩ := h
  exact ⟨h1.trans (hb.mono (by omega)), (hb.block _ (by omega)).trans h2, (hb.block _ (by omega)).trans h3, Nat.lt_of_lt_of_le h4 hb.size⟩
end Go.Proofs.Ytbjhpifllgoffaa
