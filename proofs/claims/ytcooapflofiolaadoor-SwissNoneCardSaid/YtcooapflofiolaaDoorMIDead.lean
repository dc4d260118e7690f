/- Maps of integers that no call made: nil, and the zero value. -/
import Derived.Test.YtcooapflofiolaaDoorMILives2
namespace Go.Proofs.YtcooapflofiolaaDoor.MI
open Go Go.RowKit Go.Shelf
set_option linter.unusedVariables false
set_option linter.unusedSimpArgs false
set_option maxRecDepth 100000
set_option maxHeartbeats 4000000
def zeroM : Array Value := #[.int .u64 0, .int .u64 0, .slice none 0 0, .slice none 0 0, .int .i64 0, .int .i64 0]
def Dead (w : World) (p : Option Addr) : Prop := p = none ∨ ∃ b : Nat, p = some ⟨b, 0, none⟩ ∧ w.heap[b]? = some (.cells zeroM 94 (0, 0))
theorem Dead.below {w w' : World} {p : Option Addr} {k : Nat} (h : Dead w p) (hk : w.heap.size ≤ k) (hb : Below k w w') : Dead w' p := by
  rcases h with h | ⟨b, h1, h2⟩
  · exact .inl h
  · exact .inr ⟨b, h1, by rw [← h2]; exact hb.block b (Nat.lt_of_lt_of_le (Array.getElem?_eq_some_iff.1 h2).1 hk)⟩
theorem made_dead (p : Option Addr) (w : World) (h : Dead w p) : Calls Tryd.prog 90 #[.pointer p] w fun e w' => e = .returned (.bool false) ∧ w = w' := by
  rcases h with rfl | ⟨b, rfl, hb⟩
  · go_enter Tryd.func90, Tryd.ntmps90
    go_wp2
    go_ret
    exact ⟨rfl, rfl⟩
  · have c2 : w.cell? ⟨b, 2, none⟩ = some (.slice none 0 0) := by unfold World.cell?; simp [hb, zeroM]
    clear hb
    go_enter Tryd.func90, Tryd.ntmps90
    go_wp2
    go_ret
    exact ⟨rfl, rfl⟩
theorem put_dead (p : Option Addr) (key : ByteArray) (v : Int) (w : World) (h : Dead w p) : Calls Tryd.prog 54 #[.pointer p, .string key, .int .i64 v] w fun e w' => e = .returned (.tuple #[.bool false, .int .i64 1]) ∧ w = w' := by
  have HM := Lib.hid (made_dead p w h)
  clear h
  go_enter Tryd.func54, Tryd.ntmps54
  go_wp2_with (go_at_call 90; refine HM.out.mono ?_; rintro e w' ⟨rfl, rfl⟩)
  go_ret2
  exact ⟨rfl, rfl⟩
theorem get_dead (p : Option Addr) (key : ByteArray) (w : World) (h : Dead w p) : Calls Tryd.prog 55 #[.pointer p, .string key] w fun e w' => e = .returned (.tuple #[.int .i64 0, .bool false]) ∧ w = w' := by
  have HM := Lib.hid (made_dead p w h)
  clear h
  go_enter Tryd.func55, Tryd.ntmps55
  go_wp2_with (go_at_call 90; refine HM.out.mono ?_; rintro e w' ⟨rfl, rfl⟩)
  go_ret2
  exact ⟨rfl, rfl⟩
theorem delete_dead (p : Option Addr) (key : ByteArray) (w : World) (h : Dead w p) : Calls Tryd.prog 56 #[.pointer p, .string key] w fun e w' => e = .returned (.bool false) ∧ w = w' := by
  have HM := Lib.hid (made_dead p w h)
  clear h
  go_enter Tryd.func56, Tryd.ntmps56
  go_wp2_with (go_at_call 90; refine HM.out.mono ?_; rintro e w' ⟨rfl, rfl⟩)
  go_ret
  exact ⟨rfl, rfl⟩
theorem len_dead (p : Option Addr) (w : World) (h : Dead w p) : Calls Tryd.prog 57 #[.pointer p] w fun e w' => e = .returned (.int .i64 0) ∧ w = w' := by
  have HM := Lib.hid (made_dead p w h)
  clear h
  go_enter Tryd.func57, Tryd.ntmps57
  go_wp2_with (go_at_call 90; refine HM.out.mono ?_; rintro e w' ⟨rfl, rfl⟩)
  go_ret
  exact ⟨rfl, rfl⟩
theorem tombs_dead (p : Option Addr) (w : World) (h : Dead w p) : Calls Tryd.prog 58 #[.pointer p] w fun e w' => e = .returned (.int .i64 0) ∧ w = w' := by
  have HM := Lib.hid (made_dead p w h)
  clear h
  go_enter Tryd.func58, Tryd.ntmps58
  go_wp2_with (go_at_call 90; refine HM.out.mono ?_; rintro e w' ⟨rfl, rfl⟩)
  go_ret
  exact ⟨rfl, rfl⟩
theorem controls_dead (p : Option Addr) (w : World) (h : Dead w p) : Calls Tryd.prog 59 #[.pointer p] w fun e w' => e = .returned (.slice none 0 0) ∧ w = w' := by
  have HM := Lib.hid (made_dead p w h)
  clear h
  go_enter Tryd.func59, Tryd.ntmps59
  go_wp2_with (go_at_call 90; refine HM.out.mono ?_; rintro e w' ⟨rfl, rfl⟩)
  go_ret
  exact ⟨rfl, rfl⟩
theorem keys_dead (p : Option Addr) (w : World) (h : Dead w p) : Calls Tryd.prog 60 #[.pointer p] w fun e w' => e = .returned (.slice none 0 0) ∧ w = w' := by
  have HM := Lib.hid (made_dead p w h)
  clear h
  go_enter Tryd.func60, Tryd.ntmps60
  go_wp2_with (go_at_call 90; refine HM.out.mono ?_; rintro e w' ⟨rfl, rfl⟩)
  go_ret
  exact ⟨rfl, rfl⟩
theorem copy_dead (p : Option Addr) (w : World) (h : Dead w p) : Calls Tryd.prog 61 #[.pointer p] w fun e w' => e = .returned (.pointer none) ∧ w = w' := by
  have HM := Lib.hid (made_dead p w h)
  clear h
  go_enter Tryd.func61, Tryd.ntmps61
  go_wp2_with (go_at_call 90; refine HM.out.mono ?_; rintro e w' ⟨rfl, rfl⟩)
  go_ret
  exact ⟨rfl, rfl⟩
end Go.Proofs.YtcooapflofiolaaDoor.MI
