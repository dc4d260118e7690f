/- made, Len, Tombs and Get, over maps of integers. -/
import Derived.Test.YtcooapflofiolaaDoorMIFind
namespace Go.Proofs.YtcooapflofiolaaDoor.MI
open Go Go.RowKit Go.Shelf
set_option linter.unusedVariables false
set_option linter.unusedSimpArgs false
set_option maxRecDepth 100000
set_option maxHeartbeats 2000000
theorem made_any (p : Pl) (k0 k1 : BitVec 64) (m : Mp VT) (w : World) (h : At w p k0 k1 m) (h1 : 1 ≤ m.ws.length) :
    Calls Tryd.prog 90 #[.pointer (some ⟨p.b, 0, none⟩)] w fun e w' => e = .returned (.bool true) ∧ w = w' := by
  have c2 := h.c2
  have hl := h.cw
  have hp : (0 : Int) < (m.ws.length : Int) := by omega
  clear h
  go_enter Tryd.func90, Tryd.ntmps90
  go_wp2
  go_ret
  exact ⟨ret_bool (decide_eq_true h1), rfl⟩
theorem len_any (p : Pl) (k0 k1 : BitVec 64) (m : Mp VT) (w : World) (h : At w p k0 k1 m) (h1 : 1 ≤ m.ws.length) :
    Calls Tryd.prog 57 #[.pointer (some ⟨p.b, 0, none⟩)] w fun e w' => e = .returned (.int .i64 (m.n : Nat)) ∧ w = w' := by
  have HM := Lib.hid (made_any p k0 k1 m w h h1)
  have c4 := h.c4
  clear h
  go_enter Tryd.func57, Tryd.ntmps57
  go_wp2_with (go_at_call 90; refine HM.out.mono ?_; rintro e w' ⟨rfl, rfl⟩)
  go_ret
  exact ⟨rfl, rfl⟩
theorem tombs_any (p : Pl) (k0 k1 : BitVec 64) (m : Mp VT) (w : World) (h : At w p k0 k1 m) (h1 : 1 ≤ m.ws.length) :
    Calls Tryd.prog 58 #[.pointer (some ⟨p.b, 0, none⟩)] w fun e w' => e = .returned (.int .i64 (m.tb : Nat)) ∧ w = w' := by
  have HM := Lib.hid (made_any p k0 k1 m w h h1)
  have c5 := h.c5
  clear h
  go_enter Tryd.func58, Tryd.ntmps58
  go_wp2_with (go_at_call 90; refine HM.out.mono ?_; rintro e w' ⟨rfl, rfl⟩)
  go_ret
  exact ⟨rfl, rfl⟩
/-- What Get answers. -/
def getV (H : ByteArray → Nat) (m : Mp VT) (key : ByteArray) : VT × Bool :=
  match find H m key with
  | some i => ((m.s i).2, true)
  | none => (default, false)
theorem get_any (p : Pl) (k0 k1 : BitVec 64) (m : Mp VT) (key : ByteArray) (hks : key.size ≤ maxLen) (w : World) (h : At w p k0 k1 m) (I : MInv (hashN k0 k1) m) :
    Calls Tryd.prog 55 #[.pointer (some ⟨p.b, 0, none⟩), .string key] w fun e w' => e = .returned (.tuple #[val (getV (hashN k0 k1) m key).1, .bool (getV (hashN k0 k1) m key).2]) ∧ Below w.heap.size w w' := by
  have HM := Lib.hid (made_any p k0 k1 m w h I.len.1)
  have HFi := Lib.hid (find_any p k0 k1 m key hks w h I)
  have HA := Lib.hid h
  have HI := Lib.hid I
  clear h I hks
  cases hf : find (hashN k0 k1) m key with
  | none =>
    have HG : Hid (getV (hashN k0 k1) m key = (default, false)) := by show _ = _; unfold getV; rw [hf]
    rw [hf] at HFi
    clear hf
    go_enter Tryd.func55, Tryd.ntmps55
    go_wp2_with fail
    refine HM.out.mono ?_
    rintro e w' ⟨rfl, rfl⟩
    go_wp2_with fail
    refine HFi.out.mono ?_
    rintro e w' ⟨rfl, hb⟩
    have HB := Lib.hid hb
    clear hb
    rw [show toI none = -1 from rfl]
    go_wp2
    go_ret2
    rw [HG.out]
    exact ⟨rfl, HB.out⟩
  | some i =>
    obtain ⟨hi, _, _⟩ := find_some HI.out hf
    have HG : Hid (getV (hashN k0 k1) m key = ((m.s i).2, true)) := by show _ = _; unfold getV; rw [hf]
    rw [hf] at HFi
    clear hf
    have hlt := HI.out.len
    go_enter Tryd.func55, Tryd.ntmps55
    go_wp2_with fail
    refine HM.out.mono ?_
    rintro e w' ⟨rfl, rfl⟩
    go_wp2_with fail
    refine HFi.out.mono ?_
    rintro e w' ⟨rfl, hb⟩
    have HB := Lib.hid hb
    have A := HA.out.below (Nat.le_refl _) hb
    have c3 := A.c3
    have sv := A.sv hi
    have hi' : (i : Int) < 8 * (m.ws.length : Int) := by omega
    clear hb A
    rw [show toI (some i) = (i : Int) from rfl]
    go_wp2
    go_ret2
    rw [HG.out]
    exact ⟨rfl, HB.out⟩
end Go.Proofs.YtcooapflofiolaaDoor.MI
