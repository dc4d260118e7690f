/- What a walk over a group's slots finds. -/
import Derived.Test.YtcooapflofiolaaDoorSwInv
import Derived.RangeFuncWrites
import Derived.ChangeKeysEq
import Derived.WideShapes
import Derived.Test.YtcooapflofiolaaDoorSwMem
namespace Go.Proofs.YtcooapflofiolaaDoor
open Go Go.RowKit
set_option linter.unusedSimpArgs false
set_option linter.unusedVariables false
set_option linter.unusedSectionVars false
set_option maxRecDepth 100000
variable {V : Type} [Inhabited V]
def toI : Option Nat → Int
  | some i => (i : Int)
  | none => -1
theorem find8_some {p : Nat → Bool} {q : Nat} (hq : q < 8) (hp : p q = true) (hl : ∀ i, i < q → p i = false) : (List.range 8).find? p = some q := by
  rw [List.find?_range_eq_some]
  exact ⟨hp, by simpa using hq, fun j hj => by simp [hl j hj]⟩
theorem find8_none {p : Nat → Bool} (h : ∀ i, i < 8 → p i = false) : (List.range 8).find? p = none := by
  rw [List.find?_eq_none]
  intro i hi
  rw [List.mem_range] at hi
  simp [h i hi]
section
variable {m : Mp V} {v e b n q : Nat} {key : ByteArray}
theorem inG_found (hv : v = m.w e) (hq : q < 8) (hin : ∀ i, i < 8 → n.testBit i = true → gt v i = b) (hout : ∀ i, i < 8 → gt v i = b → n.testBit i = false → (m.s (8 * e + i)).1 ≠ key)
    (hle : ∀ i, i < 8 → n.testBit i = true → q ≤ i) (hbit : n.testBit q = true) (hk : (m.s (8 * e + q)).1 = key) : inG m b key e = some q := by
  unfold inG
  refine find8_some hq ?_ fun i hi => ?_
  · unfold hit; rw [← hv, hin q hq hbit, hk]; simp
  · unfold hit
    rw [← hv]
    by_cases h : gt v i = b
    · have h2 : n.testBit i = false := by
        cases hb : n.testBit i with
        | false => rfl
        | true => have := hle i (by omega) hb; omega
      simp [hout i (by omega) h h2]
    · simp [h]
theorem inG_missed (hv : v = m.w e) (hout : ∀ i, i < 8 → gt v i = b → (0 : Nat).testBit i = false → (m.s (8 * e + i)).1 ≠ key) : inG m b key e = none := by
  unfold inG
  refine find8_none fun i hi => ?_
  unfold hit
  rw [← hv]
  by_cases h : gt v i = b
  · simp [hout i hi h (by simp)]
  · simp [h]
theorem zero_of_bits {x : Nat} (hx : x < 256) (h : ∀ i, i < 8 → x.testBit i = false) : x = 0 := by
  rcases Nat.eq_zero_or_pos x with h0 | h0
  · exact h0
  · have h1 := first_lt hx (by omega)
    have h2 := first_bit hx (by omega)
    rw [h _ h1] at h2; cases h2
theorem emp_mch (hv : v = m.w e) : empB m e = decide (mch v 128 ≠ 0) := by
  cases he : empB m e with
  | true =>
    obtain ⟨x, hx, hc⟩ := (emp_iff m e).1 he
    unfold Mp.c at hc
    rw [hx, ← hv] at hc
    have := bit_mch v 128 (x % 8) (Nat.mod_lt _ (by decide))
    rw [hc] at this
    exact (decide_eq_true (nonzero_of (mch_lt v 128) (Nat.mod_lt _ (by decide)) (by simpa using this))).symm
  | false =>
    symm; refine decide_eq_false (fun h => h (zero_of_bits (mch_lt _ _) fun i hi => ?_))
    rw [bit_mch v 128 i hi]
    have := emp_false he (x := 8 * e + i) (by omega)
    rw [c_at m e hi, ← hv] at this
    simpa using this
theorem findL_found {r : List Nat} (h : inG m b key e = some q) : findL m b key (e :: r) = some (8 * e + q) := by rw [findL, h]
theorem findL_stop {r : List Nat} (h : inG m b key e = none) (he : empB m e = true) : findL m b key (e :: r) = none := by rw [findL, h]; simp [he]
theorem findL_on {r : List Nat} (h : inG m b key e = none) (he : empB m e = false) : findL m b key (e :: r) = findL m b key r := by rw [findL, h]; simp [he]
end
theorem keeps_below {B : Nat} {W W' : World} (h : Below W.heap.size W W') : KeepsFrom B W W' := ⟨h.size, fun k o _ hk _ => (h.block k (Array.getElem?_eq_some_iff.1 hk).1).trans hk⟩
theorem beq_toList (a b : ByteArray) : (a.toList == b.toList) = decide (a = b) := by
  rw [Bool.eq_iff_iff, beq_iff_eq, decide_eq_true_eq, ByteArray.toList_eq, ByteArray.toList_eq]
  exact ⟨fun h => WideShapes.bytes_inj h, fun h => by rw [h]⟩
end Go.Proofs.YtcooapflofiolaaDoor
