/- A map of groups in memory: its block, its words' block, its slots' block. -/
import Derived.Test.YtcooapflofiolaaDoorSwInv
import Derived.Test.YtcooapflofiolaaDoorSSum2
import Derived.Test.YtcooapflofiolaaDoorPFns
namespace Go.Proofs.YtcooapflofiolaaDoor
open Go Go.RowKit
set_option linter.unusedSimpArgs false
set_option linter.unusedVariables false
set_option linter.unusedSectionVars false
set_option maxRecDepth 100000

/-! ### What is kept -/
/-- What is not in S is as it was. -/
structure Kept (S : Nat → Prop) (w w' : World) : Prop where
  os : w'.os = w.os
  tape : w'.tape = w.tape
  output : w'.output = w.output
  size : w.heap.size ≤ w'.heap.size
  block : ∀ k, k < w.heap.size → ¬ S k → w'.heap[k]? = w.heap[k]?
theorem Kept.of {S : Nat → Prop} {w w' : World} {m : Nat} (h : Below m w w') (hm : w.heap.size ≤ m) : Kept S w w' := ⟨h.os, h.tape, h.output, h.size, fun k hk _ => h.block k (Nat.lt_of_lt_of_le hk hm)⟩
theorem Kept.refl (S : Nat → Prop) (w : World) : Kept S w w := ⟨rfl, rfl, rfl, Nat.le_refl _, fun _ _ _ => rfl⟩
theorem Kept.trans {S : Nat → Prop} {a b c : World} (h : Kept S a b) (k : Kept S b c) : Kept S a c :=
  ⟨k.os.trans h.os, k.tape.trans h.tape, k.output.trans h.output, Nat.le_trans h.size k.size, fun i hi hn => (k.block i (Nat.lt_of_lt_of_le hi h.size) hn).trans (h.block i hi hn)⟩
/-- One behind the other, where the second one writes to what the first one left alone. -/
theorem Kept.join {S T U : Nat → Prop} {a b c : World} (h : Kept S a b) (k : Kept T b c) (hS : ∀ i, S i → U i) (hT : ∀ i, i < a.heap.size → T i → U i) : Kept U a c :=
  ⟨k.os.trans h.os, k.tape.trans h.tape, k.output.trans h.output, Nat.le_trans h.size k.size, fun i hi hn => (k.block i (Nat.lt_of_lt_of_le hi h.size) (fun e => hn (hT i hi e))).trans (h.block i hi (fun e => hn (hS i e)))⟩
theorem Kept.drew {S : Nat → Prop} {a w : World} (h : Kept S a w) : Kept S a w.drew := ⟨h.os, h.tape, h.output, h.size, h.block⟩
theorem Kept.weaken {S T : Nat → Prop} {a w : World} (h : Kept S a w) (hs : ∀ k, S k → T k) : Kept T a w := ⟨h.os, h.tape, h.output, h.size, fun k hk ht => h.block k hk fun hh => ht (hs k hh)⟩
theorem Kept.setCell {S : Nat → Prop} {a w : World} (h : Kept S a w) {p : Addr} (hp : S p.block ∨ a.heap.size ≤ p.block) (u : Value) : Kept S a (w.setCell p u) :=
  ⟨h.os, h.tape, h.output, by simpa [World.setCell] using h.size, fun k hk hn => (Below.heap_setCell w p u k (fun e => by subst e; rcases hp with hp | hp; exact hn hp; omega)).trans (h.block k hk hn)⟩
theorem Kept.alloc {S : Nat → Prop} {a w : World} (h : Kept S a w) (o : Obj) : Kept S a (w.alloc o) :=
  ⟨h.os, h.tape, h.output, by have := h.size; simp; omega, fun k hk hn => (Below.heap_alloc w o k (by have := h.size; omega)).trans (h.block k hk hn)⟩
theorem Kept.below {S : Nat → Prop} {w w' : World} {m : Nat} (h : Kept S w w') (hm : m ≤ w.heap.size) (hs : ∀ k, k < w.heap.size → S k → m ≤ k) : Below m w w' :=
  ⟨h.os, h.tape, h.output, h.size, fun k hk => h.block k (by omega) fun hh => by have := hs k (by omega) hh; omega⟩
theorem Kept.bl {S : Nat → Prop} {a w w' : World} (h : Kept S a w) {m : Nat} (hb : Below m w w') (hm : a.heap.size ≤ m) : Kept S a w' :=
  ⟨hb.os.trans h.os, hb.tape.trans h.tape, hb.output.trans h.output, Nat.le_trans h.size hb.size, fun k hk hn => (hb.block k (by omega)).trans (h.block k hk hn)⟩
theorem cell_lt {w : World} {p : Addr} {v : Value} (h : w.cell? p = some v) : p.block < w.heap.size := World.block_lt_of_cell? _ _ h
theorem kept_cell {S : Nat → Prop} {w w' : World} {p : Addr} {v : Value} (hk : Kept S w w') (h : w.cell? p = some v) (hs : ¬ S p.block) : w'.cell? p = some v :=
  (World.cell?_of_block (w := w) (hk.block p.block (cell_lt h) hs)).trans h
theorem low_cell {m : Nat} {w w' : World} {p : Addr} {v : Value} (hb : Below m w w') (hm : w.heap.size ≤ m) (h : w.cell? p = some v) : w'.cell? p = some v :=
  (hb.cell (Nat.lt_of_lt_of_le (cell_lt h) hm)).trans h

/-! ### A map in memory -/
/-- Where a map lies: its block, its words' and its slots', and their capacities. -/
structure Pl where
  b : Nat
  bw : Nat
  bs : Nat
  cw : Nat
  cs : Nat
def Pl.own (p : Pl) (j : Nat) : Prop := j = p.b ∨ j = p.bw ∨ j = p.bs
section
variable {V : Type} [Inhabited V] {val : V → Value} {tM tS : Nat}
structure MA (val : V → Value) (tM tS : Nat) (w : World) (p : Pl) (k0 k1 : BitVec 64) (m : Mp V) : Prop where
  hb : w.heap[p.b]? = some (.cells #[.int .u64 (Sip.U k0), .int .u64 (Sip.U k1), .slice (some ⟨p.bw, 0, none⟩) m.ws.length p.cw, .slice (some ⟨p.bs, 0, none⟩) (8 * m.ws.length) p.cs, .int .i64 m.n, .int .i64 m.tb] tM (0, 0))
  hw : ∃ C : Array Value, w.heap[p.bw]? = some (.cells C 22 (0, 0)) ∧ ∀ j, j < m.ws.length → C[j]? = some (.int .u64 (m.w j : Nat))
  hs : ∃ C : Array Value, w.heap[p.bs]? = some (.cells C tS (0, 0)) ∧ ∀ i, i < 8 * m.ws.length → C[i * 2]? = some (.string (m.s i).1) ∧ C[i * 2 + 1]? = some (val (m.s i).2)
  cw : m.ws.length ≤ p.cw
  cs : 8 * m.ws.length ≤ p.cs
  n1 : p.b ≠ p.bw
  n2 : p.b ≠ p.bs
  n3 : p.bw ≠ p.bs
variable {w : World} {p : Pl} {k0 k1 : BitVec 64} {m : Mp V}
theorem MA.c0 (h : MA val tM tS w p k0 k1 m) : w.cell? ⟨p.b, 0, none⟩ = some (.int .u64 (Sip.U k0)) := by simp [World.cell?, h.hb]
theorem MA.c1 (h : MA val tM tS w p k0 k1 m) : w.cell? ⟨p.b, 1, none⟩ = some (.int .u64 (Sip.U k1)) := by simp [World.cell?, h.hb]
theorem MA.c2 (h : MA val tM tS w p k0 k1 m) : w.cell? ⟨p.b, 2, none⟩ = some (.slice (some ⟨p.bw, 0, none⟩) m.ws.length p.cw) := by simp [World.cell?, h.hb]
theorem MA.c3 (h : MA val tM tS w p k0 k1 m) : w.cell? ⟨p.b, 3, none⟩ = some (.slice (some ⟨p.bs, 0, none⟩) (8 * m.ws.length) p.cs) := by simp [World.cell?, h.hb]
theorem MA.c4 (h : MA val tM tS w p k0 k1 m) : w.cell? ⟨p.b, 4, none⟩ = some (.int .i64 m.n) := by simp [World.cell?, h.hb]
theorem MA.c5 (h : MA val tM tS w p k0 k1 m) : w.cell? ⟨p.b, 5, none⟩ = some (.int .i64 m.tb) := by simp [World.cell?, h.hb]
theorem MA.fz (h : MA val tM tS w p k0 k1 m) (j : Nat) : w.frozen? ⟨p.b, j, none⟩ = false := by simp [World.frozen?, h.hb]
theorem MA.wc (h : MA val tM tS w p k0 k1 m) {j : Nat} (hj : j < m.ws.length) : w.cell? ⟨p.bw, j, none⟩ = some (.int .u64 (m.w j : Nat)) := by
  obtain ⟨C, h1, h2⟩ := h.hw
  simp [World.cell?, h1, h2 j hj]
theorem MA.wf (h : MA val tM tS w p k0 k1 m) (j : Nat) : w.frozen? ⟨p.bw, j, none⟩ = false := by
  obtain ⟨C, h1, h2⟩ := h.hw
  simp [World.frozen?, h1]
theorem MA.sk (h : MA val tM tS w p k0 k1 m) {i : Nat} (hi : i < 8 * m.ws.length) : w.cell? ⟨p.bs, i * 2, none⟩ = some (.string (m.s i).1) := by
  obtain ⟨C, h1, h2⟩ := h.hs
  simp [World.cell?, h1, (h2 i hi).1]
theorem MA.sv (h : MA val tM tS w p k0 k1 m) {i : Nat} (hi : i < 8 * m.ws.length) : w.cell? ⟨p.bs, i * 2 + 1, none⟩ = some (val (m.s i).2) := by
  obtain ⟨C, h1, h2⟩ := h.hs
  simp [World.cell?, h1, (h2 i hi).2]
theorem MA.sf (h : MA val tM tS w p k0 k1 m) (j : Nat) : w.frozen? ⟨p.bs, j, none⟩ = false := by
  obtain ⟨C, h1, h2⟩ := h.hs
  simp [World.frozen?, h1]
theorem MA.lt (h : MA val tM tS w p k0 k1 m) {j : Nat} (hj : p.own j) : j < w.heap.size := by
  obtain ⟨_, h1, _⟩ := h.hw
  obtain ⟨_, h2, _⟩ := h.hs
  rcases hj with rfl | rfl | rfl
  · exact (Array.getElem?_eq_some_iff.1 h.hb).1
  · exact (Array.getElem?_eq_some_iff.1 h1).1
  · exact (Array.getElem?_eq_some_iff.1 h2).1
theorem MA.blocks {w' : World} (h : MA val tM tS w p k0 k1 m) (hk : ∀ j, p.own j → w'.heap[j]? = w.heap[j]?) : MA val tM tS w' p k0 k1 m := by
  obtain ⟨C, h1, h2⟩ := h.hw
  obtain ⟨D, h3, h4⟩ := h.hs
  exact ⟨(hk _ (.inl rfl)).trans h.hb, ⟨C, (hk _ (.inr (.inl rfl))).trans h1, h2⟩, ⟨D, (hk _ (.inr (.inr rfl))).trans h3, h4⟩, h.cw, h.cs, h.n1, h.n2, h.n3⟩
theorem MA.below {w' : World} {k : Nat} (h : MA val tM tS w p k0 k1 m) (hk : w.heap.size ≤ k) (hb : Below k w w') : MA val tM tS w' p k0 k1 m := h.blocks fun j hj => hb.block j (Nat.lt_of_lt_of_le (h.lt hj) hk)
theorem MA.kept {w' : World} {S : Nat → Prop} (h : MA val tM tS w p k0 k1 m) (hk : Kept S w w') (hs : ∀ j, p.own j → ¬ S j) : MA val tM tS w' p k0 k1 m := h.blocks fun j hj => hk.block j (h.lt hj) (hs j hj)
theorem MA.setW (h : MA val tM tS w p k0 k1 m) {j x : Nat} (hj : j < m.ws.length) : MA val tM tS (w.setCell ⟨p.bw, j, none⟩ (.int .u64 (x : Nat))) p k0 k1 { m with ws := m.ws.set j x } := by
  obtain ⟨C, h1, h2⟩ := h.hw
  obtain ⟨D, h3, h4⟩ := h.hs
  have hl : (m.ws.set j x).length = m.ws.length := List.length_set
  have hn1 := h.n1; have hn3 := h.n3
  refine ⟨?_, ⟨C.setIfInBounds j (.int .u64 (x : Nat)), heap_setCell_same _ _ _ _ _ _ h1, fun i hi => ?_⟩, ⟨D, ?_, fun i hi => h4 i (by simpa [hl] using hi)⟩, by rw [hl]; exact h.cw, by rw [hl]; exact h.cs, h.n1, h.n2, h.n3⟩
  · rw [heap_setCell_other _ _ _ _ hn1]; simp only [hl]; exact h.hb
  · have hi' : i < m.ws.length := by simpa [hl] using hi
    have hsz : i < C.size := (Array.getElem?_eq_some_iff.1 (h2 i hi')).1
    unfold Mp.w
    rw [Array.getElem?_setIfInBounds]
    by_cases e : j = i
    · subst e
      rw [if_pos rfl, if_pos hsz, List.getD_eq_getElem?_getD, List.getElem?_set_self hi']; rfl
    · rw [if_neg e, List.getD_eq_getElem?_getD, List.getElem?_set_ne e, ← List.getD_eq_getElem?_getD]
      exact h2 i hi'
  · rw [heap_setCell_other _ _ _ _ (fun e => hn3 e.symm)]; exact h3
theorem MA.setS (h : MA val tM tS w p k0 k1 m) {i : Nat} (hi : i < 8 * m.ws.length) (hsl : m.ss.length = 8 * m.ws.length) (s : ByteArray × V) : MA val tM tS ((w.setCell ⟨p.bs, i * 2, none⟩ (.string s.1)).setCell ⟨p.bs, i * 2 + 1, none⟩ (val s.2)) p k0 k1 { m with ss := m.ss.set i s } := by
  obtain ⟨C, h1, h2⟩ := h.hw
  obtain ⟨D, h3, h4⟩ := h.hs
  have hn2 := h.n2; have hn3 := h.n3
  have g1 := heap_setCell_same _ _ (i * 2) _ _ (.string s.1) h3
  have g2 := heap_setCell_same _ _ (i * 2 + 1) _ _ (val s.2) g1
  refine ⟨?_, ⟨C, ?_, h2⟩, ⟨_, g2, fun y hy => ?_⟩, h.cw, h.cs, h.n1, h.n2, h.n3⟩
  · rw [heap_setCell_other _ _ _ _ hn2, heap_setCell_other _ _ _ _ hn2]; exact h.hb
  · rw [heap_setCell_other _ _ _ _ hn3, heap_setCell_other _ _ _ _ hn3]; exact h1
  · have q1 := (Array.getElem?_eq_some_iff.1 (h4 y hy).1).1
    have q2 := (Array.getElem?_eq_some_iff.1 (h4 y hy).2).1
    unfold Mp.s
    by_cases e : y = i
    · subst e
      rw [List.getD_eq_getElem?_getD, List.getElem?_set_self (by omega)]
      constructor
      · rw [Array.getElem?_setIfInBounds, if_neg (by omega), Array.getElem?_setIfInBounds, if_pos rfl, if_pos q1]; rfl
      · rw [Array.getElem?_setIfInBounds, if_pos rfl, if_pos (by simpa using q2)]; rfl
    · rw [List.getD_eq_getElem?_getD, List.getElem?_set_ne (fun e' => e e'.symm), ← List.getD_eq_getElem?_getD]
      constructor
      · rw [Array.getElem?_setIfInBounds, if_neg (by omega), Array.getElem?_setIfInBounds, if_neg (by omega)]; exact (h4 y hy).1
      · rw [Array.getElem?_setIfInBounds, if_neg (by omega), Array.getElem?_setIfInBounds, if_neg (by omega)]; exact (h4 y hy).2
theorem MA.setV (h : MA val tM tS w p k0 k1 m) {i : Nat} (hi : i < 8 * m.ws.length) (hsl : m.ss.length = 8 * m.ws.length) (v : V) : MA val tM tS (w.setCell ⟨p.bs, i * 2 + 1, none⟩ (val v)) p k0 k1 { m with ss := m.ss.set i ((m.s i).1, v) } := by
  obtain ⟨C, h1, h2⟩ := h.hw
  obtain ⟨D, h3, h4⟩ := h.hs
  have hn2 := h.n2; have hn3 := h.n3
  have g1 := heap_setCell_same _ _ (i * 2 + 1) _ _ (val v) h3
  refine ⟨?_, ⟨C, ?_, h2⟩, ⟨_, g1, fun y hy => ?_⟩, h.cw, h.cs, h.n1, h.n2, h.n3⟩
  · rw [heap_setCell_other _ _ _ _ hn2]; exact h.hb
  · rw [heap_setCell_other _ _ _ _ hn3]; exact h1
  · have q1 := (Array.getElem?_eq_some_iff.1 (h4 y hy).1).1
    have q2 := (Array.getElem?_eq_some_iff.1 (h4 y hy).2).1
    by_cases e : y = i
    · subst e
      have e1 : Mp.s { m with ss := m.ss.set y ((m.s y).1, v) } y = ((m.s y).1, v) := by
        unfold Mp.s; rw [List.getD_eq_getElem?_getD, List.getElem?_set_self (by omega)]; rfl
      rw [e1]
      constructor
      · rw [Array.getElem?_setIfInBounds, if_neg (by omega)]; exact (h4 y hy).1
      · rw [Array.getElem?_setIfInBounds, if_pos rfl, if_pos q2]
    · have e1 : Mp.s { m with ss := m.ss.set i ((m.s i).1, v) } y = m.s y := by
        unfold Mp.s; rw [List.getD_eq_getElem?_getD, List.getElem?_set_ne (fun e' => e e'.symm), ← List.getD_eq_getElem?_getD]
      rw [e1]
      constructor
      · rw [Array.getElem?_setIfInBounds, if_neg (by omega)]; exact (h4 y hy).1
      · rw [Array.getElem?_setIfInBounds, if_neg (by omega)]; exact (h4 y hy).2
theorem MA.setN (h : MA val tM tS w p k0 k1 m) (x : Nat) : MA val tM tS (w.setCell ⟨p.b, 4, none⟩ (.int .i64 (x : Nat))) p k0 k1 { m with n := x } := by
  obtain ⟨C, h1, h2⟩ := h.hw
  obtain ⟨D, h3, h4⟩ := h.hs
  refine ⟨by rw [heap_setCell_same _ _ _ _ _ _ h.hb]; rfl, ⟨C, ?_, h2⟩, ⟨D, ?_, h4⟩, h.cw, h.cs, h.n1, h.n2, h.n3⟩
  · rw [heap_setCell_other _ _ _ _ (fun e => h.n1 e.symm)]; exact h1
  · rw [heap_setCell_other _ _ _ _ (fun e => h.n2 e.symm)]; exact h3
theorem MA.setT (h : MA val tM tS w p k0 k1 m) (x : Nat) : MA val tM tS (w.setCell ⟨p.b, 5, none⟩ (.int .i64 (x : Nat))) p k0 k1 { m with tb := x } := by
  obtain ⟨C, h1, h2⟩ := h.hw
  obtain ⟨D, h3, h4⟩ := h.hs
  refine ⟨by rw [heap_setCell_same _ _ _ _ _ _ h.hb]; rfl, ⟨C, ?_, h2⟩, ⟨D, ?_, h4⟩, h.cw, h.cs, h.n1, h.n2, h.n3⟩
  · rw [heap_setCell_other _ _ _ _ (fun e => h.n1 e.symm)]; exact h1
  · rw [heap_setCell_other _ _ _ _ (fun e => h.n2 e.symm)]; exact h3
end
/-- The hash of a text, as a number. -/
def hashN (k0 k1 : BitVec 64) (s : ByteArray) : Nat := (Sip.sumOf k0 k1 s.data.toList).toNat
theorem hashN_lt (k0 k1 : BitVec 64) (s : ByteArray) : hashN k0 k1 s < 18446744073709551616 := (Sip.sumOf k0 k1 s.data.toList).isLt
theorem hashN_U (k0 k1 : BitVec 64) (s : ByteArray) : Sip.U (Sip.sumOf k0 k1 s.data.toList) = (hashN k0 k1 s : Int) := rfl
end Go.Proofs.YtcooapflofiolaaDoor
