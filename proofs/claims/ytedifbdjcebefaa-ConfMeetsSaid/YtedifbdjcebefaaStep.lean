/- A change with some nodes that came in, opened. -/
import Derived.Test.YtedifbdjcebefaaMeetPlain
namespace Go.Proofs.Ytedifbdjcebefaa
open Go Go.ChangeShapes Go.WideShapes Go.RowKit
set_option maxRecDepth 100000
/-- A block that holds a change. -/
def SB (w : World) (b : Nat) (k n : Int) (v : Value) : Prop := w.heap[b]? = some (.cells #[.int .i64 k, .int .i64 n, v] 38 (0, 0))
theorem SB.c0 {w b k n v} (h : SB w b k n v) : w.cell? ⟨b, 0, none⟩ = some (.int .i64 k) := by unfold SB at h; simp [World.cell?, h]
theorem SB.c1 {w b k n v} (h : SB w b k n v) : w.cell? ⟨b, 1, none⟩ = some (.int .i64 n) := by unfold SB at h; simp [World.cell?, h]
theorem SB.c2 {w b k n v} (h : SB w b k n v) : w.cell? ⟨b, 2, none⟩ = some v := by unfold SB at h; simp [World.cell?, h]
theorem SB.lt {w b k n v} (h : SB w b k n v) : b < w.heap.size := (Array.getElem?_eq_some_iff.1 h).1
theorem SB.below {w w' b k n v} {m : Nat} (h : SB w b k n v) (hm : w.heap.size ≤ m) (hb : Below m w w') : SB w' b k n v := (hb.block b (Nat.lt_of_lt_of_le h.lt hm)).trans h
theorem SB.new (w : World) (k n : Int) (v : Value) : SB (w.alloc (.cells #[.int .i64 k, .int .i64 n, v] 38)) w.heap.size k n v := heap_alloc_new w _
theorem cells38 : Try.prog.cellsOf 38 = 3 := by kernel_rfl
theorem cells3 : Try.prog.cellsOf 3 = 1 := by kernel_rfl
section
variable {H : Type} {enc : TypeId × Value → H} {W : World}
theorem open_step {b0 : Nat} {v : Value} {d : DataW H} {ps : List MemPlace} (hval : Value.okWide Try.prog W .any b0 38 v) (hd : DataW.Trod enc Try.prog W 0 (fun _ => true) true 38 v d ps) :
    ∃ k q a n c z, v = .agg #[.int .i64 k, .int .i64 q, .slice a n c] ∧ IsRow W a n c z := by
  obtain ⟨cs, rfl, hs⟩ := okWide_struct Try.underlying38 hval
  rw [cells38] at hs
  obtain ⟨fuel, hf⟩ := hd
  obtain ⟨xs, k, _, _, hl, hlen, hff⟩ := DataW.trod_struct Try.underlying38 hf
  obtain ⟨cs⟩ := cs
  match cs, hs, xs, hlen, hff with
  | [u, v, t], _, [y0, y1, y2], _, hff =>
    have h0 := hff 0 _ rfl
    have h1 := hff 1 _ rfl
    have h2 := hff 2 _ rfl
    simp only [Value.cells] at h0 h1 h2
    have e0 : ((#[u, v, t] : Array Value).toList.drop 0).take (Try.prog.cellsOf 3) = [u] := by rw [cells3]; rfl
    have e1 : ((#[u, v, t] : Array Value).toList.drop 1).take (Try.prog.cellsOf 3) = [v] := by rw [cells3]; rfl
    have e2 : ((#[u, v, t] : Array Value).toList.drop 2).take (Try.prog.cellsOf 22) = [t] := by rw [cells22]; rfl
    have h0' : DataW.trod enc Try.prog W 0 (fun _ => true) true k 3 [u] = some y0 := by rw [← e0]; simpa using h0
    have h1' : DataW.trod enc Try.prog W 0 (fun _ => true) true k 3 [v] = some y1 := by rw [← e1]; simpa using h1
    have h2' : DataW.trod enc Try.prog W 0 (fun _ => true) true k 22 [t] = some y2 := by rw [← e2]; simpa using h2
    obtain ⟨k0, hk0, _, _⟩ := DataW.trod_int Try.underlying3 h0'
    obtain ⟨k1, hk1, _, _⟩ := DataW.trod_int Try.underlying3 h1'
    obtain ⟨a, n, c, z, rfl, r1, l1⟩ := open_row h2'
    simp at hk0 hk1
    subst hk0 hk1
    exact ⟨k0, k1, a, n, c, z, rfl, r1⟩
end
end Go.Proofs.Ytedifbdjcebefaa
