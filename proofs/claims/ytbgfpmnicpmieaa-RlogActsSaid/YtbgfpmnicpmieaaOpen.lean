/- An act that came in, opened. -/
import Derived.Test.YtbgfpmnicpmieaaRNone
import Derived.ChangeArms
import Derived.ChangeOld
import Derived.ShutString
namespace Go.Proofs.Ytbgfpmnicpmieaa
open Go Go.ChangeShapes Go.WideShapes Go.RowKit
set_option linter.unusedVariables false
set_option linter.unusedSimpArgs false
set_option maxRecDepth 100000
theorem cells48 : Try.prog.cellsOf 48 = 4 := by kernel_rfl
theorem cells3 : Try.prog.cellsOf 3 = 1 := by kernel_rfl
theorem cells22 : Try.prog.cellsOf 22 = 1 := by kernel_rfl
section
variable {H : Type} {enc : TypeId × Value → H} {W : World}
theorem open_sl {fuel : Nat} {v : Value} {x : DataW H × List MemPlace} (hf : DataW.trod enc Try.prog W 0 (fun _ => true) true fuel 22 [v] = some x) : ∃ a n c, v = .slice a n c := by
  rcases DataW.trod_slice Try.underlying22 hf with ⟨hcs, _⟩ | ⟨a, l, c, _, _, _, _, hcs, _⟩
  · simp at hcs
    exact ⟨_, _, _, hcs⟩
  · simp at hcs
    exact ⟨_, _, _, hcs⟩
theorem open_act {b0 : Nat} {v : Value} {d : DataW H} {ps : List MemPlace} (hval : Value.okWide Try.prog W .any b0 48 v) (hd : DataW.Trod enc Try.prog W 0 (fun _ => true) true 48 v d ps) :
    ∃ k q r a n c, v = .agg #[.int .i64 k, .int .i64 q, .int .i64 r, .slice a n c] := by
  obtain ⟨cs, rfl, hs⟩ := okWide_struct Try.underlying48 hval
  rw [cells48] at hs
  obtain ⟨fuel, hf⟩ := hd
  obtain ⟨xs, k, _, _, hl, hlen, hff⟩ := DataW.trod_struct Try.underlying48 hf
  obtain ⟨cs⟩ := cs
  match cs, hs, xs, hlen, hff with
  | [u, v, r, t], _, [y0, y1, y2, y3], _, hff =>
    have h0 := hff 0 _ rfl
    have h1 := hff 1 _ rfl
    have h2 := hff 2 _ rfl
    have h3 := hff 3 _ rfl
    simp only [Value.cells] at h0 h1 h2 h3
    have e0 : ((#[u, v, r, t] : Array Value).toList.drop 0).take (Try.prog.cellsOf 3) = [u] := by rw [cells3]; rfl
    have e1 : ((#[u, v, r, t] : Array Value).toList.drop 1).take (Try.prog.cellsOf 3) = [v] := by rw [cells3]; rfl
    have e2 : ((#[u, v, r, t] : Array Value).toList.drop 2).take (Try.prog.cellsOf 3) = [r] := by rw [cells3]; rfl
    have e3 : ((#[u, v, r, t] : Array Value).toList.drop 3).take (Try.prog.cellsOf 22) = [t] := by rw [cells22]; rfl
    have h0' : DataW.trod enc Try.prog W 0 (fun _ => true) true k 3 [u] = some y0 := by rw [← e0]; simpa using h0
    have h1' : DataW.trod enc Try.prog W 0 (fun _ => true) true k 3 [v] = some y1 := by rw [← e1]; simpa using h1
    have h2' : DataW.trod enc Try.prog W 0 (fun _ => true) true k 3 [r] = some y2 := by rw [← e2]; simpa using h2
    have h3' : DataW.trod enc Try.prog W 0 (fun _ => true) true k 22 [t] = some y3 := by rw [← e3]; simpa using h3
    obtain ⟨k0, hk0, _, _⟩ := DataW.trod_int Try.underlying3 h0'
    obtain ⟨k1, hk1, _, _⟩ := DataW.trod_int Try.underlying3 h1'
    obtain ⟨k2, hk2, _, _⟩ := DataW.trod_int Try.underlying3 h2'
    obtain ⟨a, n, c, rfl⟩ := open_sl h3'
    simp at hk0 hk1 hk2
    subst hk0 hk1 hk2
    exact ⟨k0, k1, k2, a, n, c, rfl⟩
end
/-- The act's own cells and a log that no call made. -/
def NS (w : World) (s : Nat) (N M : Int) (v : Value) (z : Nat) : Prop := w.cell? ⟨s, 1, none⟩ = some (.int .i64 N) ∧ w.cell? ⟨s, 2, none⟩ = some (.int .i64 M) ∧ w.cell? ⟨s, 3, none⟩ = some v ∧ NL w (some ⟨z, 0, none⟩)
theorem NS.keep {w w' : World} {s : Nat} {N M : Int} {v : Value} {z : Nat} (h : NS w s N M v z) (hb : Below w.heap.size w w') : NS w' s N M v z :=
  ⟨(hb.cell (cell_block_lt h.1)).trans h.1, (hb.cell (cell_block_lt h.2.1)).trans h.2.1, (hb.cell (cell_block_lt h.2.2.1)).trans h.2.2.1, h.2.2.2.keep (Nat.le_refl _) hb⟩
theorem from_b {f : FuncId} {args : Array Value} {w2 W : World} {R : Ending} (hW : Below w2.heap.size w2 W) (h : Calls Try.prog f args W fun e w' => e = R ∧ Below W.heap.size W w') : Calls Try.prog f args W fun e w' => e = R ∧ Below w2.heap.size w2 w' :=
  h.mono fun e w' ⟨h1, h2⟩ => ⟨h1, hW.trans (h2.mono hW.size)⟩
end Go.Proofs.Ytbgfpmnicpmieaa
