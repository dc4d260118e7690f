/- What a call leaves that makes memory alone. -/
import Derived.Test.YtjjibjamalieiaaOpen
namespace Go.Proofs.Ytjjibjamalieiaa
open Go Go.RowKit
theorem keep_four {W W' w0 : World} {p q r s : Addr} {x y z u : Value} (hb : Below W.heap.size W W') (h : W.cell? p = some x ∧ W.cell? q = some y ∧ W.cell? r = some z ∧ W.cell? s = some u ∧ Below w0.heap.size w0 W) : W'.cell? p = some x ∧ W'.cell? q = some y ∧ W'.cell? r = some z ∧ W'.cell? s = some u ∧ Below w0.heap.size w0 W' :=
  ⟨(hb.cell (cell_block_lt h.1)).trans h.1, (hb.cell (cell_block_lt h.2.1)).trans h.2.1, (hb.cell (cell_block_lt h.2.2.1)).trans h.2.2.1, (hb.cell (cell_block_lt h.2.2.2.1)).trans h.2.2.2.1, h.2.2.2.2.trans (hb.mono h.2.2.2.2.size)⟩
theorem keep_six {W W' w0 : World} {p q r s p1 q1 : Addr} {x y z u x1 y1 : Value} (hb : Below W.heap.size W W') (h : W.cell? p1 = some x1 ∧ W.cell? q1 = some y1 ∧ W.cell? p = some x ∧ W.cell? q = some y ∧ W.cell? r = some z ∧ W.cell? s = some u ∧ Below w0.heap.size w0 W) : W'.cell? p1 = some x1 ∧ W'.cell? q1 = some y1 ∧ W'.cell? p = some x ∧ W'.cell? q = some y ∧ W'.cell? r = some z ∧ W'.cell? s = some u ∧ Below w0.heap.size w0 W' :=
  ⟨(hb.cell (cell_block_lt h.1)).trans h.1, (hb.cell (cell_block_lt h.2.1)).trans h.2.1, keep_four hb h.2.2⟩
end Go.Proofs.Ytjjibjamalieiaa
