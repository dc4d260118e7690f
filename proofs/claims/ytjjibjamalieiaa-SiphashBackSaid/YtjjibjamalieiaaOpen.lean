/- Keys and pairs of words, opened and shut. -/
import Derived.Test.YtjjibjamalieiaaProg
import Derived.Test.YtjjibjamalieiaaPlain
import Derived.ChangeSame
import Derived.ChangeMaps5
import Derived.WideKeyPair
import Derived.Lib.SmallJoins
import Derived.OpenShut
namespace Go.Proofs.Ytjjibjamalieiaa
open Go.ChangeShapes Go.WideShapes Go.ChangeAt Go.RowKit Go.Joins Go.WideMaps Go.WideMaps
set_option maxRecDepth 100000
theorem U_wf (x : BitVec 64) : (Lit.int .u64 (U x)).wf = true := by
  obtain ⟨h0, h1⟩ := U_range x
  simp [Lit.wf, IntKind.min, IntKind.max, IntKind.signed, IntKind.bits]
  omega
theorem cells24 : Try.prog.cellsOf 24 = 2 := by kernel_rfl
theorem arr29 : ArrKey Try.prog 29 22 2 := ⟨by kernel_rfl, by kernel_rfl, by kernel_rfl, by kernel_rfl⟩
theorem cell_block_lt {W : World} {p : Addr} {x : Value} (h : W.cell? p = some x) : p.block < W.heap.size := by
  unfold World.cell? at h
  cases e : W.heap[p.block]? with
  | none => simp [e] at h
  | some o => exact (Array.getElem?_eq_some_iff.1 e).1
/-- What a call leaves that makes memory alone. -/
theorem keep_two {W W' w0 : World} {p q : Addr} {x y : Value} (hb : Below W.heap.size W W') (h : W.cell? p = some x ∧ W.cell? q = some y ∧ Below w0.heap.size w0 W) : W'.cell? p = some x ∧ W'.cell? q = some y ∧ Below w0.heap.size w0 W' :=
  ⟨(hb.cell (cell_block_lt h.1)).trans h.1, (hb.cell (cell_block_lt h.2.1)).trans h.2.1, h.2.2.trans (hb.mono h.2.2.size)⟩
section
variable {H : Type} {enc : TypeId × Value → H} {W : World} {base : Nat} {sp : Nat → Bool}
theorem open_two {r : Reach} {b0 : Nat} {v : Value} {d : DataW H} {ps : List MemPlace} (hval : Value.okWide Try.prog W r b0 29 v) (hd : DataW.Trod enc Try.prog W base sp true 29 v d ps) :
    ∃ a b : BitVec 64, v = .agg #[.int .u64 (U a), .int .u64 (U b)] ∧ d = .agg [.lit (.int .u64 (U a)), .lit (.int .u64 (U b))] ∧ ps = [] := by
  obtain ⟨a, b, rfl, rfl, rfl, wa, wb⟩ := open_pair arr29 Try.underlying22 hval hd
  obtain ⟨x0, x1⟩ := Go.bounds_u64 wa
  obtain ⟨y0, y1⟩ := Go.bounds_u64 wb
  obtain ⟨a, rfl⟩ := U_of a (by omega) (by omega)
  obtain ⟨b, rfl⟩ := U_of b (by omega) (by omega)
  exact ⟨a, b, rfl, rfl, rfl⟩
theorem shut_two (a b : BitVec 64) : DataW.Trod enc Try.prog W base sp true 29 (.agg #[.int .u64 (U a), .int .u64 (U b)]) (.agg [.lit (.int .u64 (U a)), .lit (.int .u64 (U b))]) [] :=
  shut_pair arr29 Try.underlying22 (U_wf a) (U_wf b)
theorem open_key {b0 : Nat} {v : Value} {d : DataW H} {ps : List MemPlace} (hval : Value.okWide Try.prog W .any b0 24 v) (hd : DataW.Trod enc Try.prog W base sp true 24 v d ps) :
    ∃ a b : BitVec 64, v = .agg #[.int .u64 (U a), .int .u64 (U b)] ∧ d = .agg [.lit (.int .u64 (U a)), .lit (.int .u64 (U b))] ∧ ps = [] := by
  obtain ⟨c0, c1, y0, y1, m, rfl, rfl, rfl, hy0, hy1⟩ := open_agg2 Try.underlying24 (by kernel_rfl) cells24 hval hd
  obtain ⟨a, e0, rfl, wa⟩ := DataW.trod_int Try.underlying22 hy0
  obtain ⟨b, e1, rfl, wb⟩ := DataW.trod_int Try.underlying22 hy1
  simp at e0 e1
  subst e0 e1
  obtain ⟨x0, x1⟩ := Go.bounds_u64 wa
  obtain ⟨y0, y1⟩ := Go.bounds_u64 wb
  obtain ⟨a, rfl⟩ := U_of a (by omega) (by omega)
  obtain ⟨b, rfl⟩ := U_of b (by omega) (by omega)
  exact ⟨a, b, rfl, rfl, rfl⟩
theorem shut_key (a b : BitVec 64) : DataW.Trod enc Try.prog W base sp true 24 (.agg #[.int .u64 (U a), .int .u64 (U b)]) (.agg [.lit (.int .u64 (U a)), .lit (.int .u64 (U b))]) [] :=
  shut_agg2 (y0 := (.lit (.int .u64 (U a)), [])) (y1 := (.lit (.int .u64 (U b)), [])) Try.underlying24 (by kernel_rfl) cells24 ⟨1, by simp [DataW.trod, Try.underlying22, U_wf a]⟩ ⟨1, by simp [DataW.trod, Try.underlying22, U_wf b]⟩
end
end Go.Proofs.Ytjjibjamalieiaa
