/- Members that came in, opened. -/
import Derived.Test.YtbjhpifllgoffaaBase
import Derived.ChangeSame
import Derived.ChangeSlices
import Derived.WideShapes
import Derived.OpenShut
import Derived.ProofKit
namespace Go.Proofs.Ytbjhpifllgoffaa
open Go Go.ChangeShapes Go.WideShapes Go.RowKit
set_option maxRecDepth 100000
theorem IsRow.max {w : World} {a : Option Addr} {n c : Nat} {z : List Int} (h : IsRow w a n c z) : n ≤ maxLen := by
  rcases h with ⟨_, rfl, _⟩ | ⟨_, _, hl, hm, _⟩
  · exact Nat.zero_le _
  · exact Nat.le_trans hl hm
theorem cells32 : Try.prog.cellsOf 32 = 2 := by kernel_rfl
theorem cells22 : Try.prog.cellsOf 22 = 1 := by kernel_rfl
section
variable {H : Type} {enc : TypeId × Value → H} {W : World}
/-- A list's datum, and how long it is. -/
def Long (d : DataW H) (k : Nat) : Prop := k = 0 ∨ ∃ el sp, d = .slice el sp ∧ el.length + sp.length = k
theorem open_row {fuel : Nat} {v : Value} {x : DataW H × List MemPlace} (hf : DataW.trod enc Try.prog W 0 (fun _ => true) true fuel 22 [v] = some x) : ∃ a n c zs, v = .slice a n c ∧ IsRow W a n c zs ∧ Long x.1 zs.length := by
  rcases open_ints Try.underlying22 Try.underlying3 (by kernel_rfl) hf with ⟨hcs, _⟩ | ⟨y, l, c, zs, hcs, _, hl, hm, hz, hx, hcell, hwz⟩
  · simp at hcs
    exact ⟨none, 0, 0, [], hcs, .inl ⟨rfl, rfl, rfl, rfl⟩, .inl rfl⟩
  · simp at hcs
    refine ⟨some y, l, c, zs, hcs, .inr ⟨_, rfl, hl, hm, by simpa using hz, hcell, hwz⟩, .inr ⟨_, _, by rw [hx], ?_⟩⟩
    have hz' : zs.length = c := by simpa using hz
    simp [lits, List.length_take, List.length_drop]
    omega
theorem open_conf {b0 : Nat} {v : Value} {d : DataW H} {ps : List MemPlace} (hval : Value.okWide Try.prog W .any b0 32 v) (hd : DataW.Trod enc Try.prog W 0 (fun _ => true) true 32 v d ps) :
    ∃ a n c z b m e y d0 d1, v = .agg #[.slice a n c, .slice b m e] ∧ d = .agg [d0, d1] ∧ IsRow W a n c z ∧ IsRow W b m e y ∧ Long d0 z.length ∧ Long d1 y.length := by
  obtain ⟨cs, rfl, hs⟩ := okWide_struct Try.underlying32 hval
  rw [cells32] at hs
  obtain ⟨fuel, hf⟩ := hd
  obtain ⟨y0, y1, k, hxx, _, h0, h1⟩ := trod_struct2 Try.underlying32 hf
  obtain ⟨cs⟩ := cs
  match cs, hs with
  | [u, v], _ =>
    simp only [Value.cells] at h0 h1
    have e0 : ((#[u, v] : Array Value).toList.drop 0).take (Try.prog.cellsOf 22) = [u] := by rw [cells22]; rfl
    have e1 : ((#[u, v] : Array Value).toList.drop 1).take (Try.prog.cellsOf 22) = [v] := by rw [cells22]; rfl
    have h0' : DataW.trod enc Try.prog W 0 (fun _ => true) true k 22 [u] = some y0 := by rw [← e0]; exact h0
    have h1' : DataW.trod enc Try.prog W 0 (fun _ => true) true k 22 [v] = some y1 := by rw [← e1]; exact h1
    obtain ⟨a, n, c, z, rfl, r1, l1⟩ := open_row h0'
    obtain ⟨b, m, e, y, rfl, r2, l2⟩ := open_row h1'
    have hdd : d = .agg [y0.1, y1.1] := by
      have := congrArg Prod.fst hxx
      exact this
    exact ⟨a, n, c, z, b, m, e, y, y0.1, y1.1, rfl, hdd, r1, r2, l1, l2⟩
theorem bytesI : Try.prog.bytesOf 3 = 8 := by kernel_rfl
theorem long_le {d : DataW H} {k : Nat} (h : Long d k) (hw : ∀ q ∈ DataW.weights Try.prog 22 d, q ≤ reachBytes) : k ≤ 17592186044416 := by
  rcases h with rfl | ⟨el, sp, rfl, hk⟩
  · exact Nat.zero_le _
  · have := hw ((el.length + sp.length) * Try.prog.bytesOf 3) (by simp [DataW.weights, Try.underlying22])
    rw [bytesI, hk] at this
    simp only [reachBytes] at this
    omega
/-- The form's own reach: no list is longer than 2^44. -/
theorem conf_le {ts : List TypeId} {ds : List (DataW H)} {d0 d1 : DataW H} {k m : Nat} (h : (DataW.weightsEach Try.prog (32 :: ts) (.agg [d0, d1] :: ds)).all (· ≤ reachBytes) = true) (h0 : Long d0 k) (h1 : Long d1 m) : k ≤ 17592186044416 ∧ m ≤ 17592186044416 := by
  rw [List.all_eq_true] at h
  simp only [DataW.weightsEach, DataW.weights, Try.underlying32, List.mem_append] at h
  constructor
  · refine long_le h0 fun q hq => of_decide_eq_true (h q (.inl ?_))
    simp only [List.map_cons, List.map_nil, DataW.weightsEach, List.mem_append]
    exact .inl hq
  · refine long_le h1 fun q hq => of_decide_eq_true (h q (.inl ?_))
    simp only [List.map_cons, List.map_nil, DataW.weightsEach, List.mem_append]
    exact .inr (.inl hq)
end
end Go.Proofs.Ytbjhpifllgoffaa
