/- For the law on no text: a key's block, and what no text sums to. -/
import Derived.Test.YtjjibjamalieiaaSum2
import Derived.Test.YtjjibjamalieiaaKeep
import Derived.Test.YtjjibjamalieiaaRefSum
namespace Go.Proofs.Ytjjibjamalieiaa
open Go Go.RowKit
set_option linter.unusedVariables false
def KB (w : World) (b : Nat) (x y : BitVec 64) : Prop := w.heap[b]? = some (.cells #[.int .u64 (U x), .int .u64 (U y)] 24 (0, 0))
theorem KB.k0 {w b x y} (h : KB w b x y) : w.cell? ⟨b, 0, none⟩ = some (.int .u64 (U x)) := by unfold KB at h; simp [World.cell?, h]
theorem KB.k1 {w b x y} (h : KB w b x y) : w.cell? ⟨b, 1, none⟩ = some (.int .u64 (U y)) := by unfold KB at h; simp [World.cell?, h]
theorem KB.below {w w' b x y} (h : KB w b x y) (hb : Below w.heap.size w w') : KB w' b x y := (hb.block b (Array.getElem?_eq_some_iff.1 h).1).trans h
theorem KB.set {w b x y} (h : KB w b x y) {p : Addr} (hp : b ≠ p.block) (u : Value) : KB (w.setCell p u) b x y := (Below.heap_setCell w p u b hp).trans h
theorem KB.all {w b x y} (h : KB w b x y) {c : Nat} (hc : b ≠ c) (u0 u1 u2 u3 : Value) : KB ((((w.setCell ⟨c, 0, none⟩ u0).setCell ⟨c, 1, none⟩ u1).setCell ⟨c, 2, none⟩ u2).setCell ⟨c, 3, none⟩ u3) b x y :=
  (((h.set (p := ⟨c, 0, none⟩) hc u0).set (p := ⟨c, 1, none⟩) hc u1).set (p := ⟨c, 2, none⟩) hc u2).set (p := ⟨c, 3, none⟩) hc u3
theorem sum_none (a b : BitVec 64) : sumOf a b [] = (rnd (rnd (rnd (rnd (c255 (rnd (rnd (init a b)))))))).a ^^^ (rnd (rnd (rnd (rnd (c255 (rnd (rnd (init a b)))))))).b ^^^ (rnd (rnd (rnd (rnd (c255 (rnd (rnd (init a b)))))))).c ^^^ (rnd (rnd (rnd (rnd (c255 (rnd (rnd (init a b)))))))).d := by
  have e : blk (eat (init a b) [] 0) (wd [] ||| BitVec.ofNat 64 0 <<< 56) = rnd (rnd (init a b)) := by
    have e0 : (wd [] ||| BitVec.ofNat 64 0 <<< 56) = 0 := by decide
    rw [e0]
    simp [blk, eat]
  show fin (rnd (rnd (rnd (rnd (c255 (blk (eat (init a b) [] 0) (wd [] ||| BitVec.ofNat 64 0 <<< 56))))))) = _
  rw [e]; rfl
end Go.Proofs.Ytjjibjamalieiaa
