/- Regions that draw their order, walked once in the text's order, over a class of worlds that the calls keep. -/
import Derived.Test.YtbgfpmnicpmieaaOpen
namespace Go.Proofs.Ytbgfpmnicpmieaa
open Go Go.RowKit
set_option linter.unusedVariables false
theorem wp_region_class {P : Program} (C : World → Prop) {id : Nat} {Q : Exit → Act → World → Prop} {a : Act} {w : World} {l : List Oper} (hm : P.follows .mixedOrders = true) (hB : Region.lexB .any l.toArray = true) (hC : C w.drew)
    (h : wpQuiet P l.toArray C (fun a' => ∀ w', C w' → Q .normal a' w') l a) : (Code.region id l.toArray true).wp P Q a w :=
  wp_region_quiet hm hB hC (by simpa using h)
theorem quiet_load {o : Oper} {a : Act} {C : World → Prop} {K : Act → Prop} (ty : TypeId) (x : Operand) (p : Addr) (v : Value) (ho : o.op = .load ty x) (hx : a.eval x = .pointer (some p)) (hc : ∀ W, C W → W.cell? p = some v) (hK : K (a.put o.dst v)) (hty : ty = 3 ∨ ty = 27 ∨ ty = 22 ∨ ty = 4 := by decide) : o.quiet Try.prog a C K :=
  ⟨_, fun W hW => by
    have h := hc W hW
    unfold Oper.quietAt
    generalize a.eval = ev at *
    rcases hty with rfl | rfl | rfl | rfl <;> simp [go_sem, ho, hx, h], hK⟩
end Go.Proofs.Ytbgfpmnicpmieaa
