/- A range over a function, taken apart: into the call of the iterator, and into its rounds. For an iterator that keeps state of its own in a captured variable. No program in sight. -/
import Derived.RangeFuncNested
import Derived.RangeFuncBound
import Derived.RangeFuncCalls
import Derived.RangeFuncLeaves
import Derived.RangeFuncBox
import Derived.Shelf.Abstract
namespace Go.Proofs.YthbllkcikikodaaDoor
open Go Go.RowKit Go.Shelf
set_option linter.unusedVariables false

variable {P : Program}

def busyRec (r : Loop) : Loop := { r with state := .busy }

/-- How a round may be left, and what then stands in the loop's record. -/
def endsRound (l : Nat) (r : Loop) (R : Ending → World → Prop) : Exit → Act → World → Prop
  | .normal, _, W => W.heap[l]? = some (.loop (busyRec r)) ∧ R (.returned (.bool true)) (W.putObj l (.loop { r with state := .ready, pending := none }))
  | .ret, _, W => W.heap[l]? = some (.loop (busyRec r)) ∧ R (.returned (.bool false)) (W.putObj l (.loop { r with state := .done, pending := some .ret }))
  | .exit id, _, W => W.heap[l]? = some (.loop (busyRec r)) ∧ R (.returned (.bool false)) (W.putObj l (.loop { r with state := .done, pending := some (.exit id) }))
  | .goto t, _, W => W.heap[l]? = some (.loop (busyRec r)) ∧ R (.returned (.bool false)) (W.putObj l (.loop { r with state := .done, pending := some (.goto t) }))
  | .panic _, _, _ => False
  | .outgrown, _, _ => False

theorem yield_round {F : Fence} {n l : Nat} {r : Loop} {args : Array Value} {W : World} {R : Ending → World → Prop} (hr : r.state = .ready) (hL : W.heap[l]? = some (.loop r)) (hs : args.size = r.params.size) (hF : F.fn r.fn) (a₁ : Act) (Wb : World) (hWb : W.putObj l (.loop (busyRec r)) = Wb)
    (hassign : ∀ K : Act → World → Prop, K a₁ W → r.assign.wpIn (F.inRound l) n P (Exit.then K (fun _ _ _ => False)) { tmps := (r.params.zip args).foldl (fun t (p, v) => t.setIfInBounds p v) r.tmps, defers := [] } W)
    (hbody : r.body.wpIn (F.inRound l) n P (endsRound l r R) a₁ Wb) :
    YieldAt F n P l args W R := by
  subst hWb
  refine ⟨r.fn, _, r.assign, r.body, run_yield hL hs, roundIn_of_wpIn hF (hassign _ ⟨_, run_beginRound hL hr, wpIn_mono hbody ?_⟩)⟩
  rintro e a W' h
  cases e with
  | normal => exact ⟨_, _, run_endRound none h.1, h.2⟩
  | ret => exact ⟨_, _, run_endRound (some .ret) h.1, h.2⟩
  | exit id => exact ⟨_, _, run_endRound (some (.exit id)) h.1, h.2⟩
  | goto t => exact ⟨_, _, run_endRound (some (.goto t)) h.1, h.2⟩
  | panic ch => exact h.elim
  | outgrown => exact h.elim

/-- The loop's record as it is laid. -/
def loopRec (fn : FuncId) (a : Act) (ps : Array Tmp) (assign body : Code) (D : Nat) : Loop := { state := .ready, pending := none, fn, tmps := a.tmps, params := ps, assign, body, defers := D }

theorem range_enter {n : Nat} {g : Operand} {ps : Array Tmp} {assign body : Code} {Q : Exit → Act → World → Prop} {a : Act} {w : World} (h1 : 1 ≤ n) {gf : Nat} {lb : Array Value}
    (hg : a.eval g = .func (.func gf) #[] lb) (eg : ∀ args w, (callFunc gf args).run P w = .ok (.enter gf args) w)
    (h : ∀ fn, CallsIn Fence.wide (n - 1) P gf (#[.func (.yield (w.heap.size + 1)) #[] #[]] ++ lb) ((w.alloc (.deferred (some []))).alloc (.loop (loopRec fn a ps assign body w.heap.size)))
      (rangePost Fence.wide n P (w.heap.size + 1) Q { a with defers := { target := .collected w.heap.size, args := #[] } :: a.defers })) :
    (Code.rangeFunc g ps assign body).wpIn Fence.wide n P Q a w := by
  refine wpIn_rangeFunc ?_
  intro fn hfn
  obtain ⟨W1, hW1⟩ : ∃ W1, (w.alloc (.deferred (some []))).alloc (.loop (loopRec fn a ps assign body w.heap.size)) = W1 := ⟨_, rfl⟩
  have hf := h fn
  rw [hW1] at hf
  refine ⟨w.heap.size + 1, [{ target := .collected w.heap.size, args := #[] }], W1, { target := .fn (.func gf) lb, args := #[.func (.yield (w.heap.size + 1)) #[] #[]] }, W1, gf,
    #[.func (.yield (w.heap.size + 1)) #[] #[]] ++ lb, W1, ?_, ?_, fun f' hf' => trivial, ?_, fun _ => h1, ?_⟩
  · rw [← hW1]; exact run_enterLoop_outer _ _ _ _ _
  · simp only [resolve, hg]
    simp [go_sem]
  · simp [invoke, go_sem, eg]
  · exact hf
end Go.Proofs.YthbllkcikikodaaDoor
