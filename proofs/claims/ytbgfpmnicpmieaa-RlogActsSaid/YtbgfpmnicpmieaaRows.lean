/-
  No cell of these rows narrows 'for every input' (looked for: loops, veiled, ifaces, maps, wideKeys, modest, calm, conditions, laid).
  DERIVED. THE GIVEN ROWS OF THIS SEAT. 6 by the template 'for every input the law returns true; each argument reads behind the call as it read before'; 0 by the template 'total and deterministic' (their statements: YtbgfpmnicpmieaaTotals.lean).
  GIVEN WITH THE SEED: the statements are not yours to turn. If you find one false, say at which input.
  Laid BY PROGRAM, IN A SANDBOX (cutbox-rows.mjs): the forced cells as the released guide's own fill.sh prints them over the translation 83cca6037f5a41e5… (all of the seat's roots in one cut). By AI agents, Wed Nov 11 2026. No macro, syntax, notation, axiom, sorry.
-/
import Derived.Test.YtbgfpmnicpmieaaChecked
import GoSem.Claim
import GoSem.ClaimJoined
import GoSem.ClaimMapViews
import Derived.JoinedTies
import Derived.KernelRfl
namespace Go.Proofs.Ytbgfpmnicpmieaa
/- THE CELL 'sum', in the pinned program and in every row, IS THE sha256 OF THE DUMP (.gsa) THAT YtbgfpmnicpmieaaProg.lean LOADS. Nothing in Lean hashes anything: it is a label: what it is worth is what the hold of that sum in a sandbox is worth. -/
noncomputable def Try.pinned : Pinned := { name := "ytbgfpmnicpmieaa", sum := "83cca6037f5a41e5a1b9f1417d17ed42196d2938fa6e8d3aad26f2accef55d78", checked := Try.checked }
namespace Rows
def none {H : Type} : Left H := { results := [], args := [] }

/-- 'corbellaw13.RlogMatches': WHATEVER THE INPUT: true; the input reads as it did. -/
def rlogMatchesSpec : ChangeSpec := { name := "rlogMatches", fn := fun _ => fun
  | [d1, d2, d3] => { results := [.lit (.bool true)], args := [d1, d2, d3] }
  | _ => none }
def rlogMatchesRow : OpenClaim := { program := "ytbgfpmnicpmieaa", sum := "83cca6037f5a41e5a1b9f1417d17ed42196d2938fa6e8d3aad26f2accef55d78", func := "corbel/corbellaw13.RlogMatches", spec := "rlogMatches", unfollowed := true, recurses := true, apart := false }
def RlogMatchesSaid : Prop := rlogMatchesRow.holds Try.pinned (OpenSpec.ofChange rlogMatchesSpec)

/-- ITS FALSE NEIGHBOUR: 'it returns false'. Refute it at one input. -/
def rlogMatchesWrong : ChangeSpec := { name := "rlogMatches", fn := fun _ => fun
  | [d1, d2, d3] => { results := [.lit (.bool false)], args := [d1, d2, d3] }
  | _ => none }
def RlogMatchesWrongFalsely : Prop := rlogMatchesRow.holds Try.pinned (OpenSpec.ofChange rlogMatchesWrong)

/-- 'corbellaw13.RlogHints': WHATEVER THE INPUT: true; the input reads as it did. -/
def rlogHintsSpec : ChangeSpec := { name := "rlogHints", fn := fun _ => fun
  | [d1, d2, d3] => { results := [.lit (.bool true)], args := [d1, d2, d3] }
  | _ => none }
def rlogHintsRow : OpenClaim := { program := "ytbgfpmnicpmieaa", sum := "83cca6037f5a41e5a1b9f1417d17ed42196d2938fa6e8d3aad26f2accef55d78", func := "corbel/corbellaw13.RlogHints", spec := "rlogHints", unfollowed := true, recurses := true, apart := false }
def RlogHintsSaid : Prop := rlogHintsRow.holds Try.pinned (OpenSpec.ofChange rlogHintsSpec)

/-- ITS FALSE NEIGHBOUR: 'it returns false'. Refute it at one input. -/
def rlogHintsWrong : ChangeSpec := { name := "rlogHints", fn := fun _ => fun
  | [d1, d2, d3] => { results := [.lit (.bool false)], args := [d1, d2, d3] }
  | _ => none }
def RlogHintsWrongFalsely : Prop := rlogHintsRow.holds Try.pinned (OpenSpec.ofChange rlogHintsWrong)

/-- 'corbellaw13.RlogApplies': WHATEVER THE INPUT: true; the input reads as it did. -/
def rlogAppliesSpec : ChangeSpec := { name := "rlogApplies", fn := fun _ => fun
  | [d1, d2] => { results := [.lit (.bool true)], args := [d1, d2] }
  | _ => none }
def rlogAppliesRow : OpenClaim := { program := "ytbgfpmnicpmieaa", sum := "83cca6037f5a41e5a1b9f1417d17ed42196d2938fa6e8d3aad26f2accef55d78", func := "corbel/corbellaw13.RlogApplies", spec := "rlogApplies", unfollowed := true, recurses := true, apart := false }
def RlogAppliesSaid : Prop := rlogAppliesRow.holds Try.pinned (OpenSpec.ofChange rlogAppliesSpec)

/-- ITS FALSE NEIGHBOUR: 'it returns false'. Refute it at one input. -/
def rlogAppliesWrong : ChangeSpec := { name := "rlogApplies", fn := fun _ => fun
  | [d1, d2] => { results := [.lit (.bool false)], args := [d1, d2] }
  | _ => none }
def RlogAppliesWrongFalsely : Prop := rlogAppliesRow.holds Try.pinned (OpenSpec.ofChange rlogAppliesWrong)

/-- 'corbellaw13.RlogKeeps': WHATEVER THE INPUT: true; the input reads as it did. -/
def rlogKeepsSpec : ChangeSpec := { name := "rlogKeeps", fn := fun _ => fun
  | [d1, d2] => { results := [.lit (.bool true)], args := [d1, d2] }
  | _ => none }
def rlogKeepsRow : OpenClaim := { program := "ytbgfpmnicpmieaa", sum := "83cca6037f5a41e5a1b9f1417d17ed42196d2938fa6e8d3aad26f2accef55d78", func := "corbel/corbellaw13.RlogKeeps", spec := "rlogKeeps", unfollowed := true, recurses := true, apart := false }
def RlogKeepsSaid : Prop := rlogKeepsRow.holds Try.pinned (OpenSpec.ofChange rlogKeepsSpec)

/-- ITS FALSE NEIGHBOUR: 'it returns false'. Refute it at one input. -/
def rlogKeepsWrong : ChangeSpec := { name := "rlogKeeps", fn := fun _ => fun
  | [d1, d2] => { results := [.lit (.bool false)], args := [d1, d2] }
  | _ => none }
def RlogKeepsWrongFalsely : Prop := rlogKeepsRow.holds Try.pinned (OpenSpec.ofChange rlogKeepsWrong)

/-- 'corbellaw13.RlogActs': WHATEVER THE INPUT: true; the input reads as it did. -/
def rlogActsSpec : ChangeSpec := { name := "rlogActs", fn := fun _ => fun
  | [d1, d2] => { results := [.lit (.bool true)], args := [d1, d2] }
  | _ => none }
def rlogActsRow : OpenClaim := { program := "ytbgfpmnicpmieaa", sum := "83cca6037f5a41e5a1b9f1417d17ed42196d2938fa6e8d3aad26f2accef55d78", func := "corbel/corbellaw13.RlogActs", spec := "rlogActs", unfollowed := true, recurses := true, apart := false }
def RlogActsSaid : Prop := rlogActsRow.holds Try.pinned (OpenSpec.ofChange rlogActsSpec)

/-- ITS FALSE NEIGHBOUR: 'it returns false'. Refute it at one input. -/
def rlogActsWrong : ChangeSpec := { name := "rlogActs", fn := fun _ => fun
  | [d1, d2] => { results := [.lit (.bool false)], args := [d1, d2] }
  | _ => none }
def RlogActsWrongFalsely : Prop := rlogActsRow.holds Try.pinned (OpenSpec.ofChange rlogActsWrong)

/-- 'corbellaw13.RlogNone': WHATEVER THE INPUT: true; the input reads as it did. -/
def rlogNoneSpec : ChangeSpec := { name := "rlogNone", fn := fun _ => fun
  | [d] => { results := [.lit (.bool true)], args := [d] }
  | _ => none }
def rlogNoneRow : OpenClaim := { program := "ytbgfpmnicpmieaa", sum := "83cca6037f5a41e5a1b9f1417d17ed42196d2938fa6e8d3aad26f2accef55d78", func := "corbel/corbellaw13.RlogNone", spec := "rlogNone", unfollowed := true, recurses := true, apart := false }
def RlogNoneSaid : Prop := rlogNoneRow.holds Try.pinned (OpenSpec.ofChange rlogNoneSpec)

/-- ITS FALSE NEIGHBOUR: 'it returns false'. Refute it at one input. -/
def rlogNoneWrong : ChangeSpec := { name := "rlogNone", fn := fun _ => fun
  | [d] => { results := [.lit (.bool false)], args := [d] }
  | _ => none }
def RlogNoneWrongFalsely : Prop := rlogNoneRow.holds Try.pinned (OpenSpec.ofChange rlogNoneWrong)

/- THE SECOND FORM. 'bulk': how many values and letters a reading holds, each counted each time it is reached (what is shared counts as often as it is met; a slice's spare places count too). A statement '..UptoSaid' is the law's where the arguments, and the package variables that the reading takes, are together of bulk at most 1048576: NARROWER than '..Said'. Prove '..Said' where nothing that the law and all that it calls make is longer than what came in: it says more and counts as full. Else prove '..UptoSaid'. A law counts once. -/
mutual
def uptoBulk {H : Type} : DataW H → Nat
  | .lit (.string bytes) => bytes.length + 1
  | .lit _ => 1
  | .nil => 1
  | .ptr d => uptoBulk d + 1
  | .slice elems spare => uptoBulkAll elems + uptoBulkAll spare + 1
  | .agg parts => uptoBulkAll parts + 1
  | .iface _ d => uptoBulk d + 1
  | .map entries => uptoBulkEntries entries + 1
  | .held _ => 1
def uptoBulkAll {H : Type} : List (DataW H) → Nat
  | [] => 0
  | d :: r => uptoBulk d + uptoBulkAll r
def uptoBulkEntries {H : Type} : List (Lit × DataW H) → Nat
  | [] => 0
  | x :: r => uptoBulkEntry x + uptoBulkEntries r
def uptoBulkEntry {H : Type} : Lit × DataW H → Nat
  | (.string bytes, d) => bytes.length + uptoBulk d + 1
  | (_, d) => uptoBulk d + 1
 end
def uptoSmall : (H : Type) → List (DataW H) → Bool := fun _ ds => decide (uptoBulkAll ds ≤ 1048576)
def OpenSpec.upto (s : _root_.Go.ChangeSpec) : _root_.Go.OpenSpec := { _root_.Go.OpenSpec.ofChange s with cond := some uptoSmall }

/-- 'corbellaw13.RlogMatches', WHERE WHAT IT READS IS OF BULK AT MOST 1048576: true; the input reads as it did. -/
def rlogMatchesUptoRow : OpenClaim := { program := "ytbgfpmnicpmieaa", sum := "83cca6037f5a41e5a1b9f1417d17ed42196d2938fa6e8d3aad26f2accef55d78", func := "corbel/corbellaw13.RlogMatches", spec := "rlogMatches", unfollowed := true, recurses := true, apart := false, narrowed := true }
def RlogMatchesUptoSaid : Prop := rlogMatchesUptoRow.holds Try.pinned (OpenSpec.upto rlogMatchesSpec)

/-- 'corbellaw13.RlogHints', WHERE WHAT IT READS IS OF BULK AT MOST 1048576: true; the input reads as it did. -/
def rlogHintsUptoRow : OpenClaim := { program := "ytbgfpmnicpmieaa", sum := "83cca6037f5a41e5a1b9f1417d17ed42196d2938fa6e8d3aad26f2accef55d78", func := "corbel/corbellaw13.RlogHints", spec := "rlogHints", unfollowed := true, recurses := true, apart := false, narrowed := true }
def RlogHintsUptoSaid : Prop := rlogHintsUptoRow.holds Try.pinned (OpenSpec.upto rlogHintsSpec)

/-- 'corbellaw13.RlogApplies', WHERE WHAT IT READS IS OF BULK AT MOST 1048576: true; the input reads as it did. -/
def rlogAppliesUptoRow : OpenClaim := { program := "ytbgfpmnicpmieaa", sum := "83cca6037f5a41e5a1b9f1417d17ed42196d2938fa6e8d3aad26f2accef55d78", func := "corbel/corbellaw13.RlogApplies", spec := "rlogApplies", unfollowed := true, recurses := true, apart := false, narrowed := true }
def RlogAppliesUptoSaid : Prop := rlogAppliesUptoRow.holds Try.pinned (OpenSpec.upto rlogAppliesSpec)

/-- 'corbellaw13.RlogKeeps', WHERE WHAT IT READS IS OF BULK AT MOST 1048576: true; the input reads as it did. -/
def rlogKeepsUptoRow : OpenClaim := { program := "ytbgfpmnicpmieaa", sum := "83cca6037f5a41e5a1b9f1417d17ed42196d2938fa6e8d3aad26f2accef55d78", func := "corbel/corbellaw13.RlogKeeps", spec := "rlogKeeps", unfollowed := true, recurses := true, apart := false, narrowed := true }
def RlogKeepsUptoSaid : Prop := rlogKeepsUptoRow.holds Try.pinned (OpenSpec.upto rlogKeepsSpec)

/-- 'corbellaw13.RlogActs', WHERE WHAT IT READS IS OF BULK AT MOST 1048576: true; the input reads as it did. -/
def rlogActsUptoRow : OpenClaim := { program := "ytbgfpmnicpmieaa", sum := "83cca6037f5a41e5a1b9f1417d17ed42196d2938fa6e8d3aad26f2accef55d78", func := "corbel/corbellaw13.RlogActs", spec := "rlogActs", unfollowed := true, recurses := true, apart := false, narrowed := true }
def RlogActsUptoSaid : Prop := rlogActsUptoRow.holds Try.pinned (OpenSpec.upto rlogActsSpec)

/-- 'corbellaw13.RlogNone', WHERE WHAT IT READS IS OF BULK AT MOST 1048576: true; the input reads as it did. -/
def rlogNoneUptoRow : OpenClaim := { program := "ytbgfpmnicpmieaa", sum := "83cca6037f5a41e5a1b9f1417d17ed42196d2938fa6e8d3aad26f2accef55d78", func := "corbel/corbellaw13.RlogNone", spec := "rlogNone", unfollowed := true, recurses := true, apart := false, narrowed := true }
def RlogNoneUptoSaid : Prop := rlogNoneUptoRow.holds Try.pinned (OpenSpec.upto rlogNoneSpec)

end Rows
end Go.Proofs.Ytbgfpmnicpmieaa
