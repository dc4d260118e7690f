/-
  No cell of these rows narrows 'for every input' (looked for: loops, veiled, ifaces, maps, wideKeys, modest, calm, conditions, laid).
  DERIVED. THE GIVEN ROWS OF THIS SEAT. 5 by the template 'for every input the law returns true; each argument reads behind the call as it read before'; 0 by the template 'total and deterministic' (their statements: YtedifbdjcebefaaTotals.lean).
  GIVEN WITH THE SEED: the statements are not yours to turn. If you find one false, say at which input.
  Laid BY PROGRAM, IN A SANDBOX (cutbox-rows.mjs): the forced cells as the released guide's own fill.sh prints them over the translation 07ce19c44852c2e4… (all of the seat's roots in one cut). By AI agents, Wed Nov 11 2026. No macro, syntax, notation, axiom, sorry.
-/
import Derived.Test.YtedifbdjcebefaaChecked
import GoSem.Claim
import GoSem.ClaimJoined
import GoSem.ClaimMapViews
import Derived.JoinedTies
import Derived.KernelRfl
namespace Go.Proofs.Ytedifbdjcebefaa
/- THE CELL 'sum', in the pinned program and in every row, IS THE sha256 OF THE DUMP (.gsa) THAT YtedifbdjcebefaaProg.lean LOADS. Nothing in Lean hashes anything: it is a label: what it is worth is what the hold of that sum in a sandbox is worth. -/
noncomputable def Try.pinned : Pinned := { name := "ytedifbdjcebefaa", sum := "07ce19c44852c2e41c707fb8ee7de5c811283d6eed8ff7f7e348f1f91cc89e5f", checked := Try.checked }
namespace Rows
def none {H : Type} : Left H := { results := [], args := [] }

/-- 'corbellaw15.ConfChanges': WHATEVER THE INPUT: true; the input reads as it did. -/
def confChangesSpec : ChangeSpec := { name := "confChanges", fn := fun _ => fun
  | [d1, d2, d3] => { results := [.lit (.bool true)], args := [d1, d2, d3] }
  | _ => none }
def confChangesRow : OpenClaim := { program := "ytedifbdjcebefaa", sum := "07ce19c44852c2e41c707fb8ee7de5c811283d6eed8ff7f7e348f1f91cc89e5f", func := "corbel/corbellaw15.ConfChanges", spec := "confChanges", inPlace := ["slices.overlaps[int]"], unfollowed := true, recurses := true, apart := false }
def ConfChangesSaid : Prop := confChangesRow.holds Try.pinned (OpenSpec.ofChange confChangesSpec)

/-- ITS FALSE NEIGHBOUR: 'it returns false'. Refute it at one input. -/
def confChangesWrong : ChangeSpec := { name := "confChanges", fn := fun _ => fun
  | [d1, d2, d3] => { results := [.lit (.bool false)], args := [d1, d2, d3] }
  | _ => none }
def ConfChangesWrongFalsely : Prop := confChangesRow.holds Try.pinned (OpenSpec.ofChange confChangesWrong)

/-- 'corbellaw15.ConfMeets': WHATEVER THE INPUT: true; the input reads as it did. -/
def confMeetsSpec : ChangeSpec := { name := "confMeets", fn := fun _ => fun
  | [d1, d2, d3] => { results := [.lit (.bool true)], args := [d1, d2, d3] }
  | _ => none }
def confMeetsRow : OpenClaim := { program := "ytedifbdjcebefaa", sum := "07ce19c44852c2e41c707fb8ee7de5c811283d6eed8ff7f7e348f1f91cc89e5f", func := "corbel/corbellaw15.ConfMeets", spec := "confMeets", inPlace := ["slices.overlaps[int]"], unfollowed := true, recurses := true, apart := false }
def ConfMeetsSaid : Prop := confMeetsRow.holds Try.pinned (OpenSpec.ofChange confMeetsSpec)

/-- ITS FALSE NEIGHBOUR: 'it returns false'. Refute it at one input. -/
def confMeetsWrong : ChangeSpec := { name := "confMeets", fn := fun _ => fun
  | [d1, d2, d3] => { results := [.lit (.bool false)], args := [d1, d2, d3] }
  | _ => none }
def ConfMeetsWrongFalsely : Prop := confMeetsRow.holds Try.pinned (OpenSpec.ofChange confMeetsWrong)

/-- 'corbellaw15.ConfUndoes': WHATEVER THE INPUT: true; the input reads as it did. -/
def confUndoesSpec : ChangeSpec := { name := "confUndoes", fn := fun _ => fun
  | [d1, d2, d3] => { results := [.lit (.bool true)], args := [d1, d2, d3] }
  | _ => none }
def confUndoesRow : OpenClaim := { program := "ytedifbdjcebefaa", sum := "07ce19c44852c2e41c707fb8ee7de5c811283d6eed8ff7f7e348f1f91cc89e5f", func := "corbel/corbellaw15.ConfUndoes", spec := "confUndoes", inPlace := ["slices.overlaps[int]"], unfollowed := true, recurses := true, apart := false }
def ConfUndoesSaid : Prop := confUndoesRow.holds Try.pinned (OpenSpec.ofChange confUndoesSpec)

/-- ITS FALSE NEIGHBOUR: 'it returns false'. Refute it at one input. -/
def confUndoesWrong : ChangeSpec := { name := "confUndoes", fn := fun _ => fun
  | [d1, d2, d3] => { results := [.lit (.bool false)], args := [d1, d2, d3] }
  | _ => none }
def ConfUndoesWrongFalsely : Prop := confUndoesRow.holds Try.pinned (OpenSpec.ofChange confUndoesWrong)

/-- 'corbellaw15.ConfAll': WHATEVER THE INPUT: true; the input reads as it did. -/
def confAllSpec : ChangeSpec := { name := "confAll", fn := fun _ => fun
  | [d1, d2, d3] => { results := [.lit (.bool true)], args := [d1, d2, d3] }
  | _ => none }
def confAllRow : OpenClaim := { program := "ytedifbdjcebefaa", sum := "07ce19c44852c2e41c707fb8ee7de5c811283d6eed8ff7f7e348f1f91cc89e5f", func := "corbel/corbellaw15.ConfAll", spec := "confAll", inPlace := ["slices.overlaps[int]"], unfollowed := true, recurses := true, apart := false }
def ConfAllSaid : Prop := confAllRow.holds Try.pinned (OpenSpec.ofChange confAllSpec)

/-- ITS FALSE NEIGHBOUR: 'it returns false'. Refute it at one input. -/
def confAllWrong : ChangeSpec := { name := "confAll", fn := fun _ => fun
  | [d1, d2, d3] => { results := [.lit (.bool false)], args := [d1, d2, d3] }
  | _ => none }
def ConfAllWrongFalsely : Prop := confAllRow.holds Try.pinned (OpenSpec.ofChange confAllWrong)

/-- 'corbellaw15.ConfBegins': WHATEVER THE INPUT: true; the input reads as it did. -/
def confBeginsSpec : ChangeSpec := { name := "confBegins", fn := fun _ => fun
  | [d] => { results := [.lit (.bool true)], args := [d] }
  | _ => none }
def confBeginsRow : OpenClaim := { program := "ytedifbdjcebefaa", sum := "07ce19c44852c2e41c707fb8ee7de5c811283d6eed8ff7f7e348f1f91cc89e5f", func := "corbel/corbellaw15.ConfBegins", spec := "confBegins", inPlace := ["slices.overlaps[int]"], unfollowed := true, recurses := true, apart := false }
def ConfBeginsSaid : Prop := confBeginsRow.holds Try.pinned (OpenSpec.ofChange confBeginsSpec)

/-- ITS FALSE NEIGHBOUR: 'it returns false'. Refute it at one input. -/
def confBeginsWrong : ChangeSpec := { name := "confBegins", fn := fun _ => fun
  | [d] => { results := [.lit (.bool false)], args := [d] }
  | _ => none }
def ConfBeginsWrongFalsely : Prop := confBeginsRow.holds Try.pinned (OpenSpec.ofChange confBeginsWrong)

/- THE SECOND FORM. 'bulk': how many values and letters a reading holds, each counted each time it is reached (what is shared counts as often as it is met; a slice's spare places count too). A statement '..UptoSaid' is the law's where the arguments, and the package variables that the reading takes, are together of bulk at most 1048576: NARROWER than '..Said'. Prove '..Said' where nothing that the law and all that it calls make is longer than what came in: it says more and counts as full. Else prove '..UptoSaid'. A law counts once. -/
mutual
def uptoBulk {H : Type} : DataW H → Nat
  | .lit (.string bytes) => bytes.length + 1
  | .lit _ => 1
  | .nil => 1
  | .ptr d => uptoBulk d + 1
  | .slice elems spare => uptoBulkAll elems + uptoBulkAll spare + 1
  | .agg parts => uptoBulkAll parts + 1
  | .iface _ d => uptoBulk d + 1
  | .map entries => uptoBulkEntries entries + 1
  | .held _ => 1
def uptoBulkAll {H : Type} : List (DataW H) → Nat
  | [] => 0
  | d :: r => uptoBulk d + uptoBulkAll r
def uptoBulkEntries {H : Type} : List (Lit × DataW H) → Nat
  | [] => 0
  | x :: r => uptoBulkEntry x + uptoBulkEntries r
def uptoBulkEntry {H : Type} : Lit × DataW H → Nat
  | (.string bytes, d) => bytes.length + uptoBulk d + 1
  | (_, d) => uptoBulk d + 1
 end
def uptoSmall : (H : Type) → List (DataW H) → Bool := fun _ ds => decide (uptoBulkAll ds ≤ 1048576)
def OpenSpec.upto (s : _root_.Go.ChangeSpec) : _root_.Go.OpenSpec := { _root_.Go.OpenSpec.ofChange s with cond := some uptoSmall }

/-- 'corbellaw15.ConfChanges', WHERE WHAT IT READS IS OF BULK AT MOST 1048576: true; the input reads as it did. -/
def confChangesUptoRow : OpenClaim := { program := "ytedifbdjcebefaa", sum := "07ce19c44852c2e41c707fb8ee7de5c811283d6eed8ff7f7e348f1f91cc89e5f", func := "corbel/corbellaw15.ConfChanges", spec := "confChanges", inPlace := ["slices.overlaps[int]"], unfollowed := true, recurses := true, apart := false, narrowed := true }
def ConfChangesUptoSaid : Prop := confChangesUptoRow.holds Try.pinned (OpenSpec.upto confChangesSpec)

/-- 'corbellaw15.ConfMeets', WHERE WHAT IT READS IS OF BULK AT MOST 1048576: true; the input reads as it did. -/
def confMeetsUptoRow : OpenClaim := { program := "ytedifbdjcebefaa", sum := "07ce19c44852c2e41c707fb8ee7de5c811283d6eed8ff7f7e348f1f91cc89e5f", func := "corbel/corbellaw15.ConfMeets", spec := "confMeets", inPlace := ["slices.overlaps[int]"], unfollowed := true, recurses := true, apart := false, narrowed := true }
def ConfMeetsUptoSaid : Prop := confMeetsUptoRow.holds Try.pinned (OpenSpec.upto confMeetsSpec)

/-- 'corbellaw15.ConfUndoes', WHERE WHAT IT READS IS OF BULK AT MOST 1048576: true; the input reads as it did. -/
def confUndoesUptoRow : OpenClaim := { program := "ytedifbdjcebefaa", sum := "07ce19c44852c2e41c707fb8ee7de5c811283d6eed8ff7f7e348f1f91cc89e5f", func := "corbel/corbellaw15.ConfUndoes", spec := "confUndoes", inPlace := ["slices.overlaps[int]"], unfollowed := true, recurses := true, apart := false, narrowed := true }
def ConfUndoesUptoSaid : Prop := confUndoesUptoRow.holds Try.pinned (OpenSpec.upto confUndoesSpec)

/-- 'corbellaw15.ConfAll', WHERE WHAT IT READS IS OF BULK AT MOST 1048576: true; the input reads as it did. -/
def confAllUptoRow : OpenClaim := { program := "ytedifbdjcebefaa", sum := "07ce19c44852c2e41c707fb8ee7de5c811283d6eed8ff7f7e348f1f91cc89e5f", func := "corbel/corbellaw15.ConfAll", spec := "confAll", inPlace := ["slices.overlaps[int]"], unfollowed := true, recurses := true, apart := false, narrowed := true }
def ConfAllUptoSaid : Prop := confAllUptoRow.holds Try.pinned (OpenSpec.upto confAllSpec)

/-- 'corbellaw15.ConfBegins', WHERE WHAT IT READS IS OF BULK AT MOST 1048576: true; the input reads as it did. -/
def confBeginsUptoRow : OpenClaim := { program := "ytedifbdjcebefaa", sum := "07ce19c44852c2e41c707fb8ee7de5c811283d6eed8ff7f7e348f1f91cc89e5f", func := "corbel/corbellaw15.ConfBegins", spec := "confBegins", inPlace := ["slices.overlaps[int]"], unfollowed := true, recurses := true, apart := false, narrowed := true }
def ConfBeginsUptoSaid : Prop := confBeginsUptoRow.holds Try.pinned (OpenSpec.upto confBeginsSpec)

end Rows
end Go.Proofs.Ytedifbdjcebefaa
