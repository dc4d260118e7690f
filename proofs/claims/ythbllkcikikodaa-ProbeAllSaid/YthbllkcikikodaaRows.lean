/-
  No cell of these rows narrows 'for every input' (looked for: loops, veiled, ifaces, maps, wideKeys, modest, calm, conditions, laid).
  DERIVED. THE GIVEN ROWS OF THIS SEAT. 5 by the template 'for every input the law returns true; each argument reads behind the call as it read before'; 0 by the template 'total and deterministic' (their statements: YthbllkcikikodaaTotals.lean).
  GIVEN WITH THE SEED: the statements are not yours to turn. If you find one false, say at which input.
  Laid BY PROGRAM, IN A SANDBOX (cutbox-rows.mjs): the forced cells as the released guide's own fill.sh prints them over the translation 5cad495b2ded2e15… (all of the seat's roots in one cut). By AI agents, Wed Nov 11 2026. No macro, syntax, notation, axiom, sorry.
-/
import Derived.Test.YthbllkcikikodaaChecked
import GoSem.Claim
import GoSem.ClaimJoined
import GoSem.ClaimMapViews
import Derived.JoinedTies
import Derived.KernelRfl
namespace Go.Proofs.Ythbllkcikikodaa
/- THE CELL 'sum', in the pinned program and in every row, IS THE sha256 OF THE DUMP (.gsa) THAT YthbllkcikikodaaProg.lean LOADS. Nothing in Lean hashes anything: it is a label: what it is worth is what the hold of that sum in a sandbox is worth. -/
noncomputable def Try.pinned : Pinned := { name := "ythbllkcikikodaa", sum := "5cad495b2ded2e151a671d605eed39d77b80f3503594fb059fe931dc404b2dbf", checked := Try.checked }
namespace Rows
def none {H : Type} : Left H := { results := [], args := [] }

/-- 'corbellaw04.ProbeSeqs': WHATEVER THE INPUT: true; the input reads as it did. -/
def probeSeqsSpec : ChangeSpec := { name := "probeSeqs", fn := fun _ => fun
  | [d1, d2, d3] => { results := [.lit (.bool true)], args := [d1, d2, d3] }
  | _ => none }
def probeSeqsRow : OpenClaim := { program := "ythbllkcikikodaa", sum := "5cad495b2ded2e151a671d605eed39d77b80f3503594fb059fe931dc404b2dbf", func := "corbel/corbellaw04.ProbeSeqs", spec := "probeSeqs", unfollowed := true, recurses := true, apart := false }
def ProbeSeqsSaid : Prop := probeSeqsRow.holds Try.pinned (OpenSpec.ofChange probeSeqsSpec)

/-- ITS FALSE NEIGHBOUR: 'it returns false'. Refute it at one input. -/
def probeSeqsWrong : ChangeSpec := { name := "probeSeqs", fn := fun _ => fun
  | [d1, d2, d3] => { results := [.lit (.bool false)], args := [d1, d2, d3] }
  | _ => none }
def ProbeSeqsWrongFalsely : Prop := probeSeqsRow.holds Try.pinned (OpenSpec.ofChange probeSeqsWrong)

/-- 'corbellaw04.ProbeNeeds': WHATEVER THE INPUT: true; the input reads as it did. -/
def probeNeedsSpec : ChangeSpec := { name := "probeNeeds", fn := fun _ => fun
  | [d] => { results := [.lit (.bool true)], args := [d] }
  | _ => none }
def probeNeedsRow : OpenClaim := { program := "ythbllkcikikodaa", sum := "5cad495b2ded2e151a671d605eed39d77b80f3503594fb059fe931dc404b2dbf", func := "corbel/corbellaw04.ProbeNeeds", spec := "probeNeeds", unfollowed := true, recurses := true, apart := false }
def ProbeNeedsSaid : Prop := probeNeedsRow.holds Try.pinned (OpenSpec.ofChange probeNeedsSpec)

/-- ITS FALSE NEIGHBOUR: 'it returns false'. Refute it at one input. -/
def probeNeedsWrong : ChangeSpec := { name := "probeNeeds", fn := fun _ => fun
  | [d] => { results := [.lit (.bool false)], args := [d] }
  | _ => none }
def ProbeNeedsWrongFalsely : Prop := probeNeedsRow.holds Try.pinned (OpenSpec.ofChange probeNeedsWrong)

/-- 'corbellaw04.ProbeSteps': WHATEVER THE INPUT: true; the input reads as it did. -/
def probeStepsSpec : ChangeSpec := { name := "probeSteps", fn := fun _ => fun
  | [d1, d2, d3] => { results := [.lit (.bool true)], args := [d1, d2, d3] }
  | _ => none }
def probeStepsRow : OpenClaim := { program := "ythbllkcikikodaa", sum := "5cad495b2ded2e151a671d605eed39d77b80f3503594fb059fe931dc404b2dbf", func := "corbel/corbellaw04.ProbeSteps", spec := "probeSteps", unfollowed := true, recurses := true, apart := false }
def ProbeStepsSaid : Prop := probeStepsRow.holds Try.pinned (OpenSpec.ofChange probeStepsSpec)

/-- ITS FALSE NEIGHBOUR: 'it returns false'. Refute it at one input. -/
def probeStepsWrong : ChangeSpec := { name := "probeSteps", fn := fun _ => fun
  | [d1, d2, d3] => { results := [.lit (.bool false)], args := [d1, d2, d3] }
  | _ => none }
def ProbeStepsWrongFalsely : Prop := probeStepsRow.holds Try.pinned (OpenSpec.ofChange probeStepsWrong)

/-- 'corbellaw04.ProbeAll': WHATEVER THE INPUT: true; the input reads as it did. -/
def probeAllSpec : ChangeSpec := { name := "probeAll", fn := fun _ => fun
  | [d1, d2] => { results := [.lit (.bool true)], args := [d1, d2] }
  | _ => none }
def probeAllRow : OpenClaim := { program := "ythbllkcikikodaa", sum := "5cad495b2ded2e151a671d605eed39d77b80f3503594fb059fe931dc404b2dbf", func := "corbel/corbellaw04.ProbeAll", spec := "probeAll", unfollowed := true, recurses := true, apart := false }
def ProbeAllSaid : Prop := probeAllRow.holds Try.pinned (OpenSpec.ofChange probeAllSpec)

/-- ITS FALSE NEIGHBOUR: 'it returns false'. Refute it at one input. -/
def probeAllWrong : ChangeSpec := { name := "probeAll", fn := fun _ => fun
  | [d1, d2] => { results := [.lit (.bool false)], args := [d1, d2] }
  | _ => none }
def ProbeAllWrongFalsely : Prop := probeAllRow.holds Try.pinned (OpenSpec.ofChange probeAllWrong)

/-- 'corbellaw04.ProbeMoves': WHATEVER THE INPUT: true; the input reads as it did. -/
def probeMovesSpec : ChangeSpec := { name := "probeMoves", fn := fun _ => fun
  | [d1, d2] => { results := [.lit (.bool true)], args := [d1, d2] }
  | _ => none }
def probeMovesRow : OpenClaim := { program := "ythbllkcikikodaa", sum := "5cad495b2ded2e151a671d605eed39d77b80f3503594fb059fe931dc404b2dbf", func := "corbel/corbellaw04.ProbeMoves", spec := "probeMoves", unfollowed := true, recurses := true, apart := false }
def ProbeMovesSaid : Prop := probeMovesRow.holds Try.pinned (OpenSpec.ofChange probeMovesSpec)

/-- ITS FALSE NEIGHBOUR: 'it returns false'. Refute it at one input. -/
def probeMovesWrong : ChangeSpec := { name := "probeMoves", fn := fun _ => fun
  | [d1, d2] => { results := [.lit (.bool false)], args := [d1, d2] }
  | _ => none }
def ProbeMovesWrongFalsely : Prop := probeMovesRow.holds Try.pinned (OpenSpec.ofChange probeMovesWrong)

/- THE SECOND FORM. 'bulk': how many values and letters a reading holds, each counted each time it is reached (what is shared counts as often as it is met; a slice's spare places count too). A statement '..UptoSaid' is the law's where the arguments, and the package variables that the reading takes, are together of bulk at most 1048576: NARROWER than '..Said'. Prove '..Said' where nothing that the law and all that it calls make is longer than what came in: it says more and counts as full. Else prove '..UptoSaid'. A law counts once. -/
mutual
def uptoBulk {H : Type} : DataW H → Nat
  | .lit (.string bytes) => bytes.length + 1
  | .lit _ => 1
  | .nil => 1
  | .ptr d => uptoBulk d + 1
  | .slice elems spare => uptoBulkAll elems + uptoBulkAll spare + 1
  | .agg parts => uptoBulkAll parts + 1
  | .iface _ d => uptoBulk d + 1
  | .map entries => uptoBulkEntries entries + 1
  | .held _ => 1
def uptoBulkAll {H : Type} : List (DataW H) → Nat
  | [] => 0
  | d :: r => uptoBulk d + uptoBulkAll r
def uptoBulkEntries {H : Type} : List (Lit × DataW H) → Nat
  | [] => 0
  | x :: r => uptoBulkEntry x + uptoBulkEntries r
def uptoBulkEntry {H : Type} : Lit × DataW H → Nat
  | (.string bytes, d) => bytes.length + uptoBulk d + 1
  | (_, d) => uptoBulk d + 1
 end
def uptoSmall : (H : Type) → List (DataW H) → Bool := fun _ ds => decide (uptoBulkAll ds ≤ 1048576)
def OpenSpec.upto (s : _root_.Go.ChangeSpec) : _root_.Go.OpenSpec := { _root_.Go.OpenSpec.ofChange s with cond := some uptoSmall }

/-- 'corbellaw04.ProbeSeqs', WHERE WHAT IT READS IS OF BULK AT MOST 1048576: true; the input reads as it did. -/
def probeSeqsUptoRow : OpenClaim := { program := "ythbllkcikikodaa", sum := "5cad495b2ded2e151a671d605eed39d77b80f3503594fb059fe931dc404b2dbf", func := "corbel/corbellaw04.ProbeSeqs", spec := "probeSeqs", unfollowed := true, recurses := true, apart := false, narrowed := true }
def ProbeSeqsUptoSaid : Prop := probeSeqsUptoRow.holds Try.pinned (OpenSpec.upto probeSeqsSpec)

/-- 'corbellaw04.ProbeNeeds', WHERE WHAT IT READS IS OF BULK AT MOST 1048576: true; the input reads as it did. -/
def probeNeedsUptoRow : OpenClaim := { program := "ythbllkcikikodaa", sum := "5cad495b2ded2e151a671d605eed39d77b80f3503594fb059fe931dc404b2dbf", func := "corbel/corbellaw04.ProbeNeeds", spec := "probeNeeds", unfollowed := true, recurses := true, apart := false, narrowed := true }
def ProbeNeedsUptoSaid : Prop := probeNeedsUptoRow.holds Try.pinned (OpenSpec.upto probeNeedsSpec)

/-- 'corbellaw04.ProbeSteps', WHERE WHAT IT READS IS OF BULK AT MOST 1048576: true; the input reads as it did. -/
def probeStepsUptoRow : OpenClaim := { program := "ythbllkcikikodaa", sum := "5cad495b2ded2e151a671d605eed39d77b80f3503594fb059fe931dc404b2dbf", func := "corbel/corbellaw04.ProbeSteps", spec := "probeSteps", unfollowed := true, recurses := true, apart := false, narrowed := true }
def ProbeStepsUptoSaid : Prop := probeStepsUptoRow.holds Try.pinned (OpenSpec.upto probeStepsSpec)

/-- 'corbellaw04.ProbeAll', WHERE WHAT IT READS IS OF BULK AT MOST 1048576: true; the input reads as it did. -/
def probeAllUptoRow : OpenClaim := { program := "ythbllkcikikodaa", sum := "5cad495b2ded2e151a671d605eed39d77b80f3503594fb059fe931dc404b2dbf", func := "corbel/corbellaw04.ProbeAll", spec := "probeAll", unfollowed := true, recurses := true, apart := false, narrowed := true }
def ProbeAllUptoSaid : Prop := probeAllUptoRow.holds Try.pinned (OpenSpec.upto probeAllSpec)

/-- 'corbellaw04.ProbeMoves', WHERE WHAT IT READS IS OF BULK AT MOST 1048576: true; the input reads as it did. -/
def probeMovesUptoRow : OpenClaim := { program := "ythbllkcikikodaa", sum := "5cad495b2ded2e151a671d605eed39d77b80f3503594fb059fe931dc404b2dbf", func := "corbel/corbellaw04.ProbeMoves", spec := "probeMoves", unfollowed := true, recurses := true, apart := false, narrowed := true }
def ProbeMovesUptoSaid : Prop := probeMovesUptoRow.holds Try.pinned (OpenSpec.upto probeMovesSpec)

end Rows
end Go.Proofs.Ythbllkcikikodaa
