/-
  NARROWER THAN 'FOR EVERY INPUT', by the rows' own cells (each row's printed sentence says how): GroupSets: laid · GroupWalks: laid · GroupBytes: laid · GroupLays: laid · GroupMatches: laid · GroupParts: laid.
  DERIVED. THE GIVEN ROWS OF THIS SEAT. 6 by the template 'for every input the law returns true; each argument reads behind the call as it read before'; 0 by the template 'total and deterministic' (their statements: YthbllkcikikodaaDoorTotals.lean).
  GIVEN WITH THE SEED: the statements are not yours to turn. If you find one false, say at which input.
  Laid BY PROGRAM, IN A SANDBOX (cutbox-rows.mjs): the forced cells as the released guide's own fill.sh prints them over the translation 33568288c75142fe… (all of the seat's roots in one cut). By AI agents, Wed Nov 11 2026. No macro, syntax, notation, axiom, sorry.
-/
import Derived.Test.YthbllkcikikodaaDoorChecked
import GoSem.Claim
import GoSem.ClaimJoined
import GoSem.ClaimMapViews
import Derived.JoinedTies
import Derived.KernelRfl
namespace Go.Proofs.YthbllkcikikodaaDoor
/- THE CELL 'sum', in the pinned program and in every row, IS THE sha256 OF THE DUMP (.gsa) THAT YthbllkcikikodaaDoorProg.lean LOADS. Nothing in Lean hashes anything: it is a label: what it is worth is what the hold of that sum in a sandbox is worth. -/
noncomputable def Tryd.pinned : Pinned := { name := "ythbllkcikikodaadoor", sum := "33568288c75142fe5655da8f429158559563c4699d35ddf34cae0c3104324da3", checked := Tryd.checked }
namespace Rows
def none {H : Type} : Left H := { results := [], args := [] }

/- WHAT THE LISTED PACKAGE-LEVEL VARIABLES READ AS WHEN THE CALL BEGINS. Each datum BY PROGRAM (the guide's laid-datum.mjs) off the statement by which the dump's own 'gosem.cut.vars' lays the variable. In a bare row this is a premise. The card (YthbllkcikikodaaDoorCards.lean) ties it to the program's text. -/
def laid_corbel_group_shifts {H : Type} : DataW H := .agg [.lit (.int .u64 0), .lit (.int .u64 8), .lit (.int .u64 16), .lit (.int .u64 24), .lit (.int .u64 32), .lit (.int .u64 40), .lit (.int .u64 48), .lit (.int .u64 56)]

/-- 'corbellaw03.GroupSets': WHATEVER THE INPUT: true; the input reads as it did. -/
def groupSetsSpec : ChangeSpec := { name := "groupSets", fn := fun _ => fun
  | [d] => { results := [.lit (.bool true)], args := [d] }
  | _ => none }
def groupSetsRow : OpenClaim := { program := "ythbllkcikikodaadoor", sum := "33568288c75142fe5655da8f429158559563c4699d35ddf34cae0c3104324da3", func := "corbel/corbellaw03.GroupSets", spec := "groupSets", unfollowed := true, recurses := true, named := ["corbel/group.shifts"], apart := false, laid := [("corbel/group.shifts", laid_corbel_group_shifts)] }
def GroupSetsSaid : Prop := groupSetsRow.holds Tryd.pinned (OpenSpec.ofChange groupSetsSpec)

/-- ITS FALSE NEIGHBOUR: 'it returns false'. Refute it at one input. -/
def groupSetsWrong : ChangeSpec := { name := "groupSets", fn := fun _ => fun
  | [d] => { results := [.lit (.bool false)], args := [d] }
  | _ => none }
def GroupSetsWrongFalsely : Prop := groupSetsRow.holds Tryd.pinned (OpenSpec.ofChange groupSetsWrong)

/-- 'corbellaw03.GroupWalks': WHATEVER THE INPUT: true; the input reads as it did. -/
def groupWalksSpec : ChangeSpec := { name := "groupWalks", fn := fun _ => fun
  | [d] => { results := [.lit (.bool true)], args := [d] }
  | _ => none }
def groupWalksRow : OpenClaim := { program := "ythbllkcikikodaadoor", sum := "33568288c75142fe5655da8f429158559563c4699d35ddf34cae0c3104324da3", func := "corbel/corbellaw03.GroupWalks", spec := "groupWalks", unfollowed := true, recurses := true, named := ["corbel/group.shifts"], apart := false, laid := [("corbel/group.shifts", laid_corbel_group_shifts)] }
def GroupWalksSaid : Prop := groupWalksRow.holds Tryd.pinned (OpenSpec.ofChange groupWalksSpec)

/-- ITS FALSE NEIGHBOUR: 'it returns false'. Refute it at one input. -/
def groupWalksWrong : ChangeSpec := { name := "groupWalks", fn := fun _ => fun
  | [d] => { results := [.lit (.bool false)], args := [d] }
  | _ => none }
def GroupWalksWrongFalsely : Prop := groupWalksRow.holds Tryd.pinned (OpenSpec.ofChange groupWalksWrong)

/-- 'corbellaw03.GroupBytes': WHATEVER THE INPUT: true; the input reads as it did. -/
def groupBytesSpec : ChangeSpec := { name := "groupBytes", fn := fun _ => fun
  | [d1, d2, d3] => { results := [.lit (.bool true)], args := [d1, d2, d3] }
  | _ => none }
def groupBytesRow : OpenClaim := { program := "ythbllkcikikodaadoor", sum := "33568288c75142fe5655da8f429158559563c4699d35ddf34cae0c3104324da3", func := "corbel/corbellaw03.GroupBytes", spec := "groupBytes", unfollowed := true, recurses := true, named := ["corbel/group.shifts"], apart := false, laid := [("corbel/group.shifts", laid_corbel_group_shifts)] }
def GroupBytesSaid : Prop := groupBytesRow.holds Tryd.pinned (OpenSpec.ofChange groupBytesSpec)

/-- ITS FALSE NEIGHBOUR: 'it returns false'. Refute it at one input. -/
def groupBytesWrong : ChangeSpec := { name := "groupBytes", fn := fun _ => fun
  | [d1, d2, d3] => { results := [.lit (.bool false)], args := [d1, d2, d3] }
  | _ => none }
def GroupBytesWrongFalsely : Prop := groupBytesRow.holds Tryd.pinned (OpenSpec.ofChange groupBytesWrong)

/-- 'corbellaw03.GroupLays': WHATEVER THE INPUT: true; the input reads as it did. -/
def groupLaysSpec : ChangeSpec := { name := "groupLays", fn := fun _ => fun
  | [d1, d2, d3] => { results := [.lit (.bool true)], args := [d1, d2, d3] }
  | _ => none }
def groupLaysRow : OpenClaim := { program := "ythbllkcikikodaadoor", sum := "33568288c75142fe5655da8f429158559563c4699d35ddf34cae0c3104324da3", func := "corbel/corbellaw03.GroupLays", spec := "groupLays", unfollowed := true, recurses := true, named := ["corbel/group.shifts"], apart := false, laid := [("corbel/group.shifts", laid_corbel_group_shifts)] }
def GroupLaysSaid : Prop := groupLaysRow.holds Tryd.pinned (OpenSpec.ofChange groupLaysSpec)

/-- ITS FALSE NEIGHBOUR: 'it returns false'. Refute it at one input. -/
def groupLaysWrong : ChangeSpec := { name := "groupLays", fn := fun _ => fun
  | [d1, d2, d3] => { results := [.lit (.bool false)], args := [d1, d2, d3] }
  | _ => none }
def GroupLaysWrongFalsely : Prop := groupLaysRow.holds Tryd.pinned (OpenSpec.ofChange groupLaysWrong)

/-- 'corbellaw03.GroupMatches': WHATEVER THE INPUT: true; the input reads as it did. -/
def groupMatchesSpec : ChangeSpec := { name := "groupMatches", fn := fun _ => fun
  | [d1, d2] => { results := [.lit (.bool true)], args := [d1, d2] }
  | _ => none }
def groupMatchesRow : OpenClaim := { program := "ythbllkcikikodaadoor", sum := "33568288c75142fe5655da8f429158559563c4699d35ddf34cae0c3104324da3", func := "corbel/corbellaw03.GroupMatches", spec := "groupMatches", unfollowed := true, recurses := true, named := ["corbel/group.shifts"], apart := false, laid := [("corbel/group.shifts", laid_corbel_group_shifts)] }
def GroupMatchesSaid : Prop := groupMatchesRow.holds Tryd.pinned (OpenSpec.ofChange groupMatchesSpec)

/-- ITS FALSE NEIGHBOUR: 'it returns false'. Refute it at one input. -/
def groupMatchesWrong : ChangeSpec := { name := "groupMatches", fn := fun _ => fun
  | [d1, d2] => { results := [.lit (.bool false)], args := [d1, d2] }
  | _ => none }
def GroupMatchesWrongFalsely : Prop := groupMatchesRow.holds Tryd.pinned (OpenSpec.ofChange groupMatchesWrong)

/-- 'corbellaw03.GroupParts': WHATEVER THE INPUT: true; the input reads as it did. -/
def groupPartsSpec : ChangeSpec := { name := "groupParts", fn := fun _ => fun
  | [d] => { results := [.lit (.bool true)], args := [d] }
  | _ => none }
def groupPartsRow : OpenClaim := { program := "ythbllkcikikodaadoor", sum := "33568288c75142fe5655da8f429158559563c4699d35ddf34cae0c3104324da3", func := "corbel/corbellaw03.GroupParts", spec := "groupParts", unfollowed := true, recurses := true, named := ["corbel/group.shifts"], apart := false, laid := [("corbel/group.shifts", laid_corbel_group_shifts)] }
def GroupPartsSaid : Prop := groupPartsRow.holds Tryd.pinned (OpenSpec.ofChange groupPartsSpec)

/-- ITS FALSE NEIGHBOUR: 'it returns false'. Refute it at one input. -/
def groupPartsWrong : ChangeSpec := { name := "groupParts", fn := fun _ => fun
  | [d] => { results := [.lit (.bool false)], args := [d] }
  | _ => none }
def GroupPartsWrongFalsely : Prop := groupPartsRow.holds Tryd.pinned (OpenSpec.ofChange groupPartsWrong)

/- THE SECOND FORM. 'bulk': how many values and letters a reading holds, each counted each time it is reached (what is shared counts as often as it is met; a slice's spare places count too). A statement '..UptoSaid' is the law's where the arguments, and the package variables that the reading takes, are together of bulk at most 1048576: NARROWER than '..Said'. Prove '..Said' where nothing that the law and all that it calls make is longer than what came in: it says more and counts as full. Else prove '..UptoSaid'. A law counts once. -/
mutual
def uptoBulk {H : Type} : DataW H → Nat
  | .lit (.string bytes) => bytes.length + 1
  | .lit _ => 1
  | .nil => 1
  | .ptr d => uptoBulk d + 1
  | .slice elems spare => uptoBulkAll elems + uptoBulkAll spare + 1
  | .agg parts => uptoBulkAll parts + 1
  | .iface _ d => uptoBulk d + 1
  | .map entries => uptoBulkEntries entries + 1
  | .held _ => 1
def uptoBulkAll {H : Type} : List (DataW H) → Nat
  | [] => 0
  | d :: r => uptoBulk d + uptoBulkAll r
def uptoBulkEntries {H : Type} : List (Lit × DataW H) → Nat
  | [] => 0
  | x :: r => uptoBulkEntry x + uptoBulkEntries r
def uptoBulkEntry {H : Type} : Lit × DataW H → Nat
  | (.string bytes, d) => bytes.length + uptoBulk d + 1
  | (_, d) => uptoBulk d + 1
 end
def uptoSmall : (H : Type) → List (DataW H) → Bool := fun _ ds => decide (uptoBulkAll ds ≤ 1048576)
def OpenSpec.upto (s : _root_.Go.ChangeSpec) : _root_.Go.OpenSpec := { _root_.Go.OpenSpec.ofChange s with cond := some uptoSmall }

/-- 'corbellaw03.GroupSets', WHERE WHAT IT READS IS OF BULK AT MOST 1048576: true; the input reads as it did. -/
def groupSetsUptoRow : OpenClaim := { program := "ythbllkcikikodaadoor", sum := "33568288c75142fe5655da8f429158559563c4699d35ddf34cae0c3104324da3", func := "corbel/corbellaw03.GroupSets", spec := "groupSets", unfollowed := true, recurses := true, named := ["corbel/group.shifts"], apart := false, laid := [("corbel/group.shifts", laid_corbel_group_shifts)], narrowed := true }
def GroupSetsUptoSaid : Prop := groupSetsUptoRow.holds Tryd.pinned (OpenSpec.upto groupSetsSpec)

/-- 'corbellaw03.GroupWalks', WHERE WHAT IT READS IS OF BULK AT MOST 1048576: true; the input reads as it did. -/
def groupWalksUptoRow : OpenClaim := { program := "ythbllkcikikodaadoor", sum := "33568288c75142fe5655da8f429158559563c4699d35ddf34cae0c3104324da3", func := "corbel/corbellaw03.GroupWalks", spec := "groupWalks", unfollowed := true, recurses := true, named := ["corbel/group.shifts"], apart := false, laid := [("corbel/group.shifts", laid_corbel_group_shifts)], narrowed := true }
def GroupWalksUptoSaid : Prop := groupWalksUptoRow.holds Tryd.pinned (OpenSpec.upto groupWalksSpec)

/-- 'corbellaw03.GroupBytes', WHERE WHAT IT READS IS OF BULK AT MOST 1048576: true; the input reads as it did. -/
def groupBytesUptoRow : OpenClaim := { program := "ythbllkcikikodaadoor", sum := "33568288c75142fe5655da8f429158559563c4699d35ddf34cae0c3104324da3", func := "corbel/corbellaw03.GroupBytes", spec := "groupBytes", unfollowed := true, recurses := true, named := ["corbel/group.shifts"], apart := false, laid := [("corbel/group.shifts", laid_corbel_group_shifts)], narrowed := true }
def GroupBytesUptoSaid : Prop := groupBytesUptoRow.holds Tryd.pinned (OpenSpec.upto groupBytesSpec)

/-- 'corbellaw03.GroupLays', WHERE WHAT IT READS IS OF BULK AT MOST 1048576: true; the input reads as it did. -/
def groupLaysUptoRow : OpenClaim := { program := "ythbllkcikikodaadoor", sum := "33568288c75142fe5655da8f429158559563c4699d35ddf34cae0c3104324da3", func := "corbel/corbellaw03.GroupLays", spec := "groupLays", unfollowed := true, recurses := true, named := ["corbel/group.shifts"], apart := false, laid := [("corbel/group.shifts", laid_corbel_group_shifts)], narrowed := true }
def GroupLaysUptoSaid : Prop := groupLaysUptoRow.holds Tryd.pinned (OpenSpec.upto groupLaysSpec)

/-- 'corbellaw03.GroupMatches', WHERE WHAT IT READS IS OF BULK AT MOST 1048576: true; the input reads as it did. -/
def groupMatchesUptoRow : OpenClaim := { program := "ythbllkcikikodaadoor", sum := "33568288c75142fe5655da8f429158559563c4699d35ddf34cae0c3104324da3", func := "corbel/corbellaw03.GroupMatches", spec := "groupMatches", unfollowed := true, recurses := true, named := ["corbel/group.shifts"], apart := false, laid := [("corbel/group.shifts", laid_corbel_group_shifts)], narrowed := true }
def GroupMatchesUptoSaid : Prop := groupMatchesUptoRow.holds Tryd.pinned (OpenSpec.upto groupMatchesSpec)

/-- 'corbellaw03.GroupParts', WHERE WHAT IT READS IS OF BULK AT MOST 1048576: true; the input reads as it did. -/
def groupPartsUptoRow : OpenClaim := { program := "ythbllkcikikodaadoor", sum := "33568288c75142fe5655da8f429158559563c4699d35ddf34cae0c3104324da3", func := "corbel/corbellaw03.GroupParts", spec := "groupParts", unfollowed := true, recurses := true, named := ["corbel/group.shifts"], apart := false, laid := [("corbel/group.shifts", laid_corbel_group_shifts)], narrowed := true }
def GroupPartsUptoSaid : Prop := groupPartsUptoRow.holds Tryd.pinned (OpenSpec.upto groupPartsSpec)

end Rows
end Go.Proofs.YthbllkcikikodaaDoor
