/-
  NARROWER THAN 'FOR EVERY INPUT', by the rows' own cells (each row's printed sentence says how): SwissMaps: laid · WalkActs: laid · WalkOnce: laid · SwissBounds: laid · SwissGrows: laid · SwissCopies: laid · WalkAll: laid · WalkNone: laid · SwissActs: laid · SwissNone: laid.
  DERIVED. THE GIVEN ROWS OF THIS SEAT. 10 by the template 'for every input the law returns true; each argument reads behind the call as it read before'; 0 by the template 'total and deterministic' (their statements: YtcooapflofiolaaDoorTotals.lean).
  GIVEN WITH THE SEED: the statements are not yours to turn. If you find one false, say at which input.
  Laid BY PROGRAM, IN A SANDBOX (cutbox-rows.mjs): the forced cells as the released guide's own fill.sh prints them over the translation 2b521df9f2294148… (all of the seat's roots in one cut). By AI agents, Wed Nov 11 2026. No macro, syntax, notation, axiom, sorry.
-/
import Derived.Test.YtcooapflofiolaaDoorChecked
import GoSem.Claim
import GoSem.ClaimJoined
import GoSem.ClaimMapViews
import Derived.JoinedTies
import Derived.KernelRfl
namespace Go.Proofs.YtcooapflofiolaaDoor
/- THE CELL 'sum', in the pinned program and in every row, IS THE sha256 OF THE DUMP (.gsa) THAT YtcooapflofiolaaDoorProg.lean LOADS. Nothing in Lean hashes anything: it is a label: what it is worth is what the hold of that sum in a sandbox is worth. -/
noncomputable def Tryd.pinned : Pinned := { name := "ytcooapflofiolaadoor", sum := "2b521df9f2294148c01a29cf484e7e8a6e5731b109bbe2063669c1fd4c7f8e00", checked := Tryd.checked }
namespace Rows
def none {H : Type} : Left H := { results := [], args := [] }

/- WHAT THE LISTED PACKAGE-LEVEL VARIABLES READ AS WHEN THE CALL BEGINS. Each datum BY PROGRAM (the guide's laid-datum.mjs) off the statement by which the dump's own 'gosem.cut.vars' lays the variable. In a bare row this is a premise. The card (YtcooapflofiolaaDoorCards.lean) ties it to the program's text. -/
def laid_corbel_group_shifts {H : Type} : DataW H := .agg [.lit (.int .u64 0), .lit (.int .u64 8), .lit (.int .u64 16), .lit (.int .u64 24), .lit (.int .u64 32), .lit (.int .u64 40), .lit (.int .u64 48), .lit (.int .u64 56)]

/-- 'corbellaw05.SwissMaps': WHATEVER THE INPUT: true; the input reads as it did. -/
def swissMapsSpec : ChangeSpec := { name := "swissMaps", fn := fun _ => fun
  | [d1, d2, d3] => { results := [.lit (.bool true)], args := [d1, d2, d3] }
  | _ => none }
def swissMapsRow : OpenClaim := { program := "ytcooapflofiolaadoor", sum := "2b521df9f2294148c01a29cf484e7e8a6e5731b109bbe2063669c1fd4c7f8e00", func := "corbel/corbellaw05.SwissMaps", spec := "swissMaps", unfollowed := true, recurses := true, named := ["corbel/group.shifts"], apart := false, laid := [("corbel/group.shifts", laid_corbel_group_shifts)] }
def SwissMapsSaid : Prop := swissMapsRow.holds Tryd.pinned (OpenSpec.ofChange swissMapsSpec)

/-- ITS FALSE NEIGHBOUR: 'it returns false'. Refute it at one input. -/
def swissMapsWrong : ChangeSpec := { name := "swissMaps", fn := fun _ => fun
  | [d1, d2, d3] => { results := [.lit (.bool false)], args := [d1, d2, d3] }
  | _ => none }
def SwissMapsWrongFalsely : Prop := swissMapsRow.holds Tryd.pinned (OpenSpec.ofChange swissMapsWrong)

/-- 'corbellaw06.WalkActs': WHATEVER THE INPUT: true; the input reads as it did. -/
def walkActsSpec : ChangeSpec := { name := "walkActs", fn := fun _ => fun
  | [d1, d2, d3] => { results := [.lit (.bool true)], args := [d1, d2, d3] }
  | _ => none }
def walkActsRow : OpenClaim := { program := "ytcooapflofiolaadoor", sum := "2b521df9f2294148c01a29cf484e7e8a6e5731b109bbe2063669c1fd4c7f8e00", func := "corbel/corbellaw06.WalkActs", spec := "walkActs", unfollowed := true, recurses := true, named := ["corbel/group.shifts"], apart := false, laid := [("corbel/group.shifts", laid_corbel_group_shifts)] }
def WalkActsSaid : Prop := walkActsRow.holds Tryd.pinned (OpenSpec.ofChange walkActsSpec)

/-- ITS FALSE NEIGHBOUR: 'it returns false'. Refute it at one input. -/
def walkActsWrong : ChangeSpec := { name := "walkActs", fn := fun _ => fun
  | [d1, d2, d3] => { results := [.lit (.bool false)], args := [d1, d2, d3] }
  | _ => none }
def WalkActsWrongFalsely : Prop := walkActsRow.holds Tryd.pinned (OpenSpec.ofChange walkActsWrong)

/-- 'corbellaw06.WalkOnce': WHATEVER THE INPUT: true; the input reads as it did. -/
def walkOnceSpec : ChangeSpec := { name := "walkOnce", fn := fun _ => fun
  | [d1, d2, d3] => { results := [.lit (.bool true)], args := [d1, d2, d3] }
  | _ => none }
def walkOnceRow : OpenClaim := { program := "ytcooapflofiolaadoor", sum := "2b521df9f2294148c01a29cf484e7e8a6e5731b109bbe2063669c1fd4c7f8e00", func := "corbel/corbellaw06.WalkOnce", spec := "walkOnce", unfollowed := true, recurses := true, named := ["corbel/group.shifts"], apart := false, laid := [("corbel/group.shifts", laid_corbel_group_shifts)] }
def WalkOnceSaid : Prop := walkOnceRow.holds Tryd.pinned (OpenSpec.ofChange walkOnceSpec)

/-- ITS FALSE NEIGHBOUR: 'it returns false'. Refute it at one input. -/
def walkOnceWrong : ChangeSpec := { name := "walkOnce", fn := fun _ => fun
  | [d1, d2, d3] => { results := [.lit (.bool false)], args := [d1, d2, d3] }
  | _ => none }
def WalkOnceWrongFalsely : Prop := walkOnceRow.holds Tryd.pinned (OpenSpec.ofChange walkOnceWrong)

/-- 'corbellaw05.SwissBounds': WHATEVER THE INPUT: true; the input reads as it did. -/
def swissBoundsSpec : ChangeSpec := { name := "swissBounds", fn := fun _ => fun
  | [d1, d2] => { results := [.lit (.bool true)], args := [d1, d2] }
  | _ => none }
def swissBoundsRow : OpenClaim := { program := "ytcooapflofiolaadoor", sum := "2b521df9f2294148c01a29cf484e7e8a6e5731b109bbe2063669c1fd4c7f8e00", func := "corbel/corbellaw05.SwissBounds", spec := "swissBounds", unfollowed := true, recurses := true, named := ["corbel/group.shifts"], apart := false, laid := [("corbel/group.shifts", laid_corbel_group_shifts)] }
def SwissBoundsSaid : Prop := swissBoundsRow.holds Tryd.pinned (OpenSpec.ofChange swissBoundsSpec)

/-- ITS FALSE NEIGHBOUR: 'it returns false'. Refute it at one input. -/
def swissBoundsWrong : ChangeSpec := { name := "swissBounds", fn := fun _ => fun
  | [d1, d2] => { results := [.lit (.bool false)], args := [d1, d2] }
  | _ => none }
def SwissBoundsWrongFalsely : Prop := swissBoundsRow.holds Tryd.pinned (OpenSpec.ofChange swissBoundsWrong)

/-- 'corbellaw05.SwissGrows': WHATEVER THE INPUT: true; the input reads as it did. -/
def swissGrowsSpec : ChangeSpec := { name := "swissGrows", fn := fun _ => fun
  | [d1, d2] => { results := [.lit (.bool true)], args := [d1, d2] }
  | _ => none }
def swissGrowsRow : OpenClaim := { program := "ytcooapflofiolaadoor", sum := "2b521df9f2294148c01a29cf484e7e8a6e5731b109bbe2063669c1fd4c7f8e00", func := "corbel/corbellaw05.SwissGrows", spec := "swissGrows", unfollowed := true, recurses := true, named := ["corbel/group.shifts"], apart := false, laid := [("corbel/group.shifts", laid_corbel_group_shifts)] }
def SwissGrowsSaid : Prop := swissGrowsRow.holds Tryd.pinned (OpenSpec.ofChange swissGrowsSpec)

/-- ITS FALSE NEIGHBOUR: 'it returns false'. Refute it at one input. -/
def swissGrowsWrong : ChangeSpec := { name := "swissGrows", fn := fun _ => fun
  | [d1, d2] => { results := [.lit (.bool false)], args := [d1, d2] }
  | _ => none }
def SwissGrowsWrongFalsely : Prop := swissGrowsRow.holds Tryd.pinned (OpenSpec.ofChange swissGrowsWrong)

/-- 'corbellaw05.SwissCopies': WHATEVER THE INPUT: true; the input reads as it did. -/
def swissCopiesSpec : ChangeSpec := { name := "swissCopies", fn := fun _ => fun
  | [d1, d2, d3] => { results := [.lit (.bool true)], args := [d1, d2, d3] }
  | _ => none }
def swissCopiesRow : OpenClaim := { program := "ytcooapflofiolaadoor", sum := "2b521df9f2294148c01a29cf484e7e8a6e5731b109bbe2063669c1fd4c7f8e00", func := "corbel/corbellaw05.SwissCopies", spec := "swissCopies", unfollowed := true, recurses := true, named := ["corbel/group.shifts"], apart := false, laid := [("corbel/group.shifts", laid_corbel_group_shifts)] }
def SwissCopiesSaid : Prop := swissCopiesRow.holds Tryd.pinned (OpenSpec.ofChange swissCopiesSpec)

/-- ITS FALSE NEIGHBOUR: 'it returns false'. Refute it at one input. -/
def swissCopiesWrong : ChangeSpec := { name := "swissCopies", fn := fun _ => fun
  | [d1, d2, d3] => { results := [.lit (.bool false)], args := [d1, d2, d3] }
  | _ => none }
def SwissCopiesWrongFalsely : Prop := swissCopiesRow.holds Tryd.pinned (OpenSpec.ofChange swissCopiesWrong)

/-- 'corbellaw06.WalkAll': WHATEVER THE INPUT: true; the input reads as it did. -/
def walkAllSpec : ChangeSpec := { name := "walkAll", fn := fun _ => fun
  | [d1, d2, d3] => { results := [.lit (.bool true)], args := [d1, d2, d3] }
  | _ => none }
def walkAllRow : OpenClaim := { program := "ytcooapflofiolaadoor", sum := "2b521df9f2294148c01a29cf484e7e8a6e5731b109bbe2063669c1fd4c7f8e00", func := "corbel/corbellaw06.WalkAll", spec := "walkAll", unfollowed := true, recurses := true, named := ["corbel/group.shifts"], apart := false, laid := [("corbel/group.shifts", laid_corbel_group_shifts)] }
def WalkAllSaid : Prop := walkAllRow.holds Tryd.pinned (OpenSpec.ofChange walkAllSpec)

/-- ITS FALSE NEIGHBOUR: 'it returns false'. Refute it at one input. -/
def walkAllWrong : ChangeSpec := { name := "walkAll", fn := fun _ => fun
  | [d1, d2, d3] => { results := [.lit (.bool false)], args := [d1, d2, d3] }
  | _ => none }
def WalkAllWrongFalsely : Prop := walkAllRow.holds Tryd.pinned (OpenSpec.ofChange walkAllWrong)

/-- 'corbellaw06.WalkNone': WHATEVER THE INPUT: true; the input reads as it did. -/
def walkNoneSpec : ChangeSpec := { name := "walkNone", fn := fun _ => fun
  | [d] => { results := [.lit (.bool true)], args := [d] }
  | _ => none }
def walkNoneRow : OpenClaim := { program := "ytcooapflofiolaadoor", sum := "2b521df9f2294148c01a29cf484e7e8a6e5731b109bbe2063669c1fd4c7f8e00", func := "corbel/corbellaw06.WalkNone", spec := "walkNone", unfollowed := true, recurses := true, named := ["corbel/group.shifts"], apart := false, laid := [("corbel/group.shifts", laid_corbel_group_shifts)] }
def WalkNoneSaid : Prop := walkNoneRow.holds Tryd.pinned (OpenSpec.ofChange walkNoneSpec)

/-- ITS FALSE NEIGHBOUR: 'it returns false'. Refute it at one input. -/
def walkNoneWrong : ChangeSpec := { name := "walkNone", fn := fun _ => fun
  | [d] => { results := [.lit (.bool false)], args := [d] }
  | _ => none }
def WalkNoneWrongFalsely : Prop := walkNoneRow.holds Tryd.pinned (OpenSpec.ofChange walkNoneWrong)

/-- 'corbellaw05.SwissActs': WHATEVER THE INPUT: true; the input reads as it did. -/
def swissActsSpec : ChangeSpec := { name := "swissActs", fn := fun _ => fun
  | [d1, d2, d3] => { results := [.lit (.bool true)], args := [d1, d2, d3] }
  | _ => none }
def swissActsRow : OpenClaim := { program := "ytcooapflofiolaadoor", sum := "2b521df9f2294148c01a29cf484e7e8a6e5731b109bbe2063669c1fd4c7f8e00", func := "corbel/corbellaw05.SwissActs", spec := "swissActs", unfollowed := true, recurses := true, named := ["corbel/group.shifts"], apart := false, laid := [("corbel/group.shifts", laid_corbel_group_shifts)] }
def SwissActsSaid : Prop := swissActsRow.holds Tryd.pinned (OpenSpec.ofChange swissActsSpec)

/-- ITS FALSE NEIGHBOUR: 'it returns false'. Refute it at one input. -/
def swissActsWrong : ChangeSpec := { name := "swissActs", fn := fun _ => fun
  | [d1, d2, d3] => { results := [.lit (.bool false)], args := [d1, d2, d3] }
  | _ => none }
def SwissActsWrongFalsely : Prop := swissActsRow.holds Tryd.pinned (OpenSpec.ofChange swissActsWrong)

/-- 'corbellaw05.SwissNone': WHATEVER THE INPUT: true; the input reads as it did. -/
def swissNoneSpec : ChangeSpec := { name := "swissNone", fn := fun _ => fun
  | [d] => { results := [.lit (.bool true)], args := [d] }
  | _ => none }
def swissNoneRow : OpenClaim := { program := "ytcooapflofiolaadoor", sum := "2b521df9f2294148c01a29cf484e7e8a6e5731b109bbe2063669c1fd4c7f8e00", func := "corbel/corbellaw05.SwissNone", spec := "swissNone", unfollowed := true, recurses := true, named := ["corbel/group.shifts"], apart := false, laid := [("corbel/group.shifts", laid_corbel_group_shifts)] }
def SwissNoneSaid : Prop := swissNoneRow.holds Tryd.pinned (OpenSpec.ofChange swissNoneSpec)

/-- ITS FALSE NEIGHBOUR: 'it returns false'. Refute it at one input. -/
def swissNoneWrong : ChangeSpec := { name := "swissNone", fn := fun _ => fun
  | [d] => { results := [.lit (.bool false)], args := [d] }
  | _ => none }
def SwissNoneWrongFalsely : Prop := swissNoneRow.holds Tryd.pinned (OpenSpec.ofChange swissNoneWrong)

/- THE SECOND FORM. 'bulk': how many values and letters a reading holds, each counted each time it is reached (what is shared counts as often as it is met; a slice's spare places count too). A statement '..UptoSaid' is the law's where the arguments, and the package variables that the reading takes, are together of bulk at most 1048576: NARROWER than '..Said'. Prove '..Said' where nothing that the law and all that it calls make is longer than what came in: it says more and counts as full. Else prove '..UptoSaid'. A law counts once. -/
mutual
def uptoBulk {H : Type} : DataW H → Nat
  | .lit (.string bytes) => bytes.length + 1
  | .lit _ => 1
  | .nil => 1
  | .ptr d => uptoBulk d + 1
  | .slice elems spare => uptoBulkAll elems + uptoBulkAll spare + 1
  | .agg parts => uptoBulkAll parts + 1
  | .iface _ d => uptoBulk d + 1
  | .map entries => uptoBulkEntries entries + 1
  | .held _ => 1
def uptoBulkAll {H : Type} : List (DataW H) → Nat
  | [] => 0
  | d :: r => uptoBulk d + uptoBulkAll r
def uptoBulkEntries {H : Type} : List (Lit × DataW H) → Nat
  | [] => 0
  | x :: r => uptoBulkEntry x + uptoBulkEntries r
def uptoBulkEntry {H : Type} : Lit × DataW H → Nat
  | (.string bytes, d) => bytes.length + uptoBulk d + 1
  | (_, d) => uptoBulk d + 1
 end
def uptoSmall : (H : Type) → List (DataW H) → Bool := fun _ ds => decide (uptoBulkAll ds ≤ 1048576)
def OpenSpec.upto (s : _root_.Go.ChangeSpec) : _root_.Go.OpenSpec := { _root_.Go.OpenSpec.ofChange s with cond := some uptoSmall }

/-- 'corbellaw05.SwissMaps', WHERE WHAT IT READS IS OF BULK AT MOST 1048576: true; the input reads as it did. -/
def swissMapsUptoRow : OpenClaim := { program := "ytcooapflofiolaadoor", sum := "2b521df9f2294148c01a29cf484e7e8a6e5731b109bbe2063669c1fd4c7f8e00", func := "corbel/corbellaw05.SwissMaps", spec := "swissMaps", unfollowed := true, recurses := true, named := ["corbel/group.shifts"], apart := false, laid := [("corbel/group.shifts", laid_corbel_group_shifts)], narrowed := true }
def SwissMapsUptoSaid : Prop := swissMapsUptoRow.holds Tryd.pinned (OpenSpec.upto swissMapsSpec)

/-- 'corbellaw06.WalkActs', WHERE WHAT IT READS IS OF BULK AT MOST 1048576: true; the input reads as it did. -/
def walkActsUptoRow : OpenClaim := { program := "ytcooapflofiolaadoor", sum := "2b521df9f2294148c01a29cf484e7e8a6e5731b109bbe2063669c1fd4c7f8e00", func := "corbel/corbellaw06.WalkActs", spec := "walkActs", unfollowed := true, recurses := true, named := ["corbel/group.shifts"], apart := false, laid := [("corbel/group.shifts", laid_corbel_group_shifts)], narrowed := true }
def WalkActsUptoSaid : Prop := walkActsUptoRow.holds Tryd.pinned (OpenSpec.upto walkActsSpec)

/-- 'corbellaw06.WalkOnce', WHERE WHAT IT READS IS OF BULK AT MOST 1048576: true; the input reads as it did. -/
def walkOnceUptoRow : OpenClaim := { program := "ytcooapflofiolaadoor", sum := "2b521df9f2294148c01a29cf484e7e8a6e5731b109bbe2063669c1fd4c7f8e00", func := "corbel/corbellaw06.WalkOnce", spec := "walkOnce", unfollowed := true, recurses := true, named := ["corbel/group.shifts"], apart := false, laid := [("corbel/group.shifts", laid_corbel_group_shifts)], narrowed := true }
def WalkOnceUptoSaid : Prop := walkOnceUptoRow.holds Tryd.pinned (OpenSpec.upto walkOnceSpec)

/-- 'corbellaw05.SwissBounds', WHERE WHAT IT READS IS OF BULK AT MOST 1048576: true; the input reads as it did. -/
def swissBoundsUptoRow : OpenClaim := { program := "ytcooapflofiolaadoor", sum := "2b521df9f2294148c01a29cf484e7e8a6e5731b109bbe2063669c1fd4c7f8e00", func := "corbel/corbellaw05.SwissBounds", spec := "swissBounds", unfollowed := true, recurses := true, named := ["corbel/group.shifts"], apart := false, laid := [("corbel/group.shifts", laid_corbel_group_shifts)], narrowed := true }
def SwissBoundsUptoSaid : Prop := swissBoundsUptoRow.holds Tryd.pinned (OpenSpec.upto swissBoundsSpec)

/-- 'corbellaw05.SwissGrows', WHERE WHAT IT READS IS OF BULK AT MOST 1048576: true; the input reads as it did. -/
def swissGrowsUptoRow : OpenClaim := { program := "ytcooapflofiolaadoor", sum := "2b521df9f2294148c01a29cf484e7e8a6e5731b109bbe2063669c1fd4c7f8e00", func := "corbel/corbellaw05.SwissGrows", spec := "swissGrows", unfollowed := true, recurses := true, named := ["corbel/group.shifts"], apart := false, laid := [("corbel/group.shifts", laid_corbel_group_shifts)], narrowed := true }
def SwissGrowsUptoSaid : Prop := swissGrowsUptoRow.holds Tryd.pinned (OpenSpec.upto swissGrowsSpec)

/-- 'corbellaw05.SwissCopies', WHERE WHAT IT READS IS OF BULK AT MOST 1048576: true; the input reads as it did. -/
def swissCopiesUptoRow : OpenClaim := { program := "ytcooapflofiolaadoor", sum := "2b521df9f2294148c01a29cf484e7e8a6e5731b109bbe2063669c1fd4c7f8e00", func := "corbel/corbellaw05.SwissCopies", spec := "swissCopies", unfollowed := true, recurses := true, named := ["corbel/group.shifts"], apart := false, laid := [("corbel/group.shifts", laid_corbel_group_shifts)], narrowed := true }
def SwissCopiesUptoSaid : Prop := swissCopiesUptoRow.holds Tryd.pinned (OpenSpec.upto swissCopiesSpec)

/-- 'corbellaw06.WalkAll', WHERE WHAT IT READS IS OF BULK AT MOST 1048576: true; the input reads as it did. -/
def walkAllUptoRow : OpenClaim := { program := "ytcooapflofiolaadoor", sum := "2b521df9f2294148c01a29cf484e7e8a6e5731b109bbe2063669c1fd4c7f8e00", func := "corbel/corbellaw06.WalkAll", spec := "walkAll", unfollowed := true, recurses := true, named := ["corbel/group.shifts"], apart := false, laid := [("corbel/group.shifts", laid_corbel_group_shifts)], narrowed := true }
def WalkAllUptoSaid : Prop := walkAllUptoRow.holds Tryd.pinned (OpenSpec.upto walkAllSpec)

/-- 'corbellaw06.WalkNone', WHERE WHAT IT READS IS OF BULK AT MOST 1048576: true; the input reads as it did. -/
def walkNoneUptoRow : OpenClaim := { program := "ytcooapflofiolaadoor", sum := "2b521df9f2294148c01a29cf484e7e8a6e5731b109bbe2063669c1fd4c7f8e00", func := "corbel/corbellaw06.WalkNone", spec := "walkNone", unfollowed := true, recurses := true, named := ["corbel/group.shifts"], apart := false, laid := [("corbel/group.shifts", laid_corbel_group_shifts)], narrowed := true }
def WalkNoneUptoSaid : Prop := walkNoneUptoRow.holds Tryd.pinned (OpenSpec.upto walkNoneSpec)

/-- 'corbellaw05.SwissActs', WHERE WHAT IT READS IS OF BULK AT MOST 1048576: true; the input reads as it did. -/
def swissActsUptoRow : OpenClaim := { program := "ytcooapflofiolaadoor", sum := "2b521df9f2294148c01a29cf484e7e8a6e5731b109bbe2063669c1fd4c7f8e00", func := "corbel/corbellaw05.SwissActs", spec := "swissActs", unfollowed := true, recurses := true, named := ["corbel/group.shifts"], apart := false, laid := [("corbel/group.shifts", laid_corbel_group_shifts)], narrowed := true }
def SwissActsUptoSaid : Prop := swissActsUptoRow.holds Tryd.pinned (OpenSpec.upto swissActsSpec)

/-- 'corbellaw05.SwissNone', WHERE WHAT IT READS IS OF BULK AT MOST 1048576: true; the input reads as it did. -/
def swissNoneUptoRow : OpenClaim := { program := "ytcooapflofiolaadoor", sum := "2b521df9f2294148c01a29cf484e7e8a6e5731b109bbe2063669c1fd4c7f8e00", func := "corbel/corbellaw05.SwissNone", spec := "swissNone", unfollowed := true, recurses := true, named := ["corbel/group.shifts"], apart := false, laid := [("corbel/group.shifts", laid_corbel_group_shifts)], narrowed := true }
def SwissNoneUptoSaid : Prop := swissNoneUptoRow.holds Tryd.pinned (OpenSpec.upto swissNoneSpec)

end Rows
end Go.Proofs.YtcooapflofiolaaDoor
