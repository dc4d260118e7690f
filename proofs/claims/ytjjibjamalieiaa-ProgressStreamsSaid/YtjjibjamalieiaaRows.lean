/-
  No cell of these rows narrows 'for every input' (looked for: loops, veiled, ifaces, maps, wideKeys, modest, calm, conditions, laid).
  DERIVED. THE GIVEN ROWS OF THIS SEAT. 8 by the template 'for every input the law returns true; each argument reads behind the call as it read before'; 0 by the template 'total and deterministic' (their statements: YtjjibjamalieiaaTotals.lean).
  GIVEN WITH THE SEED: the statements are not yours to turn. If you find one false, say at which input.
  Laid BY PROGRAM, IN A SANDBOX (cutbox-rows.mjs): the forced cells as the released guide's own fill.sh prints them over the translation f1cec415fbf8f149… (all of the seat's roots in one cut). By AI agents, Wed Nov 11 2026. No macro, syntax, notation, axiom, sorry.
-/
import Derived.Test.YtjjibjamalieiaaChecked
import GoSem.Claim
import GoSem.ClaimJoined
import GoSem.ClaimMapViews
import Derived.JoinedTies
import Derived.KernelRfl
namespace Go.Proofs.Ytjjibjamalieiaa
/- THE CELL 'sum', in the pinned program and in every row, IS THE sha256 OF THE DUMP (.gsa) THAT YtjjibjamalieiaaProg.lean LOADS. Nothing in Lean hashes anything: it is a label: what it is worth is what the hold of that sum in a sandbox is worth. -/
noncomputable def Try.pinned : Pinned := { name := "ytjjibjamalieiaa", sum := "f1cec415fbf8f149d914b537737946c3352b1b2314f1d2e8158951209a483075", checked := Try.checked }
namespace Rows
def none {H : Type} : Left H := { results := [], args := [] }

/-- 'corbellaw02.SiphashSums': WHATEVER THE INPUT: true; the input reads as it did. -/
def siphashSumsSpec : ChangeSpec := { name := "siphashSums", fn := fun _ => fun
  | [d1, d2] => { results := [.lit (.bool true)], args := [d1, d2] }
  | _ => none }
def siphashSumsRow : OpenClaim := { program := "ytjjibjamalieiaa", sum := "f1cec415fbf8f149d914b537737946c3352b1b2314f1d2e8158951209a483075", func := "corbel/corbellaw02.SiphashSums", spec := "siphashSums", unfollowed := true, recurses := true, apart := false }
def SiphashSumsSaid : Prop := siphashSumsRow.holds Try.pinned (OpenSpec.ofChange siphashSumsSpec)

/-- ITS FALSE NEIGHBOUR: 'it returns false'. Refute it at one input. -/
def siphashSumsWrong : ChangeSpec := { name := "siphashSums", fn := fun _ => fun
  | [d1, d2] => { results := [.lit (.bool false)], args := [d1, d2] }
  | _ => none }
def SiphashSumsWrongFalsely : Prop := siphashSumsRow.holds Try.pinned (OpenSpec.ofChange siphashSumsWrong)

/-- 'corbellaw02.SiphashRounds': WHATEVER THE INPUT: true; the input reads as it did. -/
def siphashRoundsSpec : ChangeSpec := { name := "siphashRounds", fn := fun _ => fun
  | [d1, d2, d3] => { results := [.lit (.bool true)], args := [d1, d2, d3] }
  | _ => none }
def siphashRoundsRow : OpenClaim := { program := "ytjjibjamalieiaa", sum := "f1cec415fbf8f149d914b537737946c3352b1b2314f1d2e8158951209a483075", func := "corbel/corbellaw02.SiphashRounds", spec := "siphashRounds", unfollowed := true, recurses := true, apart := false }
def SiphashRoundsSaid : Prop := siphashRoundsRow.holds Try.pinned (OpenSpec.ofChange siphashRoundsSpec)

/-- ITS FALSE NEIGHBOUR: 'it returns false'. Refute it at one input. -/
def siphashRoundsWrong : ChangeSpec := { name := "siphashRounds", fn := fun _ => fun
  | [d1, d2, d3] => { results := [.lit (.bool false)], args := [d1, d2, d3] }
  | _ => none }
def SiphashRoundsWrongFalsely : Prop := siphashRoundsRow.holds Try.pinned (OpenSpec.ofChange siphashRoundsWrong)

/-- 'corbellaw02.SiphashBack': WHATEVER THE INPUT: true; the input reads as it did. -/
def siphashBackSpec : ChangeSpec := { name := "siphashBack", fn := fun _ => fun
  | [d1, d2] => { results := [.lit (.bool true)], args := [d1, d2] }
  | _ => none }
def siphashBackRow : OpenClaim := { program := "ytjjibjamalieiaa", sum := "f1cec415fbf8f149d914b537737946c3352b1b2314f1d2e8158951209a483075", func := "corbel/corbellaw02.SiphashBack", spec := "siphashBack", unfollowed := true, recurses := true, apart := false }
def SiphashBackSaid : Prop := siphashBackRow.holds Try.pinned (OpenSpec.ofChange siphashBackSpec)

/-- ITS FALSE NEIGHBOUR: 'it returns false'. Refute it at one input. -/
def siphashBackWrong : ChangeSpec := { name := "siphashBack", fn := fun _ => fun
  | [d1, d2] => { results := [.lit (.bool false)], args := [d1, d2] }
  | _ => none }
def SiphashBackWrongFalsely : Prop := siphashBackRow.holds Try.pinned (OpenSpec.ofChange siphashBackWrong)

/-- 'corbellaw02.SiphashParts': WHATEVER THE INPUT: true; the input reads as it did. -/
def siphashPartsSpec : ChangeSpec := { name := "siphashParts", fn := fun _ => fun
  | [d] => { results := [.lit (.bool true)], args := [d] }
  | _ => none }
def siphashPartsRow : OpenClaim := { program := "ytjjibjamalieiaa", sum := "f1cec415fbf8f149d914b537737946c3352b1b2314f1d2e8158951209a483075", func := "corbel/corbellaw02.SiphashParts", spec := "siphashParts", unfollowed := true, recurses := true, apart := false }
def SiphashPartsSaid : Prop := siphashPartsRow.holds Try.pinned (OpenSpec.ofChange siphashPartsSpec)

/-- ITS FALSE NEIGHBOUR: 'it returns false'. Refute it at one input. -/
def siphashPartsWrong : ChangeSpec := { name := "siphashParts", fn := fun _ => fun
  | [d] => { results := [.lit (.bool false)], args := [d] }
  | _ => none }
def SiphashPartsWrongFalsely : Prop := siphashPartsRow.holds Try.pinned (OpenSpec.ofChange siphashPartsWrong)

/-- 'corbellaw02.SiphashNothing': WHATEVER THE INPUT: true; the input reads as it did. -/
def siphashNothingSpec : ChangeSpec := { name := "siphashNothing", fn := fun _ => fun
  | [d] => { results := [.lit (.bool true)], args := [d] }
  | _ => none }
def siphashNothingRow : OpenClaim := { program := "ytjjibjamalieiaa", sum := "f1cec415fbf8f149d914b537737946c3352b1b2314f1d2e8158951209a483075", func := "corbel/corbellaw02.SiphashNothing", spec := "siphashNothing", unfollowed := true, recurses := true, apart := false }
def SiphashNothingSaid : Prop := siphashNothingRow.holds Try.pinned (OpenSpec.ofChange siphashNothingSpec)

/-- ITS FALSE NEIGHBOUR: 'it returns false'. Refute it at one input. -/
def siphashNothingWrong : ChangeSpec := { name := "siphashNothing", fn := fun _ => fun
  | [d] => { results := [.lit (.bool false)], args := [d] }
  | _ => none }
def SiphashNothingWrongFalsely : Prop := siphashNothingRow.holds Try.pinned (OpenSpec.ofChange siphashNothingWrong)

/-- 'corbellaw16.ProgressFinds': WHATEVER THE INPUT: true; the input reads as it did. -/
def progressFindsSpec : ChangeSpec := { name := "progressFinds", fn := fun _ => fun
  | [d1, d2] => { results := [.lit (.bool true)], args := [d1, d2] }
  | _ => none }
def progressFindsRow : OpenClaim := { program := "ytjjibjamalieiaa", sum := "f1cec415fbf8f149d914b537737946c3352b1b2314f1d2e8158951209a483075", func := "corbel/corbellaw16.ProgressFinds", spec := "progressFinds", unfollowed := true, recurses := true, apart := false }
def ProgressFindsSaid : Prop := progressFindsRow.holds Try.pinned (OpenSpec.ofChange progressFindsSpec)

/-- ITS FALSE NEIGHBOUR: 'it returns false'. Refute it at one input. -/
def progressFindsWrong : ChangeSpec := { name := "progressFinds", fn := fun _ => fun
  | [d1, d2] => { results := [.lit (.bool false)], args := [d1, d2] }
  | _ => none }
def ProgressFindsWrongFalsely : Prop := progressFindsRow.holds Try.pinned (OpenSpec.ofChange progressFindsWrong)

/-- 'corbellaw16.ProgressStreams': WHATEVER THE INPUT: true; the input reads as it did. -/
def progressStreamsSpec : ChangeSpec := { name := "progressStreams", fn := fun _ => fun
  | [d1, d2] => { results := [.lit (.bool true)], args := [d1, d2] }
  | _ => none }
def progressStreamsRow : OpenClaim := { program := "ytjjibjamalieiaa", sum := "f1cec415fbf8f149d914b537737946c3352b1b2314f1d2e8158951209a483075", func := "corbel/corbellaw16.ProgressStreams", spec := "progressStreams", unfollowed := true, recurses := true, apart := false }
def ProgressStreamsSaid : Prop := progressStreamsRow.holds Try.pinned (OpenSpec.ofChange progressStreamsSpec)

/-- ITS FALSE NEIGHBOUR: 'it returns false'. Refute it at one input. -/
def progressStreamsWrong : ChangeSpec := { name := "progressStreams", fn := fun _ => fun
  | [d1, d2] => { results := [.lit (.bool false)], args := [d1, d2] }
  | _ => none }
def ProgressStreamsWrongFalsely : Prop := progressStreamsRow.holds Try.pinned (OpenSpec.ofChange progressStreamsWrong)

/-- 'corbellaw16.ProgressNone': WHATEVER THE INPUT: true; the input reads as it did. -/
def progressNoneSpec : ChangeSpec := { name := "progressNone", fn := fun _ => fun
  | [d1, d2] => { results := [.lit (.bool true)], args := [d1, d2] }
  | _ => none }
def progressNoneRow : OpenClaim := { program := "ytjjibjamalieiaa", sum := "f1cec415fbf8f149d914b537737946c3352b1b2314f1d2e8158951209a483075", func := "corbel/corbellaw16.ProgressNone", spec := "progressNone", unfollowed := true, recurses := true, apart := false }
def ProgressNoneSaid : Prop := progressNoneRow.holds Try.pinned (OpenSpec.ofChange progressNoneSpec)

/-- ITS FALSE NEIGHBOUR: 'it returns false'. Refute it at one input. -/
def progressNoneWrong : ChangeSpec := { name := "progressNone", fn := fun _ => fun
  | [d1, d2] => { results := [.lit (.bool false)], args := [d1, d2] }
  | _ => none }
def ProgressNoneWrongFalsely : Prop := progressNoneRow.holds Try.pinned (OpenSpec.ofChange progressNoneWrong)

/- THE SECOND FORM. 'bulk': how many values and letters a reading holds, each counted each time it is reached (what is shared counts as often as it is met; a slice's spare places count too). A statement '..UptoSaid' is the law's where the arguments, and the package variables that the reading takes, are together of bulk at most 1048576: NARROWER than '..Said'. Prove '..Said' where nothing that the law and all that it calls make is longer than what came in: it says more and counts as full. Else prove '..UptoSaid'. A law counts once. -/
mutual
def uptoBulk {H : Type} : DataW H → Nat
  | .lit (.string bytes) => bytes.length + 1
  | .lit _ => 1
  | .nil => 1
  | .ptr d => uptoBulk d + 1
  | .slice elems spare => uptoBulkAll elems + uptoBulkAll spare + 1
  | .agg parts => uptoBulkAll parts + 1
  | .iface _ d => uptoBulk d + 1
  | .map entries => uptoBulkEntries entries + 1
  | .held _ => 1
def uptoBulkAll {H : Type} : List (DataW H) → Nat
  | [] => 0
  | d :: r => uptoBulk d + uptoBulkAll r
def uptoBulkEntries {H : Type} : List (Lit × DataW H) → Nat
  | [] => 0
  | x :: r => uptoBulkEntry x + uptoBulkEntries r
def uptoBulkEntry {H : Type} : Lit × DataW H → Nat
  | (.string bytes, d) => bytes.length + uptoBulk d + 1
  | (_, d) => uptoBulk d + 1
 end
def uptoSmall : (H : Type) → List (DataW H) → Bool := fun _ ds => decide (uptoBulkAll ds ≤ 1048576)
def OpenSpec.upto (s : _root_.Go.ChangeSpec) : _root_.Go.OpenSpec := { _root_.Go.OpenSpec.ofChange s with cond := some uptoSmall }

/-- 'corbellaw02.SiphashSums', WHERE WHAT IT READS IS OF BULK AT MOST 1048576: true; the input reads as it did. -/
def siphashSumsUptoRow : OpenClaim := { program := "ytjjibjamalieiaa", sum := "f1cec415fbf8f149d914b537737946c3352b1b2314f1d2e8158951209a483075", func := "corbel/corbellaw02.SiphashSums", spec := "siphashSums", unfollowed := true, recurses := true, apart := false, narrowed := true }
def SiphashSumsUptoSaid : Prop := siphashSumsUptoRow.holds Try.pinned (OpenSpec.upto siphashSumsSpec)

/-- 'corbellaw02.SiphashRounds', WHERE WHAT IT READS IS OF BULK AT MOST 1048576: true; the input reads as it did. -/
def siphashRoundsUptoRow : OpenClaim := { program := "ytjjibjamalieiaa", sum := "f1cec415fbf8f149d914b537737946c3352b1b2314f1d2e8158951209a483075", func := "corbel/corbellaw02.SiphashRounds", spec := "siphashRounds", unfollowed := true, recurses := true, apart := false, narrowed := true }
def SiphashRoundsUptoSaid : Prop := siphashRoundsUptoRow.holds Try.pinned (OpenSpec.upto siphashRoundsSpec)

/-- 'corbellaw02.SiphashBack', WHERE WHAT IT READS IS OF BULK AT MOST 1048576: true; the input reads as it did. -/
def siphashBackUptoRow : OpenClaim := { program := "ytjjibjamalieiaa", sum := "f1cec415fbf8f149d914b537737946c3352b1b2314f1d2e8158951209a483075", func := "corbel/corbellaw02.SiphashBack", spec := "siphashBack", unfollowed := true, recurses := true, apart := false, narrowed := true }
def SiphashBackUptoSaid : Prop := siphashBackUptoRow.holds Try.pinned (OpenSpec.upto siphashBackSpec)

/-- 'corbellaw02.SiphashParts', WHERE WHAT IT READS IS OF BULK AT MOST 1048576: true; the input reads as it did. -/
def siphashPartsUptoRow : OpenClaim := { program := "ytjjibjamalieiaa", sum := "f1cec415fbf8f149d914b537737946c3352b1b2314f1d2e8158951209a483075", func := "corbel/corbellaw02.SiphashParts", spec := "siphashParts", unfollowed := true, recurses := true, apart := false, narrowed := true }
def SiphashPartsUptoSaid : Prop := siphashPartsUptoRow.holds Try.pinned (OpenSpec.upto siphashPartsSpec)

/-- 'corbellaw02.SiphashNothing', WHERE WHAT IT READS IS OF BULK AT MOST 1048576: true; the input reads as it did. -/
def siphashNothingUptoRow : OpenClaim := { program := "ytjjibjamalieiaa", sum := "f1cec415fbf8f149d914b537737946c3352b1b2314f1d2e8158951209a483075", func := "corbel/corbellaw02.SiphashNothing", spec := "siphashNothing", unfollowed := true, recurses := true, apart := false, narrowed := true }
def SiphashNothingUptoSaid : Prop := siphashNothingUptoRow.holds Try.pinned (OpenSpec.upto siphashNothingSpec)

/-- 'corbellaw16.ProgressFinds', WHERE WHAT IT READS IS OF BULK AT MOST 1048576: true; the input reads as it did. -/
def progressFindsUptoRow : OpenClaim := { program := "ytjjibjamalieiaa", sum := "f1cec415fbf8f149d914b537737946c3352b1b2314f1d2e8158951209a483075", func := "corbel/corbellaw16.ProgressFinds", spec := "progressFinds", unfollowed := true, recurses := true, apart := false, narrowed := true }
def ProgressFindsUptoSaid : Prop := progressFindsUptoRow.holds Try.pinned (OpenSpec.upto progressFindsSpec)

/-- 'corbellaw16.ProgressStreams', WHERE WHAT IT READS IS OF BULK AT MOST 1048576: true; the input reads as it did. -/
def progressStreamsUptoRow : OpenClaim := { program := "ytjjibjamalieiaa", sum := "f1cec415fbf8f149d914b537737946c3352b1b2314f1d2e8158951209a483075", func := "corbel/corbellaw16.ProgressStreams", spec := "progressStreams", unfollowed := true, recurses := true, apart := false, narrowed := true }
def ProgressStreamsUptoSaid : Prop := progressStreamsUptoRow.holds Try.pinned (OpenSpec.upto progressStreamsSpec)

/-- 'corbellaw16.ProgressNone', WHERE WHAT IT READS IS OF BULK AT MOST 1048576: true; the input reads as it did. -/
def progressNoneUptoRow : OpenClaim := { program := "ytjjibjamalieiaa", sum := "f1cec415fbf8f149d914b537737946c3352b1b2314f1d2e8158951209a483075", func := "corbel/corbellaw16.ProgressNone", spec := "progressNone", unfollowed := true, recurses := true, apart := false, narrowed := true }
def ProgressNoneUptoSaid : Prop := progressNoneUptoRow.holds Try.pinned (OpenSpec.upto progressNoneSpec)

end Rows
end Go.Proofs.Ytjjibjamalieiaa
