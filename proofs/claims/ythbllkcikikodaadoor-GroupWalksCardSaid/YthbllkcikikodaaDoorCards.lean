/-
  DERIVED. GIVEN WITH THE SEED: THE CARDS: each row of YthbllkcikikodaaDoorRows.lean that lists a variable, with what it lists TIED to the program's text (the seventh form; the later family's looks); each row that meets fmt, with fmt's text TOLD by the authors' own Lean function (tested against real Go, not proved from fmt's source: count such statements apart). THE CARD IS WHAT COUNTS. Prove the row's statement (the work); the ties are given (YthbllkcikikodaaDoorTie.lean); close each card by the builder's one call (the guide's Derived/Test/ToyasCard.lean, 'card_holds'). Laid BY PROGRAM, IN A SANDBOX (cutbox-door.mjs). By AI agents, Wed Nov 11 2026. No macro, syntax, notation, axiom, sorry.
-/
import Derived.Test.YthbllkcikikodaaDoorRows
import GoSem.ClaimSeven
namespace Go.Proofs.YthbllkcikikodaaDoor
namespace Rows

/-- THE TIED CARD OF 'corbellaw03.GroupSets'. -/
def groupSetsCard : Claim7 := { stood := { row := groupSetsRow, standIns := [], harness := (true, "af04a548b17130e2969736a57204b60ec3ecb51b52b07ffecddf88a4ee7479c2"), looks := false }, kinds := [], alts := [], laidByText := true, laidKinds := [.data], laidTests := true, laidLooks := .later }
def GroupSetsCardSaid : Prop := Claim7.holds Tryd.pinned (.plain (OpenSpec.ofChange groupSetsSpec)) groupSetsCard

/-- THE TIED CARD OF 'corbellaw03.GroupWalks'. -/
def groupWalksCard : Claim7 := { stood := { row := groupWalksRow, standIns := [], harness := (true, "af04a548b17130e2969736a57204b60ec3ecb51b52b07ffecddf88a4ee7479c2"), looks := false }, kinds := [], alts := [], laidByText := true, laidKinds := [.data], laidTests := true, laidLooks := .later }
def GroupWalksCardSaid : Prop := Claim7.holds Tryd.pinned (.plain (OpenSpec.ofChange groupWalksSpec)) groupWalksCard

/-- THE TIED CARD OF 'corbellaw03.GroupBytes'. -/
def groupBytesCard : Claim7 := { stood := { row := groupBytesRow, standIns := [], harness := (true, "af04a548b17130e2969736a57204b60ec3ecb51b52b07ffecddf88a4ee7479c2"), looks := false }, kinds := [], alts := [], laidByText := true, laidKinds := [.data], laidTests := true, laidLooks := .later }
def GroupBytesCardSaid : Prop := Claim7.holds Tryd.pinned (.plain (OpenSpec.ofChange groupBytesSpec)) groupBytesCard

/-- THE TIED CARD OF 'corbellaw03.GroupLays'. -/
def groupLaysCard : Claim7 := { stood := { row := groupLaysRow, standIns := [], harness := (true, "af04a548b17130e2969736a57204b60ec3ecb51b52b07ffecddf88a4ee7479c2"), looks := false }, kinds := [], alts := [], laidByText := true, laidKinds := [.data], laidTests := true, laidLooks := .later }
def GroupLaysCardSaid : Prop := Claim7.holds Tryd.pinned (.plain (OpenSpec.ofChange groupLaysSpec)) groupLaysCard

/-- THE TIED CARD OF 'corbellaw03.GroupMatches'. -/
def groupMatchesCard : Claim7 := { stood := { row := groupMatchesRow, standIns := [], harness := (true, "af04a548b17130e2969736a57204b60ec3ecb51b52b07ffecddf88a4ee7479c2"), looks := false }, kinds := [], alts := [], laidByText := true, laidKinds := [.data], laidTests := true, laidLooks := .later }
def GroupMatchesCardSaid : Prop := Claim7.holds Tryd.pinned (.plain (OpenSpec.ofChange groupMatchesSpec)) groupMatchesCard

/-- THE TIED CARD OF 'corbellaw03.GroupParts'. -/
def groupPartsCard : Claim7 := { stood := { row := groupPartsRow, standIns := [], harness := (true, "af04a548b17130e2969736a57204b60ec3ecb51b52b07ffecddf88a4ee7479c2"), looks := false }, kinds := [], alts := [], laidByText := true, laidKinds := [.data], laidTests := true, laidLooks := .later }
def GroupPartsCardSaid : Prop := Claim7.holds Tryd.pinned (.plain (OpenSpec.ofChange groupPartsSpec)) groupPartsCard

/-- THE SECOND FORM's CARD OF 'corbellaw03.GroupSets'. -/
def groupSetsUptoCard : Claim7 := { stood := { row := groupSetsUptoRow, standIns := [], harness := (true, "af04a548b17130e2969736a57204b60ec3ecb51b52b07ffecddf88a4ee7479c2"), looks := false }, kinds := [], alts := [], laidByText := true, laidKinds := [.data], laidTests := true, laidLooks := .later }
def GroupSetsUptoCardSaid : Prop := Claim7.holds Tryd.pinned (.plain (OpenSpec.upto groupSetsSpec)) groupSetsUptoCard

/-- THE SECOND FORM's CARD OF 'corbellaw03.GroupWalks'. -/
def groupWalksUptoCard : Claim7 := { stood := { row := groupWalksUptoRow, standIns := [], harness := (true, "af04a548b17130e2969736a57204b60ec3ecb51b52b07ffecddf88a4ee7479c2"), looks := false }, kinds := [], alts := [], laidByText := true, laidKinds := [.data], laidTests := true, laidLooks := .later }
def GroupWalksUptoCardSaid : Prop := Claim7.holds Tryd.pinned (.plain (OpenSpec.upto groupWalksSpec)) groupWalksUptoCard

/-- THE SECOND FORM's CARD OF 'corbellaw03.GroupBytes'. -/
def groupBytesUptoCard : Claim7 := { stood := { row := groupBytesUptoRow, standIns := [], harness := (true, "af04a548b17130e2969736a57204b60ec3ecb51b52b07ffecddf88a4ee7479c2"), looks := false }, kinds := [], alts := [], laidByText := true, laidKinds := [.data], laidTests := true, laidLooks := .later }
def GroupBytesUptoCardSaid : Prop := Claim7.holds Tryd.pinned (.plain (OpenSpec.upto groupBytesSpec)) groupBytesUptoCard

/-- THE SECOND FORM's CARD OF 'corbellaw03.GroupLays'. -/
def groupLaysUptoCard : Claim7 := { stood := { row := groupLaysUptoRow, standIns := [], harness := (true, "af04a548b17130e2969736a57204b60ec3ecb51b52b07ffecddf88a4ee7479c2"), looks := false }, kinds := [], alts := [], laidByText := true, laidKinds := [.data], laidTests := true, laidLooks := .later }
def GroupLaysUptoCardSaid : Prop := Claim7.holds Tryd.pinned (.plain (OpenSpec.upto groupLaysSpec)) groupLaysUptoCard

/-- THE SECOND FORM's CARD OF 'corbellaw03.GroupMatches'. -/
def groupMatchesUptoCard : Claim7 := { stood := { row := groupMatchesUptoRow, standIns := [], harness := (true, "af04a548b17130e2969736a57204b60ec3ecb51b52b07ffecddf88a4ee7479c2"), looks := false }, kinds := [], alts := [], laidByText := true, laidKinds := [.data], laidTests := true, laidLooks := .later }
def GroupMatchesUptoCardSaid : Prop := Claim7.holds Tryd.pinned (.plain (OpenSpec.upto groupMatchesSpec)) groupMatchesUptoCard

/-- THE SECOND FORM's CARD OF 'corbellaw03.GroupParts'. -/
def groupPartsUptoCard : Claim7 := { stood := { row := groupPartsUptoRow, standIns := [], harness := (true, "af04a548b17130e2969736a57204b60ec3ecb51b52b07ffecddf88a4ee7479c2"), looks := false }, kinds := [], alts := [], laidByText := true, laidKinds := [.data], laidTests := true, laidLooks := .later }
def GroupPartsUptoCardSaid : Prop := Claim7.holds Tryd.pinned (.plain (OpenSpec.upto groupPartsSpec)) groupPartsUptoCard
end Rows
end Go.Proofs.YthbllkcikikodaaDoor
