/-
  DERIVED. GIVEN WITH THE SEED: THE CARDS: each row of YtcooapflofiolaaDoorRows.lean that lists a variable, with what it lists TIED to the program's text (the seventh form; the later family's looks); each row that meets fmt, with fmt's text TOLD by the authors' own Lean function (tested against real Go, not proved from fmt's source: count such statements apart). THE CARD IS WHAT COUNTS. Prove the row's statement (the work); the ties are given (YtcooapflofiolaaDoorTie.lean); close each card by the builder's one call (the guide's Derived/Test/ToyasCard.lean, 'card_holds'). Laid BY PROGRAM, IN A SANDBOX (cutbox-door.mjs). By AI agents, Wed Nov 11 2026. No macro, syntax, notation, axiom, sorry.
-/
import Derived.Test.YtcooapflofiolaaDoorRows
import GoSem.ClaimSeven
namespace Go.Proofs.YtcooapflofiolaaDoor
namespace Rows

/-- THE TIED CARD OF 'corbellaw05.SwissMaps'. -/
def swissMapsCard : Claim7 := { stood := { row := swissMapsRow, standIns := [], harness := (true, "7e67664e74d41973af7dd467c0ac8d15e139965457cce989b794987f38f310ec"), looks := false }, kinds := [], alts := [], laidByText := true, laidKinds := [.data], laidTests := true, laidLooks := .later }
def SwissMapsCardSaid : Prop := Claim7.holds Tryd.pinned (.plain (OpenSpec.ofChange swissMapsSpec)) swissMapsCard

/-- THE TIED CARD OF 'corbellaw06.WalkActs'. -/
def walkActsCard : Claim7 := { stood := { row := walkActsRow, standIns := [], harness := (true, "7e67664e74d41973af7dd467c0ac8d15e139965457cce989b794987f38f310ec"), looks := false }, kinds := [], alts := [], laidByText := true, laidKinds := [.data], laidTests := true, laidLooks := .later }
def WalkActsCardSaid : Prop := Claim7.holds Tryd.pinned (.plain (OpenSpec.ofChange walkActsSpec)) walkActsCard

/-- THE TIED CARD OF 'corbellaw06.WalkOnce'. -/
def walkOnceCard : Claim7 := { stood := { row := walkOnceRow, standIns := [], harness := (true, "7e67664e74d41973af7dd467c0ac8d15e139965457cce989b794987f38f310ec"), looks := false }, kinds := [], alts := [], laidByText := true, laidKinds := [.data], laidTests := true, laidLooks := .later }
def WalkOnceCardSaid : Prop := Claim7.holds Tryd.pinned (.plain (OpenSpec.ofChange walkOnceSpec)) walkOnceCard

/-- THE TIED CARD OF 'corbellaw05.SwissBounds'. -/
def swissBoundsCard : Claim7 := { stood := { row := swissBoundsRow, standIns := [], harness := (true, "7e67664e74d41973af7dd467c0ac8d15e139965457cce989b794987f38f310ec"), looks := false }, kinds := [], alts := [], laidByText := true, laidKinds := [.data], laidTests := true, laidLooks := .later }
def SwissBoundsCardSaid : Prop := Claim7.holds Tryd.pinned (.plain (OpenSpec.ofChange swissBoundsSpec)) swissBoundsCard

/-- THE TIED CARD OF 'corbellaw05.SwissGrows'. -/
def swissGrowsCard : Claim7 := { stood := { row := swissGrowsRow, standIns := [], harness := (true, "7e67664e74d41973af7dd467c0ac8d15e139965457cce989b794987f38f310ec"), looks := false }, kinds := [], alts := [], laidByText := true, laidKinds := [.data], laidTests := true, laidLooks := .later }
def SwissGrowsCardSaid : Prop := Claim7.holds Tryd.pinned (.plain (OpenSpec.ofChange swissGrowsSpec)) swissGrowsCard

/-- THE TIED CARD OF 'corbellaw05.SwissCopies'. -/
def swissCopiesCard : Claim7 := { stood := { row := swissCopiesRow, standIns := [], harness := (true, "7e67664e74d41973af7dd467c0ac8d15e139965457cce989b794987f38f310ec"), looks := false }, kinds := [], alts := [], laidByText := true, laidKinds := [.data], laidTests := true, laidLooks := .later }
def SwissCopiesCardSaid : Prop := Claim7.holds Tryd.pinned (.plain (OpenSpec.ofChange swissCopiesSpec)) swissCopiesCard

/-- THE TIED CARD OF 'corbellaw06.WalkAll'. -/
def walkAllCard : Claim7 := { stood := { row := walkAllRow, standIns := [], harness := (true, "7e67664e74d41973af7dd467c0ac8d15e139965457cce989b794987f38f310ec"), looks := false }, kinds := [], alts := [], laidByText := true, laidKinds := [.data], laidTests := true, laidLooks := .later }
def WalkAllCardSaid : Prop := Claim7.holds Tryd.pinned (.plain (OpenSpec.ofChange walkAllSpec)) walkAllCard

/-- THE TIED CARD OF 'corbellaw06.WalkNone'. -/
def walkNoneCard : Claim7 := { stood := { row := walkNoneRow, standIns := [], harness := (true, "7e67664e74d41973af7dd467c0ac8d15e139965457cce989b794987f38f310ec"), looks := false }, kinds := [], alts := [], laidByText := true, laidKinds := [.data], laidTests := true, laidLooks := .later }
def WalkNoneCardSaid : Prop := Claim7.holds Tryd.pinned (.plain (OpenSpec.ofChange walkNoneSpec)) walkNoneCard

/-- THE TIED CARD OF 'corbellaw05.SwissActs'. -/
def swissActsCard : Claim7 := { stood := { row := swissActsRow, standIns := [], harness := (true, "7e67664e74d41973af7dd467c0ac8d15e139965457cce989b794987f38f310ec"), looks := false }, kinds := [], alts := [], laidByText := true, laidKinds := [.data], laidTests := true, laidLooks := .later }
def SwissActsCardSaid : Prop := Claim7.holds Tryd.pinned (.plain (OpenSpec.ofChange swissActsSpec)) swissActsCard

/-- THE TIED CARD OF 'corbellaw05.SwissNone'. -/
def swissNoneCard : Claim7 := { stood := { row := swissNoneRow, standIns := [], harness := (true, "7e67664e74d41973af7dd467c0ac8d15e139965457cce989b794987f38f310ec"), looks := false }, kinds := [], alts := [], laidByText := true, laidKinds := [.data], laidTests := true, laidLooks := .later }
def SwissNoneCardSaid : Prop := Claim7.holds Tryd.pinned (.plain (OpenSpec.ofChange swissNoneSpec)) swissNoneCard

/-- THE SECOND FORM's CARD OF 'corbellaw05.SwissMaps'. -/
def swissMapsUptoCard : Claim7 := { stood := { row := swissMapsUptoRow, standIns := [], harness := (true, "7e67664e74d41973af7dd467c0ac8d15e139965457cce989b794987f38f310ec"), looks := false }, kinds := [], alts := [], laidByText := true, laidKinds := [.data], laidTests := true, laidLooks := .later }
def SwissMapsUptoCardSaid : Prop := Claim7.holds Tryd.pinned (.plain (OpenSpec.upto swissMapsSpec)) swissMapsUptoCard

/-- THE SECOND FORM's CARD OF 'corbellaw06.WalkActs'. -/
def walkActsUptoCard : Claim7 := { stood := { row := walkActsUptoRow, standIns := [], harness := (true, "7e67664e74d41973af7dd467c0ac8d15e139965457cce989b794987f38f310ec"), looks := false }, kinds := [], alts := [], laidByText := true, laidKinds := [.data], laidTests := true, laidLooks := .later }
def WalkActsUptoCardSaid : Prop := Claim7.holds Tryd.pinned (.plain (OpenSpec.upto walkActsSpec)) walkActsUptoCard

/-- THE SECOND FORM's CARD OF 'corbellaw06.WalkOnce'. -/
def walkOnceUptoCard : Claim7 := { stood := { row := walkOnceUptoRow, standIns := [], harness := (true, "7e67664e74d41973af7dd467c0ac8d15e139965457cce989b794987f38f310ec"), looks := false }, kinds := [], alts := [], laidByText := true, laidKinds := [.data], laidTests := true, laidLooks := .later }
def WalkOnceUptoCardSaid : Prop := Claim7.holds Tryd.pinned (.plain (OpenSpec.upto walkOnceSpec)) walkOnceUptoCard

/-- THE SECOND FORM's CARD OF 'corbellaw05.SwissBounds'. -/
def swissBoundsUptoCard : Claim7 := { stood := { row := swissBoundsUptoRow, standIns := [], harness := (true, "7e67664e74d41973af7dd467c0ac8d15e139965457cce989b794987f38f310ec"), looks := false }, kinds := [], alts := [], laidByText := true, laidKinds := [.data], laidTests := true, laidLooks := .later }
def SwissBoundsUptoCardSaid : Prop := Claim7.holds Tryd.pinned (.plain (OpenSpec.upto swissBoundsSpec)) swissBoundsUptoCard

/-- THE SECOND FORM's CARD OF 'corbellaw05.SwissGrows'. -/
def swissGrowsUptoCard : Claim7 := { stood := { row := swissGrowsUptoRow, standIns := [], harness := (true, "7e67664e74d41973af7dd467c0ac8d15e139965457cce989b794987f38f310ec"), looks := false }, kinds := [], alts := [], laidByText := true, laidKinds := [.data], laidTests := true, laidLooks := .later }
def SwissGrowsUptoCardSaid : Prop := Claim7.holds Tryd.pinned (.plain (OpenSpec.upto swissGrowsSpec)) swissGrowsUptoCard

/-- THE SECOND FORM's CARD OF 'corbellaw05.SwissCopies'. -/
def swissCopiesUptoCard : Claim7 := { stood := { row := swissCopiesUptoRow, standIns := [], harness := (true, "7e67664e74d41973af7dd467c0ac8d15e139965457cce989b794987f38f310ec"), looks := false }, kinds := [], alts := [], laidByText := true, laidKinds := [.data], laidTests := true, laidLooks := .later }
def SwissCopiesUptoCardSaid : Prop := Claim7.holds Tryd.pinned (.plain (OpenSpec.upto swissCopiesSpec)) swissCopiesUptoCard

/-- THE SECOND FORM's CARD OF 'corbellaw06.WalkAll'. -/
def walkAllUptoCard : Claim7 := { stood := { row := walkAllUptoRow, standIns := [], harness := (true, "7e67664e74d41973af7dd467c0ac8d15e139965457cce989b794987f38f310ec"), looks := false }, kinds := [], alts := [], laidByText := true, laidKinds := [.data], laidTests := true, laidLooks := .later }
def WalkAllUptoCardSaid : Prop := Claim7.holds Tryd.pinned (.plain (OpenSpec.upto walkAllSpec)) walkAllUptoCard

/-- THE SECOND FORM's CARD OF 'corbellaw06.WalkNone'. -/
def walkNoneUptoCard : Claim7 := { stood := { row := walkNoneUptoRow, standIns := [], harness := (true, "7e67664e74d41973af7dd467c0ac8d15e139965457cce989b794987f38f310ec"), looks := false }, kinds := [], alts := [], laidByText := true, laidKinds := [.data], laidTests := true, laidLooks := .later }
def WalkNoneUptoCardSaid : Prop := Claim7.holds Tryd.pinned (.plain (OpenSpec.upto walkNoneSpec)) walkNoneUptoCard

/-- THE SECOND FORM's CARD OF 'corbellaw05.SwissActs'. -/
def swissActsUptoCard : Claim7 := { stood := { row := swissActsUptoRow, standIns := [], harness := (true, "7e67664e74d41973af7dd467c0ac8d15e139965457cce989b794987f38f310ec"), looks := false }, kinds := [], alts := [], laidByText := true, laidKinds := [.data], laidTests := true, laidLooks := .later }
def SwissActsUptoCardSaid : Prop := Claim7.holds Tryd.pinned (.plain (OpenSpec.upto swissActsSpec)) swissActsUptoCard

/-- THE SECOND FORM's CARD OF 'corbellaw05.SwissNone'. -/
def swissNoneUptoCard : Claim7 := { stood := { row := swissNoneUptoRow, standIns := [], harness := (true, "7e67664e74d41973af7dd467c0ac8d15e139965457cce989b794987f38f310ec"), looks := false }, kinds := [], alts := [], laidByText := true, laidKinds := [.data], laidTests := true, laidLooks := .later }
def SwissNoneUptoCardSaid : Prop := Claim7.holds Tryd.pinned (.plain (OpenSpec.upto swissNoneSpec)) swissNoneUptoCard
end Rows
end Go.Proofs.YtcooapflofiolaaDoor
