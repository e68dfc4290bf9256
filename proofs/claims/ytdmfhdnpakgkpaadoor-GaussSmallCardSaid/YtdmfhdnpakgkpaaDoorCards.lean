/-
  DERIVED. GIVEN WITH THE SEED: THE CARDS: each row of YtdmfhdnpakgkpaaDoorRows.lean that lists a variable, with what it lists TIED to the program's text (the seventh form; the later family's looks); each row that meets fmt, with fmt's text TOLD by the authors' own Lean function (tested against real Go, not proved from fmt's source: count such statements apart). THE CARD IS WHAT COUNTS. Prove the row's statement (the work); the ties are given (YtdmfhdnpakgkpaaDoorTie.lean); close each card by the builder's one call (the guide's Derived/Test/ToyasCard.lean, 'card_holds'). Laid BY PROGRAM, IN A SANDBOX (cutbox-door.mjs). By AI agents, Wed Nov 11 2026. No macro, syntax, notation, axiom, sorry.
-/
import Derived.Test.YtdmfhdnpakgkpaaDoorRows
import GoSem.ClaimSeven
namespace Go.Proofs.YtdmfhdnpakgkpaaDoor
namespace Rows

/-- THE TIED CARD OF 'careenlaw07.GaussSquares'. -/
def gaussSquaresCard : Claim7 := { stood := { row := gaussSquaresRow, standIns := [], harness := (true, "921a05739c4bd734f26a3112ba3a50456c6135e3510ebc715480e52dfb7bc730"), looks := false }, kinds := [], alts := [], laidByText := true, laidKinds := [.data, .wider], laidTests := true, laidLooks := .later }
def GaussSquaresCardSaid : Prop := Claim7.holds Tryd.pinned (.plain (OpenSpec.ofChange gaussSquaresSpec)) gaussSquaresCard

/-- THE TIED CARD OF 'careenlaw07.GaussRoots'. -/
def gaussRootsCard : Claim7 := { stood := { row := gaussRootsRow, standIns := [], harness := (true, "921a05739c4bd734f26a3112ba3a50456c6135e3510ebc715480e52dfb7bc730"), looks := false }, kinds := [], alts := [], laidByText := true, laidKinds := [.data, .wider], laidTests := true, laidLooks := .later }
def GaussRootsCardSaid : Prop := Claim7.holds Tryd.pinned (.plain (OpenSpec.ofChange gaussRootsSpec)) gaussRootsCard

/-- THE TIED CARD OF 'careenlaw07.GaussRests'. -/
def gaussRestsCard : Claim7 := { stood := { row := gaussRestsRow, standIns := [], harness := (true, "921a05739c4bd734f26a3112ba3a50456c6135e3510ebc715480e52dfb7bc730"), looks := false }, kinds := [], alts := [], laidByText := true, laidKinds := [.data, .wider], laidTests := true, laidLooks := .later }
def GaussRestsCardSaid : Prop := Claim7.holds Tryd.pinned (.plain (OpenSpec.ofChange gaussRestsSpec)) gaussRestsCard

/-- THE TIED CARD OF 'careenlaw07.GaussNorms'. -/
def gaussNormsCard : Claim7 := { stood := { row := gaussNormsRow, standIns := [], harness := (true, "921a05739c4bd734f26a3112ba3a50456c6135e3510ebc715480e52dfb7bc730"), looks := false }, kinds := [], alts := [], laidByText := true, laidKinds := [.data, .wider], laidTests := true, laidLooks := .later }
def GaussNormsCardSaid : Prop := Claim7.holds Tryd.pinned (.plain (OpenSpec.ofChange gaussNormsSpec)) gaussNormsCard

/-- THE TIED CARD OF 'careenlaw07.GaussParts'. -/
def gaussPartsCard : Claim7 := { stood := { row := gaussPartsRow, standIns := [], harness := (true, "921a05739c4bd734f26a3112ba3a50456c6135e3510ebc715480e52dfb7bc730"), looks := false }, kinds := [], alts := [], laidByText := true, laidKinds := [.data, .wider], laidTests := true, laidLooks := .later }
def GaussPartsCardSaid : Prop := Claim7.holds Tryd.pinned (.plain (OpenSpec.ofChange gaussPartsSpec)) gaussPartsCard

/-- THE TIED CARD OF 'careenlaw07.GaussPowers'. -/
def gaussPowersCard : Claim7 := { stood := { row := gaussPowersRow, standIns := [], harness := (true, "921a05739c4bd734f26a3112ba3a50456c6135e3510ebc715480e52dfb7bc730"), looks := false }, kinds := [], alts := [], laidByText := true, laidKinds := [.data, .wider], laidTests := true, laidLooks := .later }
def GaussPowersCardSaid : Prop := Claim7.holds Tryd.pinned (.plain (OpenSpec.ofChange gaussPowersSpec)) gaussPowersCard

/-- THE TIED CARD OF 'careenlaw07.GaussMuls'. -/
def gaussMulsCard : Claim7 := { stood := { row := gaussMulsRow, standIns := [], harness := (true, "921a05739c4bd734f26a3112ba3a50456c6135e3510ebc715480e52dfb7bc730"), looks := false }, kinds := [], alts := [], laidByText := true, laidKinds := [.data, .wider], laidTests := true, laidLooks := .later }
def GaussMulsCardSaid : Prop := Claim7.holds Tryd.pinned (.plain (OpenSpec.ofChange gaussMulsSpec)) gaussMulsCard

/-- THE TIED CARD OF 'careenlaw07.GaussFactors'. -/
def gaussFactorsCard : Claim7 := { stood := { row := gaussFactorsRow, standIns := [], harness := (true, "921a05739c4bd734f26a3112ba3a50456c6135e3510ebc715480e52dfb7bc730"), looks := false }, kinds := [], alts := [], laidByText := true, laidKinds := [.data, .wider], laidTests := true, laidLooks := .later }
def GaussFactorsCardSaid : Prop := Claim7.holds Tryd.pinned (.plain (OpenSpec.ofChange gaussFactorsSpec)) gaussFactorsCard

/-- THE TIED CARD OF 'careenlaw07.GaussFermat'. -/
def gaussFermatCard : Claim7 := { stood := { row := gaussFermatRow, standIns := [], harness := (true, "921a05739c4bd734f26a3112ba3a50456c6135e3510ebc715480e52dfb7bc730"), looks := false }, kinds := [], alts := [], laidByText := true, laidKinds := [.data, .wider], laidTests := true, laidLooks := .later }
def GaussFermatCardSaid : Prop := Claim7.holds Tryd.pinned (.plain (OpenSpec.ofChange gaussFermatSpec)) gaussFermatCard

/-- THE TIED CARD OF 'careenlaw07.GaussGcds'. -/
def gaussGcdsCard : Claim7 := { stood := { row := gaussGcdsRow, standIns := [], harness := (true, "921a05739c4bd734f26a3112ba3a50456c6135e3510ebc715480e52dfb7bc730"), looks := false }, kinds := [], alts := [], laidByText := true, laidKinds := [.data, .wider], laidTests := true, laidLooks := .later }
def GaussGcdsCardSaid : Prop := Claim7.holds Tryd.pinned (.plain (OpenSpec.ofChange gaussGcdsSpec)) gaussGcdsCard

/-- THE TIED CARD OF 'careenlaw07.GaussPrimes'. -/
def gaussPrimesCard : Claim7 := { stood := { row := gaussPrimesRow, standIns := [], harness := (true, "921a05739c4bd734f26a3112ba3a50456c6135e3510ebc715480e52dfb7bc730"), looks := false }, kinds := [], alts := [], laidByText := true, laidKinds := [.data, .wider], laidTests := true, laidLooks := .later }
def GaussPrimesCardSaid : Prop := Claim7.holds Tryd.pinned (.plain (OpenSpec.ofChange gaussPrimesSpec)) gaussPrimesCard

/-- THE TIED CARD OF 'careenlaw07.GaussInverses'. -/
def gaussInversesCard : Claim7 := { stood := { row := gaussInversesRow, standIns := [], harness := (true, "921a05739c4bd734f26a3112ba3a50456c6135e3510ebc715480e52dfb7bc730"), looks := false }, kinds := [], alts := [], laidByText := true, laidKinds := [.data, .wider], laidTests := true, laidLooks := .later }
def GaussInversesCardSaid : Prop := Claim7.holds Tryd.pinned (.plain (OpenSpec.ofChange gaussInversesSpec)) gaussInversesCard

/-- THE TIED CARD OF 'careenlaw07.GaussSmall'. -/
def gaussSmallCard : Claim7 := { stood := { row := gaussSmallRow, standIns := [], harness := (true, "921a05739c4bd734f26a3112ba3a50456c6135e3510ebc715480e52dfb7bc730"), looks := false }, kinds := [], alts := [], laidByText := true, laidKinds := [.data, .wider], laidTests := true, laidLooks := .later }
def GaussSmallCardSaid : Prop := Claim7.holds Tryd.pinned (.plain (OpenSpec.ofChange gaussSmallSpec)) gaussSmallCard

/-- THE TIED CARD OF 'careenlaw07.GaussChecks'. -/
def gaussChecksCard : Claim7 := { stood := { row := gaussChecksRow, standIns := [], harness := (true, "921a05739c4bd734f26a3112ba3a50456c6135e3510ebc715480e52dfb7bc730"), looks := false }, kinds := [], alts := [], laidByText := true, laidKinds := [.data, .wider], laidTests := true, laidLooks := .later }
def GaussChecksCardSaid : Prop := Claim7.holds Tryd.pinned (.plain (OpenSpec.ofChange gaussChecksSpec)) gaussChecksCard

/-- THE SECOND FORM's CARD OF 'careenlaw07.GaussSquares'. -/
def gaussSquaresUptoCard : Claim7 := { stood := { row := gaussSquaresUptoRow, standIns := [], harness := (true, "921a05739c4bd734f26a3112ba3a50456c6135e3510ebc715480e52dfb7bc730"), looks := false }, kinds := [], alts := [], laidByText := true, laidKinds := [.data, .wider], laidTests := true, laidLooks := .later }
def GaussSquaresUptoCardSaid : Prop := Claim7.holds Tryd.pinned (.plain (OpenSpec.upto gaussSquaresSpec)) gaussSquaresUptoCard

/-- THE SECOND FORM's CARD OF 'careenlaw07.GaussRoots'. -/
def gaussRootsUptoCard : Claim7 := { stood := { row := gaussRootsUptoRow, standIns := [], harness := (true, "921a05739c4bd734f26a3112ba3a50456c6135e3510ebc715480e52dfb7bc730"), looks := false }, kinds := [], alts := [], laidByText := true, laidKinds := [.data, .wider], laidTests := true, laidLooks := .later }
def GaussRootsUptoCardSaid : Prop := Claim7.holds Tryd.pinned (.plain (OpenSpec.upto gaussRootsSpec)) gaussRootsUptoCard

/-- THE SECOND FORM's CARD OF 'careenlaw07.GaussRests'. -/
def gaussRestsUptoCard : Claim7 := { stood := { row := gaussRestsUptoRow, standIns := [], harness := (true, "921a05739c4bd734f26a3112ba3a50456c6135e3510ebc715480e52dfb7bc730"), looks := false }, kinds := [], alts := [], laidByText := true, laidKinds := [.data, .wider], laidTests := true, laidLooks := .later }
def GaussRestsUptoCardSaid : Prop := Claim7.holds Tryd.pinned (.plain (OpenSpec.upto gaussRestsSpec)) gaussRestsUptoCard

/-- THE SECOND FORM's CARD OF 'careenlaw07.GaussNorms'. -/
def gaussNormsUptoCard : Claim7 := { stood := { row := gaussNormsUptoRow, standIns := [], harness := (true, "921a05739c4bd734f26a3112ba3a50456c6135e3510ebc715480e52dfb7bc730"), looks := false }, kinds := [], alts := [], laidByText := true, laidKinds := [.data, .wider], laidTests := true, laidLooks := .later }
def GaussNormsUptoCardSaid : Prop := Claim7.holds Tryd.pinned (.plain (OpenSpec.upto gaussNormsSpec)) gaussNormsUptoCard

/-- THE SECOND FORM's CARD OF 'careenlaw07.GaussParts'. -/
def gaussPartsUptoCard : Claim7 := { stood := { row := gaussPartsUptoRow, standIns := [], harness := (true, "921a05739c4bd734f26a3112ba3a50456c6135e3510ebc715480e52dfb7bc730"), looks := false }, kinds := [], alts := [], laidByText := true, laidKinds := [.data, .wider], laidTests := true, laidLooks := .later }
def GaussPartsUptoCardSaid : Prop := Claim7.holds Tryd.pinned (.plain (OpenSpec.upto gaussPartsSpec)) gaussPartsUptoCard

/-- THE SECOND FORM's CARD OF 'careenlaw07.GaussPowers'. -/
def gaussPowersUptoCard : Claim7 := { stood := { row := gaussPowersUptoRow, standIns := [], harness := (true, "921a05739c4bd734f26a3112ba3a50456c6135e3510ebc715480e52dfb7bc730"), looks := false }, kinds := [], alts := [], laidByText := true, laidKinds := [.data, .wider], laidTests := true, laidLooks := .later }
def GaussPowersUptoCardSaid : Prop := Claim7.holds Tryd.pinned (.plain (OpenSpec.upto gaussPowersSpec)) gaussPowersUptoCard

/-- THE SECOND FORM's CARD OF 'careenlaw07.GaussMuls'. -/
def gaussMulsUptoCard : Claim7 := { stood := { row := gaussMulsUptoRow, standIns := [], harness := (true, "921a05739c4bd734f26a3112ba3a50456c6135e3510ebc715480e52dfb7bc730"), looks := false }, kinds := [], alts := [], laidByText := true, laidKinds := [.data, .wider], laidTests := true, laidLooks := .later }
def GaussMulsUptoCardSaid : Prop := Claim7.holds Tryd.pinned (.plain (OpenSpec.upto gaussMulsSpec)) gaussMulsUptoCard

/-- THE SECOND FORM's CARD OF 'careenlaw07.GaussFactors'. -/
def gaussFactorsUptoCard : Claim7 := { stood := { row := gaussFactorsUptoRow, standIns := [], harness := (true, "921a05739c4bd734f26a3112ba3a50456c6135e3510ebc715480e52dfb7bc730"), looks := false }, kinds := [], alts := [], laidByText := true, laidKinds := [.data, .wider], laidTests := true, laidLooks := .later }
def GaussFactorsUptoCardSaid : Prop := Claim7.holds Tryd.pinned (.plain (OpenSpec.upto gaussFactorsSpec)) gaussFactorsUptoCard

/-- THE SECOND FORM's CARD OF 'careenlaw07.GaussFermat'. -/
def gaussFermatUptoCard : Claim7 := { stood := { row := gaussFermatUptoRow, standIns := [], harness := (true, "921a05739c4bd734f26a3112ba3a50456c6135e3510ebc715480e52dfb7bc730"), looks := false }, kinds := [], alts := [], laidByText := true, laidKinds := [.data, .wider], laidTests := true, laidLooks := .later }
def GaussFermatUptoCardSaid : Prop := Claim7.holds Tryd.pinned (.plain (OpenSpec.upto gaussFermatSpec)) gaussFermatUptoCard

/-- THE SECOND FORM's CARD OF 'careenlaw07.GaussGcds'. -/
def gaussGcdsUptoCard : Claim7 := { stood := { row := gaussGcdsUptoRow, standIns := [], harness := (true, "921a05739c4bd734f26a3112ba3a50456c6135e3510ebc715480e52dfb7bc730"), looks := false }, kinds := [], alts := [], laidByText := true, laidKinds := [.data, .wider], laidTests := true, laidLooks := .later }
def GaussGcdsUptoCardSaid : Prop := Claim7.holds Tryd.pinned (.plain (OpenSpec.upto gaussGcdsSpec)) gaussGcdsUptoCard

/-- THE SECOND FORM's CARD OF 'careenlaw07.GaussPrimes'. -/
def gaussPrimesUptoCard : Claim7 := { stood := { row := gaussPrimesUptoRow, standIns := [], harness := (true, "921a05739c4bd734f26a3112ba3a50456c6135e3510ebc715480e52dfb7bc730"), looks := false }, kinds := [], alts := [], laidByText := true, laidKinds := [.data, .wider], laidTests := true, laidLooks := .later }
def GaussPrimesUptoCardSaid : Prop := Claim7.holds Tryd.pinned (.plain (OpenSpec.upto gaussPrimesSpec)) gaussPrimesUptoCard

/-- THE SECOND FORM's CARD OF 'careenlaw07.GaussInverses'. -/
def gaussInversesUptoCard : Claim7 := { stood := { row := gaussInversesUptoRow, standIns := [], harness := (true, "921a05739c4bd734f26a3112ba3a50456c6135e3510ebc715480e52dfb7bc730"), looks := false }, kinds := [], alts := [], laidByText := true, laidKinds := [.data, .wider], laidTests := true, laidLooks := .later }
def GaussInversesUptoCardSaid : Prop := Claim7.holds Tryd.pinned (.plain (OpenSpec.upto gaussInversesSpec)) gaussInversesUptoCard

/-- THE SECOND FORM's CARD OF 'careenlaw07.GaussSmall'. -/
def gaussSmallUptoCard : Claim7 := { stood := { row := gaussSmallUptoRow, standIns := [], harness := (true, "921a05739c4bd734f26a3112ba3a50456c6135e3510ebc715480e52dfb7bc730"), looks := false }, kinds := [], alts := [], laidByText := true, laidKinds := [.data, .wider], laidTests := true, laidLooks := .later }
def GaussSmallUptoCardSaid : Prop := Claim7.holds Tryd.pinned (.plain (OpenSpec.upto gaussSmallSpec)) gaussSmallUptoCard

/-- THE SECOND FORM's CARD OF 'careenlaw07.GaussChecks'. -/
def gaussChecksUptoCard : Claim7 := { stood := { row := gaussChecksUptoRow, standIns := [], harness := (true, "921a05739c4bd734f26a3112ba3a50456c6135e3510ebc715480e52dfb7bc730"), looks := false }, kinds := [], alts := [], laidByText := true, laidKinds := [.data, .wider], laidTests := true, laidLooks := .later }
def GaussChecksUptoCardSaid : Prop := Claim7.holds Tryd.pinned (.plain (OpenSpec.upto gaussChecksSpec)) gaussChecksUptoCard
end Rows
end Go.Proofs.YtdmfhdnpakgkpaaDoor
