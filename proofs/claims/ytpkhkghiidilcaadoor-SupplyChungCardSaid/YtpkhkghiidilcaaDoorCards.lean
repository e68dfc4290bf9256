/-
  DERIVED. GIVEN WITH THE SEED: THE CARDS: each row of YtpkhkghiidilcaaDoorRows.lean that lists a variable, with what it lists TIED to the program's text (the seventh form; the later family's looks); each row that meets fmt, with fmt's text TOLD by the authors' own Lean function (tested against real Go, not proved from fmt's source: count such statements apart). THE CARD IS WHAT COUNTS. Prove the row's statement (the work); the ties are given (YtpkhkghiidilcaaDoorTie.lean); close each card by the builder's one call (the guide's Derived/Test/ToyasCard.lean, 'card_holds'). Laid BY PROGRAM, IN A SANDBOX (cutbox-door.mjs). By AI agents, Wed Nov 11 2026. No macro, syntax, notation, axiom, sorry.
-/
import Derived.Test.YtpkhkghiidilcaaDoorRows
import GoSem.ClaimSeven
namespace Go.Proofs.YtpkhkghiidilcaaDoor
namespace Rows

/-- THE TIED CARD OF 'careenlaw08.SupplyMost'. -/
def supplyMostCard : Claim7 := { stood := { row := supplyMostRow, standIns := [], harness := (true, "b44d6207b68cf50ea5251933845a1e719e8c19928c93efdb5cc2c2facb7a325e"), looks := false }, kinds := [], alts := [], laidByText := true, laidKinds := [.data], laidTests := true, laidLooks := .later }
def SupplyMostCardSaid : Prop := Claim7.holds Tryd.pinned (.plain (OpenSpec.ofChange supplyMostSpec)) supplyMostCard

/-- THE TIED CARD OF 'careenlaw08.SupplyParts'. -/
def supplyPartsCard : Claim7 := { stood := { row := supplyPartsRow, standIns := [], harness := (true, "b44d6207b68cf50ea5251933845a1e719e8c19928c93efdb5cc2c2facb7a325e"), looks := false }, kinds := [], alts := [], laidByText := true, laidKinds := [.data], laidTests := true, laidLooks := .later }
def SupplyPartsCardSaid : Prop := Claim7.holds Tryd.pinned (.plain (OpenSpec.ofChange supplyPartsSpec)) supplyPartsCard

/-- THE TIED CARD OF 'careenlaw08.SupplyChung'. -/
def supplyChungCard : Claim7 := { stood := { row := supplyChungRow, standIns := [], harness := (true, "b44d6207b68cf50ea5251933845a1e719e8c19928c93efdb5cc2c2facb7a325e"), looks := false }, kinds := [], alts := [], laidByText := true, laidKinds := [.data], laidTests := true, laidLooks := .later }
def SupplyChungCardSaid : Prop := Claim7.holds Tryd.pinned (.plain (OpenSpec.ofChange supplyChungSpec)) supplyChungCard

/-- THE TIED CARD OF 'careenlaw08.SupplyWeighs'. -/
def supplyWeighsCard : Claim7 := { stood := { row := supplyWeighsRow, standIns := [], harness := (true, "b44d6207b68cf50ea5251933845a1e719e8c19928c93efdb5cc2c2facb7a325e"), looks := false }, kinds := [], alts := [], laidByText := true, laidKinds := [.data], laidTests := true, laidLooks := .later }
def SupplyWeighsCardSaid : Prop := Claim7.holds Tryd.pinned (.plain (OpenSpec.ofChange supplyWeighsSpec)) supplyWeighsCard

/-- THE TIED CARD OF 'careenlaw08.SupplyPlans'. -/
def supplyPlansCard : Claim7 := { stood := { row := supplyPlansRow, standIns := [], harness := (true, "b44d6207b68cf50ea5251933845a1e719e8c19928c93efdb5cc2c2facb7a325e"), looks := false }, kinds := [], alts := [], laidByText := true, laidKinds := [.data], laidTests := true, laidLooks := .later }
def SupplyPlansCardSaid : Prop := Claim7.holds Tryd.pinned (.plain (OpenSpec.ofChange supplyPlansSpec)) supplyPlansCard

/-- THE TIED CARD OF 'careenlaw08.SupplyNumbers'. -/
def supplyNumbersCard : Claim7 := { stood := { row := supplyNumbersRow, standIns := [], harness := (true, "b44d6207b68cf50ea5251933845a1e719e8c19928c93efdb5cc2c2facb7a325e"), looks := false }, kinds := [], alts := [], laidByText := true, laidKinds := [.data], laidTests := true, laidLooks := .later }
def SupplyNumbersCardSaid : Prop := Claim7.holds Tryd.pinned (.plain (OpenSpec.ofChange supplyNumbersSpec)) supplyNumbersCard

/-- THE TIED CARD OF 'careenlaw08.SupplyCovers'. -/
def supplyCoversCard : Claim7 := { stood := { row := supplyCoversRow, standIns := [], harness := (true, "b44d6207b68cf50ea5251933845a1e719e8c19928c93efdb5cc2c2facb7a325e"), looks := false }, kinds := [], alts := [], laidByText := true, laidKinds := [.data], laidTests := true, laidLooks := .later }
def SupplyCoversCardSaid : Prop := Claim7.holds Tryd.pinned (.plain (OpenSpec.ofChange supplyCoversSpec)) supplyCoversCard

/-- THE TIED CARD OF 'careenlaw08.SupplyMoves'. -/
def supplyMovesCard : Claim7 := { stood := { row := supplyMovesRow, standIns := [], harness := (true, "b44d6207b68cf50ea5251933845a1e719e8c19928c93efdb5cc2c2facb7a325e"), looks := false }, kinds := [], alts := [], laidByText := true, laidKinds := [.data], laidTests := true, laidLooks := .later }
def SupplyMovesCardSaid : Prop := Claim7.holds Tryd.pinned (.plain (OpenSpec.ofChange supplyMovesSpec)) supplyMovesCard

/-- THE TIED CARD OF 'careenlaw08.SupplyFalls'. -/
def supplyFallsCard : Claim7 := { stood := { row := supplyFallsRow, standIns := [], harness := (true, "b44d6207b68cf50ea5251933845a1e719e8c19928c93efdb5cc2c2facb7a325e"), looks := false }, kinds := [], alts := [], laidByText := true, laidKinds := [.data], laidTests := true, laidLooks := .later }
def SupplyFallsCardSaid : Prop := Claim7.holds Tryd.pinned (.plain (OpenSpec.ofChange supplyFallsSpec)) supplyFallsCard

/-- THE TIED CARD OF 'careenlaw08.SupplyOwn'. -/
def supplyOwnCard : Claim7 := { stood := { row := supplyOwnRow, standIns := [], harness := (true, "b44d6207b68cf50ea5251933845a1e719e8c19928c93efdb5cc2c2facb7a325e"), looks := false }, kinds := [], alts := [], laidByText := true, laidKinds := [.data], laidTests := true, laidLooks := .later }
def SupplyOwnCardSaid : Prop := Claim7.holds Tryd.pinned (.plain (OpenSpec.ofChange supplyOwnSpec)) supplyOwnCard

/-- THE TIED CARD OF 'careenlaw08.SupplySjostrand'. -/
def supplySjostrandCard : Claim7 := { stood := { row := supplySjostrandRow, standIns := [], harness := (true, "b44d6207b68cf50ea5251933845a1e719e8c19928c93efdb5cc2c2facb7a325e"), looks := false }, kinds := [], alts := [], laidByText := true, laidKinds := [.data], laidTests := true, laidLooks := .later }
def SupplySjostrandCardSaid : Prop := Claim7.holds Tryd.pinned (.plain (OpenSpec.ofChange supplySjostrandSpec)) supplySjostrandCard

/-- THE TIED CARD OF 'careenlaw08.SupplyChecks'. -/
def supplyChecksCard : Claim7 := { stood := { row := supplyChecksRow, standIns := [], harness := (true, "b44d6207b68cf50ea5251933845a1e719e8c19928c93efdb5cc2c2facb7a325e"), looks := false }, kinds := [], alts := [], laidByText := true, laidKinds := [.data], laidTests := true, laidLooks := .later }
def SupplyChecksCardSaid : Prop := Claim7.holds Tryd.pinned (.plain (OpenSpec.ofChange supplyChecksSpec)) supplyChecksCard

/-- THE SECOND FORM's CARD OF 'careenlaw08.SupplyMost'. -/
def supplyMostUptoCard : Claim7 := { stood := { row := supplyMostUptoRow, standIns := [], harness := (true, "b44d6207b68cf50ea5251933845a1e719e8c19928c93efdb5cc2c2facb7a325e"), looks := false }, kinds := [], alts := [], laidByText := true, laidKinds := [.data], laidTests := true, laidLooks := .later }
def SupplyMostUptoCardSaid : Prop := Claim7.holds Tryd.pinned (.plain (OpenSpec.upto supplyMostSpec)) supplyMostUptoCard

/-- THE SECOND FORM's CARD OF 'careenlaw08.SupplyParts'. -/
def supplyPartsUptoCard : Claim7 := { stood := { row := supplyPartsUptoRow, standIns := [], harness := (true, "b44d6207b68cf50ea5251933845a1e719e8c19928c93efdb5cc2c2facb7a325e"), looks := false }, kinds := [], alts := [], laidByText := true, laidKinds := [.data], laidTests := true, laidLooks := .later }
def SupplyPartsUptoCardSaid : Prop := Claim7.holds Tryd.pinned (.plain (OpenSpec.upto supplyPartsSpec)) supplyPartsUptoCard

/-- THE SECOND FORM's CARD OF 'careenlaw08.SupplyChung'. -/
def supplyChungUptoCard : Claim7 := { stood := { row := supplyChungUptoRow, standIns := [], harness := (true, "b44d6207b68cf50ea5251933845a1e719e8c19928c93efdb5cc2c2facb7a325e"), looks := false }, kinds := [], alts := [], laidByText := true, laidKinds := [.data], laidTests := true, laidLooks := .later }
def SupplyChungUptoCardSaid : Prop := Claim7.holds Tryd.pinned (.plain (OpenSpec.upto supplyChungSpec)) supplyChungUptoCard

/-- THE SECOND FORM's CARD OF 'careenlaw08.SupplyWeighs'. -/
def supplyWeighsUptoCard : Claim7 := { stood := { row := supplyWeighsUptoRow, standIns := [], harness := (true, "b44d6207b68cf50ea5251933845a1e719e8c19928c93efdb5cc2c2facb7a325e"), looks := false }, kinds := [], alts := [], laidByText := true, laidKinds := [.data], laidTests := true, laidLooks := .later }
def SupplyWeighsUptoCardSaid : Prop := Claim7.holds Tryd.pinned (.plain (OpenSpec.upto supplyWeighsSpec)) supplyWeighsUptoCard

/-- THE SECOND FORM's CARD OF 'careenlaw08.SupplyPlans'. -/
def supplyPlansUptoCard : Claim7 := { stood := { row := supplyPlansUptoRow, standIns := [], harness := (true, "b44d6207b68cf50ea5251933845a1e719e8c19928c93efdb5cc2c2facb7a325e"), looks := false }, kinds := [], alts := [], laidByText := true, laidKinds := [.data], laidTests := true, laidLooks := .later }
def SupplyPlansUptoCardSaid : Prop := Claim7.holds Tryd.pinned (.plain (OpenSpec.upto supplyPlansSpec)) supplyPlansUptoCard

/-- THE SECOND FORM's CARD OF 'careenlaw08.SupplyNumbers'. -/
def supplyNumbersUptoCard : Claim7 := { stood := { row := supplyNumbersUptoRow, standIns := [], harness := (true, "b44d6207b68cf50ea5251933845a1e719e8c19928c93efdb5cc2c2facb7a325e"), looks := false }, kinds := [], alts := [], laidByText := true, laidKinds := [.data], laidTests := true, laidLooks := .later }
def SupplyNumbersUptoCardSaid : Prop := Claim7.holds Tryd.pinned (.plain (OpenSpec.upto supplyNumbersSpec)) supplyNumbersUptoCard

/-- THE SECOND FORM's CARD OF 'careenlaw08.SupplyCovers'. -/
def supplyCoversUptoCard : Claim7 := { stood := { row := supplyCoversUptoRow, standIns := [], harness := (true, "b44d6207b68cf50ea5251933845a1e719e8c19928c93efdb5cc2c2facb7a325e"), looks := false }, kinds := [], alts := [], laidByText := true, laidKinds := [.data], laidTests := true, laidLooks := .later }
def SupplyCoversUptoCardSaid : Prop := Claim7.holds Tryd.pinned (.plain (OpenSpec.upto supplyCoversSpec)) supplyCoversUptoCard

/-- THE SECOND FORM's CARD OF 'careenlaw08.SupplyMoves'. -/
def supplyMovesUptoCard : Claim7 := { stood := { row := supplyMovesUptoRow, standIns := [], harness := (true, "b44d6207b68cf50ea5251933845a1e719e8c19928c93efdb5cc2c2facb7a325e"), looks := false }, kinds := [], alts := [], laidByText := true, laidKinds := [.data], laidTests := true, laidLooks := .later }
def SupplyMovesUptoCardSaid : Prop := Claim7.holds Tryd.pinned (.plain (OpenSpec.upto supplyMovesSpec)) supplyMovesUptoCard

/-- THE SECOND FORM's CARD OF 'careenlaw08.SupplyFalls'. -/
def supplyFallsUptoCard : Claim7 := { stood := { row := supplyFallsUptoRow, standIns := [], harness := (true, "b44d6207b68cf50ea5251933845a1e719e8c19928c93efdb5cc2c2facb7a325e"), looks := false }, kinds := [], alts := [], laidByText := true, laidKinds := [.data], laidTests := true, laidLooks := .later }
def SupplyFallsUptoCardSaid : Prop := Claim7.holds Tryd.pinned (.plain (OpenSpec.upto supplyFallsSpec)) supplyFallsUptoCard

/-- THE SECOND FORM's CARD OF 'careenlaw08.SupplyOwn'. -/
def supplyOwnUptoCard : Claim7 := { stood := { row := supplyOwnUptoRow, standIns := [], harness := (true, "b44d6207b68cf50ea5251933845a1e719e8c19928c93efdb5cc2c2facb7a325e"), looks := false }, kinds := [], alts := [], laidByText := true, laidKinds := [.data], laidTests := true, laidLooks := .later }
def SupplyOwnUptoCardSaid : Prop := Claim7.holds Tryd.pinned (.plain (OpenSpec.upto supplyOwnSpec)) supplyOwnUptoCard

/-- THE SECOND FORM's CARD OF 'careenlaw08.SupplySjostrand'. -/
def supplySjostrandUptoCard : Claim7 := { stood := { row := supplySjostrandUptoRow, standIns := [], harness := (true, "b44d6207b68cf50ea5251933845a1e719e8c19928c93efdb5cc2c2facb7a325e"), looks := false }, kinds := [], alts := [], laidByText := true, laidKinds := [.data], laidTests := true, laidLooks := .later }
def SupplySjostrandUptoCardSaid : Prop := Claim7.holds Tryd.pinned (.plain (OpenSpec.upto supplySjostrandSpec)) supplySjostrandUptoCard

/-- THE SECOND FORM's CARD OF 'careenlaw08.SupplyChecks'. -/
def supplyChecksUptoCard : Claim7 := { stood := { row := supplyChecksUptoRow, standIns := [], harness := (true, "b44d6207b68cf50ea5251933845a1e719e8c19928c93efdb5cc2c2facb7a325e"), looks := false }, kinds := [], alts := [], laidByText := true, laidKinds := [.data], laidTests := true, laidLooks := .later }
def SupplyChecksUptoCardSaid : Prop := Claim7.holds Tryd.pinned (.plain (OpenSpec.upto supplyChecksSpec)) supplyChecksUptoCard
end Rows
end Go.Proofs.YtpkhkghiidilcaaDoor
