/-
  NARROWER THAN 'FOR EVERY INPUT', by the rows' own cells (each row's printed sentence says how): SupplyMost: laid · SupplyParts: laid · SupplyChung: laid · SupplyWeighs: laid · SupplyPlans: laid · SupplyNumbers: laid · SupplyCovers: laid · SupplyMoves: laid · SupplyFalls: laid · SupplyOwn: laid · SupplySjostrand: laid · SupplyChecks: laid.
  DERIVED. THE GIVEN ROWS OF THIS SEAT. 12 by the template 'for every input the law returns true; each argument reads behind the call as it read before'; 0 by the template 'total and deterministic' (their statements: YtpkhkghiidilcaaDoorTotals.lean).
  GIVEN WITH THE SEED: the statements are not yours to turn. If you find one false, say at which input.
  Laid BY PROGRAM, IN A SANDBOX (cutbox-rows.mjs): the forced cells as the released guide's own fill.sh prints them over the translation 94227f5c6ee7f9ac… (all of the seat's roots in one cut). By AI agents, Wed Nov 11 2026. No macro, syntax, notation, axiom, sorry.
-/
import Derived.Test.YtpkhkghiidilcaaDoorChecked
import GoSem.Claim
import GoSem.ClaimJoined
import GoSem.ClaimMapViews
import Derived.JoinedTies
import Derived.KernelRfl
namespace Go.Proofs.YtpkhkghiidilcaaDoor
/- THE CELL 'sum', in the pinned program and in every row, IS THE sha256 OF THE DUMP (.gsa) THAT YtpkhkghiidilcaaDoorProg.lean LOADS. Nothing in Lean hashes anything: it is a label: what it is worth is what the hold of that sum in a sandbox is worth. -/
noncomputable def Tryd.pinned : Pinned := { name := "ytpkhkghiidilcaadoor", sum := "94227f5c6ee7f9acf7289fc5271bf0915877ca22e62c0ad4cafdff76b8c9fd72", checked := Tryd.checked }
namespace Rows
def none {H : Type} : Left H := { results := [], args := [] }

/- WHAT THE LISTED PACKAGE-LEVEL VARIABLES READ AS WHEN THE CALL BEGINS. Each datum BY PROGRAM (the guide's laid-datum.mjs) off the statement by which the dump's own 'gosem.cut.vars' lays the variable. In a bare row this is a premise. The card (YtpkhkghiidilcaaDoorCards.lean) ties it to the program's text. -/
def laid_careen_supply_none {H : Type} : DataW H := .agg [.lit (.int .i64 0), .lit (.int .i64 0)]

/-- 'careenlaw08.SupplyMost': WHATEVER THE INPUT: true; the input reads as it did. -/
def supplyMostSpec : ChangeSpec := { name := "supplyMost", fn := fun _ => fun
  | [d1, d2, d3] => { results := [.lit (.bool true)], args := [d1, d2, d3] }
  | _ => none }
def supplyMostRow : OpenClaim := { program := "ytpkhkghiidilcaadoor", sum := "94227f5c6ee7f9acf7289fc5271bf0915877ca22e62c0ad4cafdff76b8c9fd72", func := "careen/careenlaw08.SupplyMost", spec := "supplyMost", unfollowed := true, recurses := true, named := ["careen/supply.none"], plainKeys := false, apart := false, laid := [("careen/supply.none", laid_careen_supply_none)] }
def SupplyMostSaid : Prop := supplyMostRow.holds Tryd.pinned (OpenSpec.ofChange supplyMostSpec)

/-- ITS FALSE NEIGHBOUR: 'it returns false'. Refute it at one input. -/
def supplyMostWrong : ChangeSpec := { name := "supplyMost", fn := fun _ => fun
  | [d1, d2, d3] => { results := [.lit (.bool false)], args := [d1, d2, d3] }
  | _ => none }
def SupplyMostWrongFalsely : Prop := supplyMostRow.holds Tryd.pinned (OpenSpec.ofChange supplyMostWrong)

/-- 'careenlaw08.SupplyParts': WHATEVER THE INPUT: true; the input reads as it did. -/
def supplyPartsSpec : ChangeSpec := { name := "supplyParts", fn := fun _ => fun
  | [d1, d2, d3] => { results := [.lit (.bool true)], args := [d1, d2, d3] }
  | _ => none }
def supplyPartsRow : OpenClaim := { program := "ytpkhkghiidilcaadoor", sum := "94227f5c6ee7f9acf7289fc5271bf0915877ca22e62c0ad4cafdff76b8c9fd72", func := "careen/careenlaw08.SupplyParts", spec := "supplyParts", unfollowed := true, recurses := true, named := ["careen/supply.none"], plainKeys := false, apart := false, laid := [("careen/supply.none", laid_careen_supply_none)] }
def SupplyPartsSaid : Prop := supplyPartsRow.holds Tryd.pinned (OpenSpec.ofChange supplyPartsSpec)

/-- ITS FALSE NEIGHBOUR: 'it returns false'. Refute it at one input. -/
def supplyPartsWrong : ChangeSpec := { name := "supplyParts", fn := fun _ => fun
  | [d1, d2, d3] => { results := [.lit (.bool false)], args := [d1, d2, d3] }
  | _ => none }
def SupplyPartsWrongFalsely : Prop := supplyPartsRow.holds Tryd.pinned (OpenSpec.ofChange supplyPartsWrong)

/-- 'careenlaw08.SupplyChung': WHATEVER THE INPUT: true; the input reads as it did. -/
def supplyChungSpec : ChangeSpec := { name := "supplyChung", fn := fun _ => fun
  | [d1, d2] => { results := [.lit (.bool true)], args := [d1, d2] }
  | _ => none }
def supplyChungRow : OpenClaim := { program := "ytpkhkghiidilcaadoor", sum := "94227f5c6ee7f9acf7289fc5271bf0915877ca22e62c0ad4cafdff76b8c9fd72", func := "careen/careenlaw08.SupplyChung", spec := "supplyChung", unfollowed := true, recurses := true, named := ["careen/supply.none"], plainKeys := false, apart := false, laid := [("careen/supply.none", laid_careen_supply_none)] }
def SupplyChungSaid : Prop := supplyChungRow.holds Tryd.pinned (OpenSpec.ofChange supplyChungSpec)

/-- ITS FALSE NEIGHBOUR: 'it returns false'. Refute it at one input. -/
def supplyChungWrong : ChangeSpec := { name := "supplyChung", fn := fun _ => fun
  | [d1, d2] => { results := [.lit (.bool false)], args := [d1, d2] }
  | _ => none }
def SupplyChungWrongFalsely : Prop := supplyChungRow.holds Tryd.pinned (OpenSpec.ofChange supplyChungWrong)

/-- 'careenlaw08.SupplyWeighs': WHATEVER THE INPUT: true; the input reads as it did. -/
def supplyWeighsSpec : ChangeSpec := { name := "supplyWeighs", fn := fun _ => fun
  | [d1, d2, d3] => { results := [.lit (.bool true)], args := [d1, d2, d3] }
  | _ => none }
def supplyWeighsRow : OpenClaim := { program := "ytpkhkghiidilcaadoor", sum := "94227f5c6ee7f9acf7289fc5271bf0915877ca22e62c0ad4cafdff76b8c9fd72", func := "careen/careenlaw08.SupplyWeighs", spec := "supplyWeighs", unfollowed := true, recurses := true, named := ["careen/supply.none"], plainKeys := false, apart := false, laid := [("careen/supply.none", laid_careen_supply_none)] }
def SupplyWeighsSaid : Prop := supplyWeighsRow.holds Tryd.pinned (OpenSpec.ofChange supplyWeighsSpec)

/-- ITS FALSE NEIGHBOUR: 'it returns false'. Refute it at one input. -/
def supplyWeighsWrong : ChangeSpec := { name := "supplyWeighs", fn := fun _ => fun
  | [d1, d2, d3] => { results := [.lit (.bool false)], args := [d1, d2, d3] }
  | _ => none }
def SupplyWeighsWrongFalsely : Prop := supplyWeighsRow.holds Tryd.pinned (OpenSpec.ofChange supplyWeighsWrong)

/-- 'careenlaw08.SupplyPlans': WHATEVER THE INPUT: true; the input reads as it did. -/
def supplyPlansSpec : ChangeSpec := { name := "supplyPlans", fn := fun _ => fun
  | [d1, d2] => { results := [.lit (.bool true)], args := [d1, d2] }
  | _ => none }
def supplyPlansRow : OpenClaim := { program := "ytpkhkghiidilcaadoor", sum := "94227f5c6ee7f9acf7289fc5271bf0915877ca22e62c0ad4cafdff76b8c9fd72", func := "careen/careenlaw08.SupplyPlans", spec := "supplyPlans", unfollowed := true, recurses := true, named := ["careen/supply.none"], plainKeys := false, apart := false, laid := [("careen/supply.none", laid_careen_supply_none)] }
def SupplyPlansSaid : Prop := supplyPlansRow.holds Tryd.pinned (OpenSpec.ofChange supplyPlansSpec)

/-- ITS FALSE NEIGHBOUR: 'it returns false'. Refute it at one input. -/
def supplyPlansWrong : ChangeSpec := { name := "supplyPlans", fn := fun _ => fun
  | [d1, d2] => { results := [.lit (.bool false)], args := [d1, d2] }
  | _ => none }
def SupplyPlansWrongFalsely : Prop := supplyPlansRow.holds Tryd.pinned (OpenSpec.ofChange supplyPlansWrong)

/-- 'careenlaw08.SupplyNumbers': WHATEVER THE INPUT: true; the input reads as it did. -/
def supplyNumbersSpec : ChangeSpec := { name := "supplyNumbers", fn := fun _ => fun
  | [d1, d2] => { results := [.lit (.bool true)], args := [d1, d2] }
  | _ => none }
def supplyNumbersRow : OpenClaim := { program := "ytpkhkghiidilcaadoor", sum := "94227f5c6ee7f9acf7289fc5271bf0915877ca22e62c0ad4cafdff76b8c9fd72", func := "careen/careenlaw08.SupplyNumbers", spec := "supplyNumbers", unfollowed := true, recurses := true, named := ["careen/supply.none"], plainKeys := false, apart := false, laid := [("careen/supply.none", laid_careen_supply_none)] }
def SupplyNumbersSaid : Prop := supplyNumbersRow.holds Tryd.pinned (OpenSpec.ofChange supplyNumbersSpec)

/-- ITS FALSE NEIGHBOUR: 'it returns false'. Refute it at one input. -/
def supplyNumbersWrong : ChangeSpec := { name := "supplyNumbers", fn := fun _ => fun
  | [d1, d2] => { results := [.lit (.bool false)], args := [d1, d2] }
  | _ => none }
def SupplyNumbersWrongFalsely : Prop := supplyNumbersRow.holds Tryd.pinned (OpenSpec.ofChange supplyNumbersWrong)

/-- 'careenlaw08.SupplyCovers': WHATEVER THE INPUT: true; the input reads as it did. -/
def supplyCoversSpec : ChangeSpec := { name := "supplyCovers", fn := fun _ => fun
  | [d1, d2] => { results := [.lit (.bool true)], args := [d1, d2] }
  | _ => none }
def supplyCoversRow : OpenClaim := { program := "ytpkhkghiidilcaadoor", sum := "94227f5c6ee7f9acf7289fc5271bf0915877ca22e62c0ad4cafdff76b8c9fd72", func := "careen/careenlaw08.SupplyCovers", spec := "supplyCovers", unfollowed := true, recurses := true, named := ["careen/supply.none"], plainKeys := false, apart := false, laid := [("careen/supply.none", laid_careen_supply_none)] }
def SupplyCoversSaid : Prop := supplyCoversRow.holds Tryd.pinned (OpenSpec.ofChange supplyCoversSpec)

/-- ITS FALSE NEIGHBOUR: 'it returns false'. Refute it at one input. -/
def supplyCoversWrong : ChangeSpec := { name := "supplyCovers", fn := fun _ => fun
  | [d1, d2] => { results := [.lit (.bool false)], args := [d1, d2] }
  | _ => none }
def SupplyCoversWrongFalsely : Prop := supplyCoversRow.holds Tryd.pinned (OpenSpec.ofChange supplyCoversWrong)

/-- 'careenlaw08.SupplyMoves': WHATEVER THE INPUT: true; the input reads as it did. -/
def supplyMovesSpec : ChangeSpec := { name := "supplyMoves", fn := fun _ => fun
  | [d1, d2, d3] => { results := [.lit (.bool true)], args := [d1, d2, d3] }
  | _ => none }
def supplyMovesRow : OpenClaim := { program := "ytpkhkghiidilcaadoor", sum := "94227f5c6ee7f9acf7289fc5271bf0915877ca22e62c0ad4cafdff76b8c9fd72", func := "careen/careenlaw08.SupplyMoves", spec := "supplyMoves", unfollowed := true, recurses := true, named := ["careen/supply.none"], plainKeys := false, apart := false, laid := [("careen/supply.none", laid_careen_supply_none)] }
def SupplyMovesSaid : Prop := supplyMovesRow.holds Tryd.pinned (OpenSpec.ofChange supplyMovesSpec)

/-- ITS FALSE NEIGHBOUR: 'it returns false'. Refute it at one input. -/
def supplyMovesWrong : ChangeSpec := { name := "supplyMoves", fn := fun _ => fun
  | [d1, d2, d3] => { results := [.lit (.bool false)], args := [d1, d2, d3] }
  | _ => none }
def SupplyMovesWrongFalsely : Prop := supplyMovesRow.holds Tryd.pinned (OpenSpec.ofChange supplyMovesWrong)

/-- 'careenlaw08.SupplyFalls': WHATEVER THE INPUT: true; the input reads as it did. -/
def supplyFallsSpec : ChangeSpec := { name := "supplyFalls", fn := fun _ => fun
  | [d1, d2] => { results := [.lit (.bool true)], args := [d1, d2] }
  | _ => none }
def supplyFallsRow : OpenClaim := { program := "ytpkhkghiidilcaadoor", sum := "94227f5c6ee7f9acf7289fc5271bf0915877ca22e62c0ad4cafdff76b8c9fd72", func := "careen/careenlaw08.SupplyFalls", spec := "supplyFalls", unfollowed := true, recurses := true, named := ["careen/supply.none"], plainKeys := false, apart := false, laid := [("careen/supply.none", laid_careen_supply_none)] }
def SupplyFallsSaid : Prop := supplyFallsRow.holds Tryd.pinned (OpenSpec.ofChange supplyFallsSpec)

/-- ITS FALSE NEIGHBOUR: 'it returns false'. Refute it at one input. -/
def supplyFallsWrong : ChangeSpec := { name := "supplyFalls", fn := fun _ => fun
  | [d1, d2] => { results := [.lit (.bool false)], args := [d1, d2] }
  | _ => none }
def SupplyFallsWrongFalsely : Prop := supplyFallsRow.holds Tryd.pinned (OpenSpec.ofChange supplyFallsWrong)

/-- 'careenlaw08.SupplyOwn': WHATEVER THE INPUT: true; the input reads as it did. -/
def supplyOwnSpec : ChangeSpec := { name := "supplyOwn", fn := fun _ => fun
  | [d1, d2, d3] => { results := [.lit (.bool true)], args := [d1, d2, d3] }
  | _ => none }
def supplyOwnRow : OpenClaim := { program := "ytpkhkghiidilcaadoor", sum := "94227f5c6ee7f9acf7289fc5271bf0915877ca22e62c0ad4cafdff76b8c9fd72", func := "careen/careenlaw08.SupplyOwn", spec := "supplyOwn", unfollowed := true, recurses := true, named := ["careen/supply.none"], plainKeys := false, apart := false, laid := [("careen/supply.none", laid_careen_supply_none)] }
def SupplyOwnSaid : Prop := supplyOwnRow.holds Tryd.pinned (OpenSpec.ofChange supplyOwnSpec)

/-- ITS FALSE NEIGHBOUR: 'it returns false'. Refute it at one input. -/
def supplyOwnWrong : ChangeSpec := { name := "supplyOwn", fn := fun _ => fun
  | [d1, d2, d3] => { results := [.lit (.bool false)], args := [d1, d2, d3] }
  | _ => none }
def SupplyOwnWrongFalsely : Prop := supplyOwnRow.holds Tryd.pinned (OpenSpec.ofChange supplyOwnWrong)

/-- 'careenlaw08.SupplySjostrand': WHATEVER THE INPUT: true; the input reads as it did. -/
def supplySjostrandSpec : ChangeSpec := { name := "supplySjostrand", fn := fun _ => fun
  | [d] => { results := [.lit (.bool true)], args := [d] }
  | _ => none }
def supplySjostrandRow : OpenClaim := { program := "ytpkhkghiidilcaadoor", sum := "94227f5c6ee7f9acf7289fc5271bf0915877ca22e62c0ad4cafdff76b8c9fd72", func := "careen/careenlaw08.SupplySjostrand", spec := "supplySjostrand", unfollowed := true, recurses := true, named := ["careen/supply.none"], plainKeys := false, apart := false, laid := [("careen/supply.none", laid_careen_supply_none)] }
def SupplySjostrandSaid : Prop := supplySjostrandRow.holds Tryd.pinned (OpenSpec.ofChange supplySjostrandSpec)

/-- ITS FALSE NEIGHBOUR: 'it returns false'. Refute it at one input. -/
def supplySjostrandWrong : ChangeSpec := { name := "supplySjostrand", fn := fun _ => fun
  | [d] => { results := [.lit (.bool false)], args := [d] }
  | _ => none }
def SupplySjostrandWrongFalsely : Prop := supplySjostrandRow.holds Tryd.pinned (OpenSpec.ofChange supplySjostrandWrong)

/-- 'careenlaw08.SupplyChecks': WHATEVER THE INPUT: true; the input reads as it did. -/
def supplyChecksSpec : ChangeSpec := { name := "supplyChecks", fn := fun _ => fun
  | [d1, d2, d3] => { results := [.lit (.bool true)], args := [d1, d2, d3] }
  | _ => none }
def supplyChecksRow : OpenClaim := { program := "ytpkhkghiidilcaadoor", sum := "94227f5c6ee7f9acf7289fc5271bf0915877ca22e62c0ad4cafdff76b8c9fd72", func := "careen/careenlaw08.SupplyChecks", spec := "supplyChecks", unfollowed := true, recurses := true, named := ["careen/supply.none"], plainKeys := false, apart := false, laid := [("careen/supply.none", laid_careen_supply_none)] }
def SupplyChecksSaid : Prop := supplyChecksRow.holds Tryd.pinned (OpenSpec.ofChange supplyChecksSpec)

/-- ITS FALSE NEIGHBOUR: 'it returns false'. Refute it at one input. -/
def supplyChecksWrong : ChangeSpec := { name := "supplyChecks", fn := fun _ => fun
  | [d1, d2, d3] => { results := [.lit (.bool false)], args := [d1, d2, d3] }
  | _ => none }
def SupplyChecksWrongFalsely : Prop := supplyChecksRow.holds Tryd.pinned (OpenSpec.ofChange supplyChecksWrong)

/- THE SECOND FORM. 'bulk': how many values and letters a reading holds, each counted each time it is reached (what is shared counts as often as it is met; a slice's spare places count too). A statement '..UptoSaid' is the law's where the arguments, and the package variables that the reading takes, are together of bulk at most 1048576: NARROWER than '..Said'. Prove '..Said' where nothing that the law and all that it calls make is longer than what came in: it says more and counts as full. Else prove '..UptoSaid'. A law counts once. -/
mutual
def uptoBulk {H : Type} : DataW H → Nat
  | .lit (.string bytes) => bytes.length + 1
  | .lit _ => 1
  | .nil => 1
  | .ptr d => uptoBulk d + 1
  | .slice elems spare => uptoBulkAll elems + uptoBulkAll spare + 1
  | .agg parts => uptoBulkAll parts + 1
  | .iface _ d => uptoBulk d + 1
  | .map entries => uptoBulkEntries entries + 1
  | .held _ => 1
def uptoBulkAll {H : Type} : List (DataW H) → Nat
  | [] => 0
  | d :: r => uptoBulk d + uptoBulkAll r
def uptoBulkEntries {H : Type} : List (Lit × DataW H) → Nat
  | [] => 0
  | x :: r => uptoBulkEntry x + uptoBulkEntries r
def uptoBulkEntry {H : Type} : Lit × DataW H → Nat
  | (.string bytes, d) => bytes.length + uptoBulk d + 1
  | (_, d) => uptoBulk d + 1
 end
def uptoSmall : (H : Type) → List (DataW H) → Bool := fun _ ds => decide (uptoBulkAll ds ≤ 1048576)
def OpenSpec.upto (s : _root_.Go.ChangeSpec) : _root_.Go.OpenSpec := { _root_.Go.OpenSpec.ofChange s with cond := some uptoSmall }

/-- 'careenlaw08.SupplyMost', WHERE WHAT IT READS IS OF BULK AT MOST 1048576: true; the input reads as it did. -/
def supplyMostUptoRow : OpenClaim := { program := "ytpkhkghiidilcaadoor", sum := "94227f5c6ee7f9acf7289fc5271bf0915877ca22e62c0ad4cafdff76b8c9fd72", func := "careen/careenlaw08.SupplyMost", spec := "supplyMost", unfollowed := true, recurses := true, named := ["careen/supply.none"], plainKeys := false, apart := false, laid := [("careen/supply.none", laid_careen_supply_none)], narrowed := true }
def SupplyMostUptoSaid : Prop := supplyMostUptoRow.holds Tryd.pinned (OpenSpec.upto supplyMostSpec)

/-- 'careenlaw08.SupplyParts', WHERE WHAT IT READS IS OF BULK AT MOST 1048576: true; the input reads as it did. -/
def supplyPartsUptoRow : OpenClaim := { program := "ytpkhkghiidilcaadoor", sum := "94227f5c6ee7f9acf7289fc5271bf0915877ca22e62c0ad4cafdff76b8c9fd72", func := "careen/careenlaw08.SupplyParts", spec := "supplyParts", unfollowed := true, recurses := true, named := ["careen/supply.none"], plainKeys := false, apart := false, laid := [("careen/supply.none", laid_careen_supply_none)], narrowed := true }
def SupplyPartsUptoSaid : Prop := supplyPartsUptoRow.holds Tryd.pinned (OpenSpec.upto supplyPartsSpec)

/-- 'careenlaw08.SupplyChung', WHERE WHAT IT READS IS OF BULK AT MOST 1048576: true; the input reads as it did. -/
def supplyChungUptoRow : OpenClaim := { program := "ytpkhkghiidilcaadoor", sum := "94227f5c6ee7f9acf7289fc5271bf0915877ca22e62c0ad4cafdff76b8c9fd72", func := "careen/careenlaw08.SupplyChung", spec := "supplyChung", unfollowed := true, recurses := true, named := ["careen/supply.none"], plainKeys := false, apart := false, laid := [("careen/supply.none", laid_careen_supply_none)], narrowed := true }
def SupplyChungUptoSaid : Prop := supplyChungUptoRow.holds Tryd.pinned (OpenSpec.upto supplyChungSpec)

/-- 'careenlaw08.SupplyWeighs', WHERE WHAT IT READS IS OF BULK AT MOST 1048576: true; the input reads as it did. -/
def supplyWeighsUptoRow : OpenClaim := { program := "ytpkhkghiidilcaadoor", sum := "94227f5c6ee7f9acf7289fc5271bf0915877ca22e62c0ad4cafdff76b8c9fd72", func := "careen/careenlaw08.SupplyWeighs", spec := "supplyWeighs", unfollowed := true, recurses := true, named := ["careen/supply.none"], plainKeys := false, apart := false, laid := [("careen/supply.none", laid_careen_supply_none)], narrowed := true }
def SupplyWeighsUptoSaid : Prop := supplyWeighsUptoRow.holds Tryd.pinned (OpenSpec.upto supplyWeighsSpec)

/-- 'careenlaw08.SupplyPlans', WHERE WHAT IT READS IS OF BULK AT MOST 1048576: true; the input reads as it did. -/
def supplyPlansUptoRow : OpenClaim := { program := "ytpkhkghiidilcaadoor", sum := "94227f5c6ee7f9acf7289fc5271bf0915877ca22e62c0ad4cafdff76b8c9fd72", func := "careen/careenlaw08.SupplyPlans", spec := "supplyPlans", unfollowed := true, recurses := true, named := ["careen/supply.none"], plainKeys := false, apart := false, laid := [("careen/supply.none", laid_careen_supply_none)], narrowed := true }
def SupplyPlansUptoSaid : Prop := supplyPlansUptoRow.holds Tryd.pinned (OpenSpec.upto supplyPlansSpec)

/-- 'careenlaw08.SupplyNumbers', WHERE WHAT IT READS IS OF BULK AT MOST 1048576: true; the input reads as it did. -/
def supplyNumbersUptoRow : OpenClaim := { program := "ytpkhkghiidilcaadoor", sum := "94227f5c6ee7f9acf7289fc5271bf0915877ca22e62c0ad4cafdff76b8c9fd72", func := "careen/careenlaw08.SupplyNumbers", spec := "supplyNumbers", unfollowed := true, recurses := true, named := ["careen/supply.none"], plainKeys := false, apart := false, laid := [("careen/supply.none", laid_careen_supply_none)], narrowed := true }
def SupplyNumbersUptoSaid : Prop := supplyNumbersUptoRow.holds Tryd.pinned (OpenSpec.upto supplyNumbersSpec)

/-- 'careenlaw08.SupplyCovers', WHERE WHAT IT READS IS OF BULK AT MOST 1048576: true; the input reads as it did. -/
def supplyCoversUptoRow : OpenClaim := { program := "ytpkhkghiidilcaadoor", sum := "94227f5c6ee7f9acf7289fc5271bf0915877ca22e62c0ad4cafdff76b8c9fd72", func := "careen/careenlaw08.SupplyCovers", spec := "supplyCovers", unfollowed := true, recurses := true, named := ["careen/supply.none"], plainKeys := false, apart := false, laid := [("careen/supply.none", laid_careen_supply_none)], narrowed := true }
def SupplyCoversUptoSaid : Prop := supplyCoversUptoRow.holds Tryd.pinned (OpenSpec.upto supplyCoversSpec)

/-- 'careenlaw08.SupplyMoves', WHERE WHAT IT READS IS OF BULK AT MOST 1048576: true; the input reads as it did. -/
def supplyMovesUptoRow : OpenClaim := { program := "ytpkhkghiidilcaadoor", sum := "94227f5c6ee7f9acf7289fc5271bf0915877ca22e62c0ad4cafdff76b8c9fd72", func := "careen/careenlaw08.SupplyMoves", spec := "supplyMoves", unfollowed := true, recurses := true, named := ["careen/supply.none"], plainKeys := false, apart := false, laid := [("careen/supply.none", laid_careen_supply_none)], narrowed := true }
def SupplyMovesUptoSaid : Prop := supplyMovesUptoRow.holds Tryd.pinned (OpenSpec.upto supplyMovesSpec)

/-- 'careenlaw08.SupplyFalls', WHERE WHAT IT READS IS OF BULK AT MOST 1048576: true; the input reads as it did. -/
def supplyFallsUptoRow : OpenClaim := { program := "ytpkhkghiidilcaadoor", sum := "94227f5c6ee7f9acf7289fc5271bf0915877ca22e62c0ad4cafdff76b8c9fd72", func := "careen/careenlaw08.SupplyFalls", spec := "supplyFalls", unfollowed := true, recurses := true, named := ["careen/supply.none"], plainKeys := false, apart := false, laid := [("careen/supply.none", laid_careen_supply_none)], narrowed := true }
def SupplyFallsUptoSaid : Prop := supplyFallsUptoRow.holds Tryd.pinned (OpenSpec.upto supplyFallsSpec)

/-- 'careenlaw08.SupplyOwn', WHERE WHAT IT READS IS OF BULK AT MOST 1048576: true; the input reads as it did. -/
def supplyOwnUptoRow : OpenClaim := { program := "ytpkhkghiidilcaadoor", sum := "94227f5c6ee7f9acf7289fc5271bf0915877ca22e62c0ad4cafdff76b8c9fd72", func := "careen/careenlaw08.SupplyOwn", spec := "supplyOwn", unfollowed := true, recurses := true, named := ["careen/supply.none"], plainKeys := false, apart := false, laid := [("careen/supply.none", laid_careen_supply_none)], narrowed := true }
def SupplyOwnUptoSaid : Prop := supplyOwnUptoRow.holds Tryd.pinned (OpenSpec.upto supplyOwnSpec)

/-- 'careenlaw08.SupplySjostrand', WHERE WHAT IT READS IS OF BULK AT MOST 1048576: true; the input reads as it did. -/
def supplySjostrandUptoRow : OpenClaim := { program := "ytpkhkghiidilcaadoor", sum := "94227f5c6ee7f9acf7289fc5271bf0915877ca22e62c0ad4cafdff76b8c9fd72", func := "careen/careenlaw08.SupplySjostrand", spec := "supplySjostrand", unfollowed := true, recurses := true, named := ["careen/supply.none"], plainKeys := false, apart := false, laid := [("careen/supply.none", laid_careen_supply_none)], narrowed := true }
def SupplySjostrandUptoSaid : Prop := supplySjostrandUptoRow.holds Tryd.pinned (OpenSpec.upto supplySjostrandSpec)

/-- 'careenlaw08.SupplyChecks', WHERE WHAT IT READS IS OF BULK AT MOST 1048576: true; the input reads as it did. -/
def supplyChecksUptoRow : OpenClaim := { program := "ytpkhkghiidilcaadoor", sum := "94227f5c6ee7f9acf7289fc5271bf0915877ca22e62c0ad4cafdff76b8c9fd72", func := "careen/careenlaw08.SupplyChecks", spec := "supplyChecks", unfollowed := true, recurses := true, named := ["careen/supply.none"], plainKeys := false, apart := false, laid := [("careen/supply.none", laid_careen_supply_none)], narrowed := true }
def SupplyChecksUptoSaid : Prop := supplyChecksUptoRow.holds Tryd.pinned (OpenSpec.upto supplyChecksSpec)

end Rows
end Go.Proofs.YtpkhkghiidilcaaDoor
