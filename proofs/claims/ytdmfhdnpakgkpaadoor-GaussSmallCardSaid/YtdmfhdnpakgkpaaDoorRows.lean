/-
  NARROWER THAN 'FOR EVERY INPUT', by the rows' own cells (each row's printed sentence says how): GaussSquares: laid · GaussRoots: laid · GaussRests: laid · GaussNorms: laid · GaussParts: laid · GaussPowers: laid · GaussMuls: laid · GaussFactors: laid · GaussFermat: laid · GaussGcds: laid · GaussPrimes: laid · GaussInverses: laid · GaussSmall: laid · GaussChecks: laid.
  DERIVED. THE GIVEN ROWS OF THIS SEAT. 14 by the template 'for every input the law returns true; each argument reads behind the call as it read before'; 0 by the template 'total and deterministic' (their statements: YtdmfhdnpakgkpaaDoorTotals.lean).
  GIVEN WITH THE SEED: the statements are not yours to turn. If you find one false, say at which input.
  Laid BY PROGRAM, IN A SANDBOX (cutbox-rows.mjs): the forced cells as the released guide's own fill.sh prints them over the translation 08edb1dc8bb30463… (all of the seat's roots in one cut). By AI agents, Wed Nov 11 2026. No macro, syntax, notation, axiom, sorry.
-/
import Derived.Test.YtdmfhdnpakgkpaaDoorChecked
import GoSem.Claim
import GoSem.ClaimJoined
import GoSem.ClaimMapViews
import Derived.JoinedTies
import Derived.KernelRfl
namespace Go.Proofs.YtdmfhdnpakgkpaaDoor
/- THE CELL 'sum', in the pinned program and in every row, IS THE sha256 OF THE DUMP (.gsa) THAT YtdmfhdnpakgkpaaDoorProg.lean LOADS. Nothing in Lean hashes anything: it is a label: what it is worth is what the hold of that sum in a sandbox is worth. -/
noncomputable def Tryd.pinned : Pinned := { name := "ytdmfhdnpakgkpaadoor", sum := "08edb1dc8bb3046387e94c3b4f2193a3cc380f96dba1ad28f5201456d8fb0574", checked := Tryd.checked }
namespace Rows
def none {H : Type} : Left H := { results := [], args := [] }

/- WHAT THE LISTED PACKAGE-LEVEL VARIABLES READ AS WHEN THE CALL BEGINS. Each datum BY PROGRAM (the guide's laid-datum.mjs) off the statement by which the dump's own 'gosem.cut.vars' lays the variable. In a bare row this is a premise. The card (YtdmfhdnpakgkpaaDoorCards.lean) ties it to the program's text. -/
def laid_careen_gauss_zero {H : Type} : DataW H := .agg [.lit (.int .i64 0), .lit (.int .i64 0)]
def laid_careen_gauss_one {H : Type} : DataW H := .agg [.lit (.int .i64 1), .lit (.int .i64 0)]

/-- 'careenlaw07.GaussSquares': WHATEVER THE INPUT: true; the input reads as it did. -/
def gaussSquaresSpec : ChangeSpec := { name := "gaussSquares", fn := fun _ => fun
  | [d] => { results := [.lit (.bool true)], args := [d] }
  | _ => none }
def gaussSquaresRow : OpenClaim := { program := "ytdmfhdnpakgkpaadoor", sum := "08edb1dc8bb3046387e94c3b4f2193a3cc380f96dba1ad28f5201456d8fb0574", func := "careen/careenlaw07.GaussSquares", spec := "gaussSquares", unfollowed := true, recurses := true, named := ["careen/gauss.zero", "careen/gauss.one"], plainKeys := false, apart := false, laid := [("careen/gauss.zero", laid_careen_gauss_zero), ("careen/gauss.one", laid_careen_gauss_one)] }
def GaussSquaresSaid : Prop := gaussSquaresRow.holds Tryd.pinned (OpenSpec.ofChange gaussSquaresSpec)

/-- ITS FALSE NEIGHBOUR: 'it returns false'. Refute it at one input. -/
def gaussSquaresWrong : ChangeSpec := { name := "gaussSquares", fn := fun _ => fun
  | [d] => { results := [.lit (.bool false)], args := [d] }
  | _ => none }
def GaussSquaresWrongFalsely : Prop := gaussSquaresRow.holds Tryd.pinned (OpenSpec.ofChange gaussSquaresWrong)

/-- 'careenlaw07.GaussRoots': WHATEVER THE INPUT: true; the input reads as it did. -/
def gaussRootsSpec : ChangeSpec := { name := "gaussRoots", fn := fun _ => fun
  | [d] => { results := [.lit (.bool true)], args := [d] }
  | _ => none }
def gaussRootsRow : OpenClaim := { program := "ytdmfhdnpakgkpaadoor", sum := "08edb1dc8bb3046387e94c3b4f2193a3cc380f96dba1ad28f5201456d8fb0574", func := "careen/careenlaw07.GaussRoots", spec := "gaussRoots", unfollowed := true, recurses := true, named := ["careen/gauss.zero", "careen/gauss.one"], plainKeys := false, apart := false, laid := [("careen/gauss.zero", laid_careen_gauss_zero), ("careen/gauss.one", laid_careen_gauss_one)] }
def GaussRootsSaid : Prop := gaussRootsRow.holds Tryd.pinned (OpenSpec.ofChange gaussRootsSpec)

/-- ITS FALSE NEIGHBOUR: 'it returns false'. Refute it at one input. -/
def gaussRootsWrong : ChangeSpec := { name := "gaussRoots", fn := fun _ => fun
  | [d] => { results := [.lit (.bool false)], args := [d] }
  | _ => none }
def GaussRootsWrongFalsely : Prop := gaussRootsRow.holds Tryd.pinned (OpenSpec.ofChange gaussRootsWrong)

/-- 'careenlaw07.GaussRests': WHATEVER THE INPUT: true; the input reads as it did. -/
def gaussRestsSpec : ChangeSpec := { name := "gaussRests", fn := fun _ => fun
  | [d] => { results := [.lit (.bool true)], args := [d] }
  | _ => none }
def gaussRestsRow : OpenClaim := { program := "ytdmfhdnpakgkpaadoor", sum := "08edb1dc8bb3046387e94c3b4f2193a3cc380f96dba1ad28f5201456d8fb0574", func := "careen/careenlaw07.GaussRests", spec := "gaussRests", unfollowed := true, recurses := true, named := ["careen/gauss.zero", "careen/gauss.one"], plainKeys := false, apart := false, laid := [("careen/gauss.zero", laid_careen_gauss_zero), ("careen/gauss.one", laid_careen_gauss_one)] }
def GaussRestsSaid : Prop := gaussRestsRow.holds Tryd.pinned (OpenSpec.ofChange gaussRestsSpec)

/-- ITS FALSE NEIGHBOUR: 'it returns false'. Refute it at one input. -/
def gaussRestsWrong : ChangeSpec := { name := "gaussRests", fn := fun _ => fun
  | [d] => { results := [.lit (.bool false)], args := [d] }
  | _ => none }
def GaussRestsWrongFalsely : Prop := gaussRestsRow.holds Tryd.pinned (OpenSpec.ofChange gaussRestsWrong)

/-- 'careenlaw07.GaussNorms': WHATEVER THE INPUT: true; the input reads as it did. -/
def gaussNormsSpec : ChangeSpec := { name := "gaussNorms", fn := fun _ => fun
  | [d1, d2] => { results := [.lit (.bool true)], args := [d1, d2] }
  | _ => none }
def gaussNormsRow : OpenClaim := { program := "ytdmfhdnpakgkpaadoor", sum := "08edb1dc8bb3046387e94c3b4f2193a3cc380f96dba1ad28f5201456d8fb0574", func := "careen/careenlaw07.GaussNorms", spec := "gaussNorms", unfollowed := true, recurses := true, named := ["careen/gauss.zero", "careen/gauss.one"], plainKeys := false, apart := false, laid := [("careen/gauss.zero", laid_careen_gauss_zero), ("careen/gauss.one", laid_careen_gauss_one)] }
def GaussNormsSaid : Prop := gaussNormsRow.holds Tryd.pinned (OpenSpec.ofChange gaussNormsSpec)

/-- ITS FALSE NEIGHBOUR: 'it returns false'. Refute it at one input. -/
def gaussNormsWrong : ChangeSpec := { name := "gaussNorms", fn := fun _ => fun
  | [d1, d2] => { results := [.lit (.bool false)], args := [d1, d2] }
  | _ => none }
def GaussNormsWrongFalsely : Prop := gaussNormsRow.holds Tryd.pinned (OpenSpec.ofChange gaussNormsWrong)

/-- 'careenlaw07.GaussParts': WHATEVER THE INPUT: true; the input reads as it did. -/
def gaussPartsSpec : ChangeSpec := { name := "gaussParts", fn := fun _ => fun
  | [d1, d2, d3] => { results := [.lit (.bool true)], args := [d1, d2, d3] }
  | _ => none }
def gaussPartsRow : OpenClaim := { program := "ytdmfhdnpakgkpaadoor", sum := "08edb1dc8bb3046387e94c3b4f2193a3cc380f96dba1ad28f5201456d8fb0574", func := "careen/careenlaw07.GaussParts", spec := "gaussParts", unfollowed := true, recurses := true, named := ["careen/gauss.zero", "careen/gauss.one"], plainKeys := false, apart := false, laid := [("careen/gauss.zero", laid_careen_gauss_zero), ("careen/gauss.one", laid_careen_gauss_one)] }
def GaussPartsSaid : Prop := gaussPartsRow.holds Tryd.pinned (OpenSpec.ofChange gaussPartsSpec)

/-- ITS FALSE NEIGHBOUR: 'it returns false'. Refute it at one input. -/
def gaussPartsWrong : ChangeSpec := { name := "gaussParts", fn := fun _ => fun
  | [d1, d2, d3] => { results := [.lit (.bool false)], args := [d1, d2, d3] }
  | _ => none }
def GaussPartsWrongFalsely : Prop := gaussPartsRow.holds Tryd.pinned (OpenSpec.ofChange gaussPartsWrong)

/-- 'careenlaw07.GaussPowers': WHATEVER THE INPUT: true; the input reads as it did. -/
def gaussPowersSpec : ChangeSpec := { name := "gaussPowers", fn := fun _ => fun
  | [d1, d2, d3] => { results := [.lit (.bool true)], args := [d1, d2, d3] }
  | _ => none }
def gaussPowersRow : OpenClaim := { program := "ytdmfhdnpakgkpaadoor", sum := "08edb1dc8bb3046387e94c3b4f2193a3cc380f96dba1ad28f5201456d8fb0574", func := "careen/careenlaw07.GaussPowers", spec := "gaussPowers", unfollowed := true, recurses := true, named := ["careen/gauss.zero", "careen/gauss.one"], plainKeys := false, apart := false, laid := [("careen/gauss.zero", laid_careen_gauss_zero), ("careen/gauss.one", laid_careen_gauss_one)] }
def GaussPowersSaid : Prop := gaussPowersRow.holds Tryd.pinned (OpenSpec.ofChange gaussPowersSpec)

/-- ITS FALSE NEIGHBOUR: 'it returns false'. Refute it at one input. -/
def gaussPowersWrong : ChangeSpec := { name := "gaussPowers", fn := fun _ => fun
  | [d1, d2, d3] => { results := [.lit (.bool false)], args := [d1, d2, d3] }
  | _ => none }
def GaussPowersWrongFalsely : Prop := gaussPowersRow.holds Tryd.pinned (OpenSpec.ofChange gaussPowersWrong)

/-- 'careenlaw07.GaussMuls': WHATEVER THE INPUT: true; the input reads as it did. -/
def gaussMulsSpec : ChangeSpec := { name := "gaussMuls", fn := fun _ => fun
  | [d1, d2, d3] => { results := [.lit (.bool true)], args := [d1, d2, d3] }
  | _ => none }
def gaussMulsRow : OpenClaim := { program := "ytdmfhdnpakgkpaadoor", sum := "08edb1dc8bb3046387e94c3b4f2193a3cc380f96dba1ad28f5201456d8fb0574", func := "careen/careenlaw07.GaussMuls", spec := "gaussMuls", unfollowed := true, recurses := true, named := ["careen/gauss.zero", "careen/gauss.one"], plainKeys := false, apart := false, laid := [("careen/gauss.zero", laid_careen_gauss_zero), ("careen/gauss.one", laid_careen_gauss_one)] }
def GaussMulsSaid : Prop := gaussMulsRow.holds Tryd.pinned (OpenSpec.ofChange gaussMulsSpec)

/-- ITS FALSE NEIGHBOUR: 'it returns false'. Refute it at one input. -/
def gaussMulsWrong : ChangeSpec := { name := "gaussMuls", fn := fun _ => fun
  | [d1, d2, d3] => { results := [.lit (.bool false)], args := [d1, d2, d3] }
  | _ => none }
def GaussMulsWrongFalsely : Prop := gaussMulsRow.holds Tryd.pinned (OpenSpec.ofChange gaussMulsWrong)

/-- 'careenlaw07.GaussFactors': WHATEVER THE INPUT: true; the input reads as it did. -/
def gaussFactorsSpec : ChangeSpec := { name := "gaussFactors", fn := fun _ => fun
  | [d1, d2] => { results := [.lit (.bool true)], args := [d1, d2] }
  | _ => none }
def gaussFactorsRow : OpenClaim := { program := "ytdmfhdnpakgkpaadoor", sum := "08edb1dc8bb3046387e94c3b4f2193a3cc380f96dba1ad28f5201456d8fb0574", func := "careen/careenlaw07.GaussFactors", spec := "gaussFactors", unfollowed := true, recurses := true, named := ["careen/gauss.zero", "careen/gauss.one"], plainKeys := false, apart := false, laid := [("careen/gauss.zero", laid_careen_gauss_zero), ("careen/gauss.one", laid_careen_gauss_one)] }
def GaussFactorsSaid : Prop := gaussFactorsRow.holds Tryd.pinned (OpenSpec.ofChange gaussFactorsSpec)

/-- ITS FALSE NEIGHBOUR: 'it returns false'. Refute it at one input. -/
def gaussFactorsWrong : ChangeSpec := { name := "gaussFactors", fn := fun _ => fun
  | [d1, d2] => { results := [.lit (.bool false)], args := [d1, d2] }
  | _ => none }
def GaussFactorsWrongFalsely : Prop := gaussFactorsRow.holds Tryd.pinned (OpenSpec.ofChange gaussFactorsWrong)

/-- 'careenlaw07.GaussFermat': WHATEVER THE INPUT: true; the input reads as it did. -/
def gaussFermatSpec : ChangeSpec := { name := "gaussFermat", fn := fun _ => fun
  | [d] => { results := [.lit (.bool true)], args := [d] }
  | _ => none }
def gaussFermatRow : OpenClaim := { program := "ytdmfhdnpakgkpaadoor", sum := "08edb1dc8bb3046387e94c3b4f2193a3cc380f96dba1ad28f5201456d8fb0574", func := "careen/careenlaw07.GaussFermat", spec := "gaussFermat", unfollowed := true, recurses := true, named := ["careen/gauss.zero", "careen/gauss.one"], plainKeys := false, apart := false, laid := [("careen/gauss.zero", laid_careen_gauss_zero), ("careen/gauss.one", laid_careen_gauss_one)] }
def GaussFermatSaid : Prop := gaussFermatRow.holds Tryd.pinned (OpenSpec.ofChange gaussFermatSpec)

/-- ITS FALSE NEIGHBOUR: 'it returns false'. Refute it at one input. -/
def gaussFermatWrong : ChangeSpec := { name := "gaussFermat", fn := fun _ => fun
  | [d] => { results := [.lit (.bool false)], args := [d] }
  | _ => none }
def GaussFermatWrongFalsely : Prop := gaussFermatRow.holds Tryd.pinned (OpenSpec.ofChange gaussFermatWrong)

/-- 'careenlaw07.GaussGcds': WHATEVER THE INPUT: true; the input reads as it did. -/
def gaussGcdsSpec : ChangeSpec := { name := "gaussGcds", fn := fun _ => fun
  | [d1, d2, d3] => { results := [.lit (.bool true)], args := [d1, d2, d3] }
  | _ => none }
def gaussGcdsRow : OpenClaim := { program := "ytdmfhdnpakgkpaadoor", sum := "08edb1dc8bb3046387e94c3b4f2193a3cc380f96dba1ad28f5201456d8fb0574", func := "careen/careenlaw07.GaussGcds", spec := "gaussGcds", unfollowed := true, recurses := true, named := ["careen/gauss.zero", "careen/gauss.one"], plainKeys := false, apart := false, laid := [("careen/gauss.zero", laid_careen_gauss_zero), ("careen/gauss.one", laid_careen_gauss_one)] }
def GaussGcdsSaid : Prop := gaussGcdsRow.holds Tryd.pinned (OpenSpec.ofChange gaussGcdsSpec)

/-- ITS FALSE NEIGHBOUR: 'it returns false'. Refute it at one input. -/
def gaussGcdsWrong : ChangeSpec := { name := "gaussGcds", fn := fun _ => fun
  | [d1, d2, d3] => { results := [.lit (.bool false)], args := [d1, d2, d3] }
  | _ => none }
def GaussGcdsWrongFalsely : Prop := gaussGcdsRow.holds Tryd.pinned (OpenSpec.ofChange gaussGcdsWrong)

/-- 'careenlaw07.GaussPrimes': WHATEVER THE INPUT: true; the input reads as it did. -/
def gaussPrimesSpec : ChangeSpec := { name := "gaussPrimes", fn := fun _ => fun
  | [d] => { results := [.lit (.bool true)], args := [d] }
  | _ => none }
def gaussPrimesRow : OpenClaim := { program := "ytdmfhdnpakgkpaadoor", sum := "08edb1dc8bb3046387e94c3b4f2193a3cc380f96dba1ad28f5201456d8fb0574", func := "careen/careenlaw07.GaussPrimes", spec := "gaussPrimes", unfollowed := true, recurses := true, named := ["careen/gauss.zero", "careen/gauss.one"], plainKeys := false, apart := false, laid := [("careen/gauss.zero", laid_careen_gauss_zero), ("careen/gauss.one", laid_careen_gauss_one)] }
def GaussPrimesSaid : Prop := gaussPrimesRow.holds Tryd.pinned (OpenSpec.ofChange gaussPrimesSpec)

/-- ITS FALSE NEIGHBOUR: 'it returns false'. Refute it at one input. -/
def gaussPrimesWrong : ChangeSpec := { name := "gaussPrimes", fn := fun _ => fun
  | [d] => { results := [.lit (.bool false)], args := [d] }
  | _ => none }
def GaussPrimesWrongFalsely : Prop := gaussPrimesRow.holds Tryd.pinned (OpenSpec.ofChange gaussPrimesWrong)

/-- 'careenlaw07.GaussInverses': WHATEVER THE INPUT: true; the input reads as it did. -/
def gaussInversesSpec : ChangeSpec := { name := "gaussInverses", fn := fun _ => fun
  | [d1, d2, d3] => { results := [.lit (.bool true)], args := [d1, d2, d3] }
  | _ => none }
def gaussInversesRow : OpenClaim := { program := "ytdmfhdnpakgkpaadoor", sum := "08edb1dc8bb3046387e94c3b4f2193a3cc380f96dba1ad28f5201456d8fb0574", func := "careen/careenlaw07.GaussInverses", spec := "gaussInverses", unfollowed := true, recurses := true, named := ["careen/gauss.zero", "careen/gauss.one"], plainKeys := false, apart := false, laid := [("careen/gauss.zero", laid_careen_gauss_zero), ("careen/gauss.one", laid_careen_gauss_one)] }
def GaussInversesSaid : Prop := gaussInversesRow.holds Tryd.pinned (OpenSpec.ofChange gaussInversesSpec)

/-- ITS FALSE NEIGHBOUR: 'it returns false'. Refute it at one input. -/
def gaussInversesWrong : ChangeSpec := { name := "gaussInverses", fn := fun _ => fun
  | [d1, d2, d3] => { results := [.lit (.bool false)], args := [d1, d2, d3] }
  | _ => none }
def GaussInversesWrongFalsely : Prop := gaussInversesRow.holds Tryd.pinned (OpenSpec.ofChange gaussInversesWrong)

/-- 'careenlaw07.GaussSmall': WHATEVER THE INPUT: true; the input reads as it did. -/
def gaussSmallSpec : ChangeSpec := { name := "gaussSmall", fn := fun _ => fun
  | [d1, d2, d3] => { results := [.lit (.bool true)], args := [d1, d2, d3] }
  | _ => none }
def gaussSmallRow : OpenClaim := { program := "ytdmfhdnpakgkpaadoor", sum := "08edb1dc8bb3046387e94c3b4f2193a3cc380f96dba1ad28f5201456d8fb0574", func := "careen/careenlaw07.GaussSmall", spec := "gaussSmall", unfollowed := true, recurses := true, named := ["careen/gauss.zero", "careen/gauss.one"], plainKeys := false, apart := false, laid := [("careen/gauss.zero", laid_careen_gauss_zero), ("careen/gauss.one", laid_careen_gauss_one)] }
def GaussSmallSaid : Prop := gaussSmallRow.holds Tryd.pinned (OpenSpec.ofChange gaussSmallSpec)

/-- ITS FALSE NEIGHBOUR: 'it returns false'. Refute it at one input. -/
def gaussSmallWrong : ChangeSpec := { name := "gaussSmall", fn := fun _ => fun
  | [d1, d2, d3] => { results := [.lit (.bool false)], args := [d1, d2, d3] }
  | _ => none }
def GaussSmallWrongFalsely : Prop := gaussSmallRow.holds Tryd.pinned (OpenSpec.ofChange gaussSmallWrong)

/-- 'careenlaw07.GaussChecks': WHATEVER THE INPUT: true; the input reads as it did. -/
def gaussChecksSpec : ChangeSpec := { name := "gaussChecks", fn := fun _ => fun
  | [d1, d2] => { results := [.lit (.bool true)], args := [d1, d2] }
  | _ => none }
def gaussChecksRow : OpenClaim := { program := "ytdmfhdnpakgkpaadoor", sum := "08edb1dc8bb3046387e94c3b4f2193a3cc380f96dba1ad28f5201456d8fb0574", func := "careen/careenlaw07.GaussChecks", spec := "gaussChecks", unfollowed := true, recurses := true, named := ["careen/gauss.zero", "careen/gauss.one"], plainKeys := false, apart := false, laid := [("careen/gauss.zero", laid_careen_gauss_zero), ("careen/gauss.one", laid_careen_gauss_one)] }
def GaussChecksSaid : Prop := gaussChecksRow.holds Tryd.pinned (OpenSpec.ofChange gaussChecksSpec)

/-- ITS FALSE NEIGHBOUR: 'it returns false'. Refute it at one input. -/
def gaussChecksWrong : ChangeSpec := { name := "gaussChecks", fn := fun _ => fun
  | [d1, d2] => { results := [.lit (.bool false)], args := [d1, d2] }
  | _ => none }
def GaussChecksWrongFalsely : Prop := gaussChecksRow.holds Tryd.pinned (OpenSpec.ofChange gaussChecksWrong)

/- THE SECOND FORM. 'bulk': how many values and letters a reading holds, each counted each time it is reached (what is shared counts as often as it is met; a slice's spare places count too). A statement '..UptoSaid' is the law's where the arguments, and the package variables that the reading takes, are together of bulk at most 1048576: NARROWER than '..Said'. Prove '..Said' where nothing that the law and all that it calls make is longer than what came in: it says more and counts as full. Else prove '..UptoSaid'. A law counts once. -/
mutual
def uptoBulk {H : Type} : DataW H → Nat
  | .lit (.string bytes) => bytes.length + 1
  | .lit _ => 1
  | .nil => 1
  | .ptr d => uptoBulk d + 1
  | .slice elems spare => uptoBulkAll elems + uptoBulkAll spare + 1
  | .agg parts => uptoBulkAll parts + 1
  | .iface _ d => uptoBulk d + 1
  | .map entries => uptoBulkEntries entries + 1
  | .held _ => 1
def uptoBulkAll {H : Type} : List (DataW H) → Nat
  | [] => 0
  | d :: r => uptoBulk d + uptoBulkAll r
def uptoBulkEntries {H : Type} : List (Lit × DataW H) → Nat
  | [] => 0
  | x :: r => uptoBulkEntry x + uptoBulkEntries r
def uptoBulkEntry {H : Type} : Lit × DataW H → Nat
  | (.string bytes, d) => bytes.length + uptoBulk d + 1
  | (_, d) => uptoBulk d + 1
 end
def uptoSmall : (H : Type) → List (DataW H) → Bool := fun _ ds => decide (uptoBulkAll ds ≤ 1048576)
def OpenSpec.upto (s : _root_.Go.ChangeSpec) : _root_.Go.OpenSpec := { _root_.Go.OpenSpec.ofChange s with cond := some uptoSmall }

/-- 'careenlaw07.GaussSquares', WHERE WHAT IT READS IS OF BULK AT MOST 1048576: true; the input reads as it did. -/
def gaussSquaresUptoRow : OpenClaim := { program := "ytdmfhdnpakgkpaadoor", sum := "08edb1dc8bb3046387e94c3b4f2193a3cc380f96dba1ad28f5201456d8fb0574", func := "careen/careenlaw07.GaussSquares", spec := "gaussSquares", unfollowed := true, recurses := true, named := ["careen/gauss.zero", "careen/gauss.one"], plainKeys := false, apart := false, laid := [("careen/gauss.zero", laid_careen_gauss_zero), ("careen/gauss.one", laid_careen_gauss_one)], narrowed := true }
def GaussSquaresUptoSaid : Prop := gaussSquaresUptoRow.holds Tryd.pinned (OpenSpec.upto gaussSquaresSpec)

/-- 'careenlaw07.GaussRoots', WHERE WHAT IT READS IS OF BULK AT MOST 1048576: true; the input reads as it did. -/
def gaussRootsUptoRow : OpenClaim := { program := "ytdmfhdnpakgkpaadoor", sum := "08edb1dc8bb3046387e94c3b4f2193a3cc380f96dba1ad28f5201456d8fb0574", func := "careen/careenlaw07.GaussRoots", spec := "gaussRoots", unfollowed := true, recurses := true, named := ["careen/gauss.zero", "careen/gauss.one"], plainKeys := false, apart := false, laid := [("careen/gauss.zero", laid_careen_gauss_zero), ("careen/gauss.one", laid_careen_gauss_one)], narrowed := true }
def GaussRootsUptoSaid : Prop := gaussRootsUptoRow.holds Tryd.pinned (OpenSpec.upto gaussRootsSpec)

/-- 'careenlaw07.GaussRests', WHERE WHAT IT READS IS OF BULK AT MOST 1048576: true; the input reads as it did. -/
def gaussRestsUptoRow : OpenClaim := { program := "ytdmfhdnpakgkpaadoor", sum := "08edb1dc8bb3046387e94c3b4f2193a3cc380f96dba1ad28f5201456d8fb0574", func := "careen/careenlaw07.GaussRests", spec := "gaussRests", unfollowed := true, recurses := true, named := ["careen/gauss.zero", "careen/gauss.one"], plainKeys := false, apart := false, laid := [("careen/gauss.zero", laid_careen_gauss_zero), ("careen/gauss.one", laid_careen_gauss_one)], narrowed := true }
def GaussRestsUptoSaid : Prop := gaussRestsUptoRow.holds Tryd.pinned (OpenSpec.upto gaussRestsSpec)

/-- 'careenlaw07.GaussNorms', WHERE WHAT IT READS IS OF BULK AT MOST 1048576: true; the input reads as it did. -/
def gaussNormsUptoRow : OpenClaim := { program := "ytdmfhdnpakgkpaadoor", sum := "08edb1dc8bb3046387e94c3b4f2193a3cc380f96dba1ad28f5201456d8fb0574", func := "careen/careenlaw07.GaussNorms", spec := "gaussNorms", unfollowed := true, recurses := true, named := ["careen/gauss.zero", "careen/gauss.one"], plainKeys := false, apart := false, laid := [("careen/gauss.zero", laid_careen_gauss_zero), ("careen/gauss.one", laid_careen_gauss_one)], narrowed := true }
def GaussNormsUptoSaid : Prop := gaussNormsUptoRow.holds Tryd.pinned (OpenSpec.upto gaussNormsSpec)

/-- 'careenlaw07.GaussParts', WHERE WHAT IT READS IS OF BULK AT MOST 1048576: true; the input reads as it did. -/
def gaussPartsUptoRow : OpenClaim := { program := "ytdmfhdnpakgkpaadoor", sum := "08edb1dc8bb3046387e94c3b4f2193a3cc380f96dba1ad28f5201456d8fb0574", func := "careen/careenlaw07.GaussParts", spec := "gaussParts", unfollowed := true, recurses := true, named := ["careen/gauss.zero", "careen/gauss.one"], plainKeys := false, apart := false, laid := [("careen/gauss.zero", laid_careen_gauss_zero), ("careen/gauss.one", laid_careen_gauss_one)], narrowed := true }
def GaussPartsUptoSaid : Prop := gaussPartsUptoRow.holds Tryd.pinned (OpenSpec.upto gaussPartsSpec)

/-- 'careenlaw07.GaussPowers', WHERE WHAT IT READS IS OF BULK AT MOST 1048576: true; the input reads as it did. -/
def gaussPowersUptoRow : OpenClaim := { program := "ytdmfhdnpakgkpaadoor", sum := "08edb1dc8bb3046387e94c3b4f2193a3cc380f96dba1ad28f5201456d8fb0574", func := "careen/careenlaw07.GaussPowers", spec := "gaussPowers", unfollowed := true, recurses := true, named := ["careen/gauss.zero", "careen/gauss.one"], plainKeys := false, apart := false, laid := [("careen/gauss.zero", laid_careen_gauss_zero), ("careen/gauss.one", laid_careen_gauss_one)], narrowed := true }
def GaussPowersUptoSaid : Prop := gaussPowersUptoRow.holds Tryd.pinned (OpenSpec.upto gaussPowersSpec)

/-- 'careenlaw07.GaussMuls', WHERE WHAT IT READS IS OF BULK AT MOST 1048576: true; the input reads as it did. -/
def gaussMulsUptoRow : OpenClaim := { program := "ytdmfhdnpakgkpaadoor", sum := "08edb1dc8bb3046387e94c3b4f2193a3cc380f96dba1ad28f5201456d8fb0574", func := "careen/careenlaw07.GaussMuls", spec := "gaussMuls", unfollowed := true, recurses := true, named := ["careen/gauss.zero", "careen/gauss.one"], plainKeys := false, apart := false, laid := [("careen/gauss.zero", laid_careen_gauss_zero), ("careen/gauss.one", laid_careen_gauss_one)], narrowed := true }
def GaussMulsUptoSaid : Prop := gaussMulsUptoRow.holds Tryd.pinned (OpenSpec.upto gaussMulsSpec)

/-- 'careenlaw07.GaussFactors', WHERE WHAT IT READS IS OF BULK AT MOST 1048576: true; the input reads as it did. -/
def gaussFactorsUptoRow : OpenClaim := { program := "ytdmfhdnpakgkpaadoor", sum := "08edb1dc8bb3046387e94c3b4f2193a3cc380f96dba1ad28f5201456d8fb0574", func := "careen/careenlaw07.GaussFactors", spec := "gaussFactors", unfollowed := true, recurses := true, named := ["careen/gauss.zero", "careen/gauss.one"], plainKeys := false, apart := false, laid := [("careen/gauss.zero", laid_careen_gauss_zero), ("careen/gauss.one", laid_careen_gauss_one)], narrowed := true }
def GaussFactorsUptoSaid : Prop := gaussFactorsUptoRow.holds Tryd.pinned (OpenSpec.upto gaussFactorsSpec)

/-- 'careenlaw07.GaussFermat', WHERE WHAT IT READS IS OF BULK AT MOST 1048576: true; the input reads as it did. -/
def gaussFermatUptoRow : OpenClaim := { program := "ytdmfhdnpakgkpaadoor", sum := "08edb1dc8bb3046387e94c3b4f2193a3cc380f96dba1ad28f5201456d8fb0574", func := "careen/careenlaw07.GaussFermat", spec := "gaussFermat", unfollowed := true, recurses := true, named := ["careen/gauss.zero", "careen/gauss.one"], plainKeys := false, apart := false, laid := [("careen/gauss.zero", laid_careen_gauss_zero), ("careen/gauss.one", laid_careen_gauss_one)], narrowed := true }
def GaussFermatUptoSaid : Prop := gaussFermatUptoRow.holds Tryd.pinned (OpenSpec.upto gaussFermatSpec)

/-- 'careenlaw07.GaussGcds', WHERE WHAT IT READS IS OF BULK AT MOST 1048576: true; the input reads as it did. -/
def gaussGcdsUptoRow : OpenClaim := { program := "ytdmfhdnpakgkpaadoor", sum := "08edb1dc8bb3046387e94c3b4f2193a3cc380f96dba1ad28f5201456d8fb0574", func := "careen/careenlaw07.GaussGcds", spec := "gaussGcds", unfollowed := true, recurses := true, named := ["careen/gauss.zero", "careen/gauss.one"], plainKeys := false, apart := false, laid := [("careen/gauss.zero", laid_careen_gauss_zero), ("careen/gauss.one", laid_careen_gauss_one)], narrowed := true }
def GaussGcdsUptoSaid : Prop := gaussGcdsUptoRow.holds Tryd.pinned (OpenSpec.upto gaussGcdsSpec)

/-- 'careenlaw07.GaussPrimes', WHERE WHAT IT READS IS OF BULK AT MOST 1048576: true; the input reads as it did. -/
def gaussPrimesUptoRow : OpenClaim := { program := "ytdmfhdnpakgkpaadoor", sum := "08edb1dc8bb3046387e94c3b4f2193a3cc380f96dba1ad28f5201456d8fb0574", func := "careen/careenlaw07.GaussPrimes", spec := "gaussPrimes", unfollowed := true, recurses := true, named := ["careen/gauss.zero", "careen/gauss.one"], plainKeys := false, apart := false, laid := [("careen/gauss.zero", laid_careen_gauss_zero), ("careen/gauss.one", laid_careen_gauss_one)], narrowed := true }
def GaussPrimesUptoSaid : Prop := gaussPrimesUptoRow.holds Tryd.pinned (OpenSpec.upto gaussPrimesSpec)

/-- 'careenlaw07.GaussInverses', WHERE WHAT IT READS IS OF BULK AT MOST 1048576: true; the input reads as it did. -/
def gaussInversesUptoRow : OpenClaim := { program := "ytdmfhdnpakgkpaadoor", sum := "08edb1dc8bb3046387e94c3b4f2193a3cc380f96dba1ad28f5201456d8fb0574", func := "careen/careenlaw07.GaussInverses", spec := "gaussInverses", unfollowed := true, recurses := true, named := ["careen/gauss.zero", "careen/gauss.one"], plainKeys := false, apart := false, laid := [("careen/gauss.zero", laid_careen_gauss_zero), ("careen/gauss.one", laid_careen_gauss_one)], narrowed := true }
def GaussInversesUptoSaid : Prop := gaussInversesUptoRow.holds Tryd.pinned (OpenSpec.upto gaussInversesSpec)

/-- 'careenlaw07.GaussSmall', WHERE WHAT IT READS IS OF BULK AT MOST 1048576: true; the input reads as it did. -/
def gaussSmallUptoRow : OpenClaim := { program := "ytdmfhdnpakgkpaadoor", sum := "08edb1dc8bb3046387e94c3b4f2193a3cc380f96dba1ad28f5201456d8fb0574", func := "careen/careenlaw07.GaussSmall", spec := "gaussSmall", unfollowed := true, recurses := true, named := ["careen/gauss.zero", "careen/gauss.one"], plainKeys := false, apart := false, laid := [("careen/gauss.zero", laid_careen_gauss_zero), ("careen/gauss.one", laid_careen_gauss_one)], narrowed := true }
def GaussSmallUptoSaid : Prop := gaussSmallUptoRow.holds Tryd.pinned (OpenSpec.upto gaussSmallSpec)

/-- 'careenlaw07.GaussChecks', WHERE WHAT IT READS IS OF BULK AT MOST 1048576: true; the input reads as it did. -/
def gaussChecksUptoRow : OpenClaim := { program := "ytdmfhdnpakgkpaadoor", sum := "08edb1dc8bb3046387e94c3b4f2193a3cc380f96dba1ad28f5201456d8fb0574", func := "careen/careenlaw07.GaussChecks", spec := "gaussChecks", unfollowed := true, recurses := true, named := ["careen/gauss.zero", "careen/gauss.one"], plainKeys := false, apart := false, laid := [("careen/gauss.zero", laid_careen_gauss_zero), ("careen/gauss.one", laid_careen_gauss_one)], narrowed := true }
def GaussChecksUptoSaid : Prop := gaussChecksUptoRow.holds Tryd.pinned (OpenSpec.upto gaussChecksSpec)

end Rows
end Go.Proofs.YtdmfhdnpakgkpaaDoor
