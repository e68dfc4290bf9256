/-
  No cell of these rows narrows 'for every input' (looked for: loops, veiled, ifaces, maps, wideKeys, modest, calm, conditions, laid).
  DERIVED. THE GIVEN ROWS OF THIS SEAT. 13 by the template 'for every input the law returns true; each argument reads behind the call as it read before'; 0 by the template 'total and deterministic' (their statements: YtioijehbmgmgkaaTotals.lean).
  GIVEN WITH THE SEED: the statements are not yours to turn. If you find one false, say at which input.
  Laid BY PROGRAM, IN A SANDBOX (cutbox-rows.mjs): the forced cells as the released guide's own fill.sh prints them over the translation fc766283e559c4d1… (all of the seat's roots in one cut). By AI agents, Wed Nov 11 2026. No macro, syntax, notation, axiom, sorry.
-/
import Derived.Test.YtioijehbmgmgkaaChecked
import GoSem.Claim
import GoSem.ClaimJoined
import GoSem.ClaimMapViews
import Derived.JoinedTies
import Derived.KernelRfl
namespace Go.Proofs.Ytioijehbmgmgkaa
/- THE CELL 'sum', in the pinned program and in every row, IS THE sha256 OF THE DUMP (.gsa) THAT YtioijehbmgmgkaaProg.lean LOADS. Nothing in Lean hashes anything: it is a label: what it is worth is what the hold of that sum in a sandbox is worth. -/
noncomputable def Try.pinned : Pinned := { name := "ytioijehbmgmgkaa", sum := "fc766283e559c4d14c6ecb3168b3fbde19a588ac564016909cd3de9bf40e6dd8", checked := Try.checked }
namespace Rows
def none {H : Type} : Left H := { results := [], args := [] }

/-- 'careenlaw09.SluiceLips': WHATEVER THE INPUT: true; the input reads as it did. -/
def sluiceLipsSpec : ChangeSpec := { name := "sluiceLips", fn := fun _ => fun
  | [d1, d2] => { results := [.lit (.bool true)], args := [d1, d2] }
  | _ => none }
def sluiceLipsRow : OpenClaim := { program := "ytioijehbmgmgkaa", sum := "fc766283e559c4d14c6ecb3168b3fbde19a588ac564016909cd3de9bf40e6dd8", func := "careen/careenlaw09.SluiceLips", spec := "sluiceLips", unfollowed := true, recurses := true, apart := false }
def SluiceLipsSaid : Prop := sluiceLipsRow.holds Try.pinned (OpenSpec.ofChange sluiceLipsSpec)

/-- ITS FALSE NEIGHBOUR: 'it returns false'. Refute it at one input. -/
def sluiceLipsWrong : ChangeSpec := { name := "sluiceLips", fn := fun _ => fun
  | [d1, d2] => { results := [.lit (.bool false)], args := [d1, d2] }
  | _ => none }
def SluiceLipsWrongFalsely : Prop := sluiceLipsRow.holds Try.pinned (OpenSpec.ofChange sluiceLipsWrong)

/-- 'careenlaw09.SluiceRooms': WHATEVER THE INPUT: true; the input reads as it did. -/
def sluiceRoomsSpec : ChangeSpec := { name := "sluiceRooms", fn := fun _ => fun
  | [d1, d2] => { results := [.lit (.bool true)], args := [d1, d2] }
  | _ => none }
def sluiceRoomsRow : OpenClaim := { program := "ytioijehbmgmgkaa", sum := "fc766283e559c4d14c6ecb3168b3fbde19a588ac564016909cd3de9bf40e6dd8", func := "careen/careenlaw09.SluiceRooms", spec := "sluiceRooms", unfollowed := true, recurses := true, apart := false }
def SluiceRoomsSaid : Prop := sluiceRoomsRow.holds Try.pinned (OpenSpec.ofChange sluiceRoomsSpec)

/-- ITS FALSE NEIGHBOUR: 'it returns false'. Refute it at one input. -/
def sluiceRoomsWrong : ChangeSpec := { name := "sluiceRooms", fn := fun _ => fun
  | [d1, d2] => { results := [.lit (.bool false)], args := [d1, d2] }
  | _ => none }
def SluiceRoomsWrongFalsely : Prop := sluiceRoomsRow.holds Try.pinned (OpenSpec.ofChange sluiceRoomsWrong)

/-- 'careenlaw09.SluiceMores': WHATEVER THE INPUT: true; the input reads as it did. -/
def sluiceMoresSpec : ChangeSpec := { name := "sluiceMores", fn := fun _ => fun
  | [d1, d2, d3] => { results := [.lit (.bool true)], args := [d1, d2, d3] }
  | _ => none }
def sluiceMoresRow : OpenClaim := { program := "ytioijehbmgmgkaa", sum := "fc766283e559c4d14c6ecb3168b3fbde19a588ac564016909cd3de9bf40e6dd8", func := "careen/careenlaw09.SluiceMores", spec := "sluiceMores", unfollowed := true, recurses := true, apart := false }
def SluiceMoresSaid : Prop := sluiceMoresRow.holds Try.pinned (OpenSpec.ofChange sluiceMoresSpec)

/-- ITS FALSE NEIGHBOUR: 'it returns false'. Refute it at one input. -/
def sluiceMoresWrong : ChangeSpec := { name := "sluiceMores", fn := fun _ => fun
  | [d1, d2, d3] => { results := [.lit (.bool false)], args := [d1, d2, d3] }
  | _ => none }
def SluiceMoresWrongFalsely : Prop := sluiceMoresRow.holds Try.pinned (OpenSpec.ofChange sluiceMoresWrong)

/-- 'careenlaw09.SluiceJudges': WHATEVER THE INPUT: true; the input reads as it did. -/
def sluiceJudgesSpec : ChangeSpec := { name := "sluiceJudges", fn := fun _ => fun
  | [d1, d2] => { results := [.lit (.bool true)], args := [d1, d2] }
  | _ => none }
def sluiceJudgesRow : OpenClaim := { program := "ytioijehbmgmgkaa", sum := "fc766283e559c4d14c6ecb3168b3fbde19a588ac564016909cd3de9bf40e6dd8", func := "careen/careenlaw09.SluiceJudges", spec := "sluiceJudges", unfollowed := true, recurses := true, apart := false }
def SluiceJudgesSaid : Prop := sluiceJudgesRow.holds Try.pinned (OpenSpec.ofChange sluiceJudgesSpec)

/-- ITS FALSE NEIGHBOUR: 'it returns false'. Refute it at one input. -/
def sluiceJudgesWrong : ChangeSpec := { name := "sluiceJudges", fn := fun _ => fun
  | [d1, d2] => { results := [.lit (.bool false)], args := [d1, d2] }
  | _ => none }
def SluiceJudgesWrongFalsely : Prop := sluiceJudgesRow.holds Try.pinned (OpenSpec.ofChange sluiceJudgesWrong)

/-- 'careenlaw09.SluiceWets': WHATEVER THE INPUT: true; the input reads as it did. -/
def sluiceWetsSpec : ChangeSpec := { name := "sluiceWets", fn := fun _ => fun
  | [d1, d2, d3] => { results := [.lit (.bool true)], args := [d1, d2, d3] }
  | _ => none }
def sluiceWetsRow : OpenClaim := { program := "ytioijehbmgmgkaa", sum := "fc766283e559c4d14c6ecb3168b3fbde19a588ac564016909cd3de9bf40e6dd8", func := "careen/careenlaw09.SluiceWets", spec := "sluiceWets", unfollowed := true, recurses := true, apart := false }
def SluiceWetsSaid : Prop := sluiceWetsRow.holds Try.pinned (OpenSpec.ofChange sluiceWetsSpec)

/-- ITS FALSE NEIGHBOUR: 'it returns false'. Refute it at one input. -/
def sluiceWetsWrong : ChangeSpec := { name := "sluiceWets", fn := fun _ => fun
  | [d1, d2, d3] => { results := [.lit (.bool false)], args := [d1, d2, d3] }
  | _ => none }
def SluiceWetsWrongFalsely : Prop := sluiceWetsRow.holds Try.pinned (OpenSpec.ofChange sluiceWetsWrong)

/-- 'careenlaw09.SluiceFulls': WHATEVER THE INPUT: true; the input reads as it did. -/
def sluiceFullsSpec : ChangeSpec := { name := "sluiceFulls", fn := fun _ => fun
  | [d1, d2] => { results := [.lit (.bool true)], args := [d1, d2] }
  | _ => none }
def sluiceFullsRow : OpenClaim := { program := "ytioijehbmgmgkaa", sum := "fc766283e559c4d14c6ecb3168b3fbde19a588ac564016909cd3de9bf40e6dd8", func := "careen/careenlaw09.SluiceFulls", spec := "sluiceFulls", unfollowed := true, recurses := true, apart := false }
def SluiceFullsSaid : Prop := sluiceFullsRow.holds Try.pinned (OpenSpec.ofChange sluiceFullsSpec)

/-- ITS FALSE NEIGHBOUR: 'it returns false'. Refute it at one input. -/
def sluiceFullsWrong : ChangeSpec := { name := "sluiceFulls", fn := fun _ => fun
  | [d1, d2] => { results := [.lit (.bool false)], args := [d1, d2] }
  | _ => none }
def SluiceFullsWrongFalsely : Prop := sluiceFullsRow.holds Try.pinned (OpenSpec.ofChange sluiceFullsWrong)

/-- 'careenlaw09.SluiceTrees': WHATEVER THE INPUT: true; the input reads as it did. -/
def sluiceTreesSpec : ChangeSpec := { name := "sluiceTrees", fn := fun _ => fun
  | [d] => { results := [.lit (.bool true)], args := [d] }
  | _ => none }
def sluiceTreesRow : OpenClaim := { program := "ytioijehbmgmgkaa", sum := "fc766283e559c4d14c6ecb3168b3fbde19a588ac564016909cd3de9bf40e6dd8", func := "careen/careenlaw09.SluiceTrees", spec := "sluiceTrees", unfollowed := true, recurses := true, apart := false }
def SluiceTreesSaid : Prop := sluiceTreesRow.holds Try.pinned (OpenSpec.ofChange sluiceTreesSpec)

/-- ITS FALSE NEIGHBOUR: 'it returns false'. Refute it at one input. -/
def sluiceTreesWrong : ChangeSpec := { name := "sluiceTrees", fn := fun _ => fun
  | [d] => { results := [.lit (.bool false)], args := [d] }
  | _ => none }
def SluiceTreesWrongFalsely : Prop := sluiceTreesRow.holds Try.pinned (OpenSpec.ofChange sluiceTreesWrong)

/-- 'careenlaw09.SluicePrunes': WHATEVER THE INPUT: true; the input reads as it did. -/
def sluicePrunesSpec : ChangeSpec := { name := "sluicePrunes", fn := fun _ => fun
  | [d1, d2, d3] => { results := [.lit (.bool true)], args := [d1, d2, d3] }
  | _ => none }
def sluicePrunesRow : OpenClaim := { program := "ytioijehbmgmgkaa", sum := "fc766283e559c4d14c6ecb3168b3fbde19a588ac564016909cd3de9bf40e6dd8", func := "careen/careenlaw09.SluicePrunes", spec := "sluicePrunes", unfollowed := true, recurses := true, apart := false }
def SluicePrunesSaid : Prop := sluicePrunesRow.holds Try.pinned (OpenSpec.ofChange sluicePrunesSpec)

/-- ITS FALSE NEIGHBOUR: 'it returns false'. Refute it at one input. -/
def sluicePrunesWrong : ChangeSpec := { name := "sluicePrunes", fn := fun _ => fun
  | [d1, d2, d3] => { results := [.lit (.bool false)], args := [d1, d2, d3] }
  | _ => none }
def SluicePrunesWrongFalsely : Prop := sluicePrunesRow.holds Try.pinned (OpenSpec.ofChange sluicePrunesWrong)

/-- 'careenlaw09.SluiceOwn': WHATEVER THE INPUT: true; the input reads as it did. -/
def sluiceOwnSpec : ChangeSpec := { name := "sluiceOwn", fn := fun _ => fun
  | [d1, d2] => { results := [.lit (.bool true)], args := [d1, d2] }
  | _ => none }
def sluiceOwnRow : OpenClaim := { program := "ytioijehbmgmgkaa", sum := "fc766283e559c4d14c6ecb3168b3fbde19a588ac564016909cd3de9bf40e6dd8", func := "careen/careenlaw09.SluiceOwn", spec := "sluiceOwn", unfollowed := true, recurses := true, apart := false }
def SluiceOwnSaid : Prop := sluiceOwnRow.holds Try.pinned (OpenSpec.ofChange sluiceOwnSpec)

/-- ITS FALSE NEIGHBOUR: 'it returns false'. Refute it at one input. -/
def sluiceOwnWrong : ChangeSpec := { name := "sluiceOwn", fn := fun _ => fun
  | [d1, d2] => { results := [.lit (.bool false)], args := [d1, d2] }
  | _ => none }
def SluiceOwnWrongFalsely : Prop := sluiceOwnRow.holds Try.pinned (OpenSpec.ofChange sluiceOwnWrong)

/-- 'careenlaw09.SluiceSums': WHATEVER THE INPUT: true; the input reads as it did. -/
def sluiceSumsSpec : ChangeSpec := { name := "sluiceSums", fn := fun _ => fun
  | [d1, d2] => { results := [.lit (.bool true)], args := [d1, d2] }
  | _ => none }
def sluiceSumsRow : OpenClaim := { program := "ytioijehbmgmgkaa", sum := "fc766283e559c4d14c6ecb3168b3fbde19a588ac564016909cd3de9bf40e6dd8", func := "careen/careenlaw09.SluiceSums", spec := "sluiceSums", unfollowed := true, recurses := true, apart := false }
def SluiceSumsSaid : Prop := sluiceSumsRow.holds Try.pinned (OpenSpec.ofChange sluiceSumsSpec)

/-- ITS FALSE NEIGHBOUR: 'it returns false'. Refute it at one input. -/
def sluiceSumsWrong : ChangeSpec := { name := "sluiceSums", fn := fun _ => fun
  | [d1, d2] => { results := [.lit (.bool false)], args := [d1, d2] }
  | _ => none }
def SluiceSumsWrongFalsely : Prop := sluiceSumsRow.holds Try.pinned (OpenSpec.ofChange sluiceSumsWrong)

/-- 'careenlaw09.SluicePours': WHATEVER THE INPUT: true; the input reads as it did. -/
def sluicePoursSpec : ChangeSpec := { name := "sluicePours", fn := fun _ => fun
  | [d1, d2, d3] => { results := [.lit (.bool true)], args := [d1, d2, d3] }
  | _ => none }
def sluicePoursRow : OpenClaim := { program := "ytioijehbmgmgkaa", sum := "fc766283e559c4d14c6ecb3168b3fbde19a588ac564016909cd3de9bf40e6dd8", func := "careen/careenlaw09.SluicePours", spec := "sluicePours", unfollowed := true, recurses := true, apart := false }
def SluicePoursSaid : Prop := sluicePoursRow.holds Try.pinned (OpenSpec.ofChange sluicePoursSpec)

/-- ITS FALSE NEIGHBOUR: 'it returns false'. Refute it at one input. -/
def sluicePoursWrong : ChangeSpec := { name := "sluicePours", fn := fun _ => fun
  | [d1, d2, d3] => { results := [.lit (.bool false)], args := [d1, d2, d3] }
  | _ => none }
def SluicePoursWrongFalsely : Prop := sluicePoursRow.holds Try.pinned (OpenSpec.ofChange sluicePoursWrong)

/-- 'careenlaw09.SluiceStands': WHATEVER THE INPUT: true; the input reads as it did. -/
def sluiceStandsSpec : ChangeSpec := { name := "sluiceStands", fn := fun _ => fun
  | [d1, d2] => { results := [.lit (.bool true)], args := [d1, d2] }
  | _ => none }
def sluiceStandsRow : OpenClaim := { program := "ytioijehbmgmgkaa", sum := "fc766283e559c4d14c6ecb3168b3fbde19a588ac564016909cd3de9bf40e6dd8", func := "careen/careenlaw09.SluiceStands", spec := "sluiceStands", unfollowed := true, recurses := true, apart := false }
def SluiceStandsSaid : Prop := sluiceStandsRow.holds Try.pinned (OpenSpec.ofChange sluiceStandsSpec)

/-- ITS FALSE NEIGHBOUR: 'it returns false'. Refute it at one input. -/
def sluiceStandsWrong : ChangeSpec := { name := "sluiceStands", fn := fun _ => fun
  | [d1, d2] => { results := [.lit (.bool false)], args := [d1, d2] }
  | _ => none }
def SluiceStandsWrongFalsely : Prop := sluiceStandsRow.holds Try.pinned (OpenSpec.ofChange sluiceStandsWrong)

/-- 'careenlaw09.SluiceChecks': WHATEVER THE INPUT: true; the input reads as it did. -/
def sluiceChecksSpec : ChangeSpec := { name := "sluiceChecks", fn := fun _ => fun
  | [d1, d2] => { results := [.lit (.bool true)], args := [d1, d2] }
  | _ => none }
def sluiceChecksRow : OpenClaim := { program := "ytioijehbmgmgkaa", sum := "fc766283e559c4d14c6ecb3168b3fbde19a588ac564016909cd3de9bf40e6dd8", func := "careen/careenlaw09.SluiceChecks", spec := "sluiceChecks", unfollowed := true, recurses := true, apart := false }
def SluiceChecksSaid : Prop := sluiceChecksRow.holds Try.pinned (OpenSpec.ofChange sluiceChecksSpec)

/-- ITS FALSE NEIGHBOUR: 'it returns false'. Refute it at one input. -/
def sluiceChecksWrong : ChangeSpec := { name := "sluiceChecks", fn := fun _ => fun
  | [d1, d2] => { results := [.lit (.bool false)], args := [d1, d2] }
  | _ => none }
def SluiceChecksWrongFalsely : Prop := sluiceChecksRow.holds Try.pinned (OpenSpec.ofChange sluiceChecksWrong)

/- THE SECOND FORM. 'bulk': how many values and letters a reading holds, each counted each time it is reached (what is shared counts as often as it is met; a slice's spare places count too). A statement '..UptoSaid' is the law's where the arguments, and the package variables that the reading takes, are together of bulk at most 1048576: NARROWER than '..Said'. Prove '..Said' where nothing that the law and all that it calls make is longer than what came in: it says more and counts as full. Else prove '..UptoSaid'. A law counts once. -/
mutual
def uptoBulk {H : Type} : DataW H → Nat
  | .lit (.string bytes) => bytes.length + 1
  | .lit _ => 1
  | .nil => 1
  | .ptr d => uptoBulk d + 1
  | .slice elems spare => uptoBulkAll elems + uptoBulkAll spare + 1
  | .agg parts => uptoBulkAll parts + 1
  | .iface _ d => uptoBulk d + 1
  | .map entries => uptoBulkEntries entries + 1
  | .held _ => 1
def uptoBulkAll {H : Type} : List (DataW H) → Nat
  | [] => 0
  | d :: r => uptoBulk d + uptoBulkAll r
def uptoBulkEntries {H : Type} : List (Lit × DataW H) → Nat
  | [] => 0
  | x :: r => uptoBulkEntry x + uptoBulkEntries r
def uptoBulkEntry {H : Type} : Lit × DataW H → Nat
  | (.string bytes, d) => bytes.length + uptoBulk d + 1
  | (_, d) => uptoBulk d + 1
 end
def uptoSmall : (H : Type) → List (DataW H) → Bool := fun _ ds => decide (uptoBulkAll ds ≤ 1048576)
def OpenSpec.upto (s : _root_.Go.ChangeSpec) : _root_.Go.OpenSpec := { _root_.Go.OpenSpec.ofChange s with cond := some uptoSmall }

/-- 'careenlaw09.SluiceLips', WHERE WHAT IT READS IS OF BULK AT MOST 1048576: true; the input reads as it did. -/
def sluiceLipsUptoRow : OpenClaim := { program := "ytioijehbmgmgkaa", sum := "fc766283e559c4d14c6ecb3168b3fbde19a588ac564016909cd3de9bf40e6dd8", func := "careen/careenlaw09.SluiceLips", spec := "sluiceLips", unfollowed := true, recurses := true, apart := false, narrowed := true }
def SluiceLipsUptoSaid : Prop := sluiceLipsUptoRow.holds Try.pinned (OpenSpec.upto sluiceLipsSpec)

/-- 'careenlaw09.SluiceRooms', WHERE WHAT IT READS IS OF BULK AT MOST 1048576: true; the input reads as it did. -/
def sluiceRoomsUptoRow : OpenClaim := { program := "ytioijehbmgmgkaa", sum := "fc766283e559c4d14c6ecb3168b3fbde19a588ac564016909cd3de9bf40e6dd8", func := "careen/careenlaw09.SluiceRooms", spec := "sluiceRooms", unfollowed := true, recurses := true, apart := false, narrowed := true }
def SluiceRoomsUptoSaid : Prop := sluiceRoomsUptoRow.holds Try.pinned (OpenSpec.upto sluiceRoomsSpec)

/-- 'careenlaw09.SluiceMores', WHERE WHAT IT READS IS OF BULK AT MOST 1048576: true; the input reads as it did. -/
def sluiceMoresUptoRow : OpenClaim := { program := "ytioijehbmgmgkaa", sum := "fc766283e559c4d14c6ecb3168b3fbde19a588ac564016909cd3de9bf40e6dd8", func := "careen/careenlaw09.SluiceMores", spec := "sluiceMores", unfollowed := true, recurses := true, apart := false, narrowed := true }
def SluiceMoresUptoSaid : Prop := sluiceMoresUptoRow.holds Try.pinned (OpenSpec.upto sluiceMoresSpec)

/-- 'careenlaw09.SluiceJudges', WHERE WHAT IT READS IS OF BULK AT MOST 1048576: true; the input reads as it did. -/
def sluiceJudgesUptoRow : OpenClaim := { program := "ytioijehbmgmgkaa", sum := "fc766283e559c4d14c6ecb3168b3fbde19a588ac564016909cd3de9bf40e6dd8", func := "careen/careenlaw09.SluiceJudges", spec := "sluiceJudges", unfollowed := true, recurses := true, apart := false, narrowed := true }
def SluiceJudgesUptoSaid : Prop := sluiceJudgesUptoRow.holds Try.pinned (OpenSpec.upto sluiceJudgesSpec)

/-- 'careenlaw09.SluiceWets', WHERE WHAT IT READS IS OF BULK AT MOST 1048576: true; the input reads as it did. -/
def sluiceWetsUptoRow : OpenClaim := { program := "ytioijehbmgmgkaa", sum := "fc766283e559c4d14c6ecb3168b3fbde19a588ac564016909cd3de9bf40e6dd8", func := "careen/careenlaw09.SluiceWets", spec := "sluiceWets", unfollowed := true, recurses := true, apart := false, narrowed := true }
def SluiceWetsUptoSaid : Prop := sluiceWetsUptoRow.holds Try.pinned (OpenSpec.upto sluiceWetsSpec)

/-- 'careenlaw09.SluiceFulls', WHERE WHAT IT READS IS OF BULK AT MOST 1048576: true; the input reads as it did. -/
def sluiceFullsUptoRow : OpenClaim := { program := "ytioijehbmgmgkaa", sum := "fc766283e559c4d14c6ecb3168b3fbde19a588ac564016909cd3de9bf40e6dd8", func := "careen/careenlaw09.SluiceFulls", spec := "sluiceFulls", unfollowed := true, recurses := true, apart := false, narrowed := true }
def SluiceFullsUptoSaid : Prop := sluiceFullsUptoRow.holds Try.pinned (OpenSpec.upto sluiceFullsSpec)

/-- 'careenlaw09.SluiceTrees', WHERE WHAT IT READS IS OF BULK AT MOST 1048576: true; the input reads as it did. -/
def sluiceTreesUptoRow : OpenClaim := { program := "ytioijehbmgmgkaa", sum := "fc766283e559c4d14c6ecb3168b3fbde19a588ac564016909cd3de9bf40e6dd8", func := "careen/careenlaw09.SluiceTrees", spec := "sluiceTrees", unfollowed := true, recurses := true, apart := false, narrowed := true }
def SluiceTreesUptoSaid : Prop := sluiceTreesUptoRow.holds Try.pinned (OpenSpec.upto sluiceTreesSpec)

/-- 'careenlaw09.SluicePrunes', WHERE WHAT IT READS IS OF BULK AT MOST 1048576: true; the input reads as it did. -/
def sluicePrunesUptoRow : OpenClaim := { program := "ytioijehbmgmgkaa", sum := "fc766283e559c4d14c6ecb3168b3fbde19a588ac564016909cd3de9bf40e6dd8", func := "careen/careenlaw09.SluicePrunes", spec := "sluicePrunes", unfollowed := true, recurses := true, apart := false, narrowed := true }
def SluicePrunesUptoSaid : Prop := sluicePrunesUptoRow.holds Try.pinned (OpenSpec.upto sluicePrunesSpec)

/-- 'careenlaw09.SluiceOwn', WHERE WHAT IT READS IS OF BULK AT MOST 1048576: true; the input reads as it did. -/
def sluiceOwnUptoRow : OpenClaim := { program := "ytioijehbmgmgkaa", sum := "fc766283e559c4d14c6ecb3168b3fbde19a588ac564016909cd3de9bf40e6dd8", func := "careen/careenlaw09.SluiceOwn", spec := "sluiceOwn", unfollowed := true, recurses := true, apart := false, narrowed := true }
def SluiceOwnUptoSaid : Prop := sluiceOwnUptoRow.holds Try.pinned (OpenSpec.upto sluiceOwnSpec)

/-- 'careenlaw09.SluiceSums', WHERE WHAT IT READS IS OF BULK AT MOST 1048576: true; the input reads as it did. -/
def sluiceSumsUptoRow : OpenClaim := { program := "ytioijehbmgmgkaa", sum := "fc766283e559c4d14c6ecb3168b3fbde19a588ac564016909cd3de9bf40e6dd8", func := "careen/careenlaw09.SluiceSums", spec := "sluiceSums", unfollowed := true, recurses := true, apart := false, narrowed := true }
def SluiceSumsUptoSaid : Prop := sluiceSumsUptoRow.holds Try.pinned (OpenSpec.upto sluiceSumsSpec)

/-- 'careenlaw09.SluicePours', WHERE WHAT IT READS IS OF BULK AT MOST 1048576: true; the input reads as it did. -/
def sluicePoursUptoRow : OpenClaim := { program := "ytioijehbmgmgkaa", sum := "fc766283e559c4d14c6ecb3168b3fbde19a588ac564016909cd3de9bf40e6dd8", func := "careen/careenlaw09.SluicePours", spec := "sluicePours", unfollowed := true, recurses := true, apart := false, narrowed := true }
def SluicePoursUptoSaid : Prop := sluicePoursUptoRow.holds Try.pinned (OpenSpec.upto sluicePoursSpec)

/-- 'careenlaw09.SluiceStands', WHERE WHAT IT READS IS OF BULK AT MOST 1048576: true; the input reads as it did. -/
def sluiceStandsUptoRow : OpenClaim := { program := "ytioijehbmgmgkaa", sum := "fc766283e559c4d14c6ecb3168b3fbde19a588ac564016909cd3de9bf40e6dd8", func := "careen/careenlaw09.SluiceStands", spec := "sluiceStands", unfollowed := true, recurses := true, apart := false, narrowed := true }
def SluiceStandsUptoSaid : Prop := sluiceStandsUptoRow.holds Try.pinned (OpenSpec.upto sluiceStandsSpec)

/-- 'careenlaw09.SluiceChecks', WHERE WHAT IT READS IS OF BULK AT MOST 1048576: true; the input reads as it did. -/
def sluiceChecksUptoRow : OpenClaim := { program := "ytioijehbmgmgkaa", sum := "fc766283e559c4d14c6ecb3168b3fbde19a588ac564016909cd3de9bf40e6dd8", func := "careen/careenlaw09.SluiceChecks", spec := "sluiceChecks", unfollowed := true, recurses := true, apart := false, narrowed := true }
def SluiceChecksUptoSaid : Prop := sluiceChecksUptoRow.holds Try.pinned (OpenSpec.upto sluiceChecksSpec)

end Rows
end Go.Proofs.Ytioijehbmgmgkaa
