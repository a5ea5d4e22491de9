/-
  No cell of these rows narrows 'for every input' (looked for: loops, veiled, ifaces, maps, wideKeys, modest, calm, conditions, laid).
  DERIVED. THE GIVEN ROWS OF THIS SEAT. 12 by the template 'for every input the law returns true; each argument reads behind the call as it read before'; 0 by the template 'total and deterministic' (their statements: YtpfmkhhhamdpeaaGreatTotals.lean).
  GIVEN WITH THE SEED: the statements are not yours to turn. If you find one false, say at which input.
  Laid BY PROGRAM, IN A SANDBOX (cutbox-rows.mjs): the forced cells as the released guide's own fill.sh prints them over the translation 6e2592393b500453… (all of the seat's roots in one cut). By AI agents, Wed Nov 11 2026. No macro, syntax, notation, axiom, sorry.
-/
import Derived.Test.YtpfmkhhhamdpeaaGreatChecked
import GoSem.Claim
import GoSem.ClaimJoined
import GoSem.ClaimMapViews
import Derived.JoinedTies
import Derived.KernelRfl
namespace Go.Proofs.YtpfmkhhhamdpeaaGreat
/- THE CELL 'sum', in the pinned program and in every row, IS THE sha256 OF THE DUMP (.gsa) THAT YtpfmkhhhamdpeaaGreatProg.lean LOADS. Nothing in Lean hashes anything: it is a label: what it is worth is what the hold of that sum in a sandbox is worth. -/
noncomputable def Tryz.pinned : Pinned := { name := "ytpfmkhhhamdpeaagreat", sum := "6e2592393b50045300dec44141d0a235f0ebe1c0fb46bb70f2a45647be50ed72", checked := Tryz.checked }
namespace Rows
def none {H : Type} : Left H := { results := [], args := [] }

/-- 'nilometerlaw11.CrewRounds': WHATEVER THE INPUT: true; the input reads as it did. -/
def crewRoundsSpec : ChangeSpec := { name := "crewRounds", fn := fun _ => fun
  | [d1, d2, d3, d4] => { results := [.lit (.bool true)], args := [d1, d2, d3, d4] }
  | _ => none }
def crewRoundsRow : OpenClaim := { program := "ytpfmkhhhamdpeaagreat", sum := "6e2592393b50045300dec44141d0a235f0ebe1c0fb46bb70f2a45647be50ed72", func := "nilometer/nilometerlaw11.CrewRounds", spec := "crewRounds", unfollowed := true, recurses := true, apart := false }
def CrewRoundsSaid : Prop := crewRoundsRow.holds Tryz.pinned (OpenSpec.ofChange crewRoundsSpec)

/-- ITS FALSE NEIGHBOUR: 'it returns false'. Refute it at one input. -/
def crewRoundsWrong : ChangeSpec := { name := "crewRounds", fn := fun _ => fun
  | [d1, d2, d3, d4] => { results := [.lit (.bool false)], args := [d1, d2, d3, d4] }
  | _ => none }
def CrewRoundsWrongFalsely : Prop := crewRoundsRow.holds Tryz.pinned (OpenSpec.ofChange crewRoundsWrong)

/-- 'nilometerlaw11.CrewCables': WHATEVER THE INPUT: true; the input reads as it did. -/
def crewCablesSpec : ChangeSpec := { name := "crewCables", fn := fun _ => fun
  | [d1, d2] => { results := [.lit (.bool true)], args := [d1, d2] }
  | _ => none }
def crewCablesRow : OpenClaim := { program := "ytpfmkhhhamdpeaagreat", sum := "6e2592393b50045300dec44141d0a235f0ebe1c0fb46bb70f2a45647be50ed72", func := "nilometer/nilometerlaw11.CrewCables", spec := "crewCables", unfollowed := true, recurses := true, apart := false }
def CrewCablesSaid : Prop := crewCablesRow.holds Tryz.pinned (OpenSpec.ofChange crewCablesSpec)

/-- ITS FALSE NEIGHBOUR: 'it returns false'. Refute it at one input. -/
def crewCablesWrong : ChangeSpec := { name := "crewCables", fn := fun _ => fun
  | [d1, d2] => { results := [.lit (.bool false)], args := [d1, d2] }
  | _ => none }
def CrewCablesWrongFalsely : Prop := crewCablesRow.holds Tryz.pinned (OpenSpec.ofChange crewCablesWrong)

/-- 'nilometerlaw11.CrewBest': WHATEVER THE INPUT: true; the input reads as it did. -/
def crewBestSpec : ChangeSpec := { name := "crewBest", fn := fun _ => fun
  | [d1, d2] => { results := [.lit (.bool true)], args := [d1, d2] }
  | _ => none }
def crewBestRow : OpenClaim := { program := "ytpfmkhhhamdpeaagreat", sum := "6e2592393b50045300dec44141d0a235f0ebe1c0fb46bb70f2a45647be50ed72", func := "nilometer/nilometerlaw11.CrewBest", spec := "crewBest", unfollowed := true, recurses := true, apart := false }
def CrewBestSaid : Prop := crewBestRow.holds Tryz.pinned (OpenSpec.ofChange crewBestSpec)

/-- ITS FALSE NEIGHBOUR: 'it returns false'. Refute it at one input. -/
def crewBestWrong : ChangeSpec := { name := "crewBest", fn := fun _ => fun
  | [d1, d2] => { results := [.lit (.bool false)], args := [d1, d2] }
  | _ => none }
def CrewBestWrongFalsely : Prop := crewBestRow.holds Tryz.pinned (OpenSpec.ofChange crewBestWrong)

/-- 'nilometerlaw11.CrewKept': WHATEVER THE INPUT: true; the input reads as it did. -/
def crewKeptSpec : ChangeSpec := { name := "crewKept", fn := fun _ => fun
  | [d1, d2, d3, d4] => { results := [.lit (.bool true)], args := [d1, d2, d3, d4] }
  | _ => none }
def crewKeptRow : OpenClaim := { program := "ytpfmkhhhamdpeaagreat", sum := "6e2592393b50045300dec44141d0a235f0ebe1c0fb46bb70f2a45647be50ed72", func := "nilometer/nilometerlaw11.CrewKept", spec := "crewKept", unfollowed := true, recurses := true, apart := false }
def CrewKeptSaid : Prop := crewKeptRow.holds Tryz.pinned (OpenSpec.ofChange crewKeptSpec)

/-- ITS FALSE NEIGHBOUR: 'it returns false'. Refute it at one input. -/
def crewKeptWrong : ChangeSpec := { name := "crewKept", fn := fun _ => fun
  | [d1, d2, d3, d4] => { results := [.lit (.bool false)], args := [d1, d2, d3, d4] }
  | _ => none }
def CrewKeptWrongFalsely : Prop := crewKeptRow.holds Tryz.pinned (OpenSpec.ofChange crewKeptWrong)

/-- 'nilometerlaw11.CrewCarried': WHATEVER THE INPUT: true; the input reads as it did. -/
def crewCarriedSpec : ChangeSpec := { name := "crewCarried", fn := fun _ => fun
  | [d1, d2, d3] => { results := [.lit (.bool true)], args := [d1, d2, d3] }
  | _ => none }
def crewCarriedRow : OpenClaim := { program := "ytpfmkhhhamdpeaagreat", sum := "6e2592393b50045300dec44141d0a235f0ebe1c0fb46bb70f2a45647be50ed72", func := "nilometer/nilometerlaw11.CrewCarried", spec := "crewCarried", unfollowed := true, recurses := true, apart := false }
def CrewCarriedSaid : Prop := crewCarriedRow.holds Tryz.pinned (OpenSpec.ofChange crewCarriedSpec)

/-- ITS FALSE NEIGHBOUR: 'it returns false'. Refute it at one input. -/
def crewCarriedWrong : ChangeSpec := { name := "crewCarried", fn := fun _ => fun
  | [d1, d2, d3] => { results := [.lit (.bool false)], args := [d1, d2, d3] }
  | _ => none }
def CrewCarriedWrongFalsely : Prop := crewCarriedRow.holds Tryz.pinned (OpenSpec.ofChange crewCarriedWrong)

/-- 'nilometerlaw11.CrewPaid': WHATEVER THE INPUT: true; the input reads as it did. -/
def crewPaidSpec : ChangeSpec := { name := "crewPaid", fn := fun _ => fun
  | [d1, d2] => { results := [.lit (.bool true)], args := [d1, d2] }
  | _ => none }
def crewPaidRow : OpenClaim := { program := "ytpfmkhhhamdpeaagreat", sum := "6e2592393b50045300dec44141d0a235f0ebe1c0fb46bb70f2a45647be50ed72", func := "nilometer/nilometerlaw11.CrewPaid", spec := "crewPaid", unfollowed := true, recurses := true, apart := false }
def CrewPaidSaid : Prop := crewPaidRow.holds Tryz.pinned (OpenSpec.ofChange crewPaidSpec)

/-- ITS FALSE NEIGHBOUR: 'it returns false'. Refute it at one input. -/
def crewPaidWrong : ChangeSpec := { name := "crewPaid", fn := fun _ => fun
  | [d1, d2] => { results := [.lit (.bool false)], args := [d1, d2] }
  | _ => none }
def CrewPaidWrongFalsely : Prop := crewPaidRow.holds Tryz.pinned (OpenSpec.ofChange crewPaidWrong)

/-- 'nilometerlaw11.CrewRosters': WHATEVER THE INPUT: true; the input reads as it did. -/
def crewRostersSpec : ChangeSpec := { name := "crewRosters", fn := fun _ => fun
  | [d1, d2, d3] => { results := [.lit (.bool true)], args := [d1, d2, d3] }
  | _ => none }
def crewRostersRow : OpenClaim := { program := "ytpfmkhhhamdpeaagreat", sum := "6e2592393b50045300dec44141d0a235f0ebe1c0fb46bb70f2a45647be50ed72", func := "nilometer/nilometerlaw11.CrewRosters", spec := "crewRosters", unfollowed := true, recurses := true, apart := false }
def CrewRostersSaid : Prop := crewRostersRow.holds Tryz.pinned (OpenSpec.ofChange crewRostersSpec)

/-- ITS FALSE NEIGHBOUR: 'it returns false'. Refute it at one input. -/
def crewRostersWrong : ChangeSpec := { name := "crewRosters", fn := fun _ => fun
  | [d1, d2, d3] => { results := [.lit (.bool false)], args := [d1, d2, d3] }
  | _ => none }
def CrewRostersWrongFalsely : Prop := crewRostersRow.holds Tryz.pinned (OpenSpec.ofChange crewRostersWrong)

/-- 'nilometerlaw11.CrewSmall': WHATEVER THE INPUT: true; the input reads as it did. -/
def crewSmallSpec : ChangeSpec := { name := "crewSmall", fn := fun _ => fun
  | [] => { results := [.lit (.bool true)], args := [] }
  | _ => none }
def crewSmallRow : OpenClaim := { program := "ytpfmkhhhamdpeaagreat", sum := "6e2592393b50045300dec44141d0a235f0ebe1c0fb46bb70f2a45647be50ed72", func := "nilometer/nilometerlaw11.CrewSmall", spec := "crewSmall", unfollowed := true, recurses := true, apart := false }
def CrewSmallSaid : Prop := crewSmallRow.holds Tryz.pinned (OpenSpec.ofChange crewSmallSpec)

/-- ITS FALSE NEIGHBOUR: 'it returns false'. Refute it at one input. -/
def crewSmallWrong : ChangeSpec := { name := "crewSmall", fn := fun _ => fun
  | [] => { results := [.lit (.bool false)], args := [] }
  | _ => none }
def CrewSmallWrongFalsely : Prop := crewSmallRow.holds Tryz.pinned (OpenSpec.ofChange crewSmallWrong)

/-- 'nilometerlaw11.CrewStable': WHATEVER THE INPUT: true; the input reads as it did. -/
def crewStableSpec : ChangeSpec := { name := "crewStable", fn := fun _ => fun
  | [d1, d2] => { results := [.lit (.bool true)], args := [d1, d2] }
  | _ => none }
def crewStableRow : OpenClaim := { program := "ytpfmkhhhamdpeaagreat", sum := "6e2592393b50045300dec44141d0a235f0ebe1c0fb46bb70f2a45647be50ed72", func := "nilometer/nilometerlaw11.CrewStable", spec := "crewStable", unfollowed := true, recurses := true, apart := false }
def CrewStableSaid : Prop := crewStableRow.holds Tryz.pinned (OpenSpec.ofChange crewStableSpec)

/-- ITS FALSE NEIGHBOUR: 'it returns false'. Refute it at one input. -/
def crewStableWrong : ChangeSpec := { name := "crewStable", fn := fun _ => fun
  | [d1, d2] => { results := [.lit (.bool false)], args := [d1, d2] }
  | _ => none }
def CrewStableWrongFalsely : Prop := crewStableRow.holds Tryz.pinned (OpenSpec.ofChange crewStableWrong)

/-- 'nilometerlaw11.CrewTurned': WHATEVER THE INPUT: true; the input reads as it did. -/
def crewTurnedSpec : ChangeSpec := { name := "crewTurned", fn := fun _ => fun
  | [d1, d2, d3] => { results := [.lit (.bool true)], args := [d1, d2, d3] }
  | _ => none }
def crewTurnedRow : OpenClaim := { program := "ytpfmkhhhamdpeaagreat", sum := "6e2592393b50045300dec44141d0a235f0ebe1c0fb46bb70f2a45647be50ed72", func := "nilometer/nilometerlaw11.CrewTurned", spec := "crewTurned", unfollowed := true, recurses := true, apart := false }
def CrewTurnedSaid : Prop := crewTurnedRow.holds Tryz.pinned (OpenSpec.ofChange crewTurnedSpec)

/-- ITS FALSE NEIGHBOUR: 'it returns false'. Refute it at one input. -/
def crewTurnedWrong : ChangeSpec := { name := "crewTurned", fn := fun _ => fun
  | [d1, d2, d3] => { results := [.lit (.bool false)], args := [d1, d2, d3] }
  | _ => none }
def CrewTurnedWrongFalsely : Prop := crewTurnedRow.holds Tryz.pinned (OpenSpec.ofChange crewTurnedWrong)

/-- 'nilometerlaw11.CrewMore': WHATEVER THE INPUT: true; the input reads as it did. -/
def crewMoreSpec : ChangeSpec := { name := "crewMore", fn := fun _ => fun
  | [d1, d2, d3] => { results := [.lit (.bool true)], args := [d1, d2, d3] }
  | _ => none }
def crewMoreRow : OpenClaim := { program := "ytpfmkhhhamdpeaagreat", sum := "6e2592393b50045300dec44141d0a235f0ebe1c0fb46bb70f2a45647be50ed72", func := "nilometer/nilometerlaw11.CrewMore", spec := "crewMore", inPlace := ["slices.overlaps[int]"], unfollowed := true, recurses := true, apart := false }
def CrewMoreSaid : Prop := crewMoreRow.holds Tryz.pinned (OpenSpec.ofChange crewMoreSpec)

/-- ITS FALSE NEIGHBOUR: 'it returns false'. Refute it at one input. -/
def crewMoreWrong : ChangeSpec := { name := "crewMore", fn := fun _ => fun
  | [d1, d2, d3] => { results := [.lit (.bool false)], args := [d1, d2, d3] }
  | _ => none }
def CrewMoreWrongFalsely : Prop := crewMoreRow.holds Tryz.pinned (OpenSpec.ofChange crewMoreWrong)

/-- 'nilometerlaw11.CrewPlanned': WHATEVER THE INPUT: true; the input reads as it did. -/
def crewPlannedSpec : ChangeSpec := { name := "crewPlanned", fn := fun _ => fun
  | [d1, d2, d3] => { results := [.lit (.bool true)], args := [d1, d2, d3] }
  | _ => none }
def crewPlannedRow : OpenClaim := { program := "ytpfmkhhhamdpeaagreat", sum := "6e2592393b50045300dec44141d0a235f0ebe1c0fb46bb70f2a45647be50ed72", func := "nilometer/nilometerlaw11.CrewPlanned", spec := "crewPlanned", unfollowed := true, recurses := true, apart := false }
def CrewPlannedSaid : Prop := crewPlannedRow.holds Tryz.pinned (OpenSpec.ofChange crewPlannedSpec)

/-- ITS FALSE NEIGHBOUR: 'it returns false'. Refute it at one input. -/
def crewPlannedWrong : ChangeSpec := { name := "crewPlanned", fn := fun _ => fun
  | [d1, d2, d3] => { results := [.lit (.bool false)], args := [d1, d2, d3] }
  | _ => none }
def CrewPlannedWrongFalsely : Prop := crewPlannedRow.holds Tryz.pinned (OpenSpec.ofChange crewPlannedWrong)

/- THE SECOND FORM. 'bulk': how many values and letters a reading holds, each counted each time it is reached (what is shared counts as often as it is met; a slice's spare places count too). A statement '..UptoSaid' is the law's where the arguments, and the package variables that the reading takes, are together of bulk at most 1048576: NARROWER than '..Said'. Prove '..Said' where nothing that the law and all that it calls make is longer than what came in: it says more and counts as full. Else prove '..UptoSaid'. A law counts once. -/
mutual
def uptoBulk {H : Type} : DataW H → Nat
  | .lit (.string bytes) => bytes.length + 1
  | .lit _ => 1
  | .nil => 1
  | .ptr d => uptoBulk d + 1
  | .slice elems spare => uptoBulkAll elems + uptoBulkAll spare + 1
  | .agg parts => uptoBulkAll parts + 1
  | .iface _ d => uptoBulk d + 1
  | .map entries => uptoBulkEntries entries + 1
  | .held _ => 1
def uptoBulkAll {H : Type} : List (DataW H) → Nat
  | [] => 0
  | d :: r => uptoBulk d + uptoBulkAll r
def uptoBulkEntries {H : Type} : List (Lit × DataW H) → Nat
  | [] => 0
  | x :: r => uptoBulkEntry x + uptoBulkEntries r
def uptoBulkEntry {H : Type} : Lit × DataW H → Nat
  | (.string bytes, d) => bytes.length + uptoBulk d + 1
  | (_, d) => uptoBulk d + 1
 end
def uptoSmall : (H : Type) → List (DataW H) → Bool := fun _ ds => decide (uptoBulkAll ds ≤ 1048576)
def OpenSpec.upto (s : _root_.Go.ChangeSpec) : _root_.Go.OpenSpec := { _root_.Go.OpenSpec.ofChange s with cond := some uptoSmall }

/-- 'nilometerlaw11.CrewRounds', WHERE WHAT IT READS IS OF BULK AT MOST 1048576: true; the input reads as it did. -/
def crewRoundsUptoRow : OpenClaim := { program := "ytpfmkhhhamdpeaagreat", sum := "6e2592393b50045300dec44141d0a235f0ebe1c0fb46bb70f2a45647be50ed72", func := "nilometer/nilometerlaw11.CrewRounds", spec := "crewRounds", unfollowed := true, recurses := true, apart := false, narrowed := true }
def CrewRoundsUptoSaid : Prop := crewRoundsUptoRow.holds Tryz.pinned (OpenSpec.upto crewRoundsSpec)

/-- 'nilometerlaw11.CrewCables', WHERE WHAT IT READS IS OF BULK AT MOST 1048576: true; the input reads as it did. -/
def crewCablesUptoRow : OpenClaim := { program := "ytpfmkhhhamdpeaagreat", sum := "6e2592393b50045300dec44141d0a235f0ebe1c0fb46bb70f2a45647be50ed72", func := "nilometer/nilometerlaw11.CrewCables", spec := "crewCables", unfollowed := true, recurses := true, apart := false, narrowed := true }
def CrewCablesUptoSaid : Prop := crewCablesUptoRow.holds Tryz.pinned (OpenSpec.upto crewCablesSpec)

/-- 'nilometerlaw11.CrewBest', WHERE WHAT IT READS IS OF BULK AT MOST 1048576: true; the input reads as it did. -/
def crewBestUptoRow : OpenClaim := { program := "ytpfmkhhhamdpeaagreat", sum := "6e2592393b50045300dec44141d0a235f0ebe1c0fb46bb70f2a45647be50ed72", func := "nilometer/nilometerlaw11.CrewBest", spec := "crewBest", unfollowed := true, recurses := true, apart := false, narrowed := true }
def CrewBestUptoSaid : Prop := crewBestUptoRow.holds Tryz.pinned (OpenSpec.upto crewBestSpec)

/-- 'nilometerlaw11.CrewKept', WHERE WHAT IT READS IS OF BULK AT MOST 1048576: true; the input reads as it did. -/
def crewKeptUptoRow : OpenClaim := { program := "ytpfmkhhhamdpeaagreat", sum := "6e2592393b50045300dec44141d0a235f0ebe1c0fb46bb70f2a45647be50ed72", func := "nilometer/nilometerlaw11.CrewKept", spec := "crewKept", unfollowed := true, recurses := true, apart := false, narrowed := true }
def CrewKeptUptoSaid : Prop := crewKeptUptoRow.holds Tryz.pinned (OpenSpec.upto crewKeptSpec)

/-- 'nilometerlaw11.CrewCarried', WHERE WHAT IT READS IS OF BULK AT MOST 1048576: true; the input reads as it did. -/
def crewCarriedUptoRow : OpenClaim := { program := "ytpfmkhhhamdpeaagreat", sum := "6e2592393b50045300dec44141d0a235f0ebe1c0fb46bb70f2a45647be50ed72", func := "nilometer/nilometerlaw11.CrewCarried", spec := "crewCarried", unfollowed := true, recurses := true, apart := false, narrowed := true }
def CrewCarriedUptoSaid : Prop := crewCarriedUptoRow.holds Tryz.pinned (OpenSpec.upto crewCarriedSpec)

/-- 'nilometerlaw11.CrewPaid', WHERE WHAT IT READS IS OF BULK AT MOST 1048576: true; the input reads as it did. -/
def crewPaidUptoRow : OpenClaim := { program := "ytpfmkhhhamdpeaagreat", sum := "6e2592393b50045300dec44141d0a235f0ebe1c0fb46bb70f2a45647be50ed72", func := "nilometer/nilometerlaw11.CrewPaid", spec := "crewPaid", unfollowed := true, recurses := true, apart := false, narrowed := true }
def CrewPaidUptoSaid : Prop := crewPaidUptoRow.holds Tryz.pinned (OpenSpec.upto crewPaidSpec)

/-- 'nilometerlaw11.CrewRosters', WHERE WHAT IT READS IS OF BULK AT MOST 1048576: true; the input reads as it did. -/
def crewRostersUptoRow : OpenClaim := { program := "ytpfmkhhhamdpeaagreat", sum := "6e2592393b50045300dec44141d0a235f0ebe1c0fb46bb70f2a45647be50ed72", func := "nilometer/nilometerlaw11.CrewRosters", spec := "crewRosters", unfollowed := true, recurses := true, apart := false, narrowed := true }
def CrewRostersUptoSaid : Prop := crewRostersUptoRow.holds Tryz.pinned (OpenSpec.upto crewRostersSpec)

/-- 'nilometerlaw11.CrewSmall', WHERE WHAT IT READS IS OF BULK AT MOST 1048576: true; the input reads as it did. -/
def crewSmallUptoRow : OpenClaim := { program := "ytpfmkhhhamdpeaagreat", sum := "6e2592393b50045300dec44141d0a235f0ebe1c0fb46bb70f2a45647be50ed72", func := "nilometer/nilometerlaw11.CrewSmall", spec := "crewSmall", unfollowed := true, recurses := true, apart := false, narrowed := true }
def CrewSmallUptoSaid : Prop := crewSmallUptoRow.holds Tryz.pinned (OpenSpec.upto crewSmallSpec)

/-- 'nilometerlaw11.CrewStable', WHERE WHAT IT READS IS OF BULK AT MOST 1048576: true; the input reads as it did. -/
def crewStableUptoRow : OpenClaim := { program := "ytpfmkhhhamdpeaagreat", sum := "6e2592393b50045300dec44141d0a235f0ebe1c0fb46bb70f2a45647be50ed72", func := "nilometer/nilometerlaw11.CrewStable", spec := "crewStable", unfollowed := true, recurses := true, apart := false, narrowed := true }
def CrewStableUptoSaid : Prop := crewStableUptoRow.holds Tryz.pinned (OpenSpec.upto crewStableSpec)

/-- 'nilometerlaw11.CrewTurned', WHERE WHAT IT READS IS OF BULK AT MOST 1048576: true; the input reads as it did. -/
def crewTurnedUptoRow : OpenClaim := { program := "ytpfmkhhhamdpeaagreat", sum := "6e2592393b50045300dec44141d0a235f0ebe1c0fb46bb70f2a45647be50ed72", func := "nilometer/nilometerlaw11.CrewTurned", spec := "crewTurned", unfollowed := true, recurses := true, apart := false, narrowed := true }
def CrewTurnedUptoSaid : Prop := crewTurnedUptoRow.holds Tryz.pinned (OpenSpec.upto crewTurnedSpec)

/-- 'nilometerlaw11.CrewMore', WHERE WHAT IT READS IS OF BULK AT MOST 1048576: true; the input reads as it did. -/
def crewMoreUptoRow : OpenClaim := { program := "ytpfmkhhhamdpeaagreat", sum := "6e2592393b50045300dec44141d0a235f0ebe1c0fb46bb70f2a45647be50ed72", func := "nilometer/nilometerlaw11.CrewMore", spec := "crewMore", inPlace := ["slices.overlaps[int]"], unfollowed := true, recurses := true, apart := false, narrowed := true }
def CrewMoreUptoSaid : Prop := crewMoreUptoRow.holds Tryz.pinned (OpenSpec.upto crewMoreSpec)

/-- 'nilometerlaw11.CrewPlanned', WHERE WHAT IT READS IS OF BULK AT MOST 1048576: true; the input reads as it did. -/
def crewPlannedUptoRow : OpenClaim := { program := "ytpfmkhhhamdpeaagreat", sum := "6e2592393b50045300dec44141d0a235f0ebe1c0fb46bb70f2a45647be50ed72", func := "nilometer/nilometerlaw11.CrewPlanned", spec := "crewPlanned", unfollowed := true, recurses := true, apart := false, narrowed := true }
def CrewPlannedUptoSaid : Prop := crewPlannedUptoRow.holds Tryz.pinned (OpenSpec.upto crewPlannedSpec)

end Rows
end Go.Proofs.YtpfmkhhhamdpeaaGreat
