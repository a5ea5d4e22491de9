/-
  No cell of these rows narrows 'for every input' (looked for: loops, veiled, ifaces, maps, wideKeys, modest, calm, conditions, laid).
  DERIVED. THE GIVEN ROWS OF THIS SEAT. 10 by the template 'for every input the law returns true; each argument reads behind the call as it read before'; 0 by the template 'total and deterministic' (their statements: YtlbmcojegiabpaaTotals.lean).
  GIVEN WITH THE SEED: the statements are not yours to turn. If you find one false, say at which input.
  Laid BY PROGRAM, IN A SANDBOX (cutbox-rows.mjs): the forced cells as the released guide's own fill.sh prints them over the translation f98359b496ddaade… (all of the seat's roots in one cut). By AI agents, Wed Nov 11 2026. No macro, syntax, notation, axiom, sorry.
-/
import Derived.Test.YtlbmcojegiabpaaChecked
import GoSem.Claim
import GoSem.ClaimJoined
import GoSem.ClaimMapViews
import Derived.JoinedTies
import Derived.KernelRfl
namespace Go.Proofs.Ytlbmcojegiabpaa
/- THE CELL 'sum', in the pinned program and in every row, IS THE sha256 OF THE DUMP (.gsa) THAT YtlbmcojegiabpaaProg.lean LOADS. Nothing in Lean hashes anything: it is a label: what it is worth is what the hold of that sum in a sandbox is worth. -/
noncomputable def Try.pinned : Pinned := { name := "ytlbmcojegiabpaa", sum := "f98359b496ddaade441e22e7e08da30da59939bacbf828ae34b8f27c7c049b3a", checked := Try.checked }
namespace Rows
def none {H : Type} : Left H := { results := [], args := [] }

/-- 'nilometerlaw09.ShareRights': WHATEVER THE INPUT: true; the input reads as it did. -/
def shareRightsSpec : ChangeSpec := { name := "shareRights", fn := fun _ => fun
  | [d1, d2, d3] => { results := [.lit (.bool true)], args := [d1, d2, d3] }
  | _ => none }
def shareRightsRow : OpenClaim := { program := "ytlbmcojegiabpaa", sum := "f98359b496ddaade441e22e7e08da30da59939bacbf828ae34b8f27c7c049b3a", func := "nilometer/nilometerlaw09.ShareRights", spec := "shareRights", unfollowed := true, recurses := true, apart := false }
def ShareRightsSaid : Prop := shareRightsRow.holds Try.pinned (OpenSpec.ofChange shareRightsSpec)

/-- ITS FALSE NEIGHBOUR: 'it returns false'. Refute it at one input. -/
def shareRightsWrong : ChangeSpec := { name := "shareRights", fn := fun _ => fun
  | [d1, d2, d3] => { results := [.lit (.bool false)], args := [d1, d2, d3] }
  | _ => none }
def ShareRightsWrongFalsely : Prop := shareRightsRow.holds Try.pinned (OpenSpec.ofChange shareRightsWrong)

/-- 'nilometerlaw09.SharePaid': WHATEVER THE INPUT: true; the input reads as it did. -/
def sharePaidSpec : ChangeSpec := { name := "sharePaid", fn := fun _ => fun
  | [d1, d2] => { results := [.lit (.bool true)], args := [d1, d2] }
  | _ => none }
def sharePaidRow : OpenClaim := { program := "ytlbmcojegiabpaa", sum := "f98359b496ddaade441e22e7e08da30da59939bacbf828ae34b8f27c7c049b3a", func := "nilometer/nilometerlaw09.SharePaid", spec := "sharePaid", unfollowed := true, recurses := true, apart := false }
def SharePaidSaid : Prop := sharePaidRow.holds Try.pinned (OpenSpec.ofChange sharePaidSpec)

/-- ITS FALSE NEIGHBOUR: 'it returns false'. Refute it at one input. -/
def sharePaidWrong : ChangeSpec := { name := "sharePaid", fn := fun _ => fun
  | [d1, d2] => { results := [.lit (.bool false)], args := [d1, d2] }
  | _ => none }
def SharePaidWrongFalsely : Prop := sharePaidRow.holds Try.pinned (OpenSpec.ofChange sharePaidWrong)

/-- 'nilometerlaw09.ShareMore': WHATEVER THE INPUT: true; the input reads as it did. -/
def shareMoreSpec : ChangeSpec := { name := "shareMore", fn := fun _ => fun
  | [d1, d2, d3] => { results := [.lit (.bool true)], args := [d1, d2, d3] }
  | _ => none }
def shareMoreRow : OpenClaim := { program := "ytlbmcojegiabpaa", sum := "f98359b496ddaade441e22e7e08da30da59939bacbf828ae34b8f27c7c049b3a", func := "nilometer/nilometerlaw09.ShareMore", spec := "shareMore", unfollowed := true, recurses := true, apart := false }
def ShareMoreSaid : Prop := shareMoreRow.holds Try.pinned (OpenSpec.ofChange shareMoreSpec)

/-- ITS FALSE NEIGHBOUR: 'it returns false'. Refute it at one input. -/
def shareMoreWrong : ChangeSpec := { name := "shareMore", fn := fun _ => fun
  | [d1, d2, d3] => { results := [.lit (.bool false)], args := [d1, d2, d3] }
  | _ => none }
def ShareMoreWrongFalsely : Prop := shareMoreRow.holds Try.pinned (OpenSpec.ofChange shareMoreWrong)

/-- 'nilometerlaw09.ShareTurns': WHATEVER THE INPUT: true; the input reads as it did. -/
def shareTurnsSpec : ChangeSpec := { name := "shareTurns", fn := fun _ => fun
  | [d1, d2, d3, d4, d5, d6, d7] => { results := [.lit (.bool true)], args := [d1, d2, d3, d4, d5, d6, d7] }
  | _ => none }
def shareTurnsRow : OpenClaim := { program := "ytlbmcojegiabpaa", sum := "f98359b496ddaade441e22e7e08da30da59939bacbf828ae34b8f27c7c049b3a", func := "nilometer/nilometerlaw09.ShareTurns", spec := "shareTurns", unfollowed := true, recurses := true, apart := false }
def ShareTurnsSaid : Prop := shareTurnsRow.holds Try.pinned (OpenSpec.ofChange shareTurnsSpec)

/-- ITS FALSE NEIGHBOUR: 'it returns false'. Refute it at one input. -/
def shareTurnsWrong : ChangeSpec := { name := "shareTurns", fn := fun _ => fun
  | [d1, d2, d3, d4, d5, d6, d7] => { results := [.lit (.bool false)], args := [d1, d2, d3, d4, d5, d6, d7] }
  | _ => none }
def ShareTurnsWrongFalsely : Prop := shareTurnsRow.holds Try.pinned (OpenSpec.ofChange shareTurnsWrong)

/-- 'nilometerlaw09.ShareDivided': WHATEVER THE INPUT: true; the input reads as it did. -/
def shareDividedSpec : ChangeSpec := { name := "shareDivided", fn := fun _ => fun
  | [d1, d2, d3, d4] => { results := [.lit (.bool true)], args := [d1, d2, d3, d4] }
  | _ => none }
def shareDividedRow : OpenClaim := { program := "ytlbmcojegiabpaa", sum := "f98359b496ddaade441e22e7e08da30da59939bacbf828ae34b8f27c7c049b3a", func := "nilometer/nilometerlaw09.ShareDivided", spec := "shareDivided", unfollowed := true, recurses := true, apart := false }
def ShareDividedSaid : Prop := shareDividedRow.holds Try.pinned (OpenSpec.ofChange shareDividedSpec)

/-- ITS FALSE NEIGHBOUR: 'it returns false'. Refute it at one input. -/
def shareDividedWrong : ChangeSpec := { name := "shareDivided", fn := fun _ => fun
  | [d1, d2, d3, d4] => { results := [.lit (.bool false)], args := [d1, d2, d3, d4] }
  | _ => none }
def ShareDividedWrongFalsely : Prop := shareDividedRow.holds Try.pinned (OpenSpec.ofChange shareDividedWrong)

/-- 'nilometerlaw09.ShareDebts': WHATEVER THE INPUT: true; the input reads as it did. -/
def shareDebtsSpec : ChangeSpec := { name := "shareDebts", fn := fun _ => fun
  | [d1, d2, d3, d4, d5] => { results := [.lit (.bool true)], args := [d1, d2, d3, d4, d5] }
  | _ => none }
def shareDebtsRow : OpenClaim := { program := "ytlbmcojegiabpaa", sum := "f98359b496ddaade441e22e7e08da30da59939bacbf828ae34b8f27c7c049b3a", func := "nilometer/nilometerlaw09.ShareDebts", spec := "shareDebts", unfollowed := true, recurses := true, apart := false }
def ShareDebtsSaid : Prop := shareDebtsRow.holds Try.pinned (OpenSpec.ofChange shareDebtsSpec)

/-- ITS FALSE NEIGHBOUR: 'it returns false'. Refute it at one input. -/
def shareDebtsWrong : ChangeSpec := { name := "shareDebts", fn := fun _ => fun
  | [d1, d2, d3, d4, d5] => { results := [.lit (.bool false)], args := [d1, d2, d3, d4, d5] }
  | _ => none }
def ShareDebtsWrongFalsely : Prop := shareDebtsRow.holds Try.pinned (OpenSpec.ofChange shareDebtsWrong)

/-- 'nilometerlaw09.ShareOwed': WHATEVER THE INPUT: true; the input reads as it did. -/
def shareOwedSpec : ChangeSpec := { name := "shareOwed", fn := fun _ => fun
  | [d1, d2] => { results := [.lit (.bool true)], args := [d1, d2] }
  | _ => none }
def shareOwedRow : OpenClaim := { program := "ytlbmcojegiabpaa", sum := "f98359b496ddaade441e22e7e08da30da59939bacbf828ae34b8f27c7c049b3a", func := "nilometer/nilometerlaw09.ShareOwed", spec := "shareOwed", unfollowed := true, recurses := true, apart := false }
def ShareOwedSaid : Prop := shareOwedRow.holds Try.pinned (OpenSpec.ofChange shareOwedSpec)

/-- ITS FALSE NEIGHBOUR: 'it returns false'. Refute it at one input. -/
def shareOwedWrong : ChangeSpec := { name := "shareOwed", fn := fun _ => fun
  | [d1, d2] => { results := [.lit (.bool false)], args := [d1, d2] }
  | _ => none }
def ShareOwedWrongFalsely : Prop := shareOwedRow.holds Try.pinned (OpenSpec.ofChange shareOwedWrong)

/-- 'nilometerlaw09.ShareLess': WHATEVER THE INPUT: true; the input reads as it did. -/
def shareLessSpec : ChangeSpec := { name := "shareLess", fn := fun _ => fun
  | [d1, d2, d3, d4, d5] => { results := [.lit (.bool true)], args := [d1, d2, d3, d4, d5] }
  | _ => none }
def shareLessRow : OpenClaim := { program := "ytlbmcojegiabpaa", sum := "f98359b496ddaade441e22e7e08da30da59939bacbf828ae34b8f27c7c049b3a", func := "nilometer/nilometerlaw09.ShareLess", spec := "shareLess", unfollowed := true, recurses := true, apart := false }
def ShareLessSaid : Prop := shareLessRow.holds Try.pinned (OpenSpec.ofChange shareLessSpec)

/-- ITS FALSE NEIGHBOUR: 'it returns false'. Refute it at one input. -/
def shareLessWrong : ChangeSpec := { name := "shareLess", fn := fun _ => fun
  | [d1, d2, d3, d4, d5] => { results := [.lit (.bool false)], args := [d1, d2, d3, d4, d5] }
  | _ => none }
def ShareLessWrongFalsely : Prop := shareLessRow.holds Try.pinned (OpenSpec.ofChange shareLessWrong)

/-- 'nilometerlaw09.ShareRecorded': WHATEVER THE INPUT: true; the input reads as it did. -/
def shareRecordedSpec : ChangeSpec := { name := "shareRecorded", fn := fun _ => fun
  | [d1, d2, d3, d4, d5] => { results := [.lit (.bool true)], args := [d1, d2, d3, d4, d5] }
  | _ => none }
def shareRecordedRow : OpenClaim := { program := "ytlbmcojegiabpaa", sum := "f98359b496ddaade441e22e7e08da30da59939bacbf828ae34b8f27c7c049b3a", func := "nilometer/nilometerlaw09.ShareRecorded", spec := "shareRecorded", unfollowed := true, recurses := true, apart := false }
def ShareRecordedSaid : Prop := shareRecordedRow.holds Try.pinned (OpenSpec.ofChange shareRecordedSpec)

/-- ITS FALSE NEIGHBOUR: 'it returns false'. Refute it at one input. -/
def shareRecordedWrong : ChangeSpec := { name := "shareRecorded", fn := fun _ => fun
  | [d1, d2, d3, d4, d5] => { results := [.lit (.bool false)], args := [d1, d2, d3, d4, d5] }
  | _ => none }
def ShareRecordedWrongFalsely : Prop := shareRecordedRow.holds Try.pinned (OpenSpec.ofChange shareRecordedWrong)

/-- 'nilometerlaw09.ShareServed': WHATEVER THE INPUT: true; the input reads as it did. -/
def shareServedSpec : ChangeSpec := { name := "shareServed", fn := fun _ => fun
  | [d1, d2, d3, d4] => { results := [.lit (.bool true)], args := [d1, d2, d3, d4] }
  | _ => none }
def shareServedRow : OpenClaim := { program := "ytlbmcojegiabpaa", sum := "f98359b496ddaade441e22e7e08da30da59939bacbf828ae34b8f27c7c049b3a", func := "nilometer/nilometerlaw09.ShareServed", spec := "shareServed", inPlace := ["slices.overlaps[nilometer/share.Right]"], unfollowed := true, recurses := true, apart := false }
def ShareServedSaid : Prop := shareServedRow.holds Try.pinned (OpenSpec.ofChange shareServedSpec)

/-- ITS FALSE NEIGHBOUR: 'it returns false'. Refute it at one input. -/
def shareServedWrong : ChangeSpec := { name := "shareServed", fn := fun _ => fun
  | [d1, d2, d3, d4] => { results := [.lit (.bool false)], args := [d1, d2, d3, d4] }
  | _ => none }
def ShareServedWrongFalsely : Prop := shareServedRow.holds Try.pinned (OpenSpec.ofChange shareServedWrong)

/- THE SECOND FORM. 'bulk': how many values and letters a reading holds, each counted each time it is reached (what is shared counts as often as it is met; a slice's spare places count too). A statement '..UptoSaid' is the law's where the arguments, and the package variables that the reading takes, are together of bulk at most 1048576: NARROWER than '..Said'. Prove '..Said' where nothing that the law and all that it calls make is longer than what came in: it says more and counts as full. Else prove '..UptoSaid'. A law counts once. -/
mutual
def uptoBulk {H : Type} : DataW H → Nat
  | .lit (.string bytes) => bytes.length + 1
  | .lit _ => 1
  | .nil => 1
  | .ptr d => uptoBulk d + 1
  | .slice elems spare => uptoBulkAll elems + uptoBulkAll spare + 1
  | .agg parts => uptoBulkAll parts + 1
  | .iface _ d => uptoBulk d + 1
  | .map entries => uptoBulkEntries entries + 1
  | .held _ => 1
def uptoBulkAll {H : Type} : List (DataW H) → Nat
  | [] => 0
  | d :: r => uptoBulk d + uptoBulkAll r
def uptoBulkEntries {H : Type} : List (Lit × DataW H) → Nat
  | [] => 0
  | x :: r => uptoBulkEntry x + uptoBulkEntries r
def uptoBulkEntry {H : Type} : Lit × DataW H → Nat
  | (.string bytes, d) => bytes.length + uptoBulk d + 1
  | (_, d) => uptoBulk d + 1
 end
def uptoSmall : (H : Type) → List (DataW H) → Bool := fun _ ds => decide (uptoBulkAll ds ≤ 1048576)
def OpenSpec.upto (s : _root_.Go.ChangeSpec) : _root_.Go.OpenSpec := { _root_.Go.OpenSpec.ofChange s with cond := some uptoSmall }

/-- 'nilometerlaw09.ShareRights', WHERE WHAT IT READS IS OF BULK AT MOST 1048576: true; the input reads as it did. -/
def shareRightsUptoRow : OpenClaim := { program := "ytlbmcojegiabpaa", sum := "f98359b496ddaade441e22e7e08da30da59939bacbf828ae34b8f27c7c049b3a", func := "nilometer/nilometerlaw09.ShareRights", spec := "shareRights", unfollowed := true, recurses := true, apart := false, narrowed := true }
def ShareRightsUptoSaid : Prop := shareRightsUptoRow.holds Try.pinned (OpenSpec.upto shareRightsSpec)

/-- 'nilometerlaw09.SharePaid', WHERE WHAT IT READS IS OF BULK AT MOST 1048576: true; the input reads as it did. -/
def sharePaidUptoRow : OpenClaim := { program := "ytlbmcojegiabpaa", sum := "f98359b496ddaade441e22e7e08da30da59939bacbf828ae34b8f27c7c049b3a", func := "nilometer/nilometerlaw09.SharePaid", spec := "sharePaid", unfollowed := true, recurses := true, apart := false, narrowed := true }
def SharePaidUptoSaid : Prop := sharePaidUptoRow.holds Try.pinned (OpenSpec.upto sharePaidSpec)

/-- 'nilometerlaw09.ShareMore', WHERE WHAT IT READS IS OF BULK AT MOST 1048576: true; the input reads as it did. -/
def shareMoreUptoRow : OpenClaim := { program := "ytlbmcojegiabpaa", sum := "f98359b496ddaade441e22e7e08da30da59939bacbf828ae34b8f27c7c049b3a", func := "nilometer/nilometerlaw09.ShareMore", spec := "shareMore", unfollowed := true, recurses := true, apart := false, narrowed := true }
def ShareMoreUptoSaid : Prop := shareMoreUptoRow.holds Try.pinned (OpenSpec.upto shareMoreSpec)

/-- 'nilometerlaw09.ShareTurns', WHERE WHAT IT READS IS OF BULK AT MOST 1048576: true; the input reads as it did. -/
def shareTurnsUptoRow : OpenClaim := { program := "ytlbmcojegiabpaa", sum := "f98359b496ddaade441e22e7e08da30da59939bacbf828ae34b8f27c7c049b3a", func := "nilometer/nilometerlaw09.ShareTurns", spec := "shareTurns", unfollowed := true, recurses := true, apart := false, narrowed := true }
def ShareTurnsUptoSaid : Prop := shareTurnsUptoRow.holds Try.pinned (OpenSpec.upto shareTurnsSpec)

/-- 'nilometerlaw09.ShareDivided', WHERE WHAT IT READS IS OF BULK AT MOST 1048576: true; the input reads as it did. -/
def shareDividedUptoRow : OpenClaim := { program := "ytlbmcojegiabpaa", sum := "f98359b496ddaade441e22e7e08da30da59939bacbf828ae34b8f27c7c049b3a", func := "nilometer/nilometerlaw09.ShareDivided", spec := "shareDivided", unfollowed := true, recurses := true, apart := false, narrowed := true }
def ShareDividedUptoSaid : Prop := shareDividedUptoRow.holds Try.pinned (OpenSpec.upto shareDividedSpec)

/-- 'nilometerlaw09.ShareDebts', WHERE WHAT IT READS IS OF BULK AT MOST 1048576: true; the input reads as it did. -/
def shareDebtsUptoRow : OpenClaim := { program := "ytlbmcojegiabpaa", sum := "f98359b496ddaade441e22e7e08da30da59939bacbf828ae34b8f27c7c049b3a", func := "nilometer/nilometerlaw09.ShareDebts", spec := "shareDebts", unfollowed := true, recurses := true, apart := false, narrowed := true }
def ShareDebtsUptoSaid : Prop := shareDebtsUptoRow.holds Try.pinned (OpenSpec.upto shareDebtsSpec)

/-- 'nilometerlaw09.ShareOwed', WHERE WHAT IT READS IS OF BULK AT MOST 1048576: true; the input reads as it did. -/
def shareOwedUptoRow : OpenClaim := { program := "ytlbmcojegiabpaa", sum := "f98359b496ddaade441e22e7e08da30da59939bacbf828ae34b8f27c7c049b3a", func := "nilometer/nilometerlaw09.ShareOwed", spec := "shareOwed", unfollowed := true, recurses := true, apart := false, narrowed := true }
def ShareOwedUptoSaid : Prop := shareOwedUptoRow.holds Try.pinned (OpenSpec.upto shareOwedSpec)

/-- 'nilometerlaw09.ShareLess', WHERE WHAT IT READS IS OF BULK AT MOST 1048576: true; the input reads as it did. -/
def shareLessUptoRow : OpenClaim := { program := "ytlbmcojegiabpaa", sum := "f98359b496ddaade441e22e7e08da30da59939bacbf828ae34b8f27c7c049b3a", func := "nilometer/nilometerlaw09.ShareLess", spec := "shareLess", unfollowed := true, recurses := true, apart := false, narrowed := true }
def ShareLessUptoSaid : Prop := shareLessUptoRow.holds Try.pinned (OpenSpec.upto shareLessSpec)

/-- 'nilometerlaw09.ShareRecorded', WHERE WHAT IT READS IS OF BULK AT MOST 1048576: true; the input reads as it did. -/
def shareRecordedUptoRow : OpenClaim := { program := "ytlbmcojegiabpaa", sum := "f98359b496ddaade441e22e7e08da30da59939bacbf828ae34b8f27c7c049b3a", func := "nilometer/nilometerlaw09.ShareRecorded", spec := "shareRecorded", unfollowed := true, recurses := true, apart := false, narrowed := true }
def ShareRecordedUptoSaid : Prop := shareRecordedUptoRow.holds Try.pinned (OpenSpec.upto shareRecordedSpec)

/-- 'nilometerlaw09.ShareServed', WHERE WHAT IT READS IS OF BULK AT MOST 1048576: true; the input reads as it did. -/
def shareServedUptoRow : OpenClaim := { program := "ytlbmcojegiabpaa", sum := "f98359b496ddaade441e22e7e08da30da59939bacbf828ae34b8f27c7c049b3a", func := "nilometer/nilometerlaw09.ShareServed", spec := "shareServed", inPlace := ["slices.overlaps[nilometer/share.Right]"], unfollowed := true, recurses := true, apart := false, narrowed := true }
def ShareServedUptoSaid : Prop := shareServedUptoRow.holds Try.pinned (OpenSpec.upto shareServedSpec)

end Rows
end Go.Proofs.Ytlbmcojegiabpaa
