/-
  No cell of these rows narrows 'for every input' (looked for: loops, veiled, ifaces, maps, wideKeys, modest, calm, conditions, laid).
  DERIVED. THE GIVEN ROWS OF THIS SEAT. 9 by the template 'for every input the law returns true; each argument reads behind the call as it read before'; 0 by the template 'total and deterministic' (their statements: YtepopogbmjfpeaaTotals.lean).
  GIVEN WITH THE SEED: the statements are not yours to turn. If you find one false, say at which input.
  Laid BY PROGRAM, IN A SANDBOX (cutbox-rows.mjs): the forced cells as the released guide's own fill.sh prints them over the translation dfe53f950ecf1d5d… (all of the seat's roots in one cut). By AI agents, Wed Nov 11 2026. No macro, syntax, notation, axiom, sorry.
-/
import Derived.Test.YtepopogbmjfpeaaChecked
import GoSem.Claim
import GoSem.ClaimJoined
import GoSem.ClaimMapViews
import Derived.JoinedTies
import Derived.KernelRfl
namespace Go.Proofs.Ytepopogbmjfpeaa
/- THE CELL 'sum', in the pinned program and in every row, IS THE sha256 OF THE DUMP (.gsa) THAT YtepopogbmjfpeaaProg.lean LOADS. Nothing in Lean hashes anything: it is a label: what it is worth is what the hold of that sum in a sandbox is worth. -/
noncomputable def Try.pinned : Pinned := { name := "ytepopogbmjfpeaa", sum := "dfe53f950ecf1d5da8d51ac72cdb0dcfd591941413fee96485bbc9a8835224c4", checked := Try.checked }
namespace Rows
def none {H : Type} : Left H := { results := [], args := [] }

/-- 'nilometerlaw05.ShiftMeans': WHATEVER THE INPUT: true; the input reads as it did. -/
def shiftMeansSpec : ChangeSpec := { name := "shiftMeans", fn := fun _ => fun
  | [d1, d2, d3, d4, d5] => { results := [.lit (.bool true)], args := [d1, d2, d3, d4, d5] }
  | _ => none }
def shiftMeansRow : OpenClaim := { program := "ytepopogbmjfpeaa", sum := "dfe53f950ecf1d5da8d51ac72cdb0dcfd591941413fee96485bbc9a8835224c4", func := "nilometer/nilometerlaw05.ShiftMeans", spec := "shiftMeans", inPlace := ["slices.overlaps[nilometer/api.Span]"], unfollowed := true, recurses := true, apart := false }
def ShiftMeansSaid : Prop := shiftMeansRow.holds Try.pinned (OpenSpec.ofChange shiftMeansSpec)

/-- ITS FALSE NEIGHBOUR: 'it returns false'. Refute it at one input. -/
def shiftMeansWrong : ChangeSpec := { name := "shiftMeans", fn := fun _ => fun
  | [d1, d2, d3, d4, d5] => { results := [.lit (.bool false)], args := [d1, d2, d3, d4, d5] }
  | _ => none }
def ShiftMeansWrongFalsely : Prop := shiftMeansRow.holds Try.pinned (OpenSpec.ofChange shiftMeansWrong)

/-- 'nilometerlaw05.ShiftSeasons': WHATEVER THE INPUT: true; the input reads as it did. -/
def shiftSeasonsSpec : ChangeSpec := { name := "shiftSeasons", fn := fun _ => fun
  | [d1, d2, d3, d4] => { results := [.lit (.bool true)], args := [d1, d2, d3, d4] }
  | _ => none }
def shiftSeasonsRow : OpenClaim := { program := "ytepopogbmjfpeaa", sum := "dfe53f950ecf1d5da8d51ac72cdb0dcfd591941413fee96485bbc9a8835224c4", func := "nilometer/nilometerlaw05.ShiftSeasons", spec := "shiftSeasons", inPlace := ["slices.overlaps[nilometer/api.Span]"], unfollowed := true, recurses := true, apart := false }
def ShiftSeasonsSaid : Prop := shiftSeasonsRow.holds Try.pinned (OpenSpec.ofChange shiftSeasonsSpec)

/-- ITS FALSE NEIGHBOUR: 'it returns false'. Refute it at one input. -/
def shiftSeasonsWrong : ChangeSpec := { name := "shiftSeasons", fn := fun _ => fun
  | [d1, d2, d3, d4] => { results := [.lit (.bool false)], args := [d1, d2, d3, d4] }
  | _ => none }
def ShiftSeasonsWrongFalsely : Prop := shiftSeasonsRow.holds Try.pinned (OpenSpec.ofChange shiftSeasonsWrong)

/-- 'nilometerlaw05.ShiftSeasoned': WHATEVER THE INPUT: true; the input reads as it did. -/
def shiftSeasonedSpec : ChangeSpec := { name := "shiftSeasoned", fn := fun _ => fun
  | [d1, d2] => { results := [.lit (.bool true)], args := [d1, d2] }
  | _ => none }
def shiftSeasonedRow : OpenClaim := { program := "ytepopogbmjfpeaa", sum := "dfe53f950ecf1d5da8d51ac72cdb0dcfd591941413fee96485bbc9a8835224c4", func := "nilometer/nilometerlaw05.ShiftSeasoned", spec := "shiftSeasoned", inPlace := ["slices.overlaps[nilometer/api.Span]"], unfollowed := true, recurses := true, apart := false }
def ShiftSeasonedSaid : Prop := shiftSeasonedRow.holds Try.pinned (OpenSpec.ofChange shiftSeasonedSpec)

/-- ITS FALSE NEIGHBOUR: 'it returns false'. Refute it at one input. -/
def shiftSeasonedWrong : ChangeSpec := { name := "shiftSeasoned", fn := fun _ => fun
  | [d1, d2] => { results := [.lit (.bool false)], args := [d1, d2] }
  | _ => none }
def ShiftSeasonedWrongFalsely : Prop := shiftSeasonedRow.holds Try.pinned (OpenSpec.ofChange shiftSeasonedWrong)

/-- 'nilometerlaw05.ShiftDays': WHATEVER THE INPUT: true; the input reads as it did. -/
def shiftDaysSpec : ChangeSpec := { name := "shiftDays", fn := fun _ => fun
  | [d1, d2, d3, d4, d5] => { results := [.lit (.bool true)], args := [d1, d2, d3, d4, d5] }
  | _ => none }
def shiftDaysRow : OpenClaim := { program := "ytepopogbmjfpeaa", sum := "dfe53f950ecf1d5da8d51ac72cdb0dcfd591941413fee96485bbc9a8835224c4", func := "nilometer/nilometerlaw05.ShiftDays", spec := "shiftDays", inPlace := ["slices.overlaps[int]", "slices.overlaps[nilometer/api.Span]"], unfollowed := true, recurses := true, apart := false }
def ShiftDaysSaid : Prop := shiftDaysRow.holds Try.pinned (OpenSpec.ofChange shiftDaysSpec)

/-- ITS FALSE NEIGHBOUR: 'it returns false'. Refute it at one input. -/
def shiftDaysWrong : ChangeSpec := { name := "shiftDays", fn := fun _ => fun
  | [d1, d2, d3, d4, d5] => { results := [.lit (.bool false)], args := [d1, d2, d3, d4, d5] }
  | _ => none }
def ShiftDaysWrongFalsely : Prop := shiftDaysRow.holds Try.pinned (OpenSpec.ofChange shiftDaysWrong)

/-- 'nilometerlaw05.ShiftMeant': WHATEVER THE INPUT: true; the input reads as it did. -/
def shiftMeantSpec : ChangeSpec := { name := "shiftMeant", fn := fun _ => fun
  | [d1, d2, d3, d4, d5, d6] => { results := [.lit (.bool true)], args := [d1, d2, d3, d4, d5, d6] }
  | _ => none }
def shiftMeantRow : OpenClaim := { program := "ytepopogbmjfpeaa", sum := "dfe53f950ecf1d5da8d51ac72cdb0dcfd591941413fee96485bbc9a8835224c4", func := "nilometer/nilometerlaw05.ShiftMeant", spec := "shiftMeant", inPlace := ["slices.overlaps[nilometer/shift.Mark]", "slices.overlaps[nilometer/api.Span]"], unfollowed := true, recurses := true, apart := false }
def ShiftMeantSaid : Prop := shiftMeantRow.holds Try.pinned (OpenSpec.ofChange shiftMeantSpec)

/-- ITS FALSE NEIGHBOUR: 'it returns false'. Refute it at one input. -/
def shiftMeantWrong : ChangeSpec := { name := "shiftMeant", fn := fun _ => fun
  | [d1, d2, d3, d4, d5, d6] => { results := [.lit (.bool false)], args := [d1, d2, d3, d4, d5, d6] }
  | _ => none }
def ShiftMeantWrongFalsely : Prop := shiftMeantRow.holds Try.pinned (OpenSpec.ofChange shiftMeantWrong)

/-- 'nilometerlaw05.ShiftMore': WHATEVER THE INPUT: true; the input reads as it did. -/
def shiftMoreSpec : ChangeSpec := { name := "shiftMore", fn := fun _ => fun
  | [d1, d2, d3, d4] => { results := [.lit (.bool true)], args := [d1, d2, d3, d4] }
  | _ => none }
def shiftMoreRow : OpenClaim := { program := "ytepopogbmjfpeaa", sum := "dfe53f950ecf1d5da8d51ac72cdb0dcfd591941413fee96485bbc9a8835224c4", func := "nilometer/nilometerlaw05.ShiftMore", spec := "shiftMore", inPlace := ["slices.overlaps[nilometer/api.Span]"], unfollowed := true, recurses := true, apart := false }
def ShiftMoreSaid : Prop := shiftMoreRow.holds Try.pinned (OpenSpec.ofChange shiftMoreSpec)

/-- ITS FALSE NEIGHBOUR: 'it returns false'. Refute it at one input. -/
def shiftMoreWrong : ChangeSpec := { name := "shiftMore", fn := fun _ => fun
  | [d1, d2, d3, d4] => { results := [.lit (.bool false)], args := [d1, d2, d3, d4] }
  | _ => none }
def ShiftMoreWrongFalsely : Prop := shiftMoreRow.holds Try.pinned (OpenSpec.ofChange shiftMoreWrong)

/-- 'nilometerlaw05.ShiftProved': WHATEVER THE INPUT: true; the input reads as it did. -/
def shiftProvedSpec : ChangeSpec := { name := "shiftProved", fn := fun _ => fun
  | [d1, d2, d3] => { results := [.lit (.bool true)], args := [d1, d2, d3] }
  | _ => none }
def shiftProvedRow : OpenClaim := { program := "ytepopogbmjfpeaa", sum := "dfe53f950ecf1d5da8d51ac72cdb0dcfd591941413fee96485bbc9a8835224c4", func := "nilometer/nilometerlaw05.ShiftProved", spec := "shiftProved", inPlace := ["slices.overlaps[nilometer/api.Span]"], unfollowed := true, recurses := true, apart := false }
def ShiftProvedSaid : Prop := shiftProvedRow.holds Try.pinned (OpenSpec.ofChange shiftProvedSpec)

/-- ITS FALSE NEIGHBOUR: 'it returns false'. Refute it at one input. -/
def shiftProvedWrong : ChangeSpec := { name := "shiftProved", fn := fun _ => fun
  | [d1, d2, d3] => { results := [.lit (.bool false)], args := [d1, d2, d3] }
  | _ => none }
def ShiftProvedWrongFalsely : Prop := shiftProvedRow.holds Try.pinned (OpenSpec.ofChange shiftProvedWrong)

/-- 'nilometerlaw05.ShiftMeasured': WHATEVER THE INPUT: true; the input reads as it did. -/
def shiftMeasuredSpec : ChangeSpec := { name := "shiftMeasured", fn := fun _ => fun
  | [d1, d2, d3, d4, d5] => { results := [.lit (.bool true)], args := [d1, d2, d3, d4, d5] }
  | _ => none }
def shiftMeasuredRow : OpenClaim := { program := "ytepopogbmjfpeaa", sum := "dfe53f950ecf1d5da8d51ac72cdb0dcfd591941413fee96485bbc9a8835224c4", func := "nilometer/nilometerlaw05.ShiftMeasured", spec := "shiftMeasured", inPlace := ["slices.overlaps[nilometer/shift.Mark]", "slices.overlaps[nilometer/api.Span]"], unfollowed := true, recurses := true, apart := false }
def ShiftMeasuredSaid : Prop := shiftMeasuredRow.holds Try.pinned (OpenSpec.ofChange shiftMeasuredSpec)

/-- ITS FALSE NEIGHBOUR: 'it returns false'. Refute it at one input. -/
def shiftMeasuredWrong : ChangeSpec := { name := "shiftMeasured", fn := fun _ => fun
  | [d1, d2, d3, d4, d5] => { results := [.lit (.bool false)], args := [d1, d2, d3, d4, d5] }
  | _ => none }
def ShiftMeasuredWrongFalsely : Prop := shiftMeasuredRow.holds Try.pinned (OpenSpec.ofChange shiftMeasuredWrong)

/-- 'nilometerlaw05.ShiftStaff': WHATEVER THE INPUT: true; the input reads as it did. -/
def shiftStaffSpec : ChangeSpec := { name := "shiftStaff", fn := fun _ => fun
  | [d1, d2, d3] => { results := [.lit (.bool true)], args := [d1, d2, d3] }
  | _ => none }
def shiftStaffRow : OpenClaim := { program := "ytepopogbmjfpeaa", sum := "dfe53f950ecf1d5da8d51ac72cdb0dcfd591941413fee96485bbc9a8835224c4", func := "nilometer/nilometerlaw05.ShiftStaff", spec := "shiftStaff", inPlace := ["slices.overlaps[nilometer/api.Span]"], unfollowed := true, recurses := true, apart := false }
def ShiftStaffSaid : Prop := shiftStaffRow.holds Try.pinned (OpenSpec.ofChange shiftStaffSpec)

/-- ITS FALSE NEIGHBOUR: 'it returns false'. Refute it at one input. -/
def shiftStaffWrong : ChangeSpec := { name := "shiftStaff", fn := fun _ => fun
  | [d1, d2, d3] => { results := [.lit (.bool false)], args := [d1, d2, d3] }
  | _ => none }
def ShiftStaffWrongFalsely : Prop := shiftStaffRow.holds Try.pinned (OpenSpec.ofChange shiftStaffWrong)

/- THE SECOND FORM. 'bulk': how many values and letters a reading holds, each counted each time it is reached (what is shared counts as often as it is met; a slice's spare places count too). A statement '..UptoSaid' is the law's where the arguments, and the package variables that the reading takes, are together of bulk at most 1048576: NARROWER than '..Said'. Prove '..Said' where nothing that the law and all that it calls make is longer than what came in: it says more and counts as full. Else prove '..UptoSaid'. A law counts once. -/
mutual
def uptoBulk {H : Type} : DataW H → Nat
  | .lit (.string bytes) => bytes.length + 1
  | .lit _ => 1
  | .nil => 1
  | .ptr d => uptoBulk d + 1
  | .slice elems spare => uptoBulkAll elems + uptoBulkAll spare + 1
  | .agg parts => uptoBulkAll parts + 1
  | .iface _ d => uptoBulk d + 1
  | .map entries => uptoBulkEntries entries + 1
  | .held _ => 1
def uptoBulkAll {H : Type} : List (DataW H) → Nat
  | [] => 0
  | d :: r => uptoBulk d + uptoBulkAll r
def uptoBulkEntries {H : Type} : List (Lit × DataW H) → Nat
  | [] => 0
  | x :: r => uptoBulkEntry x + uptoBulkEntries r
def uptoBulkEntry {H : Type} : Lit × DataW H → Nat
  | (.string bytes, d) => bytes.length + uptoBulk d + 1
  | (_, d) => uptoBulk d + 1
 end
def uptoSmall : (H : Type) → List (DataW H) → Bool := fun _ ds => decide (uptoBulkAll ds ≤ 1048576)
def OpenSpec.upto (s : _root_.Go.ChangeSpec) : _root_.Go.OpenSpec := { _root_.Go.OpenSpec.ofChange s with cond := some uptoSmall }

/-- 'nilometerlaw05.ShiftMeans', WHERE WHAT IT READS IS OF BULK AT MOST 1048576: true; the input reads as it did. -/
def shiftMeansUptoRow : OpenClaim := { program := "ytepopogbmjfpeaa", sum := "dfe53f950ecf1d5da8d51ac72cdb0dcfd591941413fee96485bbc9a8835224c4", func := "nilometer/nilometerlaw05.ShiftMeans", spec := "shiftMeans", inPlace := ["slices.overlaps[nilometer/api.Span]"], unfollowed := true, recurses := true, apart := false, narrowed := true }
def ShiftMeansUptoSaid : Prop := shiftMeansUptoRow.holds Try.pinned (OpenSpec.upto shiftMeansSpec)

/-- 'nilometerlaw05.ShiftSeasons', WHERE WHAT IT READS IS OF BULK AT MOST 1048576: true; the input reads as it did. -/
def shiftSeasonsUptoRow : OpenClaim := { program := "ytepopogbmjfpeaa", sum := "dfe53f950ecf1d5da8d51ac72cdb0dcfd591941413fee96485bbc9a8835224c4", func := "nilometer/nilometerlaw05.ShiftSeasons", spec := "shiftSeasons", inPlace := ["slices.overlaps[nilometer/api.Span]"], unfollowed := true, recurses := true, apart := false, narrowed := true }
def ShiftSeasonsUptoSaid : Prop := shiftSeasonsUptoRow.holds Try.pinned (OpenSpec.upto shiftSeasonsSpec)

/-- 'nilometerlaw05.ShiftSeasoned', WHERE WHAT IT READS IS OF BULK AT MOST 1048576: true; the input reads as it did. -/
def shiftSeasonedUptoRow : OpenClaim := { program := "ytepopogbmjfpeaa", sum := "dfe53f950ecf1d5da8d51ac72cdb0dcfd591941413fee96485bbc9a8835224c4", func := "nilometer/nilometerlaw05.ShiftSeasoned", spec := "shiftSeasoned", inPlace := ["slices.overlaps[nilometer/api.Span]"], unfollowed := true, recurses := true, apart := false, narrowed := true }
def ShiftSeasonedUptoSaid : Prop := shiftSeasonedUptoRow.holds Try.pinned (OpenSpec.upto shiftSeasonedSpec)

/-- 'nilometerlaw05.ShiftDays', WHERE WHAT IT READS IS OF BULK AT MOST 1048576: true; the input reads as it did. -/
def shiftDaysUptoRow : OpenClaim := { program := "ytepopogbmjfpeaa", sum := "dfe53f950ecf1d5da8d51ac72cdb0dcfd591941413fee96485bbc9a8835224c4", func := "nilometer/nilometerlaw05.ShiftDays", spec := "shiftDays", inPlace := ["slices.overlaps[int]", "slices.overlaps[nilometer/api.Span]"], unfollowed := true, recurses := true, apart := false, narrowed := true }
def ShiftDaysUptoSaid : Prop := shiftDaysUptoRow.holds Try.pinned (OpenSpec.upto shiftDaysSpec)

/-- 'nilometerlaw05.ShiftMeant', WHERE WHAT IT READS IS OF BULK AT MOST 1048576: true; the input reads as it did. -/
def shiftMeantUptoRow : OpenClaim := { program := "ytepopogbmjfpeaa", sum := "dfe53f950ecf1d5da8d51ac72cdb0dcfd591941413fee96485bbc9a8835224c4", func := "nilometer/nilometerlaw05.ShiftMeant", spec := "shiftMeant", inPlace := ["slices.overlaps[nilometer/shift.Mark]", "slices.overlaps[nilometer/api.Span]"], unfollowed := true, recurses := true, apart := false, narrowed := true }
def ShiftMeantUptoSaid : Prop := shiftMeantUptoRow.holds Try.pinned (OpenSpec.upto shiftMeantSpec)

/-- 'nilometerlaw05.ShiftMore', WHERE WHAT IT READS IS OF BULK AT MOST 1048576: true; the input reads as it did. -/
def shiftMoreUptoRow : OpenClaim := { program := "ytepopogbmjfpeaa", sum := "dfe53f950ecf1d5da8d51ac72cdb0dcfd591941413fee96485bbc9a8835224c4", func := "nilometer/nilometerlaw05.ShiftMore", spec := "shiftMore", inPlace := ["slices.overlaps[nilometer/api.Span]"], unfollowed := true, recurses := true, apart := false, narrowed := true }
def ShiftMoreUptoSaid : Prop := shiftMoreUptoRow.holds Try.pinned (OpenSpec.upto shiftMoreSpec)

/-- 'nilometerlaw05.ShiftProved', WHERE WHAT IT READS IS OF BULK AT MOST 1048576: true; the input reads as it did. -/
def shiftProvedUptoRow : OpenClaim := { program := "ytepopogbmjfpeaa", sum := "dfe53f950ecf1d5da8d51ac72cdb0dcfd591941413fee96485bbc9a8835224c4", func := "nilometer/nilometerlaw05.ShiftProved", spec := "shiftProved", inPlace := ["slices.overlaps[nilometer/api.Span]"], unfollowed := true, recurses := true, apart := false, narrowed := true }
def ShiftProvedUptoSaid : Prop := shiftProvedUptoRow.holds Try.pinned (OpenSpec.upto shiftProvedSpec)

/-- 'nilometerlaw05.ShiftMeasured', WHERE WHAT IT READS IS OF BULK AT MOST 1048576: true; the input reads as it did. -/
def shiftMeasuredUptoRow : OpenClaim := { program := "ytepopogbmjfpeaa", sum := "dfe53f950ecf1d5da8d51ac72cdb0dcfd591941413fee96485bbc9a8835224c4", func := "nilometer/nilometerlaw05.ShiftMeasured", spec := "shiftMeasured", inPlace := ["slices.overlaps[nilometer/shift.Mark]", "slices.overlaps[nilometer/api.Span]"], unfollowed := true, recurses := true, apart := false, narrowed := true }
def ShiftMeasuredUptoSaid : Prop := shiftMeasuredUptoRow.holds Try.pinned (OpenSpec.upto shiftMeasuredSpec)

/-- 'nilometerlaw05.ShiftStaff', WHERE WHAT IT READS IS OF BULK AT MOST 1048576: true; the input reads as it did. -/
def shiftStaffUptoRow : OpenClaim := { program := "ytepopogbmjfpeaa", sum := "dfe53f950ecf1d5da8d51ac72cdb0dcfd591941413fee96485bbc9a8835224c4", func := "nilometer/nilometerlaw05.ShiftStaff", spec := "shiftStaff", inPlace := ["slices.overlaps[nilometer/api.Span]"], unfollowed := true, recurses := true, apart := false, narrowed := true }
def ShiftStaffUptoSaid : Prop := shiftStaffUptoRow.holds Try.pinned (OpenSpec.upto shiftStaffSpec)

end Rows
end Go.Proofs.Ytepopogbmjfpeaa
