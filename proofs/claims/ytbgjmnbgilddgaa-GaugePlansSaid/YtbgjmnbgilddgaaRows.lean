/-
  No cell of these rows narrows 'for every input' (looked for: loops, veiled, ifaces, maps, wideKeys, modest, calm, conditions, laid).
  DERIVED. THE GIVEN ROWS OF THIS SEAT. 7 by the template 'for every input the law returns true; each argument reads behind the call as it read before'; 0 by the template 'total and deterministic' (their statements: YtbgjmnbgilddgaaTotals.lean).
  GIVEN WITH THE SEED: the statements are not yours to turn. If you find one false, say at which input.
  Laid BY PROGRAM, IN A SANDBOX (cutbox-rows.mjs): the forced cells as the released guide's own fill.sh prints them over the translation 5c8a91d9479c81d1… (all of the seat's roots in one cut). By AI agents, Wed Nov 11 2026. No macro, syntax, notation, axiom, sorry.
-/
import Derived.Test.YtbgjmnbgilddgaaChecked
import GoSem.Claim
import GoSem.ClaimJoined
import GoSem.ClaimMapViews
import Derived.JoinedTies
import Derived.KernelRfl
namespace Go.Proofs.Ytbgjmnbgilddgaa
/- THE CELL 'sum', in the pinned program and in every row, IS THE sha256 OF THE DUMP (.gsa) THAT YtbgjmnbgilddgaaProg.lean LOADS. Nothing in Lean hashes anything: it is a label: what it is worth is what the hold of that sum in a sandbox is worth. -/
noncomputable def Try.pinned : Pinned := { name := "ytbgjmnbgilddgaa", sum := "5c8a91d9479c81d198d1f8158060efacd053638495c0c34dae74aa4a154b1b13", checked := Try.checked }
namespace Rows
def none {H : Type} : Left H := { results := [], args := [] }

/-- 'nilometerlaw03.GaugeDyed': WHATEVER THE INPUT: true; the input reads as it did. -/
def gaugeDyedSpec : ChangeSpec := { name := "gaugeDyed", fn := fun _ => fun
  | [d1, d2] => { results := [.lit (.bool true)], args := [d1, d2] }
  | _ => none }
def gaugeDyedRow : OpenClaim := { program := "ytbgjmnbgilddgaa", sum := "5c8a91d9479c81d198d1f8158060efacd053638495c0c34dae74aa4a154b1b13", func := "nilometer/nilometerlaw03.GaugeDyed", spec := "gaugeDyed", unfollowed := true, recurses := true, apart := false }
def GaugeDyedSaid : Prop := gaugeDyedRow.holds Try.pinned (OpenSpec.ofChange gaugeDyedSpec)

/-- ITS FALSE NEIGHBOUR: 'it returns false'. Refute it at one input. -/
def gaugeDyedWrong : ChangeSpec := { name := "gaugeDyed", fn := fun _ => fun
  | [d1, d2] => { results := [.lit (.bool false)], args := [d1, d2] }
  | _ => none }
def GaugeDyedWrongFalsely : Prop := gaugeDyedRow.holds Try.pinned (OpenSpec.ofChange gaugeDyedWrong)

/-- 'nilometerlaw03.GaugeTrack': WHATEVER THE INPUT: true; the input reads as it did. -/
def gaugeTrackSpec : ChangeSpec := { name := "gaugeTrack", fn := fun _ => fun
  | [d1, d2] => { results := [.lit (.bool true)], args := [d1, d2] }
  | _ => none }
def gaugeTrackRow : OpenClaim := { program := "ytbgjmnbgilddgaa", sum := "5c8a91d9479c81d198d1f8158060efacd053638495c0c34dae74aa4a154b1b13", func := "nilometer/nilometerlaw03.GaugeTrack", spec := "gaugeTrack", unfollowed := true, recurses := true, apart := false }
def GaugeTrackSaid : Prop := gaugeTrackRow.holds Try.pinned (OpenSpec.ofChange gaugeTrackSpec)

/-- ITS FALSE NEIGHBOUR: 'it returns false'. Refute it at one input. -/
def gaugeTrackWrong : ChangeSpec := { name := "gaugeTrack", fn := fun _ => fun
  | [d1, d2] => { results := [.lit (.bool false)], args := [d1, d2] }
  | _ => none }
def GaugeTrackWrongFalsely : Prop := gaugeTrackRow.holds Try.pinned (OpenSpec.ofChange gaugeTrackWrong)

/-- 'nilometerlaw03.GaugeMirrored': WHATEVER THE INPUT: true; the input reads as it did. -/
def gaugeMirroredSpec : ChangeSpec := { name := "gaugeMirrored", fn := fun _ => fun
  | [d1, d2, d3, d4] => { results := [.lit (.bool true)], args := [d1, d2, d3, d4] }
  | _ => none }
def gaugeMirroredRow : OpenClaim := { program := "ytbgjmnbgilddgaa", sum := "5c8a91d9479c81d198d1f8158060efacd053638495c0c34dae74aa4a154b1b13", func := "nilometer/nilometerlaw03.GaugeMirrored", spec := "gaugeMirrored", unfollowed := true, recurses := true, apart := false }
def GaugeMirroredSaid : Prop := gaugeMirroredRow.holds Try.pinned (OpenSpec.ofChange gaugeMirroredSpec)

/-- ITS FALSE NEIGHBOUR: 'it returns false'. Refute it at one input. -/
def gaugeMirroredWrong : ChangeSpec := { name := "gaugeMirrored", fn := fun _ => fun
  | [d1, d2, d3, d4] => { results := [.lit (.bool false)], args := [d1, d2, d3, d4] }
  | _ => none }
def GaugeMirroredWrongFalsely : Prop := gaugeMirroredRow.holds Try.pinned (OpenSpec.ofChange gaugeMirroredWrong)

/-- 'nilometerlaw03.GaugeBetter': WHATEVER THE INPUT: true; the input reads as it did. -/
def gaugeBetterSpec : ChangeSpec := { name := "gaugeBetter", fn := fun _ => fun
  | [d1, d2, d3, d4] => { results := [.lit (.bool true)], args := [d1, d2, d3, d4] }
  | _ => none }
def gaugeBetterRow : OpenClaim := { program := "ytbgjmnbgilddgaa", sum := "5c8a91d9479c81d198d1f8158060efacd053638495c0c34dae74aa4a154b1b13", func := "nilometer/nilometerlaw03.GaugeBetter", spec := "gaugeBetter", unfollowed := true, recurses := true, apart := false }
def GaugeBetterSaid : Prop := gaugeBetterRow.holds Try.pinned (OpenSpec.ofChange gaugeBetterSpec)

/-- ITS FALSE NEIGHBOUR: 'it returns false'. Refute it at one input. -/
def gaugeBetterWrong : ChangeSpec := { name := "gaugeBetter", fn := fun _ => fun
  | [d1, d2, d3, d4] => { results := [.lit (.bool false)], args := [d1, d2, d3, d4] }
  | _ => none }
def GaugeBetterWrongFalsely : Prop := gaugeBetterRow.holds Try.pinned (OpenSpec.ofChange gaugeBetterWrong)

/-- 'nilometerlaw03.GaugeTrue': WHATEVER THE INPUT: true; the input reads as it did. -/
def gaugeTrueSpec : ChangeSpec := { name := "gaugeTrue", fn := fun _ => fun
  | [d1, d2, d3] => { results := [.lit (.bool true)], args := [d1, d2, d3] }
  | _ => none }
def gaugeTrueRow : OpenClaim := { program := "ytbgjmnbgilddgaa", sum := "5c8a91d9479c81d198d1f8158060efacd053638495c0c34dae74aa4a154b1b13", func := "nilometer/nilometerlaw03.GaugeTrue", spec := "gaugeTrue", unfollowed := true, recurses := true, apart := false }
def GaugeTrueSaid : Prop := gaugeTrueRow.holds Try.pinned (OpenSpec.ofChange gaugeTrueSpec)

/-- ITS FALSE NEIGHBOUR: 'it returns false'. Refute it at one input. -/
def gaugeTrueWrong : ChangeSpec := { name := "gaugeTrue", fn := fun _ => fun
  | [d1, d2, d3] => { results := [.lit (.bool false)], args := [d1, d2, d3] }
  | _ => none }
def GaugeTrueWrongFalsely : Prop := gaugeTrueRow.holds Try.pinned (OpenSpec.ofChange gaugeTrueWrong)

/-- 'nilometerlaw03.GaugePlans': WHATEVER THE INPUT: true; the input reads as it did. -/
def gaugePlansSpec : ChangeSpec := { name := "gaugePlans", fn := fun _ => fun
  | [d1, d2, d3, d4] => { results := [.lit (.bool true)], args := [d1, d2, d3, d4] }
  | _ => none }
def gaugePlansRow : OpenClaim := { program := "ytbgjmnbgilddgaa", sum := "5c8a91d9479c81d198d1f8158060efacd053638495c0c34dae74aa4a154b1b13", func := "nilometer/nilometerlaw03.GaugePlans", spec := "gaugePlans", unfollowed := true, recurses := true, apart := false }
def GaugePlansSaid : Prop := gaugePlansRow.holds Try.pinned (OpenSpec.ofChange gaugePlansSpec)

/-- ITS FALSE NEIGHBOUR: 'it returns false'. Refute it at one input. -/
def gaugePlansWrong : ChangeSpec := { name := "gaugePlans", fn := fun _ => fun
  | [d1, d2, d3, d4] => { results := [.lit (.bool false)], args := [d1, d2, d3, d4] }
  | _ => none }
def GaugePlansWrongFalsely : Prop := gaugePlansRow.holds Try.pinned (OpenSpec.ofChange gaugePlansWrong)

/-- 'nilometerlaw03.GaugeCommon': WHATEVER THE INPUT: true; the input reads as it did. -/
def gaugeCommonSpec : ChangeSpec := { name := "gaugeCommon", fn := fun _ => fun
  | [d1, d2, d3, d4] => { results := [.lit (.bool true)], args := [d1, d2, d3, d4] }
  | _ => none }
def gaugeCommonRow : OpenClaim := { program := "ytbgjmnbgilddgaa", sum := "5c8a91d9479c81d198d1f8158060efacd053638495c0c34dae74aa4a154b1b13", func := "nilometer/nilometerlaw03.GaugeCommon", spec := "gaugeCommon", inPlace := ["slices.overlaps[nilometer/api.Span]"], unfollowed := true, recurses := true, apart := false }
def GaugeCommonSaid : Prop := gaugeCommonRow.holds Try.pinned (OpenSpec.ofChange gaugeCommonSpec)

/-- ITS FALSE NEIGHBOUR: 'it returns false'. Refute it at one input. -/
def gaugeCommonWrong : ChangeSpec := { name := "gaugeCommon", fn := fun _ => fun
  | [d1, d2, d3, d4] => { results := [.lit (.bool false)], args := [d1, d2, d3, d4] }
  | _ => none }
def GaugeCommonWrongFalsely : Prop := gaugeCommonRow.holds Try.pinned (OpenSpec.ofChange gaugeCommonWrong)

/- THE SECOND FORM. 'bulk': how many values and letters a reading holds, each counted each time it is reached (what is shared counts as often as it is met; a slice's spare places count too). A statement '..UptoSaid' is the law's where the arguments, and the package variables that the reading takes, are together of bulk at most 1048576: NARROWER than '..Said'. Prove '..Said' where nothing that the law and all that it calls make is longer than what came in: it says more and counts as full. Else prove '..UptoSaid'. A law counts once. -/
mutual
def uptoBulk {H : Type} : DataW H → Nat
  | .lit (.string bytes) => bytes.length + 1
  | .lit _ => 1
  | .nil => 1
  | .ptr d => uptoBulk d + 1
  | .slice elems spare => uptoBulkAll elems + uptoBulkAll spare + 1
  | .agg parts => uptoBulkAll parts + 1
  | .iface _ d => uptoBulk d + 1
  | .map entries => uptoBulkEntries entries + 1
  | .held _ => 1
def uptoBulkAll {H : Type} : List (DataW H) → Nat
  | [] => 0
  | d :: r => uptoBulk d + uptoBulkAll r
def uptoBulkEntries {H : Type} : List (Lit × DataW H) → Nat
  | [] => 0
  | x :: r => uptoBulkEntry x + uptoBulkEntries r
def uptoBulkEntry {H : Type} : Lit × DataW H → Nat
  | (.string bytes, d) => bytes.length + uptoBulk d + 1
  | (_, d) => uptoBulk d + 1
 end
def uptoSmall : (H : Type) → List (DataW H) → Bool := fun _ ds => decide (uptoBulkAll ds ≤ 1048576)
def OpenSpec.upto (s : _root_.Go.ChangeSpec) : _root_.Go.OpenSpec := { _root_.Go.OpenSpec.ofChange s with cond := some uptoSmall }

/-- 'nilometerlaw03.GaugeDyed', WHERE WHAT IT READS IS OF BULK AT MOST 1048576: true; the input reads as it did. -/
def gaugeDyedUptoRow : OpenClaim := { program := "ytbgjmnbgilddgaa", sum := "5c8a91d9479c81d198d1f8158060efacd053638495c0c34dae74aa4a154b1b13", func := "nilometer/nilometerlaw03.GaugeDyed", spec := "gaugeDyed", unfollowed := true, recurses := true, apart := false, narrowed := true }
def GaugeDyedUptoSaid : Prop := gaugeDyedUptoRow.holds Try.pinned (OpenSpec.upto gaugeDyedSpec)

/-- 'nilometerlaw03.GaugeTrack', WHERE WHAT IT READS IS OF BULK AT MOST 1048576: true; the input reads as it did. -/
def gaugeTrackUptoRow : OpenClaim := { program := "ytbgjmnbgilddgaa", sum := "5c8a91d9479c81d198d1f8158060efacd053638495c0c34dae74aa4a154b1b13", func := "nilometer/nilometerlaw03.GaugeTrack", spec := "gaugeTrack", unfollowed := true, recurses := true, apart := false, narrowed := true }
def GaugeTrackUptoSaid : Prop := gaugeTrackUptoRow.holds Try.pinned (OpenSpec.upto gaugeTrackSpec)

/-- 'nilometerlaw03.GaugeMirrored', WHERE WHAT IT READS IS OF BULK AT MOST 1048576: true; the input reads as it did. -/
def gaugeMirroredUptoRow : OpenClaim := { program := "ytbgjmnbgilddgaa", sum := "5c8a91d9479c81d198d1f8158060efacd053638495c0c34dae74aa4a154b1b13", func := "nilometer/nilometerlaw03.GaugeMirrored", spec := "gaugeMirrored", unfollowed := true, recurses := true, apart := false, narrowed := true }
def GaugeMirroredUptoSaid : Prop := gaugeMirroredUptoRow.holds Try.pinned (OpenSpec.upto gaugeMirroredSpec)

/-- 'nilometerlaw03.GaugeBetter', WHERE WHAT IT READS IS OF BULK AT MOST 1048576: true; the input reads as it did. -/
def gaugeBetterUptoRow : OpenClaim := { program := "ytbgjmnbgilddgaa", sum := "5c8a91d9479c81d198d1f8158060efacd053638495c0c34dae74aa4a154b1b13", func := "nilometer/nilometerlaw03.GaugeBetter", spec := "gaugeBetter", unfollowed := true, recurses := true, apart := false, narrowed := true }
def GaugeBetterUptoSaid : Prop := gaugeBetterUptoRow.holds Try.pinned (OpenSpec.upto gaugeBetterSpec)

/-- 'nilometerlaw03.GaugeTrue', WHERE WHAT IT READS IS OF BULK AT MOST 1048576: true; the input reads as it did. -/
def gaugeTrueUptoRow : OpenClaim := { program := "ytbgjmnbgilddgaa", sum := "5c8a91d9479c81d198d1f8158060efacd053638495c0c34dae74aa4a154b1b13", func := "nilometer/nilometerlaw03.GaugeTrue", spec := "gaugeTrue", unfollowed := true, recurses := true, apart := false, narrowed := true }
def GaugeTrueUptoSaid : Prop := gaugeTrueUptoRow.holds Try.pinned (OpenSpec.upto gaugeTrueSpec)

/-- 'nilometerlaw03.GaugePlans', WHERE WHAT IT READS IS OF BULK AT MOST 1048576: true; the input reads as it did. -/
def gaugePlansUptoRow : OpenClaim := { program := "ytbgjmnbgilddgaa", sum := "5c8a91d9479c81d198d1f8158060efacd053638495c0c34dae74aa4a154b1b13", func := "nilometer/nilometerlaw03.GaugePlans", spec := "gaugePlans", unfollowed := true, recurses := true, apart := false, narrowed := true }
def GaugePlansUptoSaid : Prop := gaugePlansUptoRow.holds Try.pinned (OpenSpec.upto gaugePlansSpec)

/-- 'nilometerlaw03.GaugeCommon', WHERE WHAT IT READS IS OF BULK AT MOST 1048576: true; the input reads as it did. -/
def gaugeCommonUptoRow : OpenClaim := { program := "ytbgjmnbgilddgaa", sum := "5c8a91d9479c81d198d1f8158060efacd053638495c0c34dae74aa4a154b1b13", func := "nilometer/nilometerlaw03.GaugeCommon", spec := "gaugeCommon", inPlace := ["slices.overlaps[nilometer/api.Span]"], unfollowed := true, recurses := true, apart := false, narrowed := true }
def GaugeCommonUptoSaid : Prop := gaugeCommonUptoRow.holds Try.pinned (OpenSpec.upto gaugeCommonSpec)

end Rows
end Go.Proofs.Ytbgjmnbgilddgaa
