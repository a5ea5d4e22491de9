/-
  No cell of these rows narrows 'for every input' (looked for: loops, veiled, ifaces, maps, wideKeys, modest, calm, conditions, laid).
  DERIVED. THE GIVEN ROWS OF THIS SEAT. 9 by the template 'for every input the law returns true; each argument reads behind the call as it read before'; 0 by the template 'total and deterministic' (their statements: YtbcaeppbfioogaaTotals.lean).
  GIVEN WITH THE SEED: the statements are not yours to turn. If you find one false, say at which input.
  Laid BY PROGRAM, IN A SANDBOX (cutbox-rows.mjs): the forced cells as the released guide's own fill.sh prints them over the translation eba8e6d856c10c87… (all of the seat's roots in one cut). By AI agents, Wed Nov 11 2026. No macro, syntax, notation, axiom, sorry.
-/
import Derived.Test.YtbcaeppbfioogaaChecked
import GoSem.Claim
import GoSem.ClaimJoined
import GoSem.ClaimMapViews
import Derived.JoinedTies
import Derived.KernelRfl
namespace Go.Proofs.Ytbcaeppbfioogaa
/- THE CELL 'sum', in the pinned program and in every row, IS THE sha256 OF THE DUMP (.gsa) THAT YtbcaeppbfioogaaProg.lean LOADS. Nothing in Lean hashes anything: it is a label: what it is worth is what the hold of that sum in a sandbox is worth. -/
noncomputable def Try.pinned : Pinned := { name := "ytbcaeppbfioogaa", sum := "eba8e6d856c10c87b9d6d453f5e0285ece70e086df7e0279c3bb90c9a2806d3e", checked := Try.checked }
namespace Rows
def none {H : Type} : Left H := { results := [], args := [] }

/-- 'nilometerlaw07.DailyVolumes': WHATEVER THE INPUT: true; the input reads as it did. -/
def dailyVolumesSpec : ChangeSpec := { name := "dailyVolumes", fn := fun _ => fun
  | [d1, d2, d3, d4] => { results := [.lit (.bool true)], args := [d1, d2, d3, d4] }
  | _ => none }
def dailyVolumesRow : OpenClaim := { program := "ytbcaeppbfioogaa", sum := "eba8e6d856c10c87b9d6d453f5e0285ece70e086df7e0279c3bb90c9a2806d3e", func := "nilometer/nilometerlaw07.DailyVolumes", spec := "dailyVolumes", unfollowed := true, recurses := true, plainKeys := false, apart := false }
def DailyVolumesSaid : Prop := dailyVolumesRow.holds Try.pinned (OpenSpec.ofChange dailyVolumesSpec)

/-- ITS FALSE NEIGHBOUR: 'it returns false'. Refute it at one input. -/
def dailyVolumesWrong : ChangeSpec := { name := "dailyVolumes", fn := fun _ => fun
  | [d1, d2, d3, d4] => { results := [.lit (.bool false)], args := [d1, d2, d3, d4] }
  | _ => none }
def DailyVolumesWrongFalsely : Prop := dailyVolumesRow.holds Try.pinned (OpenSpec.ofChange dailyVolumesWrong)

/-- 'nilometerlaw07.DailyClashed': WHATEVER THE INPUT: true; the input reads as it did. -/
def dailyClashedSpec : ChangeSpec := { name := "dailyClashed", fn := fun _ => fun
  | [d1, d2, d3] => { results := [.lit (.bool true)], args := [d1, d2, d3] }
  | _ => none }
def dailyClashedRow : OpenClaim := { program := "ytbcaeppbfioogaa", sum := "eba8e6d856c10c87b9d6d453f5e0285ece70e086df7e0279c3bb90c9a2806d3e", func := "nilometer/nilometerlaw07.DailyClashed", spec := "dailyClashed", unfollowed := true, recurses := true, plainKeys := false, apart := false }
def DailyClashedSaid : Prop := dailyClashedRow.holds Try.pinned (OpenSpec.ofChange dailyClashedSpec)

/-- ITS FALSE NEIGHBOUR: 'it returns false'. Refute it at one input. -/
def dailyClashedWrong : ChangeSpec := { name := "dailyClashed", fn := fun _ => fun
  | [d1, d2, d3] => { results := [.lit (.bool false)], args := [d1, d2, d3] }
  | _ => none }
def DailyClashedWrongFalsely : Prop := dailyClashedRow.holds Try.pinned (OpenSpec.ofChange dailyClashedWrong)

/-- 'nilometerlaw07.DailyBetter': WHATEVER THE INPUT: true; the input reads as it did. -/
def dailyBetterSpec : ChangeSpec := { name := "dailyBetter", fn := fun _ => fun
  | [d1, d2, d3, d4] => { results := [.lit (.bool true)], args := [d1, d2, d3, d4] }
  | _ => none }
def dailyBetterRow : OpenClaim := { program := "ytbcaeppbfioogaa", sum := "eba8e6d856c10c87b9d6d453f5e0285ece70e086df7e0279c3bb90c9a2806d3e", func := "nilometer/nilometerlaw07.DailyBetter", spec := "dailyBetter", unfollowed := true, recurses := true, plainKeys := false, apart := false }
def DailyBetterSaid : Prop := dailyBetterRow.holds Try.pinned (OpenSpec.ofChange dailyBetterSpec)

/-- ITS FALSE NEIGHBOUR: 'it returns false'. Refute it at one input. -/
def dailyBetterWrong : ChangeSpec := { name := "dailyBetter", fn := fun _ => fun
  | [d1, d2, d3, d4] => { results := [.lit (.bool false)], args := [d1, d2, d3, d4] }
  | _ => none }
def DailyBetterWrongFalsely : Prop := dailyBetterRow.holds Try.pinned (OpenSpec.ofChange dailyBetterWrong)

/-- 'nilometerlaw07.DailyFills': WHATEVER THE INPUT: true; the input reads as it did. -/
def dailyFillsSpec : ChangeSpec := { name := "dailyFills", fn := fun _ => fun
  | [d1, d2] => { results := [.lit (.bool true)], args := [d1, d2] }
  | _ => none }
def dailyFillsRow : OpenClaim := { program := "ytbcaeppbfioogaa", sum := "eba8e6d856c10c87b9d6d453f5e0285ece70e086df7e0279c3bb90c9a2806d3e", func := "nilometer/nilometerlaw07.DailyFills", spec := "dailyFills", unfollowed := true, recurses := true, plainKeys := false, apart := false }
def DailyFillsSaid : Prop := dailyFillsRow.holds Try.pinned (OpenSpec.ofChange dailyFillsSpec)

/-- ITS FALSE NEIGHBOUR: 'it returns false'. Refute it at one input. -/
def dailyFillsWrong : ChangeSpec := { name := "dailyFills", fn := fun _ => fun
  | [d1, d2] => { results := [.lit (.bool false)], args := [d1, d2] }
  | _ => none }
def DailyFillsWrongFalsely : Prop := dailyFillsRow.holds Try.pinned (OpenSpec.ofChange dailyFillsWrong)

/-- 'nilometerlaw07.DailyHeld': WHATEVER THE INPUT: true; the input reads as it did. -/
def dailyHeldSpec : ChangeSpec := { name := "dailyHeld", fn := fun _ => fun
  | [d1, d2, d3] => { results := [.lit (.bool true)], args := [d1, d2, d3] }
  | _ => none }
def dailyHeldRow : OpenClaim := { program := "ytbcaeppbfioogaa", sum := "eba8e6d856c10c87b9d6d453f5e0285ece70e086df7e0279c3bb90c9a2806d3e", func := "nilometer/nilometerlaw07.DailyHeld", spec := "dailyHeld", unfollowed := true, recurses := true, plainKeys := false, apart := false }
def DailyHeldSaid : Prop := dailyHeldRow.holds Try.pinned (OpenSpec.ofChange dailyHeldSpec)

/-- ITS FALSE NEIGHBOUR: 'it returns false'. Refute it at one input. -/
def dailyHeldWrong : ChangeSpec := { name := "dailyHeld", fn := fun _ => fun
  | [d1, d2, d3] => { results := [.lit (.bool false)], args := [d1, d2, d3] }
  | _ => none }
def DailyHeldWrongFalsely : Prop := dailyHeldRow.holds Try.pinned (OpenSpec.ofChange dailyHeldWrong)

/-- 'nilometerlaw07.DailyPeaked': WHATEVER THE INPUT: true; the input reads as it did. -/
def dailyPeakedSpec : ChangeSpec := { name := "dailyPeaked", fn := fun _ => fun
  | [d1, d2] => { results := [.lit (.bool true)], args := [d1, d2] }
  | _ => none }
def dailyPeakedRow : OpenClaim := { program := "ytbcaeppbfioogaa", sum := "eba8e6d856c10c87b9d6d453f5e0285ece70e086df7e0279c3bb90c9a2806d3e", func := "nilometer/nilometerlaw07.DailyPeaked", spec := "dailyPeaked", unfollowed := true, recurses := true, plainKeys := false, apart := false }
def DailyPeakedSaid : Prop := dailyPeakedRow.holds Try.pinned (OpenSpec.ofChange dailyPeakedSpec)

/-- ITS FALSE NEIGHBOUR: 'it returns false'. Refute it at one input. -/
def dailyPeakedWrong : ChangeSpec := { name := "dailyPeaked", fn := fun _ => fun
  | [d1, d2] => { results := [.lit (.bool false)], args := [d1, d2] }
  | _ => none }
def DailyPeakedWrongFalsely : Prop := dailyPeakedRow.holds Try.pinned (OpenSpec.ofChange dailyPeakedWrong)

/-- 'nilometerlaw07.DailyGauged': WHATEVER THE INPUT: true; the input reads as it did. -/
def dailyGaugedSpec : ChangeSpec := { name := "dailyGauged", fn := fun _ => fun
  | [d1, d2, d3] => { results := [.lit (.bool true)], args := [d1, d2, d3] }
  | _ => none }
def dailyGaugedRow : OpenClaim := { program := "ytbcaeppbfioogaa", sum := "eba8e6d856c10c87b9d6d453f5e0285ece70e086df7e0279c3bb90c9a2806d3e", func := "nilometer/nilometerlaw07.DailyGauged", spec := "dailyGauged", unfollowed := true, recurses := true, plainKeys := false, apart := false }
def DailyGaugedSaid : Prop := dailyGaugedRow.holds Try.pinned (OpenSpec.ofChange dailyGaugedSpec)

/-- ITS FALSE NEIGHBOUR: 'it returns false'. Refute it at one input. -/
def dailyGaugedWrong : ChangeSpec := { name := "dailyGauged", fn := fun _ => fun
  | [d1, d2, d3] => { results := [.lit (.bool false)], args := [d1, d2, d3] }
  | _ => none }
def DailyGaugedWrongFalsely : Prop := dailyGaugedRow.holds Try.pinned (OpenSpec.ofChange dailyGaugedWrong)

/-- 'nilometerlaw07.DailyCounted': WHATEVER THE INPUT: true; the input reads as it did. -/
def dailyCountedSpec : ChangeSpec := { name := "dailyCounted", fn := fun _ => fun
  | [d1, d2, d3] => { results := [.lit (.bool true)], args := [d1, d2, d3] }
  | _ => none }
def dailyCountedRow : OpenClaim := { program := "ytbcaeppbfioogaa", sum := "eba8e6d856c10c87b9d6d453f5e0285ece70e086df7e0279c3bb90c9a2806d3e", func := "nilometer/nilometerlaw07.DailyCounted", spec := "dailyCounted", unfollowed := true, recurses := true, plainKeys := false, apart := false }
def DailyCountedSaid : Prop := dailyCountedRow.holds Try.pinned (OpenSpec.ofChange dailyCountedSpec)

/-- ITS FALSE NEIGHBOUR: 'it returns false'. Refute it at one input. -/
def dailyCountedWrong : ChangeSpec := { name := "dailyCounted", fn := fun _ => fun
  | [d1, d2, d3] => { results := [.lit (.bool false)], args := [d1, d2, d3] }
  | _ => none }
def DailyCountedWrongFalsely : Prop := dailyCountedRow.holds Try.pinned (OpenSpec.ofChange dailyCountedWrong)

/-- 'nilometerlaw07.DailyCorrected': WHATEVER THE INPUT: true; the input reads as it did. -/
def dailyCorrectedSpec : ChangeSpec := { name := "dailyCorrected", fn := fun _ => fun
  | [d1, d2] => { results := [.lit (.bool true)], args := [d1, d2] }
  | _ => none }
def dailyCorrectedRow : OpenClaim := { program := "ytbcaeppbfioogaa", sum := "eba8e6d856c10c87b9d6d453f5e0285ece70e086df7e0279c3bb90c9a2806d3e", func := "nilometer/nilometerlaw07.DailyCorrected", spec := "dailyCorrected", unfollowed := true, recurses := true, plainKeys := false, apart := false }
def DailyCorrectedSaid : Prop := dailyCorrectedRow.holds Try.pinned (OpenSpec.ofChange dailyCorrectedSpec)

/-- ITS FALSE NEIGHBOUR: 'it returns false'. Refute it at one input. -/
def dailyCorrectedWrong : ChangeSpec := { name := "dailyCorrected", fn := fun _ => fun
  | [d1, d2] => { results := [.lit (.bool false)], args := [d1, d2] }
  | _ => none }
def DailyCorrectedWrongFalsely : Prop := dailyCorrectedRow.holds Try.pinned (OpenSpec.ofChange dailyCorrectedWrong)

/- THE SECOND FORM. 'bulk': how many values and letters a reading holds, each counted each time it is reached (what is shared counts as often as it is met; a slice's spare places count too). A statement '..UptoSaid' is the law's where the arguments, and the package variables that the reading takes, are together of bulk at most 1048576: NARROWER than '..Said'. Prove '..Said' where nothing that the law and all that it calls make is longer than what came in: it says more and counts as full. Else prove '..UptoSaid'. A law counts once. -/
mutual
def uptoBulk {H : Type} : DataW H → Nat
  | .lit (.string bytes) => bytes.length + 1
  | .lit _ => 1
  | .nil => 1
  | .ptr d => uptoBulk d + 1
  | .slice elems spare => uptoBulkAll elems + uptoBulkAll spare + 1
  | .agg parts => uptoBulkAll parts + 1
  | .iface _ d => uptoBulk d + 1
  | .map entries => uptoBulkEntries entries + 1
  | .held _ => 1
def uptoBulkAll {H : Type} : List (DataW H) → Nat
  | [] => 0
  | d :: r => uptoBulk d + uptoBulkAll r
def uptoBulkEntries {H : Type} : List (Lit × DataW H) → Nat
  | [] => 0
  | x :: r => uptoBulkEntry x + uptoBulkEntries r
def uptoBulkEntry {H : Type} : Lit × DataW H → Nat
  | (.string bytes, d) => bytes.length + uptoBulk d + 1
  | (_, d) => uptoBulk d + 1
 end
def uptoSmall : (H : Type) → List (DataW H) → Bool := fun _ ds => decide (uptoBulkAll ds ≤ 1048576)
def OpenSpec.upto (s : _root_.Go.ChangeSpec) : _root_.Go.OpenSpec := { _root_.Go.OpenSpec.ofChange s with cond := some uptoSmall }

/-- 'nilometerlaw07.DailyVolumes', WHERE WHAT IT READS IS OF BULK AT MOST 1048576: true; the input reads as it did. -/
def dailyVolumesUptoRow : OpenClaim := { program := "ytbcaeppbfioogaa", sum := "eba8e6d856c10c87b9d6d453f5e0285ece70e086df7e0279c3bb90c9a2806d3e", func := "nilometer/nilometerlaw07.DailyVolumes", spec := "dailyVolumes", unfollowed := true, recurses := true, plainKeys := false, apart := false, narrowed := true }
def DailyVolumesUptoSaid : Prop := dailyVolumesUptoRow.holds Try.pinned (OpenSpec.upto dailyVolumesSpec)

/-- 'nilometerlaw07.DailyClashed', WHERE WHAT IT READS IS OF BULK AT MOST 1048576: true; the input reads as it did. -/
def dailyClashedUptoRow : OpenClaim := { program := "ytbcaeppbfioogaa", sum := "eba8e6d856c10c87b9d6d453f5e0285ece70e086df7e0279c3bb90c9a2806d3e", func := "nilometer/nilometerlaw07.DailyClashed", spec := "dailyClashed", unfollowed := true, recurses := true, plainKeys := false, apart := false, narrowed := true }
def DailyClashedUptoSaid : Prop := dailyClashedUptoRow.holds Try.pinned (OpenSpec.upto dailyClashedSpec)

/-- 'nilometerlaw07.DailyBetter', WHERE WHAT IT READS IS OF BULK AT MOST 1048576: true; the input reads as it did. -/
def dailyBetterUptoRow : OpenClaim := { program := "ytbcaeppbfioogaa", sum := "eba8e6d856c10c87b9d6d453f5e0285ece70e086df7e0279c3bb90c9a2806d3e", func := "nilometer/nilometerlaw07.DailyBetter", spec := "dailyBetter", unfollowed := true, recurses := true, plainKeys := false, apart := false, narrowed := true }
def DailyBetterUptoSaid : Prop := dailyBetterUptoRow.holds Try.pinned (OpenSpec.upto dailyBetterSpec)

/-- 'nilometerlaw07.DailyFills', WHERE WHAT IT READS IS OF BULK AT MOST 1048576: true; the input reads as it did. -/
def dailyFillsUptoRow : OpenClaim := { program := "ytbcaeppbfioogaa", sum := "eba8e6d856c10c87b9d6d453f5e0285ece70e086df7e0279c3bb90c9a2806d3e", func := "nilometer/nilometerlaw07.DailyFills", spec := "dailyFills", unfollowed := true, recurses := true, plainKeys := false, apart := false, narrowed := true }
def DailyFillsUptoSaid : Prop := dailyFillsUptoRow.holds Try.pinned (OpenSpec.upto dailyFillsSpec)

/-- 'nilometerlaw07.DailyHeld', WHERE WHAT IT READS IS OF BULK AT MOST 1048576: true; the input reads as it did. -/
def dailyHeldUptoRow : OpenClaim := { program := "ytbcaeppbfioogaa", sum := "eba8e6d856c10c87b9d6d453f5e0285ece70e086df7e0279c3bb90c9a2806d3e", func := "nilometer/nilometerlaw07.DailyHeld", spec := "dailyHeld", unfollowed := true, recurses := true, plainKeys := false, apart := false, narrowed := true }
def DailyHeldUptoSaid : Prop := dailyHeldUptoRow.holds Try.pinned (OpenSpec.upto dailyHeldSpec)

/-- 'nilometerlaw07.DailyPeaked', WHERE WHAT IT READS IS OF BULK AT MOST 1048576: true; the input reads as it did. -/
def dailyPeakedUptoRow : OpenClaim := { program := "ytbcaeppbfioogaa", sum := "eba8e6d856c10c87b9d6d453f5e0285ece70e086df7e0279c3bb90c9a2806d3e", func := "nilometer/nilometerlaw07.DailyPeaked", spec := "dailyPeaked", unfollowed := true, recurses := true, plainKeys := false, apart := false, narrowed := true }
def DailyPeakedUptoSaid : Prop := dailyPeakedUptoRow.holds Try.pinned (OpenSpec.upto dailyPeakedSpec)

/-- 'nilometerlaw07.DailyGauged', WHERE WHAT IT READS IS OF BULK AT MOST 1048576: true; the input reads as it did. -/
def dailyGaugedUptoRow : OpenClaim := { program := "ytbcaeppbfioogaa", sum := "eba8e6d856c10c87b9d6d453f5e0285ece70e086df7e0279c3bb90c9a2806d3e", func := "nilometer/nilometerlaw07.DailyGauged", spec := "dailyGauged", unfollowed := true, recurses := true, plainKeys := false, apart := false, narrowed := true }
def DailyGaugedUptoSaid : Prop := dailyGaugedUptoRow.holds Try.pinned (OpenSpec.upto dailyGaugedSpec)

/-- 'nilometerlaw07.DailyCounted', WHERE WHAT IT READS IS OF BULK AT MOST 1048576: true; the input reads as it did. -/
def dailyCountedUptoRow : OpenClaim := { program := "ytbcaeppbfioogaa", sum := "eba8e6d856c10c87b9d6d453f5e0285ece70e086df7e0279c3bb90c9a2806d3e", func := "nilometer/nilometerlaw07.DailyCounted", spec := "dailyCounted", unfollowed := true, recurses := true, plainKeys := false, apart := false, narrowed := true }
def DailyCountedUptoSaid : Prop := dailyCountedUptoRow.holds Try.pinned (OpenSpec.upto dailyCountedSpec)

/-- 'nilometerlaw07.DailyCorrected', WHERE WHAT IT READS IS OF BULK AT MOST 1048576: true; the input reads as it did. -/
def dailyCorrectedUptoRow : OpenClaim := { program := "ytbcaeppbfioogaa", sum := "eba8e6d856c10c87b9d6d453f5e0285ece70e086df7e0279c3bb90c9a2806d3e", func := "nilometer/nilometerlaw07.DailyCorrected", spec := "dailyCorrected", unfollowed := true, recurses := true, plainKeys := false, apart := false, narrowed := true }
def DailyCorrectedUptoSaid : Prop := dailyCorrectedUptoRow.holds Try.pinned (OpenSpec.upto dailyCorrectedSpec)

end Rows
end Go.Proofs.Ytbcaeppbfioogaa
