/-
  Keys that are structs: what a program has to show of them. Conditions: what each theorem names.
-/
import Derived.Test.YtcefmiiipbjngaaGreatNl22
import Derived.WideKeyRuns
set_option linter.unusedSimpArgs false
set_option linter.unusedVariables false
namespace Go.Nilo
variable {P:Program} {K:TypeId} {κ:Type} {kv:κ→Value}
end Go.Nilo
