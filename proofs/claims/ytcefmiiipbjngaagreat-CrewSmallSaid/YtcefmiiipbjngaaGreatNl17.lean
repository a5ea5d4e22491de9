/-
  Slices that stay where they are, with other elements. Conditions: what each theorem names.
-/
import Derived.Test.YtcefmiiipbjngaaGreatNl16
set_option linter.unusedSimpArgs false
set_option linter.unusedVariables false
namespace Go.Nilo
end Go.Nilo
