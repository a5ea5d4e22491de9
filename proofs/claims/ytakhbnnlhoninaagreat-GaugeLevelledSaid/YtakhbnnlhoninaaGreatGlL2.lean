/-
  What the plain functions compute, in plain arithmetic, part 2. Conditions: what each theorem names.
-/
import Derived.Test.YtakhbnnlhoninaaGreatGlL1
set_option linter.unusedSimpArgs false
set_option linter.unusedVariables false
namespace Go.Nilo
theorem awake_true : law03_awake 60 = some true := by decide +kernel
end Go.Nilo
