/-
  Ranges over a function that read, from round to round, a box that the rounds own and leave as it is. Conditions: what each theorem names.
-/
import Derived.Test.YtcefmiiipbjngaaGreatNl21
set_option linter.unusedSimpArgs false
set_option linter.unusedVariables false
namespace Go.Nilo
variable {P:Program} {ops:Array Oper} {Q:Exit→Act→World→Prop} {a:Act} {w:World} {l n:Nat}
end Go.Nilo
