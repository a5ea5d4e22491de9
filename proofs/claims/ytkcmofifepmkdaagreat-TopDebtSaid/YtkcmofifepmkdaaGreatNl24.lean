/-
  Rows of ints of the call's own, sorted and rid of doubles in place, as slices.Sort and slices.Compact do it. Conditions: what each theorem names.
-/
import Derived.Test.YtkcmofifepmkdaaGreatNl23
import Derived.Sort.OwnSortedInts
import Derived.Lib.SlicesCompact
import Derived.Lib.RowBridge
set_option linter.unusedSimpArgs false
set_option linter.unusedVariables false
namespace Go.Nilo
open Go.Sort
end Go.Nilo
