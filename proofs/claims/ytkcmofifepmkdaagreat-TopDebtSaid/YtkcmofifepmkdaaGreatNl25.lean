/-
  slices.Sort at a nil row of ints: nothing turns. Conditions: the laying of the library's sort at the program.
-/
import Derived.Test.YtkcmofifepmkdaaGreatNl24
import Derived.Shelf.Sort.Plain
import Derived.Shelf.Slices.CompactI
set_option linter.unusedSimpArgs false
set_option linter.unusedVariables false
namespace Go.Nilo
open Go.Shelf Go.Proofs Go.RowKit Go.Sort
variable {P:Program} {ρ:Ren}
end Go.Nilo
