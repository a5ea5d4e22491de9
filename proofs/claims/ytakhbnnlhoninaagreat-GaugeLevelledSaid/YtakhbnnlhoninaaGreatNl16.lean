/-
  Parts of lists that are taken out or put in, as slices.Delete and slices.Insert do it; rows of the call's own as cells. Conditions: what each theorem names.
-/
import Derived.Test.YtakhbnnlhoninaaGreatNl15
import Derived.Deep.RegionLaw
import Derived.Lib.SliceRun
import Derived.WalkKit
import Derived.Laws.IdiomCopy
import Derived.Shelf.RegionOpenPlain
import Derived.Below
import Derived.Laws.Externs
import Derived.Lib.Overlaps
import Derived.Lib.JoinLaws
import Derived.Shelf.Spec.SlicesInsert
import Derived.Lib.AppendZerosOnto
set_option linter.unusedSimpArgs false
set_option linter.unusedVariables false
namespace Go.Nilo
end Go.Nilo
