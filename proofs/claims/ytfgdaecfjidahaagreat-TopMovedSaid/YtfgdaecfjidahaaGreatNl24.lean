/-
  Rows of ints of the call's own, sorted and rid of doubles in place, as slices.Sort and slices.Compact do it. Conditions: what each theorem names.
-/
import Derived.Test.YtfgdaecfjidahaaGreatNl23
import Derived.Sort.OwnSortedInts
import Derived.Lib.SlicesCompact
import Derived.Lib.RowBridge
set_option linter.unusedSimpArgs false
set_option linter.unusedVariables false
namespace Go.Nilo
open Go.Sort
theorem aC1:∀ s:List Int,((s.map aB).flatten)=s.map (Value.int .i64)
 | []=>rfl
 | x::s=>by simp [aC1 s]
theorem aDj (s:List Int):∀ r ∈ s.map aB,r.length=1:=by
 intro r hr
 obtain ⟨x,-,rfl⟩:=List.mem_map.1 hr
 rfl
end Go.Nilo
