/-
  A key of a map from ints is deleted. Conditions: what each theorem names.
-/
import Derived.Test.YtkcmofifepmkdaaGreatNl30
set_option linter.unusedSimpArgs false
set_option linter.unusedVariables false
namespace Go.Nilo
section steps
variable {P:Program} {ops:Array Oper} {Q:Exit→Act→World→Prop} {rest:List Oper} {a:Act} {w:World} {N:Fm} {d:Nat} {F:List (Nat × Value)} {G:bA} {L L':List Ent} {v:Value}
 {ty:TypeId} {pos:String} {aft:Array Edge} {gd:Option (Nat × Bool)} {x y z:Operand} {T:TypeId}
end steps
end Go.Nilo
