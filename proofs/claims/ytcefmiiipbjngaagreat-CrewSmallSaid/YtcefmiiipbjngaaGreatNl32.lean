/-
  Slices of the call's own that lie anywhere in their block; shifts by one. Conditions: none.
-/
import Derived.Test.YtcefmiiipbjngaaGreatNl31
set_option linter.unusedSimpArgs false
set_option linter.unusedVariables false
namespace Go.Nilo

section steps
variable {P:Program} {ops:Array Oper} {Q:Exit→Act→World→Prop} {rest:List Oper} {a:Act} {w:World} {N:Fm} {d:Nat} {F:List (Nat × Value)} {G:cJ} {L L' L'':List Ent} {v:Value}
 {ty:TypeId} {pos:String} {aft:Array Edge} {gd:Option (Nat × Bool)} {x y:Operand} {T:TypeId}

end steps
end Go.Nilo
