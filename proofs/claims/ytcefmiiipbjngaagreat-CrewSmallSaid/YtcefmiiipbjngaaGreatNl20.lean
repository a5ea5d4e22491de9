/-
  Arrays as elements of slices: whole elements stored, arrays cleared. Conditions: what each theorem names.
-/
import Derived.Test.YtcefmiiipbjngaaGreatNl19
set_option linter.unusedSimpArgs false
set_option linter.unusedVariables false
namespace Go.Nilo
section steps
variable {P:Program} {ops:Array Oper} {Q:Exit→Act→World→Prop} {rest:List Oper} {a:Act} {w:World} {N:Fm} {d:Nat} {F:List (Nat × Value)} {G:cJ} {L L':List Ent}
 {ty:TypeId} {pos:String} {aft:Array Edge} {gd:Option (Nat × Bool)} {x y:Operand} {T:TypeId}
end steps
end Go.Nilo
