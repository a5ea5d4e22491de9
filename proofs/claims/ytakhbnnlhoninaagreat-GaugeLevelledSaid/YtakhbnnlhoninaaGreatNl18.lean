/-
  Arrays as elements of slices, whole arrays that are read, stored and cleared. Conditions: what each theorem names.
-/
import Derived.Test.YtakhbnnlhoninaaGreatNl17
set_option linter.unusedSimpArgs false
set_option linter.unusedVariables false
namespace Go.Nilo
section steps
variable {P : Program} {ops : Array Oper} {Q : Exit → Act → World → Prop} {rest : List Oper} {a : Act} {w : World} {N : Fm} {d : Nat} {F : List (Nat × Value)} {G : Pers} {L L' : List Ent}
 {ty : TypeId} {pos : String} {aft : Array Edge} {gd : Option (Nat × Bool)} {x y : Operand} {T : TypeId}
end steps
end Go.Nilo
