/-
  Maps whose values are slices that are never changed: what a call remembers of a function. Conditions: what each theorem names.
-/
import Derived.Test.YtcefmiiipbjngaaGreatNl33
set_option linter.unusedSimpArgs false
set_option linter.unusedVariables false
namespace Go.Nilo
section memo
variable {κ:Type} [DecidableEq κ]
abbrev MemH (κ:Type):=List (κ × H2 × List Int)
variable {kv:κ→Value} {F:κ→Option (List Int)} {T:TypeId} {H:MemH κ} {b:Nat} {G:cJ} {L:List Ent} {w:World}
end memo
section wrap
variable {κ:Type} {G:cJ} {L:List Ent} {w:World}
end wrap
section memo
variable {κ:Type} [DecidableEq κ] {kv:κ→Value} {F:κ→Option (List Int)} {T:TypeId} {b:Nat} {G:cJ} {L:List Ent} {w:World}
end memo
section steps
variable {P:Program} {ops:Array Oper} {Q:Exit→Act→World→Prop} {rest:List Oper} {a:Act} {w:World} {N:Fm} {d:Nat} {F:List (Nat × Value)} {G:cJ} {L L1:List Ent}
 {ty:TypeId} {pos:String} {aft:Array Edge} {gd:Option (Nat × Bool)} {x y:Operand} {T:TypeId} {κ:Type} [DecidableEq κ] {kv:κ→Value}
end steps
def okF (o:Option (List Int)) (xs:List Int):Option Unit:=if o=some xs then some () else none
section tails
variable {P:Program} {ops:Array Oper} {Q:Exit→Act→World→Prop} {rest:List Oper} {a:Act} {w:World} {N:Fm} {F:List (Nat × Value)} {G:cJ} {L L':List Ent}
 {ty:TypeId} {pos:String} {aft:Array Edge} {gd:Option (Nat × Bool)} {x:Operand} {T:TypeId}
end tails
end Go.Nilo
