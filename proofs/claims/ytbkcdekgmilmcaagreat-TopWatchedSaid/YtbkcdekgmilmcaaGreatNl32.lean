/-
  Slices of the call's own that lie anywhere in their block; shifts by one. Conditions: none.
-/
import Derived.Test.YtbkcdekgmilmcaaGreatNl31
set_option linter.unusedSimpArgs false
set_option linter.unusedVariables false
namespace Go.Nilo

section steps
variable {P:Program} {ops:Array Oper} {Q:Exit→Act→World→Prop} {rest:List Oper} {a:Act} {w:World} {N:Fm} {d:Nat} {F:List (Nat × Value)} {G:aT} {L L' L'':List Ent} {v:Value}
 {ty:TypeId} {pos:String} {aft:Array Edge} {gd:Option (Nat × Bool)} {x y:Operand} {T:TypeId}
theorem aJ4 {k k':IntKind} {m:Int} {d:Option Nat} {y:Operand} {T T':TypeId} (hx:ev F x=some (.int k m)) (hy:ev F y=some (.int k' 1)):Pu P ⟨d,.binOp .shr T x y T',ty,pos,aft,gd⟩ F (.int k (m / 2)):=fun N a w hf=>by
 have h:=shift_shr_any k k' m 1 (by decide)
 have h2:(2:Int) ^ min (1:Int).toNat k.bits=2:=by cases k <;> rfl
 rw [h2] at h
 simp only [execOp,hf.ev hx,hf.ev hy]
 simp [go_sem,h]
end steps
end Go.Nilo
