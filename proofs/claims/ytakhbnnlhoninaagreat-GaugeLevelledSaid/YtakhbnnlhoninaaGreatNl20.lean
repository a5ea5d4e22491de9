/-
  Arrays as elements of slices: whole elements stored, arrays cleared. Conditions: what each theorem names.
-/
import Derived.Test.YtakhbnnlhoninaaGreatNl19
set_option linter.unusedSimpArgs false
set_option linter.unusedVariables false
namespace Go.Nilo
section steps
variable {P : Program} {ops : Array Oper} {Q : Exit → Act → World → Prop} {rest : List Oper} {a : Act} {w : World} {N : Fm} {d : Nat} {F : List (Nat × Value)} {G : Pers} {L L' : List Ent}
 {ty : TypeId} {pos : String} {aft : Array Edge} {gd : Option (Nat × Bool)} {x y : Operand} {T : TypeId}
theorem eCsel {c : Bool} {f g : Nat} {cl : Call} {xs : List Operand} {vs : List Value} {v v1 v2 : Value} {dd : Option Nat} (hen : En P f) (hen' : En P g) (hc : cl.callee = .value x) (hx : ev F x = some (bif c then .func (.func f) #[] #[] else .func (.func g) #[] #[])) (hargs : cl.args = xs.toArray) (hvs : xs.mapM (ev F) = some vs)
  (h1 : c = true → v1 = v) (h2 : c = false → v2 = v)
  (e1 : ∀ w,Ctx G L w → Calls P f vs.toArray w fun e w' => e = .returned v1 ∧ Ctx G L w') (e2 : ∀ w,Ctx G L w → Calls P g vs.toArray w fun e w' => e = .returned v2 ∧ Ctx G L w') :
  Ev P ⟨dd,.call cl,ty,pos,aft,gd⟩ N F G L v := by
 cases c with
 | true => obtain rfl := h1 rfl; exact eC (caps := []) hen hc hx hargs hvs (by simpa using e1)
 | false => obtain rfl := h2 rfl; exact eC (caps := []) hen' hc hx hargs hvs (by simpa using e2)
end steps
end Go.Nilo
