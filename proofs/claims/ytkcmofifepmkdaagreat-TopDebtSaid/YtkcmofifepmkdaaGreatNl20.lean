/-
  Arrays as elements of slices: whole elements stored, arrays cleared. Conditions: what each theorem names.
-/
import Derived.Test.YtkcmofifepmkdaaGreatNl19
set_option linter.unusedSimpArgs false
set_option linter.unusedVariables false
namespace Go.Nilo
section steps
variable {P:Program} {ops:Array Oper} {Q:Exit→Act→World→Prop} {rest:List Oper} {a:Act} {w:World} {N:Fm} {d:Nat} {F:List (Nat × Value)} {G:bA} {L L':List Ent}
 {ty:TypeId} {pos:String} {aft:Array Edge} {gd:Option (Nat × Bool)} {x y:Operand} {T:TypeId}
theorem aJq {α:Type} {b T0 m:Nat} {enc:α→List Value} {f z:α} (hf:Has N a F) (hc:Ctx G L w) (hg:pD ops F ⟨none,.store T x y,ty,pos,aft,gd⟩=some true) (hx:ev F x=some (.pointer (some ⟨b,0,none⟩))) (hy:ev F y=some (.agg (enc z).toArray))
  (he:∀ x,(enc x).length=m∧nJ (enc x)=true) (hs:(P.info? T).map (·.size)=some m) (hu:Upd L (.box b (enc f) T0) (.box b (enc z) T0) L')
  (k:∀ w,Ctx G L' w→wpList P ops Q rest a w):wpList P ops Q (⟨none,.store T x y,ty,pos,aft,gd⟩::rest) a w :=
 aKa (cs:=enc f) (T0:=T0) (vs:=enc z) hf hc hg hx hy rfl (by rw [(he z).1]; exact hs) (he z).2 (by rw [Nat.zero_add,(he z).1,(he f).1]; simp) (by rw [splW ((he f).1.trans (he z).1.symm)]; exact hu) k
theorem aN1 {c:Bool} {f g:Nat} {cl:Call} {xs:List Operand} {vs:List Value} {v v1 v2:Value} {dd:Option Nat} (hen:En P f) (hen':En P g) (hc:cl.callee=.value x) (hx:ev F x=some (bif c then .func (.func f) #[] #[] else .func (.func g) #[] #[])) (hargs:cl.args=xs.toArray) (hvs:xs.mapM (ev F)=some vs)
  (h1:c=true→v1=v) (h2:c=false→v2=v)
  (e1:∀ w,Ctx G L w→Calls P f vs.toArray w fun e w'=>e=.returned v1∧Ctx G L w') (e2:∀ w,Ctx G L w→Calls P g vs.toArray w fun e w'=>e=.returned v2∧Ctx G L w') :
  Ev P ⟨dd,.call cl,ty,pos,aft,gd⟩ N F G L v:=by
 cases c with
 | true=>obtain rfl:=h1 rfl; exact eC (caps:=[]) hen hc hx hargs hvs (by simpa using e1)
 | false=>obtain rfl:=h2 rfl; exact eC (caps:=[]) hen' hc hx hargs hvs (by simpa using e2)
end steps
end Go.Nilo
