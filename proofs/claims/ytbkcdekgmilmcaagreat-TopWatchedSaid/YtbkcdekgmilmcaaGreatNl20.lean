/-
  Arrays as elements of slices: whole elements stored, arrays cleared. Conditions: what each theorem names.
-/
import Derived.Test.YtbkcdekgmilmcaaGreatNl19
set_option linter.unusedSimpArgs false
set_option linter.unusedVariables false
namespace Go.Nilo
section steps
variable {P:Program} {ops:Array Oper} {Q:Exit→Act→World→Prop} {rest:List Oper} {a:Act} {w:World} {N:Fm} {d:Nat} {F:List (Nat × Value)} {G:aT} {L L':List Ent}
 {ty:TypeId} {pos:String} {aft:Array Edge} {gd:Option (Nat × Bool)} {x y:Operand} {T:TypeId}
theorem xI {α:Type} {b T0 m:Nat} {enc:α→List Value} {f z:α} (hf:Has N a F) (hc:Ctx G L w) (hg:pT ops F ⟨none,.store T x y,ty,pos,aft,gd⟩=some true) (hx:ev F x=some (.pointer (some ⟨b,0,none⟩))) (hy:ev F y=some (.agg (enc z).toArray))
  (he:∀ x,(enc x).length=m∧oQ (enc x)=true) (hs:(P.info? T).map (·.size)=some m) (hu:Upd L (.box b (enc f) T0) (.box b (enc z) T0) L')
  (k:∀ w,Ctx G L' w→wpList P ops Q rest a w):wpList P ops Q (⟨none,.store T x y,ty,pos,aft,gd⟩::rest) a w :=
 stSt (cs:=enc f) (T0:=T0) (vs:=enc z) hf hc hg hx hy rfl (by rw [(he z).1]; exact hs) (he z).2 (by rw [Nat.zero_add,(he z).1,(he f).1]; simp) (by rw [splW ((he f).1.trans (he z).1.symm)]; exact hu) k
end steps
end Go.Nilo
