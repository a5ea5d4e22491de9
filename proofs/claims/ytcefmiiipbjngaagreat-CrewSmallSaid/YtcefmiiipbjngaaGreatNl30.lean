/-
  Ranges over a function that read, from round to round, a box of the rounds, the arrays of which the rounds change; arrays of arrays of structs. Conditions: what each theorem names.
-/
import Derived.Test.YtcefmiiipbjngaaGreatNl29
set_option linter.unusedSimpArgs false
set_option linter.unusedVariables false
namespace Go.Nilo
variable {P:Program} {ops:Array Oper} {Q:Exit→Act→World→Prop} {a:Act} {w:World} {l n:Nat}
section regionm
variable {P:Program} {Q:Exit→Act→World→Prop} {N:Fm}
def aSp (P:Program) (ops:Array Oper) (Q:Exit→Act→World→Prop) (N:Fm) (F:List Fa) (M:(Nat→Bool)→World→Prop) (D:List (Nat × Nat)) (i:Nat) (o:Oper):Prop :=
 ∀ (E:Nat→Bool) (a:Act) (w:World),aL6 D E→E i=false→aBg o E→iW N a E F→M E w →
  ∀ (K:Act→World→Prop),(∀ a' w',(∀ ds u,a'={ a with defers:=ds }.put o.dst u→iW N a' (yA E i) F∧M (yA E i) w')→K a' w')→wpListIn Fence.wide 1 P ops (Exit.then K Q) [o] a w

def aJj (P:Program) (ops:Array Oper) (Q:Exit→Act→World→Prop) (N:Fm) (F:List Fa) (M:(Nat→Bool)→World→Prop) (D:List (Nat × Nat)):Nat→List Oper→Prop
 | _,[]=>True
 | i,o::l=>aSp P ops Q N F M D i o∧aJj P ops Q N F M D (i + 1) l

theorem aJj.get {ops:Array Oper} {F:List Fa} {M:(Nat→Bool)→World→Prop} {D:List (Nat × Nat)}:∀ {l:List Oper} {i:Nat},aJj P ops Q N F M D i l→∀ j o,l[j]?=some o→aSp P ops Q N F M D (i + j) o
 | [],_,_,j,o,h=>by simp at h
 | o'::l,i,hs,j,o,h=>by
  cases j with
  | zero=>simp at h; subst h; exact hs.1
  | succ j=>
   have:=aJj.get hs.2 j o (by simpa using h)
   rwa [Nat.add_assoc,Nat.add_comm 1 j] at this

end regionm
end Go.Nilo
