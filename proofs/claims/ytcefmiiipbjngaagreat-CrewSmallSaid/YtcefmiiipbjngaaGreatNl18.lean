/-
  Arrays as elements of slices, whole arrays that are read, stored and cleared. Conditions: what each theorem names.
-/
import Derived.Test.YtcefmiiipbjngaaGreatNl17
set_option linter.unusedSimpArgs false
set_option linter.unusedVariables false
namespace Go.Nilo
theorem takeW {α:Type} {l:List α} {n:Nat} (h:l.length=n):(l.drop 0).take n=l:=by
 subst h
 simp
theorem splW {cs vs:List Value} (h:cs.length=vs.length):spl cs 0 vs=vs:=by
 have:∀ (vs cs A:List Value),cs.length=vs.length→spl (A++cs) A.length vs=A++vs:=by
  intro vs
  induction vs with
  | nil=>
   intro cs A h
   have:cs=[]:=List.eq_nil_of_length_eq_zero h
   subst this
   simp [aEh]
  | cons v vs ih=>
   intro cs A h
   cases cs with
   | nil=>simp at h
   | cons c cs=>
    rw [aAs v vs _ _ (by simp)]
    have e:(A++c::cs).set A.length v=(A++[v])++cs:=by
     rw [List.set_append]
     simp
    have:=ih cs (A++[v]) (by simpa using h)
    rw [e]
    simp only [List.length_append,List.length_cons,List.length_nil,Nat.zero_add] at this
    rw [this]
    simp
 have:=this vs cs [] h
 simpa using this
section steps
variable {P:Program} {ops:Array Oper} {Q:Exit→Act→World→Prop} {rest:List Oper} {a:Act} {w:World} {N:Fm} {d:Nat} {F:List (Nat × Value)} {G:cJ} {L L':List Ent}
 {ty:TypeId} {pos:String} {aft:Array Edge} {gd:Option (Nat × Bool)} {x y:Operand} {T:TypeId}
end steps
end Go.Nilo
