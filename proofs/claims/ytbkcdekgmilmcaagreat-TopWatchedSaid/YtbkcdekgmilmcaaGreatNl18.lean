/-
  Arrays as elements of slices, whole arrays that are read, stored and cleared. Conditions: what each theorem names.
-/
import Derived.Test.YtbkcdekgmilmcaaGreatNl17
set_option linter.unusedSimpArgs false
set_option linter.unusedVariables false
namespace Go.Nilo
theorem aJ3 {α:Type} {enc:α→List Value} {sz:Nat} (h:∀ x,(enc x).length=sz∧oQ (enc x)=true) (f:Nat→α):∀ n,oQ (arr n enc f)=true
 | 0=>by simp [arr,oQ]
 | n + 1=>by
  have ih:=aJ3 h f n
  have h2:=(h (f n)).2
  simp only [oQ] at ih h2 ⊢
  rw [uE,List.all_append,ih,h2]
  rfl
theorem aBo {α:Type} {enc:α→List Value} {sz:Nat} (h:∀ x,(enc x).length=sz∧oQ (enc x)=true) (n:Nat) (f:Nat→α):(bR [] n enc f []).length=n * sz∧oQ (bR [] n enc f [])=true:=by
 refine ⟨by simp [bR,qT (fun x=>(h x).1)],?_⟩
 have:=aJ3 h f n
 simpa [bR] using this
theorem tF {α:Type} {l:List α} {n:Nat} (h:l.length=n):(l.drop 0).take n=l:=by
 subst h
 simp
theorem splW {cs vs:List Value} (h:cs.length=vs.length):spl cs 0 vs=vs:=by
 have:∀ (vs cs A:List Value),cs.length=vs.length→spl (A++cs) A.length vs=A++vs:=by
  intro vs
  induction vs with
  | nil=>
   intro cs A h
   have:cs=[]:=List.eq_nil_of_length_eq_zero h
   subst this
   simp [aBl]
  | cons v vs ih=>
   intro cs A h
   cases cs with
   | nil=>simp at h
   | cons c cs=>
    rw [wG v vs _ _ (by simp)]
    have e:(A++c::cs).set A.length v=(A++[v])++cs:=by
     rw [List.set_append]
     simp
    have:=ih cs (A++[v]) (by simpa using h)
    rw [e]
    simp only [List.length_append,List.length_cons,List.length_nil,Nat.zero_add] at this
    rw [this]
    simp
 have:=this vs cs [] h
 simpa using this
section steps
variable {P:Program} {ops:Array Oper} {Q:Exit→Act→World→Prop} {rest:List Oper} {a:Act} {w:World} {N:Fm} {d:Nat} {F:List (Nat × Value)} {G:aT} {L L':List Ent}
 {ty:TypeId} {pos:String} {aft:Array Edge} {gd:Option (Nat × Bool)} {x y:Operand} {T:TypeId}
theorem aLm {P:Program} {e:TypeId} {z:Value} (h:(P.info? e).map (·.zero)=some (some z)) (w:World):(zeroValue e).run P w=.ok z w:=by
 cases hi:P.info? e with
 | none=>simp [hi] at h
 | some i=>
  have hz:i.zero=some z:=by simpa [hi] using h
  simp [zeroValue,typeInfo,hi,hz]
end steps
end Go.Nilo
