/-
  A key of a map from ints is deleted. Conditions: what each theorem names.
-/
import Derived.Test.YtcefmiiipbjngaaGreatNl30
set_option linter.unusedSimpArgs false
set_option linter.unusedVariables false
namespace Go.Nilo
theorem aBf.del {es:List MapEntry} {clock:Nat} {f:Int→Option Value} {pend:Option (Nat × Int)} (h:aBf es clock f pend) {k:Int} {i:Nat} {e:MapEntry} (he:es[i]?=some e) (hk:e.key=.int .i64 k):aBf (es.eraseIdx i) clock (λj=>if j=k then none else f j) none:=by
 refine ⟨λx hx=>h.keys x (List.mem_of_mem_eraseIdx hx),h.one.sublist (List.eraseIdx_sublist _ _),λx hx=>h.old x (List.mem_of_mem_eraseIdx hx),λj v=>?_,λs k' hc=>by cases hc⟩
 constructor
 ·intro hj
  by_cases hjk:j=k
  ·simp [hjk] at hj
  ·simp only [if_neg hjk] at hj
   obtain ⟨x,hx,hxk,hv⟩:=(h.some' j v).1 hj
   refine ⟨x,List.mem_eraseIdx_iff_getElem?.2 ?_,hxk,hv⟩
   obtain ⟨p,hp⟩:=List.mem_iff_getElem?.1 hx
   refine ⟨p,λhpi=>?_,hp⟩
   rw [hpi,he] at hp
   have:e=x:=Option.some.inj hp
   rw [← this,hk] at hxk
   injection hxk with _ hc
   exact hjk hc.symm
 ·rintro ⟨x,hx,hxk,hv⟩
  obtain ⟨p,hpi,hp⟩:=List.mem_eraseIdx_iff_getElem?.1 hx
  by_cases hjk:j=k
  ·exfalso
   subst hjk
   obtain ⟨a1,a2⟩:=List.getElem?_eq_some_iff.1 hp
   obtain ⟨b1,b2⟩:=List.getElem?_eq_some_iff.1 he
   rcases Nat.lt_trichotomy p i with hc | hc | hc
   ·exact (List.pairwise_iff_getElem.1 h.one p i a1 b1 hc).1 (by rw [a2,b2,hxk,hk])
   ·exact hpi hc
   ·exact (List.pairwise_iff_getElem.1 h.one i p b1 a1 hc).1 (by rw [a2,b2,hxk,hk])
  ·simp only [if_neg hjk]
   exact (h.some' j v).2 ⟨x,List.mem_of_getElem? hp,hxk,hv⟩
theorem aBf.del_none {es:List MapEntry} {clock:Nat} {f:Int→Option Value} {pend:Option (Nat × Int)} (h:aBf es clock f pend) {k:Int} (hn:∀ e ∈ es,e.key ≠ .int .i64 k):aBf es clock (λj=>if j=k then none else f j) none:=by
 refine ⟨h.keys,h.one,h.old,λj v=>?_,λs k' hc=>by cases hc⟩
 by_cases hjk:j=k
 ·subst hjk
  simp only [if_true]
  constructor
  ·intro hc
   cases hc
  ·rintro ⟨x,hx,hxk,-⟩
   exact absurd hxk (hn x hx)
 ·simp only [if_neg hjk]
  exact h.some' j v
section steps
variable {P:Program} {ops:Array Oper} {Q:Exit→Act→World→Prop} {rest:List Oper} {a:Act} {w:World} {N:Fm} {d:Nat} {F:List (Nat × Value)} {G:cJ} {L L':List Ent} {v:Value}
 {ty:TypeId} {pos:String} {aft:Array Edge} {gd:Option (Nat × Bool)} {x y z:Operand} {T:TypeId}
end steps
end Go.Nilo
