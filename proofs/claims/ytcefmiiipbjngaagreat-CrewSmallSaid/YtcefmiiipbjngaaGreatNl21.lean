/-
  Maps whose keys are structs of numbers. Conditions: what each theorem names.
-/
import Derived.Test.YtcefmiiipbjngaaGreatNl20
set_option linter.unusedSimpArgs false
set_option linter.unusedVariables false
namespace Go.Nilo
structure KeyT (P:Program) (K:TypeId) {κ:Type} (kv:κ→Value):Prop where
 inj:∀ a b,kv a=kv b→a=b
 chk:∀ e k w,(Instr.checkKey e 10000 K (kv k)).run P w=.ok () w
 same:∀ k,Instr.sameBits 10000 (kv k) (kv k)=true
 fnd:∀ k (es:List MapEntry) w,(∀ e ∈ es,∃ k,e.key=kv k)→∃ r,(Instr.findKey K (kv k) es).run P w=.ok r w∧(r=none∧(∀ e ∈ es,e.key ≠ kv k) ∨ ∃ j e,es[j]?=some e∧e.key=kv k∧r=some (j,e.val))
structure aHo {κ:Type} (kv:κ→Value) (es:List MapEntry) (clock:Nat) (f:κ→Option Value) (pend:Option (Nat × κ)):Prop where
 keys:∀ e ∈ es,∃ k,e.key=kv k
 one:es.Pairwise λa b=>a.key ≠ b.key∧a.born ≠ b.born
 old:∀ e ∈ es,e.born < clock
 some':∀ k v,f k=some v ↔ ∃ e ∈ es,e.key=kv k∧e.val=v
 pend:∀ s k,pend=some (s,k)→∃ e ∈ es,e.born=s∧e.key=kv k
section laws
variable {κ:Type} {kv:κ→Value}
theorem aHo.key_inj {es:List MapEntry} {clock:Nat} {f:κ→Option Value} {pend:Option (Nat × κ)} (h:aHo kv es clock f pend) {e e':MapEntry} (he:e ∈ es) (he':e' ∈ es) (hk:e.key=e'.key):e=e':=by
 have:=h.one
 clear h
 induction es with
 | nil=>cases he
 | cons x es ih=>
  obtain ⟨h1,h2⟩:=List.pairwise_cons.1 this
  rcases List.mem_cons.1 he with rfl | he1 <;> rcases List.mem_cons.1 he' with rfl | he2
  ·rfl
  ·exact absurd hk (h1 _ he2).1
  ·exact absurd hk.symm (h1 _ he1).1
  ·exact ih he1 he2 h2

theorem aHo.congr {es:List MapEntry} {clock:Nat} {f g:κ→Option Value} {pend:Option (Nat × κ)} (h:aHo kv es clock f pend) (hfg:∀ k,g k=f k):aHo kv es clock g pend :=
 ⟨h.keys,h.one,h.old,λk v=>by rw [hfg]; exact h.some' k v,h.pend⟩

theorem aHo.push [DecidableEq κ] (hinj:∀ a b,kv a=kv b→a=b) {es:List MapEntry} {clock:Nat} {f:κ→Option Value} {pend:Option (Nat × κ)} (h:aHo kv es clock f pend) {k:κ} (v:Value) (hn:∀ e ∈ es,e.key ≠ kv k) :
  aHo kv (es++[{ key:=kv k,val:=v,born:=clock }]) (clock + 1) (λj=>if j=k then some v else f j) (some (clock,k)):=by
 refine ⟨?_,?_,?_,?_,?_⟩
 ·intro e he
  rcases List.mem_append.1 he with he | he
  ·exact h.keys e he
  ·simp at he; subst he; exact ⟨k,rfl⟩
 ·refine List.pairwise_append.2 ⟨h.one,List.pairwise_singleton _ _,λe he e' he'=>?_⟩
  simp at he'
  subst he'
  exact ⟨hn e he,Nat.ne_of_lt (h.old e he)⟩
 ·intro e he
  rcases List.mem_append.1 he with he | he
  ·have:=h.old e he; omega
  ·simp at he; subst he; simp
 ·intro j u
  by_cases hj:j=k
  ·subst hj
   simp only [if_pos]
   constructor
   ·intro hu
    cases hu
    exact ⟨_,List.mem_append_right _ List.mem_cons_self,rfl,rfl⟩
   ·rintro ⟨e,he,hk,rfl⟩
    rcases List.mem_append.1 he with he | he
    ·exact absurd hk (hn e he)
    ·simp at he; subst he; rfl
  ·simp only [if_neg hj]
   rw [h.some']
   constructor
   ·rintro ⟨e,he,hk⟩
    exact ⟨e,List.mem_append_left _ he,hk⟩
   ·rintro ⟨e,he,hk,hv⟩
    rcases List.mem_append.1 he with he | he
    ·exact ⟨e,he,hk,hv⟩
    ·simp at he; subst he
     exact absurd (hinj _ _ hk).symm hj
 ·intro s k' hs
  cases hs
  exact ⟨_,List.mem_append_right _ List.mem_cons_self,rfl,rfl⟩

theorem aHo.put [DecidableEq κ] (hinj:∀ a b,kv a=kv b→a=b) {es:List MapEntry} {clock:Nat} {f:κ→Option Value} {pend:Option (Nat × κ)} (h:aHo kv es clock f pend) {k:κ} {i:Nat} {e:MapEntry} (v:Value) (he:es[i]?=some e) (hk:e.key=kv k) :
  aHo kv (es.modify i λe=>{ e with val:=v }) clock (λj=>if j=k then some v else f j) none:=by
 have hget:∀ j,(es.modify i λe=>{ e with val:=v })[j]?=if i=j then es[j]?.map (λe=>{ e with val:=v }) else es[j]?:=λj=>by
  rw [List.getElem?_modify]
  by_cases hij:i=j <;> simp [hij]
 have hmem:∀ x,x ∈ (es.modify i λe=>{ e with val:=v })→∃ y ∈ es,x.key=y.key∧x.born=y.born∧((y=e∧x.val=v) ∨ (y ≠ e∧x=y)):=by
  intro x hx
  obtain ⟨j,hj⟩:=List.mem_iff_getElem?.1 hx
  rw [hget] at hj
  by_cases hij:i=j
  ·subst hij
   simp [he] at hj
   subst hj
   exact ⟨e,List.mem_of_getElem? he,rfl,rfl,.inl ⟨rfl,rfl⟩⟩
  ·rw [if_neg hij] at hj
   refine ⟨x,List.mem_of_getElem? hj,rfl,rfl,.inr ⟨λhxe=>?_,rfl⟩⟩
   subst hxe
   have h1:=(List.getElem?_eq_some_iff.1 he)
   have h2:=(List.getElem?_eq_some_iff.1 hj)
   obtain ⟨a1,a2⟩:=h1
   obtain ⟨b1,b2⟩:=h2
   rcases Nat.lt_or_gt_of_ne hij with hlt | hgt
   ·exact (List.pairwise_iff_getElem.1 h.one i j a1 b1 hlt).1 (by rw [a2,b2])
   ·exact (List.pairwise_iff_getElem.1 h.one j i b1 a1 hgt).1 (by rw [a2,b2])
 have hback:∀ y ∈ es,y ≠ e→y ∈ (es.modify i λe=>{ e with val:=v }):=by
  intro y hy hne
  obtain ⟨j,hj⟩:=List.mem_iff_getElem?.1 hy
  refine List.mem_iff_getElem?.2 ⟨j,?_⟩
  rw [hget,if_neg (λhij=>hne (by subst hij; rw [he] at hj; exact (Option.some.inj hj).symm)),hj]
 have hnew:({ e with val:=v }:MapEntry) ∈ (es.modify i λe=>{ e with val:=v }):=List.mem_iff_getElem?.2 ⟨i,by rw [hget,if_pos rfl,he]; rfl⟩
 refine ⟨?_,?_,?_,?_,?_⟩
 ·intro x hx
  obtain ⟨y,hy,h1,_⟩:=hmem x hx
  rw [h1]; exact h.keys y hy
 ·have hmap:(es.modify i λe=>{ e with val:=v }).map (λe=>(e.key,e.born))=es.map λe=>(e.key,e.born):=by
   apply List.ext_getElem?
   intro j
   rw [List.getElem?_map,List.getElem?_map,hget]
   by_cases hij:i=j
   ·subst hij; simp [he]
   ·simp [hij]
  have h1:(es.map λe=>(e.key,e.born)).Pairwise λa b=>a.1 ≠ b.1∧a.2 ≠ b.2:=List.pairwise_map.2 h.one
  rw [← hmap] at h1
  exact List.pairwise_map.1 h1
 ·intro x hx
  obtain ⟨y,hy,_,h2,_⟩:=hmem x hx
  rw [h2]; exact h.old y hy
 ·intro j u
  by_cases hj:j=k
  ·subst hj
   simp only [if_pos]
   constructor
   ·intro hu
    cases hu
    exact ⟨_,hnew,hk,rfl⟩
   ·rintro ⟨x,hx,hxk,rfl⟩
    obtain ⟨y,hy,h1,_,h3⟩:=hmem x hx
    have:y=e:=h.key_inj hy (List.mem_of_getElem? he) (by rw [← h1,hxk,hk])
    rcases h3 with ⟨_,h3⟩ | ⟨h3,_⟩
    ·rw [h3]
    ·exact absurd this h3
  ·simp only [if_neg hj]
   rw [h.some']
   constructor
   ·rintro ⟨x,hx,hxk,hxv⟩
    refine ⟨x,hback x hx (λhxe=>?_),hxk,hxv⟩
    subst hxe
    rw [hk] at hxk
    exact hj (hinj _ _ hxk).symm
   ·rintro ⟨x,hx,hxk,hxv⟩
    obtain ⟨y,hy,h1,_,h3⟩:=hmem x hx
    rcases h3 with ⟨rfl,_⟩ | ⟨_,rfl⟩
    ·rw [h1,hk] at hxk
     exact absurd (hinj _ _ hxk).symm hj
    ·exact ⟨x,hy,hxk,hxv⟩
 ·intro s k' hs
  cases hs

end laws
section steps
variable {P:Program} {ops:Array Oper} {Q:Exit→Act→World→Prop} {rest:List Oper} {a:Act} {w:World} {N:Fm} {d:Nat} {F:List (Nat × Value)} {G:cJ} {L L':List Ent}
 {ty:TypeId} {pos:String} {aft:Array Edge} {gd:Option (Nat × Bool)} {x y:Operand} {T:TypeId} {κ:Type} {kv:κ→Value}

end steps
end Go.Nilo
