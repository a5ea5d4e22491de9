/-
  Maps from ints, as the list of their entries: what len, delete and a new entry do to it. Copies into a row of the call's own. Conditions: what each theorem names.
-/
import Derived.Test.YtfgdaecfjidahaaGreatNl26
import Derived.Shelf.Bits.Mul64
set_option linter.unusedSimpArgs false
set_option linter.unusedVariables false
namespace Go.Nilo
def lkA {ν:Type} (kvs:List (Int × ν)) (k:Int):Option ν:=(kvs.find? fun p=>p.1 == k).map Prod.snd
def setA {ν:Type} (kvs:List (Int × ν)) (k:Int) (v:ν):List (Int × ν):=if kvs.any (fun p=>p.1 == k) then kvs.map (fun p=>if p.1 == k then (k,v) else p) else kvs++[(k,v)]
def delA {ν:Type} (kvs:List (Int × ν)) (k:Int):List (Int × ν):=kvs.eraseP fun p=>p.1 == k
structure ALq {ν:Type} (enc:ν→Value) (kvs:List (Int × ν)) (es:List MapEntry) (clock:Nat):Prop where
 same:es.map (fun e=>(e.key,e.val))=kvs.map fun p=>(.int .i64 p.1,enc p.2)
 one:es.Pairwise fun a b=>a.key ≠ b.key∧a.born ≠ b.born
 old:∀ e ∈ es,e.born < clock
section al
variable {ν:Type} {enc:ν→Value}
theorem aHc:∀ {es:List MapEntry} {kvs:List (Int × ν)},es.map (fun e=>(e.key,e.val))=kvs.map (fun p=>(.int .i64 p.1,enc p.2))→es.Pairwise (fun a b=>a.key ≠ b.key∧a.born ≠ b.born) →
  ∀ k v,(lkA kvs k).map enc=some v ↔ ∃ e ∈ es,e.key=.int .i64 k∧e.val=v
 | [],[],_,_,k,v=>by simp [lkA]
 | [],p::kvs,h,_,_,_=>by simp at h
 | e::es,[],h,_,_,_=>by simp at h
 | e::es,p::kvs,h,h1,k,v=>by
  simp only [List.map_cons,List.cons.injEq,Prod.mk.injEq] at h
  obtain ⟨⟨hk,hv⟩,hr⟩:=h
  obtain ⟨h2,h3⟩:=List.pairwise_cons.1 h1
  have ih:=aHc hr h3 k v
  unfold lkA at ih ⊢
  by_cases hp:p.1=k
  ·subst hp
   simp only [List.find?_cons,beq_self_eq_true,Option.map_some,Option.some.injEq]
   constructor
   ·intro h; exact ⟨e,List.mem_cons_self,hk,by rw [hv,h]⟩
   ·rintro ⟨e',he',hk',hv'⟩
    rcases List.mem_cons.1 he' with rfl | he'
    ·rw [← hv,hv']
    ·exact absurd (hk.trans hk'.symm) (h2 e' he').1
  ·have hb:(p.1 == k)=false:=by simpa using hp
   simp only [List.find?_cons,hb]
   rw [ih]
   constructor
   ·rintro ⟨e',he',h4⟩; exact ⟨e',List.mem_cons_of_mem _ he',h4⟩
   ·rintro ⟨e',he',hk',hv'⟩
    rcases List.mem_cons.1 he' with rfl | he'
    ·rw [hk] at hk'; injection hk' with _ hk'; exact absurd hk' hp
    ·exact ⟨e',he',hk',hv'⟩
theorem ALq.imap {kvs:List (Int × ν)} {es:List MapEntry} {clock:Nat} (h:ALq enc kvs es clock):tL es clock (fun j=>(lkA kvs j).map enc) none:=by
 refine ⟨fun e he=>?_,h.one,h.old,aHc h.same h.one,fun s k hh=>by cases hh⟩
 have:(e.key,e.val) ∈ es.map (fun e=>(e.key,e.val)):=List.mem_map_of_mem (f:=fun e:MapEntry=>(e.key,e.val)) he
 rw [h.same] at this
 obtain ⟨p,-,hp⟩:=List.mem_map.1 this
 injection hp with hp _
 exact ⟨p.1,hp.symm⟩
theorem ALq.len {kvs:List (Int × ν)} {es:List MapEntry} {clock:Nat} (h:ALq enc kvs es clock):es.length=kvs.length:=by
 have:=congrArg List.length h.same
 simpa using this
theorem ALq.at {kvs:List (Int × ν)} {es:List MapEntry} {clock:Nat} (h:ALq enc kvs es clock) {j:Nat} {e:MapEntry} (he:es[j]?=some e):∃ p,kvs[j]?=some p∧e.key=.int .i64 p.1∧e.val=enc p.2:=by
 have h1:=congrArg (fun l=>l[j]?) h.same
 simp only [List.getElem?_map,he,Option.map_some] at h1
 cases hk:kvs[j]? with
 | none=>rw [hk] at h1; cases h1
 | some p=>
  rw [hk] at h1
  simp only [Option.map_some,Option.some.injEq,Prod.mk.injEq] at h1
  exact ⟨p,rfl,h1.1,h1.2⟩
theorem ALq.key_ne {kvs:List (Int × ν)} {es:List MapEntry} {clock:Nat} (h:ALq enc kvs es clock) {i j:Nat} {p q:Int × ν} (hi:kvs[i]?=some p) (hj:kvs[j]?=some q) (hne:i ≠ j):p.1 ≠ q.1:=by
 have hl:=h.len
 have hi':i < es.length:=by rw [hl]; exact (List.getElem?_eq_some_iff.1 hi).1
 have hj':j < es.length:=by rw [hl]; exact (List.getElem?_eq_some_iff.1 hj).1
 obtain ⟨p',hp,hkp,_⟩:=h.at (List.getElem?_eq_getElem hi')
 obtain ⟨q',hq,hkq,_⟩:=h.at (List.getElem?_eq_getElem hj')
 have e1:p'=p:=Option.some.inj (hp.symm.trans hi)
 have e2:q'=q:=Option.some.inj (hq.symm.trans hj)
 subst e1; subst e2
 intro he
 have hpw:=List.pairwise_iff_getElem.1 h.one
 rcases Nat.lt_or_gt_of_ne hne with hlt | hlt
 ·exact (hpw i j hi' hj' hlt).1 (by rw [hkp,hkq,he])
 ·exact (hpw j i hj' hi' hlt).1 (by rw [hkp,hkq,he])
theorem ALq.any {kvs:List (Int × ν)} {es:List MapEntry} {clock:Nat} (h:ALq enc kvs es clock) {k:Int} (hn:∀ e ∈ es,e.key ≠ .int .i64 k):kvs.any (fun p=>p.1 == k)=false:=by
 rw [List.any_eq_false]
 intro p hp he
 have he':p.1=k:=by simpa using he
 have:((.int .i64 p.1,enc p.2):Value × Value) ∈ kvs.map (fun p=>(.int .i64 p.1,enc p.2)):=List.mem_map_of_mem (f:=fun p:Int × ν=>((.int .i64 p.1,enc p.2):Value × Value)) hp
 rw [← h.same] at this
 obtain ⟨e,he1,he2⟩:=List.mem_map.1 this
 injection he2 with he2 _
 exact hn e he1 (by rw [he2,he'])
theorem ALq.push {kvs:List (Int × ν)} {es:List MapEntry} {clock:Nat} (h:ALq enc kvs es clock) {k:Int} (v:ν) (hn:∀ e ∈ es,e.key ≠ .int .i64 k) :
  ALq enc (setA kvs k v) (es++[{ key:=.int .i64 k,val:=enc v,born:=clock }]) (clock + 1):=by
 have h0:=h.imap.push (enc v) hn
 refine ⟨?_,h0.one,h0.old⟩
 unfold setA
 rw [h.any hn]
 simp [h.same]
theorem ALq.put {kvs:List (Int × ν)} {es:List MapEntry} {clock:Nat} (h:ALq enc kvs es clock) {k:Int} {j:Nat} {e:MapEntry} (v:ν) (he:es[j]?=some e) (hk:e.key=.int .i64 k) :
  ALq enc (setA kvs k v) (es.modify j fun e=>{ e with val:=enc v }) clock:=by
 have h0:=h.imap.put (enc v) he hk
 obtain ⟨p,hp,hkp,-⟩:=h.at he
 have hpk:p.1=k:=by rw [hk] at hkp; injection hkp with _ hkp; exact hkp.symm
 refine ⟨?_,h0.one,h0.old⟩
 have hany:kvs.any (fun p=>p.1 == k)=true:=List.any_eq_true.2 ⟨p,List.mem_of_getElem? hp,by simpa using hpk⟩
 unfold setA
 rw [if_pos hany]
 apply List.ext_getElem?
 intro i
 have hs:=congrArg (fun l=>l[i]?) h.same
 simp only [List.getElem?_map,List.getElem?_modify] at hs ⊢
 by_cases hij:j=i
 ·subst hij
  rw [he,hp]
  simp [hpk,hk]
 ·cases hi:kvs[i]? with
  | none=>rw [hi] at hs; simp at hs; simp [hs,hij]
  | some q=>
   have hq:q.1 ≠ k:=by rw [← hpk]; exact h.key_ne hi hp (Ne.symm hij)
   rw [hi] at hs
   simp only [Option.map_some] at hs ⊢
   have hb:(q.1 == k)=false:=by simpa using hq
   simp only [hb,hij,if_false]
   simpa using hs
theorem aCm:∀ {kvs:List (Int × ν)} {j:Nat} {p:Int × ν} {k:Int},kvs[j]?=some p→p.1=k→(∀ i q,i < j→kvs[i]?=some q→q.1 ≠ k)→kvs.eraseP (fun p=>p.1 == k)=kvs.eraseIdx j
 | [],_,_,_,h,_,_=>by simp at h
 | q::kvs,0,p,k,h,hk,_=>by
  have:q=p:=by simpa using h
  subst this
  simp [hk]
 | q::kvs,j + 1,p,k,h,hk,hn=>by
  have h0:q.1 ≠ k:=hn 0 q (by omega) rfl
  have hb:(q.1 == k)=false:=by simpa using h0
  rw [List.eraseP_cons_of_neg (by simp [hb]),aCm (by simpa using h) hk (fun i q' hi hq=>hn (i + 1) q' (by omega) (by simpa using hq))]
  rfl
theorem yM {α β:Type} (f:α→β):∀ (l:List α) (i:Nat),(l.eraseIdx i).map f=(l.map f).eraseIdx i
 | [],_=>rfl
 | _::_,0=>rfl
 | a::l,i + 1=>by simp [yM f l i]
theorem ALq.del {kvs:List (Int × ν)} {es:List MapEntry} {clock:Nat} (h:ALq enc kvs es clock) {k:Int} {j:Nat} {e:MapEntry} (he:es[j]?=some e) (hk:e.key=.int .i64 k) :
  ALq enc (delA kvs k) (es.eraseIdx j) clock:=by
 obtain ⟨p,hp,hkp,-⟩:=h.at he
 have hpk:p.1=k:=by rw [hk] at hkp; injection hkp with _ hkp; exact hkp.symm
 have e1:delA kvs k=kvs.eraseIdx j:=aCm hp hpk fun i q hi hq=>by rw [← hpk]; exact h.key_ne hq hp (by omega)
 refine ⟨?_,h.one.sublist (List.eraseIdx_sublist es j),fun e' he'=>h.old e' ((List.eraseIdx_sublist es j).subset he')⟩
 rw [e1]
 have:=congrArg (fun l=>l.eraseIdx j) h.same
 rw [yM,yM]
 exact this
theorem ALq.del_none {kvs:List (Int × ν)} {es:List MapEntry} {clock:Nat} (h:ALq enc kvs es clock) {k:Int} (hn:∀ e ∈ es,e.key ≠ .int .i64 k):delA kvs k=kvs:=by
 have:=h.any hn
 rw [List.any_eq_false] at this
 exact List.eraseP_of_forall_not this
end al
section steps
variable {P:Program} {ops:Array Oper} {Q:Exit→Act→World→Prop} {rest:List Oper} {a:Act} {w:World} {N:Fm} {d:Nat} {F:List (Nat × Value)} {G:aU} {L L':List Ent} {v:Value}
 {ty:TypeId} {pos:String} {aft:Array Edge} {gd:Option (Nat × Bool)} {x y z:Operand} {T:TypeId}
end steps
def cpL {α:Type} (R:List α) (lo nd:Nat) (S:List α):List α:=if lo + Nat.min S.length nd≤R.length then R.take lo++S.take (Nat.min S.length nd)++R.drop (lo + Nat.min S.length nd) else R
@[simp] theorem aNx {α:Type} (R:List α) (lo nd:Nat) (S:List α):(cpL R lo nd S).length=R.length:=by
 unfold cpL
 split
 ·rename_i h
  have:Nat.min S.length nd≤S.length:=Nat.min_le_left _ _
  simp only [List.length_append,List.length_take,List.length_drop]
  omega
 ·rfl
section copies
variable {P:Program} {ops:Array Oper} {Q:Exit→Act→World→Prop} {rest:List Oper} {a:Act} {w:World} {N:Fm} {d:Nat} {F:List (Nat × Value)} {G:aU} {L L':List Ent}
 {ty:TypeId} {pos:String} {aft:Array Edge} {gd:Option (Nat × Bool)} {x y:Operand} {T T2:TypeId}
end copies
theorem Has.castAt {N:Fm} {a:Act} {F:List (Nat × Value)} {v v':Value} (h:Has N a F) (d:Nat) (hl:eZ F d=some v) (e:v=v'):Has N a ((d,v')::F):=by
 subst e
 refine ⟨h.size,h.defers,fun k u hk=>?_⟩
 simp only [eZ] at hk
 cases hb:Nat.beq d k with
 | true=>
  rw [hb] at hk
  have:d=k:=Nat.eq_of_beq_eq_true hb
  subst this
  simp only [cond_true,Option.some.injEq] at hk
  subst hk
  exact h.get _ _ hl
 | false=>rw [hb] at hk; exact h.get k u hk
end Go.Nilo
