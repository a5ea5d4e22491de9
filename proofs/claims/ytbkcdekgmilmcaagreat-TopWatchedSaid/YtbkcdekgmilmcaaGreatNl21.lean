/-
  Maps whose keys are structs of numbers. Conditions: what each theorem names.
-/
import Derived.Test.YtbkcdekgmilmcaaGreatNl20
set_option linter.unusedSimpArgs false
set_option linter.unusedVariables false
namespace Go.Nilo
structure aLc (P:Program) (K:TypeId) {κ:Type} (kv:κ→Value):Prop where
 inj:∀ a b,kv a=kv b→a=b
 chk:∀ e k w,(Instr.checkKey e 10000 K (kv k)).run P w=.ok () w
 same:∀ k,Instr.sameBits 10000 (kv k) (kv k)=true
 fnd:∀ k (es:List MapEntry) w,(∀ e ∈ es,∃ k,e.key=kv k)→∃ r,(Instr.findKey K (kv k) es).run P w=.ok r w∧(r=none∧(∀ e ∈ es,e.key ≠ kv k) ∨ ∃ j e,es[j]?=some e∧e.key=kv k∧r=some (j,e.val))
structure aDp {κ:Type} (kv:κ→Value) (es:List MapEntry) (clock:Nat) (f:κ→Option Value) (pend:Option (Nat × κ)):Prop where
 keys:∀ e ∈ es,∃ k,e.key=kv k
 one:es.Pairwise fun a b=>a.key ≠ b.key∧a.born ≠ b.born
 old:∀ e ∈ es,e.born < clock
 some':∀ k v,f k=some v ↔ ∃ e ∈ es,e.key=kv k∧e.val=v
 pend:∀ s k,pend=some (s,k)→∃ e ∈ es,e.born=s∧e.key=kv k
@[reducible] def KQ {κ:Type} (kv:κ→Value) (f:κ→Option Value) (pend:Option (Nat × κ)):List MapEntry→Nat→Prop:=fun es clock=>aDp kv es clock f pend
def setG {κ ν:Type} [DecidableEq κ] (m:κ→Option ν) (k:κ) (v:ν):κ→Option ν:=fun j=>if j=k then some v else m j
section laws
variable {κ:Type} {kv:κ→Value}
theorem aDp.key_inj {es:List MapEntry} {clock:Nat} {f:κ→Option Value} {pend:Option (Nat × κ)} (h:aDp kv es clock f pend) {e e':MapEntry} (he:e ∈ es) (he':e' ∈ es) (hk:e.key=e'.key):e=e':=by
 have:=h.one
 clear h
 induction es with
 | nil=>cases he
 | cons x es ih=>
  obtain ⟨h1,h2⟩:=List.pairwise_cons.1 this
  rcases List.mem_cons.1 he with rfl | he1 <;> rcases List.mem_cons.1 he' with rfl | he2
  ·rfl
  ·exact absurd hk (h1 _ he2).1
  ·exact absurd hk.symm (h1 _ he1).1
  ·exact ih he1 he2 h2

theorem aDp.congr {es:List MapEntry} {clock:Nat} {f g:κ→Option Value} {pend:Option (Nat × κ)} (h:aDp kv es clock f pend) (hfg:∀ k,g k=f k):aDp kv es clock g pend :=
 ⟨h.keys,h.one,h.old,fun k v=>by rw [hfg]; exact h.some' k v,h.pend⟩

theorem aDp.push [DecidableEq κ] (hinj:∀ a b,kv a=kv b→a=b) {es:List MapEntry} {clock:Nat} {f:κ→Option Value} {pend:Option (Nat × κ)} (h:aDp kv es clock f pend) {k:κ} (v:Value) (hn:∀ e ∈ es,e.key ≠ kv k) :
  aDp kv (es++[{ key:=kv k,val:=v,born:=clock }]) (clock + 1) (fun j=>if j=k then some v else f j) (some (clock,k)):=by
 refine ⟨?_,?_,?_,?_,?_⟩
 ·intro e he
  rcases List.mem_append.1 he with he | he
  ·exact h.keys e he
  ·simp at he; subst he; exact ⟨k,rfl⟩
 ·refine List.pairwise_append.2 ⟨h.one,List.pairwise_singleton _ _,fun e he e' he'=>?_⟩
  simp at he'
  subst he'
  exact ⟨hn e he,Nat.ne_of_lt (h.old e he)⟩
 ·intro e he
  rcases List.mem_append.1 he with he | he
  ·have:=h.old e he; omega
  ·simp at he; subst he; simp
 ·intro j u
  by_cases hj:j=k
  ·subst hj
   simp only [if_pos]
   constructor
   ·intro hu
    cases hu
    exact ⟨_,List.mem_append_right _ List.mem_cons_self,rfl,rfl⟩
   ·rintro ⟨e,he,hk,rfl⟩
    rcases List.mem_append.1 he with he | he
    ·exact absurd hk (hn e he)
    ·simp at he; subst he; rfl
  ·simp only [if_neg hj]
   rw [h.some']
   constructor
   ·rintro ⟨e,he,hk⟩
    exact ⟨e,List.mem_append_left _ he,hk⟩
   ·rintro ⟨e,he,hk,hv⟩
    rcases List.mem_append.1 he with he | he
    ·exact ⟨e,he,hk,hv⟩
    ·simp at he; subst he
     exact absurd (hinj _ _ hk).symm hj
 ·intro s k' hs
  cases hs
  exact ⟨_,List.mem_append_right _ List.mem_cons_self,rfl,rfl⟩

theorem aDp.put [DecidableEq κ] (hinj:∀ a b,kv a=kv b→a=b) {es:List MapEntry} {clock:Nat} {f:κ→Option Value} {pend:Option (Nat × κ)} (h:aDp kv es clock f pend) {k:κ} {i:Nat} {e:MapEntry} (v:Value) (he:es[i]?=some e) (hk:e.key=kv k) :
  aDp kv (es.modify i fun e=>{ e with val:=v }) clock (fun j=>if j=k then some v else f j) none:=by
 have hget:∀ j,(es.modify i fun e=>{ e with val:=v })[j]?=if i=j then es[j]?.map (fun e=>{ e with val:=v }) else es[j]?:=fun j=>by
  rw [List.getElem?_modify]
  by_cases hij:i=j <;> simp [hij]
 have hmem:∀ x,x ∈ (es.modify i fun e=>{ e with val:=v })→∃ y ∈ es,x.key=y.key∧x.born=y.born∧((y=e∧x.val=v) ∨ (y ≠ e∧x=y)):=by
  intro x hx
  obtain ⟨j,hj⟩:=List.mem_iff_getElem?.1 hx
  rw [hget] at hj
  by_cases hij:i=j
  ·subst hij
   simp [he] at hj
   subst hj
   exact ⟨e,List.mem_of_getElem? he,rfl,rfl,.inl ⟨rfl,rfl⟩⟩
  ·rw [if_neg hij] at hj
   refine ⟨x,List.mem_of_getElem? hj,rfl,rfl,.inr ⟨fun hxe=>?_,rfl⟩⟩
   subst hxe
   have h1:=(List.getElem?_eq_some_iff.1 he)
   have h2:=(List.getElem?_eq_some_iff.1 hj)
   obtain ⟨a1,a2⟩:=h1
   obtain ⟨b1,b2⟩:=h2
   rcases Nat.lt_or_gt_of_ne hij with hlt | hgt
   ·exact (List.pairwise_iff_getElem.1 h.one i j a1 b1 hlt).1 (by rw [a2,b2])
   ·exact (List.pairwise_iff_getElem.1 h.one j i b1 a1 hgt).1 (by rw [a2,b2])
 have hback:∀ y ∈ es,y ≠ e→y ∈ (es.modify i fun e=>{ e with val:=v }):=by
  intro y hy hne
  obtain ⟨j,hj⟩:=List.mem_iff_getElem?.1 hy
  refine List.mem_iff_getElem?.2 ⟨j,?_⟩
  rw [hget,if_neg (fun hij=>hne (by subst hij; rw [he] at hj; exact (Option.some.inj hj).symm)),hj]
 have hnew:({ e with val:=v }:MapEntry) ∈ (es.modify i fun e=>{ e with val:=v }):=List.mem_iff_getElem?.2 ⟨i,by rw [hget,if_pos rfl,he]; rfl⟩
 refine ⟨?_,?_,?_,?_,?_⟩
 ·intro x hx
  obtain ⟨y,hy,h1,_⟩:=hmem x hx
  rw [h1]; exact h.keys y hy
 ·have hmap:(es.modify i fun e=>{ e with val:=v }).map (fun e=>(e.key,e.born))=es.map fun e=>(e.key,e.born):=by
   apply List.ext_getElem?
   intro j
   rw [List.getElem?_map,List.getElem?_map,hget]
   by_cases hij:i=j
   ·subst hij; simp [he]
   ·simp [hij]
  have h1:(es.map fun e=>(e.key,e.born)).Pairwise fun a b=>a.1 ≠ b.1∧a.2 ≠ b.2:=List.pairwise_map.2 h.one
  rw [← hmap] at h1
  exact List.pairwise_map.1 h1
 ·intro x hx
  obtain ⟨y,hy,_,h2,_⟩:=hmem x hx
  rw [h2]; exact h.old y hy
 ·intro j u
  by_cases hj:j=k
  ·subst hj
   simp only [if_pos]
   constructor
   ·intro hu
    cases hu
    exact ⟨_,hnew,hk,rfl⟩
   ·rintro ⟨x,hx,hxk,rfl⟩
    obtain ⟨y,hy,h1,_,h3⟩:=hmem x hx
    have:y=e:=h.key_inj hy (List.mem_of_getElem? he) (by rw [← h1,hxk,hk])
    rcases h3 with ⟨_,h3⟩ | ⟨h3,_⟩
    ·rw [h3]
    ·exact absurd this h3
  ·simp only [if_neg hj]
   rw [h.some']
   constructor
   ·rintro ⟨x,hx,hxk,hxv⟩
    refine ⟨x,hback x hx (fun hxe=>?_),hxk,hxv⟩
    subst hxe
    rw [hk] at hxk
    exact hj (hinj _ _ hxk).symm
   ·rintro ⟨x,hx,hxk,hxv⟩
    obtain ⟨y,hy,h1,_,h3⟩:=hmem x hx
    rcases h3 with ⟨rfl,_⟩ | ⟨_,rfl⟩
    ·rw [h1,hk] at hxk
     exact absurd (hinj _ _ hxk).symm hj
    ·exact ⟨x,hy,hxk,hxv⟩
 ·intro s k' hs
  cases hs

end laws
section steps
variable {P:Program} {ops:Array Oper} {Q:Exit→Act→World→Prop} {rest:List Oper} {a:Act} {w:World} {N:Fm} {d:Nat} {F:List (Nat × Value)} {G:aT} {L L':List Ent}
 {ty:TypeId} {pos:String} {aft:Array Edge} {gd:Option (Nat × Bool)} {x y:Operand} {T:TypeId} {κ:Type} {kv:κ→Value}
theorem stGM (hf:Has N a F) (hc:Ctx G L w) (hg:pT ops F ⟨some d,.makeMap T none,ty,pos,aft,gd⟩=some true) (hN:Nat.blt d N.n=true)
  (k:∀ b a w,Has N a ((d,.map (some b))::F)→Ctx G (.gm b (KQ kv (fun _=>none) none)::L) w→wpList P ops Q rest a w):wpList P ops Q (⟨some d,.makeMap T none,ty,pos,aft,gd⟩::rest) a w:=by
 refine wpList_step fun K hK=>?_
 rw [fT hf hg,if_pos rfl]
 have hr:(execOp a.eval ⟨some d,.makeMap T none,ty,pos,aft,gd⟩).run P w=.ok (.value (.map (some w.heap.size))) (w.alloc (.map #[] 0)):=by
  simp [execOp,Instr.makeMap,run_newObj_alloc]
 unfold Oper.wp
 rw [hr,Oper.upon_value]
 refine hK _ _ (k _ _ _ (hf.put hN _) (hc.new (.map #[] 0) (.gm w.heap.size (KQ kv (fun _=>none) none)) rfl ⟨#[],0,heap_alloc_new w _,?_⟩))
 exact ⟨fun _ h=>(nomatch h),List.Pairwise.nil,fun _ h=>(nomatch h),fun _ _=>⟨fun h=>(nomatch h),fun ⟨_,h,_⟩=>(nomatch h)⟩,fun _ _ h=>(nomatch h)⟩
theorem stGU [DecidableEq κ] {ν:Type} {b E K:TypeId} {enc:ν→Value} {m:κ→Option ν} {k:κ} {z:Operand} {v:ν} (hf:Has N a F) (hc:Ctx G L w) (hg:pT ops F ⟨none,.mapUpdate T x y z,ty,pos,aft,gd⟩=some true) (hT:P.underlying T=some (.map K E)) (KT:aLc P K kv)
  (hx:ev F x=some (.map (some b))) (hy:ev F y=some (kv k)) (hz:ev F z=some (enc v))
  (hu:Upd L (.gm b (KQ kv (fun j=>(m j).map enc) none)) (.gm b (KQ kv (fun j=>(setG m k v j).map enc) none)) L')
  (kk':∀ w,Ctx G L' w→wpList P ops Q rest a w):wpList P ops Q (⟨none,.mapUpdate T x y z,ty,pos,aft,gd⟩::rest) a w:=by
 refine wpList_step fun KK hKK=>?_
 rw [fT hf hg,if_pos rfl]
 obtain ⟨es,clock,hb,hi⟩:=hc.sat _ hu.mem
 have hlt:b < w.heap.size:=(Array.getElem?_eq_some_iff.1 hb).1
 obtain ⟨r,hr,hcase⟩:=KT.fnd k es.toList w hi.keys
 have hget:(getObj b).run P w=.ok (.map es clock) w:=by simp [getObj,Sem.run,hb]
 rcases hcase with ⟨rfl,hn⟩ | ⟨j,e,he,hk,rfl⟩
 ·have hrun:(execOp a.eval ⟨none,.mapUpdate T x y z,ty,pos,aft,gd⟩).run P w=.ok .skip (w.putObj b (.map (es.push { key:=kv k,val:=enc v,born:=clock }) (clock + 1))):=by
   simp [execOp,hf.ev hx,hf.ev hy,hf.ev hz,Instr.mapUpdate,run_underlying hT,hget,KT.chk,hr,nJ _ hb]
  unfold Oper.wp
  rw [hrun,Oper.upon_skip]
  refine hKK _ _ (kk' _ (aCb hc hu rfl rfl (fun w' hw'=>⟨_,_,hw',?_⟩) hlt))
  have h0:=hi.push KT.inj (enc v) hn
  have h1:=h0.congr (g:=fun j=>(setG m k v j).map enc) (fun j=>by by_cases hj:j=k <;> simp [setG,hj])
  rw [Array.toList_push]
  exact ⟨h1.keys,h1.one,h1.old,h1.some',fun s k' h=>by cases h⟩
 ·have hes:es[j]?=some e:=by simpa using he
  have hmod:es.modify j (fun e=>{ e with key:=kv k,val:=enc v })=es.modify j (fun e=>{ e with val:=enc v }):=by
   apply Array.ext'
   rw [Array.toList_modify,Array.toList_modify]
   apply List.ext_getElem?
   intro q
   rw [List.getElem?_modify,List.getElem?_modify]
   by_cases hjq:j=q
   ·subst hjq
    rw [he]
    simp
    rw [← hk]
   ·simp [hjq]
  have hrun:(execOp a.eval ⟨none,.mapUpdate T x y z,ty,pos,aft,gd⟩).run P w=.ok .skip (w.putObj b (.map (es.modify j fun e=>{ e with val:=enc v }) clock)):=by
   simp [execOp,hf.ev hx,hf.ev hy,hf.ev hz,Instr.mapUpdate,run_underlying hT,hget,KT.chk,hr,hes,hk,Instr.keyThatStays,KT.same,hmod,nJ _ hb]
  unfold Oper.wp
  rw [hrun,Oper.upon_skip]
  refine hKK _ _ (kk' _ (aCb hc hu rfl rfl (fun w' hw'=>⟨_,_,hw',?_⟩) hlt))
  rw [Array.toList_modify]
  refine (hi.put KT.inj (enc v) he hk).congr fun j=>?_
  by_cases hj:j=k <;> simp [setG,hj]

end steps
end Go.Nilo
