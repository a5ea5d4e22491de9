/-
  Maps from numbers. Conditions: none.
-/
import Derived.Test.YtcefmiiipbjngaaGreatNl11
set_option linter.unusedSimpArgs false
set_option linter.unusedVariables false
namespace Go.Nilo

theorem aF7 {T:IntKind} {k:Int}:∀ (es:List MapEntry) (i:Nat),(∀ e ∈ es,∃ k,e.key=.int .i64 k) →
  ∃ r,Instr.findNow (.int T) (.int .i64 k) es i=some r ∧
   (r=none∧(∀ e ∈ es,e.key ≠ .int .i64 k) ∨ ∃ j e,es[j]?=some e∧e.key=.int .i64 k∧r=some (i + j,e.val))
 | [],i,_=>⟨none,rfl,.inl ⟨rfl,λ_ h=>by cases h⟩⟩
 | e::es,i,h=>by
  obtain ⟨k',hk⟩:=h e List.mem_cons_self
  unfold Instr.findNow
  rw [hk]
  by_cases hkk:k=k'
  ·subst hkk
   refine ⟨some (i,e.val),by simp [Instr.sameNow],.inr ⟨0,e,rfl,hk,rfl⟩⟩
  ·obtain ⟨r,hr,hcase⟩:=aF7 (T:=T) (k:=k) es (i + 1) λe he=>h e (List.mem_cons_of_mem _ he)
   have hb:(k == k')=false:=by simpa using hkk
   refine ⟨r,by simp [Instr.sameNow,hb,hr],?_⟩
   rcases hcase with ⟨h1,h2⟩ | ⟨j,e',h1,h2,h3⟩
   ·refine .inl ⟨h1,λe'' he=>?_⟩
    rcases List.mem_cons.1 he with rfl | he
    ·rw [hk]; intro hc; injection hc with _ hc; exact hkk hc.symm
    ·exact h2 _ he
   ·exact .inr ⟨j + 1,e',by simpa using h1,h2,by rw [h3]; congr 2; omega⟩

theorem aCl {P:Program} {K:TypeId} {T:IntKind} (hK:P.underlying K=some (.int T)) {k:Int} {es:List MapEntry} (h:∀ e ∈ es,∃ k,e.key=.int .i64 k) (w:World) :
  ∃ r,(Instr.findKey K (.int .i64 k) es).run P w=.ok r w∧(r=none∧(∀ e ∈ es,e.key ≠ .int .i64 k) ∨ ∃ j e,es[j]?=some e∧e.key=.int .i64 k∧r=some (j,e.val)):=by
 obtain ⟨r,hr,hcase⟩:=aF7 (T:=T) (k:=k) es 0 h
 refine ⟨r,by simp [Instr.findKey,run_underlying hK,hr],?_⟩
 simpa using hcase

theorem sW {P:Program} {K:TypeId} {T:IntKind} (hK:P.underlying K=some (.int T)) (e:Bool) (k:Int) (w:World):(Instr.checkKey e 10000 K (.int .i64 k)).run P w=.ok () w:=by
 unfold Instr.checkKey
 simp [run_underlying hK]

theorem aBf.key_inj {es:List MapEntry} {clock:Nat} {f:Int→Option Value} {pend:Option (Nat × Int)} (h:aBf es clock f pend) {e e':MapEntry} (he:e ∈ es) (he':e' ∈ es) (hk:e.key=e'.key):e=e':=by
 have:=h.one
 clear h
 induction es with
 | nil=>cases he
 | cons x es ih=>
  obtain ⟨h1,h2⟩:=List.pairwise_cons.1 this
  rcases List.mem_cons.1 he with rfl | he1 <;> rcases List.mem_cons.1 he' with rfl | he2
  ·rfl
  ·exact absurd hk (h1 _ he2).1
  ·exact absurd hk.symm (h1 _ he1).1
  ·exact ih he1 he2 h2

theorem aBf.congr {es:List MapEntry} {clock:Nat} {f g:Int→Option Value} {pend:Option (Nat × Int)} (h:aBf es clock f pend) (hfg:∀ k,g k=f k):aBf es clock g pend :=
 ⟨h.keys,h.one,h.old,λk v=>by rw [hfg]; exact h.some' k v,h.pend⟩

theorem aBf.push {es:List MapEntry} {clock:Nat} {f:Int→Option Value} {pend:Option (Nat × Int)} (h:aBf es clock f pend) {k:Int} (v:Value) (hn:∀ e ∈ es,e.key ≠ .int .i64 k) :
  aBf (es++[{ key:=.int .i64 k,val:=v,born:=clock }]) (clock + 1) (λj=>if j=k then some v else f j) (some (clock,k)):=by
 refine ⟨?_,?_,?_,?_,?_⟩
 ·intro e he
  rcases List.mem_append.1 he with he | he
  ·exact h.keys e he
  ·simp at he; subst he; exact ⟨k,rfl⟩
 ·refine List.pairwise_append.2 ⟨h.one,List.pairwise_singleton _ _,λe he e' he'=>?_⟩
  simp at he'
  subst he'
  exact ⟨hn e he,Nat.ne_of_lt (h.old e he)⟩
 ·intro e he
  rcases List.mem_append.1 he with he | he
  ·have:=h.old e he; omega
  ·simp at he; subst he; simp
 ·intro j u
  by_cases hj:j=k
  ·subst hj
   simp only [if_pos]
   constructor
   ·intro hu
    cases hu
    exact ⟨_,List.mem_append_right _ List.mem_cons_self,rfl,rfl⟩
   ·rintro ⟨e,he,hk,rfl⟩
    rcases List.mem_append.1 he with he | he
    ·exact absurd hk (hn e he)
    ·simp at he; subst he; rfl
  ·simp only [if_neg hj]
   rw [h.some']
   constructor
   ·rintro ⟨e,he,hk⟩
    exact ⟨e,List.mem_append_left _ he,hk⟩
   ·rintro ⟨e,he,hk,hv⟩
    rcases List.mem_append.1 he with he | he
    ·exact ⟨e,he,hk,hv⟩
    ·simp at he; subst he
     injection hk with _ hk
     exact absurd hk.symm hj
 ·intro s k' hs
  cases hs
  exact ⟨_,List.mem_append_right _ List.mem_cons_self,rfl,rfl⟩

theorem aBf.put {es:List MapEntry} {clock:Nat} {f:Int→Option Value} {pend:Option (Nat × Int)} (h:aBf es clock f pend) {k:Int} {i:Nat} {e:MapEntry} (v:Value) (he:es[i]?=some e) (hk:e.key=.int .i64 k) :
  aBf (es.modify i λe=>{ e with val:=v }) clock (λj=>if j=k then some v else f j) none:=by
 have hget:∀ j,(es.modify i λe=>{ e with val:=v })[j]?=if i=j then es[j]?.map (λe=>{ e with val:=v }) else es[j]?:=λj=>by
  rw [List.getElem?_modify]
  by_cases hij:i=j <;> simp [hij]
 have hmem:∀ x,x ∈ (es.modify i λe=>{ e with val:=v })→∃ y ∈ es,x.key=y.key∧x.born=y.born∧((y=e∧x.val=v) ∨ (y ≠ e∧x=y)):=by
  intro x hx
  obtain ⟨j,hj⟩:=List.mem_iff_getElem?.1 hx
  rw [hget] at hj
  by_cases hij:i=j
  ·subst hij
   simp [he] at hj
   subst hj
   exact ⟨e,List.mem_of_getElem? he,rfl,rfl,.inl ⟨rfl,rfl⟩⟩
  ·rw [if_neg hij] at hj
   refine ⟨x,List.mem_of_getElem? hj,rfl,rfl,.inr ⟨λhxe=>?_,rfl⟩⟩
   subst hxe
   have h1:=(List.getElem?_eq_some_iff.1 he)
   have h2:=(List.getElem?_eq_some_iff.1 hj)
   obtain ⟨a1,a2⟩:=h1
   obtain ⟨b1,b2⟩:=h2
   rcases Nat.lt_or_gt_of_ne hij with hlt | hgt
   ·exact (List.pairwise_iff_getElem.1 h.one i j a1 b1 hlt).1 (by rw [a2,b2])
   ·exact (List.pairwise_iff_getElem.1 h.one j i b1 a1 hgt).1 (by rw [a2,b2])
 have hback:∀ y ∈ es,y ≠ e→y ∈ (es.modify i λe=>{ e with val:=v }):=by
  intro y hy hne
  obtain ⟨j,hj⟩:=List.mem_iff_getElem?.1 hy
  refine List.mem_iff_getElem?.2 ⟨j,?_⟩
  rw [hget,if_neg (λhij=>hne (by subst hij; rw [he] at hj; exact (Option.some.inj hj).symm)),hj]
 have hnew:({ e with val:=v }:MapEntry) ∈ (es.modify i λe=>{ e with val:=v }):=List.mem_iff_getElem?.2 ⟨i,by rw [hget,if_pos rfl,he]; rfl⟩
 refine ⟨?_,?_,?_,?_,?_⟩
 ·intro x hx
  obtain ⟨y,hy,h1,_⟩:=hmem x hx
  rw [h1]; exact h.keys y hy
 ·have hmap:(es.modify i λe=>{ e with val:=v }).map (λe=>(e.key,e.born))=es.map λe=>(e.key,e.born):=by
   apply List.ext_getElem?
   intro j
   rw [List.getElem?_map,List.getElem?_map,hget]
   by_cases hij:i=j
   ·subst hij; simp [he]
   ·simp [hij]
  have h1:(es.map λe=>(e.key,e.born)).Pairwise λa b=>a.1 ≠ b.1∧a.2 ≠ b.2:=List.pairwise_map.2 h.one
  rw [← hmap] at h1
  exact List.pairwise_map.1 h1
 ·intro x hx
  obtain ⟨y,hy,_,h2,_⟩:=hmem x hx
  rw [h2]; exact h.old y hy
 ·intro j u
  by_cases hj:j=k
  ·subst hj
   simp only [if_pos]
   constructor
   ·intro hu
    cases hu
    exact ⟨_,hnew,hk,rfl⟩
   ·rintro ⟨x,hx,hxk,rfl⟩
    obtain ⟨y,hy,h1,_,h3⟩:=hmem x hx
    have:y=e:=h.key_inj hy (List.mem_of_getElem? he) (by rw [← h1,hxk,hk])
    rcases h3 with ⟨_,h3⟩ | ⟨h3,_⟩
    ·rw [h3]
    ·exact absurd this h3
  ·simp only [if_neg hj]
   rw [h.some']
   constructor
   ·rintro ⟨x,hx,hxk,hxv⟩
    refine ⟨x,hback x hx (λhxe=>?_),hxk,hxv⟩
    subst hxe
    rw [hk] at hxk
    injection hxk with _ hxk
    exact hj hxk.symm
   ·rintro ⟨x,hx,hxk,hxv⟩
    obtain ⟨y,hy,h1,_,h3⟩:=hmem x hx
    rcases h3 with ⟨rfl,_⟩ | ⟨_,rfl⟩
    ·rw [h1,hk] at hxk
     injection hxk with _ hxk
     exact absurd hxk.symm hj
    ·exact ⟨x,hy,hxk,hxv⟩
 ·intro s k' hs
  cases hs

section steps
variable {P:Program} {ops:Array Oper} {Q:Exit→Act→World→Prop} {rest:List Oper} {a:Act} {w:World} {N:Fm} {d:Nat} {F:List (Nat × Value)} {G:cJ} {L L':List Ent}
 {ty:TypeId} {pos:String} {aft:Array Edge} {gd:Option (Nat × Bool)} {x y:Operand} {T:TypeId}

theorem aL3 {b E K:TypeId} {kk:IntKind} {f:Int→Option Value} {pend:Option (Nat × Int)} {k:Int} {z:Value} (hc:Ctx G L w) (hm:pD L (Ent.im b f pend)) (hT:P.underlying T=some (.map K E)) (hK:P.underlying K=some (.int kk)) (hz:(zeroValue E).run P w=.ok z w) (ok:Bool) :
  (Instr.lookup T (.map (some b)) (.int .i64 k) ok).run P w=.ok (if ok then .tuple #[(f k).getD z,.bool (f k).isSome] else (f k).getD z) w:=by
 obtain ⟨es,clock,hb,hi⟩:=hm _ _ hc
 obtain ⟨r,hr,hcase⟩:=aCl (P:=P) hK (k:=k) hi.keys w
 have hget:(getObj b).run P w=.ok (.map es clock) w:=by simp [getObj,Sem.run,hb]
 have hf:(r=none∧f k=none) ∨ ∃ j v,r=some (j,v)∧f k=some v:=by
  rcases hcase with ⟨rfl,hn⟩ | ⟨j,e,he,hk,rfl⟩
  ·left
   refine ⟨rfl,?_⟩
   cases hfk:f k with
   | none=>rfl
   | some v=>
    obtain ⟨e,he,hk,_⟩:=(hi.some' k v).1 hfk
    exact absurd hk (hn e he)
  ·exact .inr ⟨j,e.val,rfl,(hi.some' k e.val).2 ⟨e,List.mem_of_getElem? he,hk,rfl⟩⟩
 rcases hf with ⟨rfl,hfk⟩ | ⟨j,v,rfl,hfk⟩
 ·cases ok <;> simp [Instr.lookup,run_underlying hT,hget,sW hK,hr,hz,hfk]
 ·cases ok <;> simp [Instr.lookup,run_underlying hT,hget,sW hK,hr,hfk]

theorem aQs {E:TypeId} {z:Value} (h:(P.info? E).map (·.zero)=some (some z)) (w:World):(zeroValue E).run P w=.ok z w:=by
 cases hi:P.info? E with
 | none=>simp [hi] at h
 | some i=>
  simp [hi] at h
  simp [zeroValue,typeInfo,hi,h]
theorem eLk {ν:Type} {b E K:TypeId} {kk:IntKind} {enc:ν→Value} {m:Int→Option ν} {z0:ν} {pend:Option (Nat × Int)} {k:Int} {dd:Option Nat} (hm:pD L (Ent.im b (λj=>(m j).map enc) pend)) (hT:P.underlying T=some (.map K E)) (hK:P.underlying K=some (.int kk)) (hz:(P.info? E).map (·.zero)=some (some (enc z0)))
  (hx:ev F x=some (.map (some b))) (hy:ev F y=some (.int .i64 k)):Ev P ⟨dd,.lookup T x y false,ty,pos,aft,gd⟩ N F G L (enc ((m k).getD z0)):=λa w hf hc=>by
 unfold Oper.quietAt
 have h1:=aL3 (k:=k) hc hm hT hK (aQs hz w) false
 have h2:((m k).map enc).getD (enc z0)=enc ((m k).getD z0):=by cases m k <;> rfl
 have:(execOp a.eval ⟨dd,.lookup T x y false,ty,pos,aft,gd⟩).run P w=.ok (.value (enc ((m k).getD z0))) w:=by
  simp [execOp,hf.ev hx,hf.ev hy,h1,h2]
 rw [this]
 exact ⟨rfl,rfl⟩
theorem vN {b clock:Nat} {es:Array MapEntry} (o:Obj) (h:w.heap[b]?=some (.map es clock)):(setObj b o).run P w=.ok () (w.putObj b o):=by simp [setObj,Sem.run,h,World.putObj]

theorem aJi {b:Nat} {o:Obj} {e e':Ent} (hc:Ctx G L w) (hu:Upd L e e' L') (h0:e.foot=some b) (h1:e'.foot=some b) (hs:∀ w',w'.heap[b]?=some o→e'.sat w') (hb:b < w.heap.size):Ctx G L' (w.putObj b o) :=
 hc.updAt hu rfl rfl rfl (by simp) (λk _ hk=>World.putObj_heap_other λe=>hk ((Ent.own_foot h0).2 e.symm)) (hs _ (World.putObj_heap_same hb)) λk hk=>.inl ((Ent.own_foot h0).2 ((Ent.own_foot h1).1 hk))

end steps
end Go.Nilo
