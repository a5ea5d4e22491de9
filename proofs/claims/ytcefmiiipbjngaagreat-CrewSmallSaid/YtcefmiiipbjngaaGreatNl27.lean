/-
  Maps from ints, as the list of their entries: what len, delete and a new entry do to it. Copies into a row of the call's own. Conditions: what each theorem names.
-/
import Derived.Test.YtcefmiiipbjngaaGreatNl26
import Derived.Shelf.Bits.Mul64
set_option linter.unusedSimpArgs false
set_option linter.unusedVariables false
namespace Go.Nilo
def lkA {ν:Type} (kvs:List (Int × ν)) (k:Int):Option ν:=(kvs.find? λp=>p.1 == k).map Prod.snd
def kX {ν:Type} (kvs:List (Int × ν)) (k:Int) (v:ν):List (Int × ν):=if kvs.any (λp=>p.1 == k) then kvs.map (λp=>if p.1 == k then (k,v) else p) else kvs++[(k,v)]
def aDp {ν:Type} (kvs:List (Int × ν)) (k:Int):List (Int × ν):=kvs.eraseP λp=>p.1 == k
structure ALq {ν:Type} (enc:ν→Value) (kvs:List (Int × ν)) (es:List MapEntry) (clock:Nat):Prop where
 same:es.map (λe=>(e.key,e.val))=kvs.map λp=>(.int .i64 p.1,enc p.2)
 one:es.Pairwise λa b=>a.key ≠ b.key∧a.born ≠ b.born
 old:∀ e ∈ es,e.born < clock
section al
variable {ν:Type} {enc:ν→Value}
theorem aM2:∀ {es:List MapEntry} {kvs:List (Int × ν)},es.map (λe=>(e.key,e.val))=kvs.map (λp=>(.int .i64 p.1,enc p.2))→es.Pairwise (λa b=>a.key ≠ b.key∧a.born ≠ b.born) →
  ∀ k v,(lkA kvs k).map enc=some v ↔ ∃ e ∈ es,e.key=.int .i64 k∧e.val=v
 | [],[],_,_,k,v=>by simp [lkA]
 | [],p::kvs,h,_,_,_=>by simp at h
 | e::es,[],h,_,_,_=>by simp at h
 | e::es,p::kvs,h,h1,k,v=>by
  simp only [List.map_cons,List.cons.injEq,Prod.mk.injEq] at h
  obtain ⟨⟨hk,hv⟩,hr⟩:=h
  obtain ⟨h2,h3⟩:=List.pairwise_cons.1 h1
  have ih:=aM2 hr h3 k v
  unfold lkA at ih ⊢
  by_cases hp:p.1=k
  ·subst hp
   simp only [List.find?_cons,beq_self_eq_true,Option.map_some,Option.some.injEq]
   constructor
   ·intro h; exact ⟨e,List.mem_cons_self,hk,by rw [hv,h]⟩
   ·rintro ⟨e',he',hk',hv'⟩
    rcases List.mem_cons.1 he' with rfl | he'
    ·rw [← hv,hv']
    ·exact absurd (hk.trans hk'.symm) (h2 e' he').1
  ·have hb:(p.1 == k)=false:=by simpa using hp
   simp only [List.find?_cons,hb]
   rw [ih]
   constructor
   ·rintro ⟨e',he',h4⟩; exact ⟨e',List.mem_cons_of_mem _ he',h4⟩
   ·rintro ⟨e',he',hk',hv'⟩
    rcases List.mem_cons.1 he' with rfl | he'
    ·rw [hk] at hk'; injection hk' with _ hk'; exact absurd hk' hp
    ·exact ⟨e',he',hk',hv'⟩
theorem ALq.imap {kvs:List (Int × ν)} {es:List MapEntry} {clock:Nat} (h:ALq enc kvs es clock):aBf es clock (λj=>(lkA kvs j).map enc) none:=by
 refine ⟨λe he=>?_,h.one,h.old,aM2 h.same h.one,λs k hh=>by cases hh⟩
 have:(e.key,e.val) ∈ es.map (λe=>(e.key,e.val)):=List.mem_map_of_mem (f:=λe:MapEntry=>(e.key,e.val)) he
 rw [h.same] at this
 obtain ⟨p,-,hp⟩:=List.mem_map.1 this
 injection hp with hp _
 exact ⟨p.1,hp.symm⟩
theorem ALq.len {kvs:List (Int × ν)} {es:List MapEntry} {clock:Nat} (h:ALq enc kvs es clock):es.length=kvs.length:=by
 have:=congrArg List.length h.same
 simpa using this
theorem ALq.at {kvs:List (Int × ν)} {es:List MapEntry} {clock:Nat} (h:ALq enc kvs es clock) {j:Nat} {e:MapEntry} (he:es[j]?=some e):∃ p,kvs[j]?=some p∧e.key=.int .i64 p.1∧e.val=enc p.2:=by
 have h1:=congrArg (λl=>l[j]?) h.same
 simp only [List.getElem?_map,he,Option.map_some] at h1
 cases hk:kvs[j]? with
 | none=>rw [hk] at h1; cases h1
 | some p=>
  rw [hk] at h1
  simp only [Option.map_some,Option.some.injEq,Prod.mk.injEq] at h1
  exact ⟨p,rfl,h1.1,h1.2⟩
theorem ALq.key_ne {kvs:List (Int × ν)} {es:List MapEntry} {clock:Nat} (h:ALq enc kvs es clock) {i j:Nat} {p q:Int × ν} (hi:kvs[i]?=some p) (hj:kvs[j]?=some q) (hne:i ≠ j):p.1 ≠ q.1:=by
 have hl:=h.len
 have hi':i < es.length:=by rw [hl]; exact (List.getElem?_eq_some_iff.1 hi).1
 have hj':j < es.length:=by rw [hl]; exact (List.getElem?_eq_some_iff.1 hj).1
 obtain ⟨p',hp,hkp,_⟩:=h.at (List.getElem?_eq_getElem hi')
 obtain ⟨q',hq,hkq,_⟩:=h.at (List.getElem?_eq_getElem hj')
 have e1:p'=p:=Option.some.inj (hp.symm.trans hi)
 have e2:q'=q:=Option.some.inj (hq.symm.trans hj)
 subst e1; subst e2
 intro he
 have hpw:=List.pairwise_iff_getElem.1 h.one
 rcases Nat.lt_or_gt_of_ne hne with hlt | hlt
 ·exact (hpw i j hi' hj' hlt).1 (by rw [hkp,hkq,he])
 ·exact (hpw j i hj' hi' hlt).1 (by rw [hkp,hkq,he])
theorem ALq.any {kvs:List (Int × ν)} {es:List MapEntry} {clock:Nat} (h:ALq enc kvs es clock) {k:Int} (hn:∀ e ∈ es,e.key ≠ .int .i64 k):kvs.any (λp=>p.1 == k)=false:=by
 rw [List.any_eq_false]
 intro p hp he
 have he':p.1=k:=by simpa using he
 have:((.int .i64 p.1,enc p.2):Value × Value) ∈ kvs.map (λp=>(.int .i64 p.1,enc p.2)):=List.mem_map_of_mem (f:=λp:Int × ν=>((.int .i64 p.1,enc p.2):Value × Value)) hp
 rw [← h.same] at this
 obtain ⟨e,he1,he2⟩:=List.mem_map.1 this
 injection he2 with he2 _
 exact hn e he1 (by rw [he2,he'])
theorem ALq.push {kvs:List (Int × ν)} {es:List MapEntry} {clock:Nat} (h:ALq enc kvs es clock) {k:Int} (v:ν) (hn:∀ e ∈ es,e.key ≠ .int .i64 k) :
  ALq enc (kX kvs k v) (es++[{ key:=.int .i64 k,val:=enc v,born:=clock }]) (clock + 1):=by
 have h0:=h.imap.push (enc v) hn
 refine ⟨?_,h0.one,h0.old⟩
 unfold kX
 rw [h.any hn]
 simp [h.same]
theorem ALq.put {kvs:List (Int × ν)} {es:List MapEntry} {clock:Nat} (h:ALq enc kvs es clock) {k:Int} {j:Nat} {e:MapEntry} (v:ν) (he:es[j]?=some e) (hk:e.key=.int .i64 k) :
  ALq enc (kX kvs k v) (es.modify j λe=>{ e with val:=enc v }) clock:=by
 have h0:=h.imap.put (enc v) he hk
 obtain ⟨p,hp,hkp,-⟩:=h.at he
 have hpk:p.1=k:=by rw [hk] at hkp; injection hkp with _ hkp; exact hkp.symm
 refine ⟨?_,h0.one,h0.old⟩
 have hany:kvs.any (λp=>p.1 == k)=true:=List.any_eq_true.2 ⟨p,List.mem_of_getElem? hp,by simpa using hpk⟩
 unfold kX
 rw [if_pos hany]
 apply List.ext_getElem?
 intro i
 have hs:=congrArg (λl=>l[i]?) h.same
 simp only [List.getElem?_map,List.getElem?_modify] at hs ⊢
 by_cases hij:j=i
 ·subst hij
  rw [he,hp]
  simp [hpk,hk]
 ·cases hi:kvs[i]? with
  | none=>rw [hi] at hs; simp at hs; simp [hs,hij]
  | some q=>
   have hq:q.1 ≠ k:=by rw [← hpk]; exact h.key_ne hi hp (Ne.symm hij)
   rw [hi] at hs
   simp only [Option.map_some] at hs ⊢
   have hb:(q.1 == k)=false:=by simpa using hq
   simp only [hb,hij,if_false]
   simpa using hs
theorem aH5:∀ {kvs:List (Int × ν)} {j:Nat} {p:Int × ν} {k:Int},kvs[j]?=some p→p.1=k→(∀ i q,i < j→kvs[i]?=some q→q.1 ≠ k)→kvs.eraseP (λp=>p.1 == k)=kvs.eraseIdx j
 | [],_,_,_,h,_,_=>by simp at h
 | q::kvs,0,p,k,h,hk,_=>by
  have:q=p:=by simpa using h
  subst this
  simp [hk]
 | q::kvs,j + 1,p,k,h,hk,hn=>by
  have h0:q.1 ≠ k:=hn 0 q (by omega) rfl
  have hb:(q.1 == k)=false:=by simpa using h0
  rw [List.eraseP_cons_of_neg (by simp [hb]),aH5 (by simpa using h) hk (λi q' hi hq=>hn (i + 1) q' (by omega) (by simpa using hq))]
  rfl
theorem aFu {α β:Type} (f:α→β):∀ (l:List α) (i:Nat),(l.eraseIdx i).map f=(l.map f).eraseIdx i
 | [],_=>rfl
 | _::_,0=>rfl
 | a::l,i + 1=>by simp [aFu f l i]
theorem ALq.del {kvs:List (Int × ν)} {es:List MapEntry} {clock:Nat} (h:ALq enc kvs es clock) {k:Int} {j:Nat} {e:MapEntry} (he:es[j]?=some e) (hk:e.key=.int .i64 k) :
  ALq enc (aDp kvs k) (es.eraseIdx j) clock:=by
 obtain ⟨p,hp,hkp,-⟩:=h.at he
 have hpk:p.1=k:=by rw [hk] at hkp; injection hkp with _ hkp; exact hkp.symm
 have e1:aDp kvs k=kvs.eraseIdx j:=aH5 hp hpk λi q hi hq=>by rw [← hpk]; exact h.key_ne hq hp (by omega)
 refine ⟨?_,h.one.sublist (List.eraseIdx_sublist es j),λe' he'=>h.old e' ((List.eraseIdx_sublist es j).subset he')⟩
 rw [e1]
 have:=congrArg (λl=>l.eraseIdx j) h.same
 rw [aFu,aFu]
 exact this
theorem ALq.del_none {kvs:List (Int × ν)} {es:List MapEntry} {clock:Nat} (h:ALq enc kvs es clock) {k:Int} (hn:∀ e ∈ es,e.key ≠ .int .i64 k):aDp kvs k=kvs:=by
 have:=h.any hn
 rw [List.any_eq_false] at this
 exact List.eraseP_of_forall_not this
end al
section steps
variable {P:Program} {ops:Array Oper} {Q:Exit→Act→World→Prop} {rest:List Oper} {a:Act} {w:World} {N:Fm} {d:Nat} {F:List (Nat × Value)} {G:cJ} {L L':List Ent} {v:Value}
 {ty:TypeId} {pos:String} {aft:Array Edge} {gd:Option (Nat × Bool)} {x y z:Operand} {T:TypeId}
theorem alS {ν:Type} {enc:ν→Value} {b:Nat} {kvs:List (Int × ν)} (h:pD L (.gm b (ALq enc kvs))):pD L (.im b (λj=>(lkA kvs j).map enc) none):=λG w hc=>by
 obtain ⟨es,clock,hb,hq⟩:=h G w hc
 exact ⟨es,clock,hb,hq.imap⟩
theorem stAM {ν:Type} {enc:ν→Value} (hf:Has N a F) (hc:Ctx G L w) (hg:vJ ops F ⟨some d,.makeMap T none,ty,pos,aft,gd⟩=some true) (hN:Nat.blt d N.n=true)
  (k:∀ b a w,Has N a ((d,.map (some b))::F)→Ctx G (.gm b (ALq enc [])::L) w→wpList P ops Q rest a w):wpList P ops Q (⟨some d,.makeMap T none,ty,pos,aft,gd⟩::rest) a w:=by
 refine wpList_step λK hK=>?_
 rw [gX hf hg,if_pos rfl]
 have hr:(execOp a.eval ⟨some d,.makeMap T none,ty,pos,aft,gd⟩).run P w=.ok (.value (.map (some w.heap.size))) (w.alloc (.map #[] 0)):=by
  simp [execOp,Instr.makeMap]
 unfold Oper.wp
 rw [hr,Oper.upon_value]
 refine hK _ _ (k _ _ _ (hf.put hN _) (hc.new (.map #[] 0) (.gm w.heap.size (ALq enc [])) rfl ⟨#[],0,heap_alloc_new w _,?_⟩))
 exact ⟨rfl,List.Pairwise.nil,λ_ h=>(nomatch h)⟩
theorem stAU {ν:Type} {b E K:TypeId} {kk:IntKind} {enc:ν→Value} {kvs:List (Int × ν)} {k:Int} {v:ν} (hf:Has N a F) (hc:Ctx G L w) (hg:vJ ops F ⟨none,.mapUpdate T x y z,ty,pos,aft,gd⟩=some true) (hT:P.underlying T=some (.map K E)) (hK:P.underlying K=some (.int kk))
  (hx:ev F x=some (.map (some b))) (hy:ev F y=some (.int .i64 k)) (hz:ev F z=some (enc v))
  (hu:Upd L (.gm b (ALq enc kvs)) (.gm b (ALq enc (kX kvs k v))) L')
  (kk':∀ w,Ctx G L' w→wpList P ops Q rest a w):wpList P ops Q (⟨none,.mapUpdate T x y z,ty,pos,aft,gd⟩::rest) a w:=by
 refine wpList_step λKK hKK=>?_
 rw [gX hf hg,if_pos rfl]
 obtain ⟨es,clock,hb,hi⟩:=hc.sat _ hu.mem
 have hlt:b < w.heap.size:=(Array.getElem?_eq_some_iff.1 hb).1
 obtain ⟨r,hr,hcase⟩:=aCl (P:=P) hK (k:=k) hi.imap.keys w
 have hget:(getObj b).run P w=.ok (.map es clock) w:=by simp [getObj,Sem.run,hb]
 rcases hcase with ⟨rfl,hn⟩ | ⟨j,e,he,hk,rfl⟩
 ·have hrun:(execOp a.eval ⟨none,.mapUpdate T x y z,ty,pos,aft,gd⟩).run P w=.ok .skip (w.putObj b (.map (es.push { key:=.int .i64 k,val:=enc v,born:=clock }) (clock + 1))):=by
   simp [execOp,hf.ev hx,hf.ev hy,hf.ev hz,Instr.mapUpdate,run_underlying hT,hget,sW hK,hr,vN _ hb]
  unfold Oper.wp
  rw [hrun,Oper.upon_skip]
  refine hKK _ _ (kk' _ (aJi hc hu rfl rfl (λw' hw'=>⟨_,_,hw',?_⟩) hlt))
  rw [Array.toList_push]
  exact hi.push v hn
 ·have hes:es[j]?=some e:=by simpa using he
  have hmod:es.modify j (λe=>{ e with key:=.int .i64 k,val:=enc v })=es.modify j (λe=>{ e with val:=enc v }):=by
   apply Array.ext'
   rw [Array.toList_modify,Array.toList_modify]
   apply List.ext_getElem?
   intro q
   rw [List.getElem?_modify,List.getElem?_modify]
   by_cases hjq:j=q
   ·subst hjq
    rw [he]
    simp
    rw [← hk]
   ·simp [hjq]
  have hrun:(execOp a.eval ⟨none,.mapUpdate T x y z,ty,pos,aft,gd⟩).run P w=.ok .skip (w.putObj b (.map (es.modify j λe=>{ e with val:=enc v }) clock)):=by
   simp [execOp,hf.ev hx,hf.ev hy,hf.ev hz,Instr.mapUpdate,run_underlying hT,hget,sW hK,hr,hes,hk,Instr.keyThatStays,Instr.sameBits,hmod,vN _ hb]
  unfold Oper.wp
  rw [hrun,Oper.upon_skip]
  refine hKK _ _ (kk' _ (aJi hc hu rfl rfl (λw' hw'=>⟨_,_,hw',?_⟩) hlt))
  rw [Array.toList_modify]
  exact hi.put v he hk
theorem stAD {ν:Type} {b E K:TypeId} {kk:IntKind} {enc:ν→Value} {kvs:List (Int × ν)} {k:Int} {dd:Option Nat} {t2:TypeId} (hf:Has N a F) (hc:Ctx G L w) (hg:vJ ops F ⟨dd,.call { callee:=.builtin .delete,args:=#[x,y],argTypes:=#[T,t2] },ty,pos,aft,gd⟩=some true) (hd:dd=none) (hT:P.underlying T=some (.map K E)) (hK:P.underlying K=some (.int kk))
  (hx:ev F x=some (.map (some b))) (hy:ev F y=some (.int .i64 k))
  (hu:Upd L (.gm b (ALq enc kvs)) (.gm b (ALq enc (aDp kvs k))) L')
  (kk':∀ w,Ctx G L' w→wpList P ops Q rest a w):wpList P ops Q (⟨dd,.call { callee:=.builtin .delete,args:=#[x,y],argTypes:=#[T,t2] },ty,pos,aft,gd⟩::rest) a w:=by
 subst hd
 refine wpList_step λKK hKK=>?_
 rw [gX hf hg,if_pos rfl]
 obtain ⟨es,clock,hb,hi⟩:=hc.sat _ hu.mem
 have hlt:b < w.heap.size:=(Array.getElem?_eq_some_iff.1 hb).1
 obtain ⟨r,hr,hcase⟩:=aCl (P:=P) hK (k:=k) hi.imap.keys w
 have hget:(getObj b).run P w=.ok (.map es clock) w:=by simp [getObj,Sem.run,hb]
 rcases hcase with ⟨rfl,hn⟩ | ⟨j,e,he,hk,rfl⟩
 ·have hrun:(execOp a.eval ⟨none,.call { callee:=.builtin .delete,args:=#[x,y],argTypes:=#[T,t2] },ty,pos,aft,gd⟩).run P w=.ok (.value (.tuple #[])) (w.putObj b (.map es clock)):=by
   simp [execOp,resolve,hf.ev hx,hf.ev hy,invoke,builtin,Builtin.delete_,run_underlying hT,hget,sW hK,hr,vN _ hb]
  unfold Oper.wp
  rw [hrun,Oper.upon_value]
  refine hKK _ _ (kk' _ (aJi hc hu rfl rfl (λw' hw'=>⟨_,_,hw',?_⟩) hlt))
  rw [hi.del_none hn]
  exact hi
 ·have hrun:(execOp a.eval ⟨none,.call { callee:=.builtin .delete,args:=#[x,y],argTypes:=#[T,t2] },ty,pos,aft,gd⟩).run P w=.ok (.value (.tuple #[])) (w.putObj b (.map (es.eraseIdxIfInBounds j) clock)):=by
   simp [execOp,resolve,hf.ev hx,hf.ev hy,invoke,builtin,Builtin.delete_,run_underlying hT,hget,sW hK,hr,vN _ hb]
  unfold Oper.wp
  rw [hrun,Oper.upon_value]
  refine hKK _ _ (kk' _ (aJi hc hu rfl rfl (λw' hw'=>⟨_,_,hw',?_⟩) hlt))
  have e1:(es.eraseIdxIfInBounds j).toList=es.toList.eraseIdx j:=by
   have hj:j < es.size:=by simpa using (List.getElem?_eq_some_iff.1 he).1
   simp [Array.eraseIdxIfInBounds,hj]
  rw [e1]
  exact hi.del he hk
theorem eLenA {ν:Type} {b E K:TypeId} {enc:ν→Value} {kvs:List (Int × ν)} {dd:Option Nat} (hm:pD L (.gm b (ALq enc kvs))) (hT:P.underlying T=some (.map K E))
  (hx:ev F x=some (.map (some b))):Ev P ⟨dd,.call { callee:=.builtin .len,args:=#[x],argTypes:=#[T] },ty,pos,aft,gd⟩ N F G L (.int .i64 ((kvs.length:Nat):Int)):=λa w hf hc=>by
 unfold Oper.quietAt
 obtain ⟨es,clock,hb,hi⟩:=hm _ _ hc
 have hget:(getObj b).run P w=.ok (.map es clock) w:=by simp [getObj,Sem.run,hb]
 have hl:es.size=kvs.length:=by simpa using hi.len
 have:(execOp a.eval ⟨dd,.call { callee:=.builtin .len,args:=#[x],argTypes:=#[T] },ty,pos,aft,gd⟩).run P w=.ok (.value (.int .i64 ((kvs.length:Nat):Int))) w:=by
  simp [execOp,resolve,hf.ev hx,invoke,builtin,Builtin.len_,run_underlying hT,hget,goInt,hl]
 rw [this]
 exact ⟨rfl,rfl⟩
end steps
def cpL {α:Type} (R:List α) (lo nd:Nat) (S:List α):List α:=if lo + Nat.min S.length nd≤R.length then R.take lo++S.take (Nat.min S.length nd)++R.drop (lo + Nat.min S.length nd) else R
@[simp] theorem aMo {α:Type} (R:List α) (lo nd:Nat) (S:List α):(cpL R lo nd S).length=R.length:=by
 unfold cpL
 split
 ·rename_i h
  have:Nat.min S.length nd≤S.length:=Nat.min_le_left _ _
  simp only [List.length_append,List.length_take,List.length_drop]
  omega
 ·rfl
def cpOk (n m:Nat):Option Unit:=if 0 < n∧0 < m then some () else none
theorem aI5 {n m:Nat} {u:Unit} (h:cpOk n m=some u):0 < n∧0 < m:=by
 unfold cpOk at h
 split at h
 ·assumption
 ·cases h
def cpO1 (n:Nat):Option Unit:=if 0 < n then some () else none
theorem aO2 {n:Nat} {u:Unit} (h:cpO1 n=some u):0 < n:=by
 unfold cpO1 at h
 split at h
 ·assumption
 ·cases h
theorem aOg {g cap lo sz n:Nat} (h:0 < n) (hc:n≤cap - lo):aD4 (some ⟨g,0,none⟩) cap lo sz=some ⟨g,lo * sz,none⟩:=by
 have:cap ≠ lo:=by omega
 rw [aD4,if_neg this]
 simp only [Option.map_some,Addr.add_lit,Nat.zero_add]
theorem aRd {α:Type} {enc:α→List Value} {w:World} {q:Option Addr} {cap sz:Nat} {xs v:List α} {lo hi:Int} (hz:∀ x,(enc x).length=sz) (h:Src w q (xs.map enc)) (hs:yE xs lo hi=some v) (hcap:xs.length≤cap):Src w (aD4 q cap lo.toNat sz) (v.map enc):=by
 obtain ⟨h0,h1,h2,hv,hl⟩:=aC0 hs
 by_cases hv0:v=[]
 ·left; simp [hv0]
 ·have hlen:0 < v.length:=List.length_pos_iff.2 hv0
  rcases h with h | ⟨ad,rfl,h⟩
  ·have:xs=[]:=by simpa using h
   subst this
   simp at hv
   exact absurd hv hv0
  ·right
   have hne:cap ≠ lo.toNat:=by omega
   refine ⟨ad.add (lo.toNat * sz),by simp [aD4,hne],λj u hu=>?_⟩
   have e:(v.map enc).flatten=((xs.map enc).flatten.drop (lo.toNat * sz)).take (v.length * sz):=by
    have hu1:∀ r ∈ xs.map enc,r.length=sz:=λr hr=>by obtain ⟨x,-,rfl⟩:=List.mem_map.1 hr; exact hz x
    have hu2:∀ r ∈ (xs.map enc).drop lo.toNat,r.length=sz:=λr hr=>hu1 r (List.mem_of_mem_drop hr)
    rw [← aFo _ _ hu1,← aC5 _ _ hu2,← List.map_drop,← List.map_take,hv]
    congr 2
    rw [List.take_eq_take_min]
    congr 1
    simp only [List.length_take,List.length_drop]
    omega
   rw [e,List.getElem?_take] at hu
   split at hu
   ·rw [List.getElem?_drop] at hu
    have:=h _ _ hu
    rw [Addr.add_add]
    exact this
   ·cases hu
section copies
variable {P:Program} {ops:Array Oper} {Q:Exit→Act→World→Prop} {rest:List Oper} {a:Act} {w:World} {N:Fm} {d:Nat} {F:List (Nat × Value)} {G:cJ} {L L':List Ent}
 {ty:TypeId} {pos:String} {aft:Array Edge} {gd:Option (Nat × Bool)} {x y:Operand} {T T2:TypeId}
theorem stCp {α:Type} {enc:α→List Value} {R S:List α} {e sz g cap lo nd cd ns cs:Nat} {pd q:Option Addr} (hf:Has N a F) (hc:Ctx G L w) (hg:vJ ops F ⟨some d,.call { callee:=.builtin .copy,args:=#[x,y],argTypes:=#[T,T2] },ty,pos,aft,gd⟩=some true)
  (hN:Nat.blt d N.n=true) (hT:P.underlying T=some (.slice e)) (hsz:(P.info? e).map (·.size)=some sz) (hx:ev F x=some (.slice pd nd cd)) (hpd:pd=some ⟨g,lo * sz,none⟩) (hy:ev F y=some (.slice q ns cs)) (hns:ns=S.length)
  (hz:∀ x,(enc x).length=sz∧sG (enc x)=true) (hsrc:Src w q (S.map enc)) (h0:0 < S.length) (hfit:lo + nd≤R.length)
  (hu:Upd L (.row (some ⟨g,0,none⟩) cap (R.map enc) e sz) (.row (some ⟨g,0,none⟩) cap ((cpL R lo nd S).map enc) e sz) L')
  (k:∀ a w,Has N a ((d,.int .i64 ((Nat.min S.length nd:Nat):Int))::F)→Ctx G L' w→wpList P ops Q rest a w) :
  wpList P ops Q (⟨some d,.call { callee:=.builtin .copy,args:=#[x,y],argTypes:=#[T,T2] },ty,pos,aft,gd⟩::rest) a w:=by
 subst hns
 subst hpd
 have hm1:Nat.min S.length nd≤S.length:=Nat.min_le_left _ _
 have hm2:Nat.min S.length nd≤nd:=Nat.min_le_right _ _
 obtain ⟨ad,rfl,hcell⟩:∃ ad,q=some ad∧∀ j u,(S.map enc).flatten[j]?=some u→w.cell? (ad.add j)=some u:=by
  rcases hsrc with h | h
  ·have:S=[]:=by simpa using h
   rw [this] at h0
   exact absurd h0 (by simp)
  ·exact h
 obtain ⟨M,p1,p2⟩:=hu.pick
 have hcr:=hc.perm p1
 rcases aFm hcr with ⟨h,-,-⟩ | ⟨g',cur,hg',hh,hcs,hle,hmx,htk⟩
 ·cases h
 ·simp only [Option.some.injEq,Addr.mk.injEq] at hg'
  obtain ⟨rfl,-,-⟩:=hg'
  have hlen:∀ l:List α,((l.map enc).flatten).length=l.length * sz:=λl=>aLr (λx=>(hz x).1) l
  let vs:=((S.take (Nat.min S.length nd)).map enc).flatten
  have hvl:vs.length=Nat.min S.length nd * sz:=by
   show ((S.take _).map enc).flatten.length=_
   rw [hlen,List.length_take,Nat.min_eq_left hm1]
  have hR:R.length≤cap:=by simpa using hle
  have hb1:(lo + Nat.min S.length nd) * sz≤cap * sz:=Nat.mul_le_mul_right _ (by omega)
  rw [Nat.add_mul] at hb1
  have hin:lo * sz + vs.length≤cur.size:=by rw [hvl,hcs]; exact hb1
  have hvs:∀ j v,vs[j]?=some v→w.cell? (ad.add j)=some v:=λj v hv=>hcell j v (by
   have:vs=((S.map enc).flatten).take (Nat.min S.length nd * sz):=by
    show ((S.take _).map enc).flatten=_
    rw [List.map_take,aC5 _ _ (aCi hz S)]
   rw [this,List.getElem?_take] at hv
   split at hv
   ·exact hv
   ·cases hv)
  have hrun:=aIn (P:=P) w T T2 ty e g (lo * sz) nd cd ad S.length cs sz vs hT hsz (by rw [hvl]) hvs
   (λj hj=>by simp only [World.cell?,hh]; simp; omega)
   (λj hj=>by simp [World.frozen?,hh]) (λv hv=>aKw hz _ v hv)
  obtain ⟨c1,c2,c3,c4,c5,c6⟩:=aDh g vs (lo * sz) w cur e (0,0) hh
  refine wpList_step λK hK=>?_
  rw [gX hf hg,if_pos rfl]
  have hr':(execOp a.eval ⟨some d,.call { callee:=.builtin .copy,args:=#[x,y],argTypes:=#[T,T2] },ty,pos,aft,gd⟩).run P w=.ok (.value (.int .i64 ((Nat.min S.length nd:Nat):Int))) (w.setCells g (lo * sz) vs):=by
   simp [execOp,resolve,hf.ev hx,hf.ev hy,invoke,builtin,hrun,goInt]
  unfold Oper.wp
  rw [hr',Oper.upon_value]
  refine hK _ _ (k _ _ (hf.put hN _) ?_)
  have hcond:lo + Nat.min S.length nd≤R.length:=by omega
  have hu1:∀ r ∈ R.map enc,r.length=sz:=aCi hz R
  have hcp:((cpL R lo nd S).map enc).flatten=(R.map enc).flatten.take (lo * sz)++vs++(R.map enc).flatten.drop ((lo + Nat.min S.length nd) * sz):=by
   unfold cpL
   rw [if_pos hcond,List.map_append,List.map_append,List.flatten_append,List.flatten_append,List.map_take,List.map_drop,aC5 _ _ hu1,aFo _ _ hu1]
  have hFl:(R.map enc).flatten.length=R.length * sz:=hlen R
  have hlo:lo * sz≤R.length * sz:=Nat.mul_le_mul_right _ (by omega)
  have hlm:(lo + Nat.min S.length nd) * sz≤R.length * sz:=Nat.mul_le_mul_right _ hcond
  rw [Nat.add_mul] at hlm
  have hRc:R.length * sz≤cap * sz:=Nat.mul_le_mul_right _ hR
  have hcur:∀ i,i < R.length * sz→cur[i]?=(R.map enc).flatten[i]?:=λi hi=>by
   rw [← htk,List.getElem?_take]
   simp only [List.length_map]
   rw [if_pos hi]
   simp
  refine (aOp hcr c4 c5 c6 c3 c2 c1 (by rw [aIs]; exact hcs) (by simpa using hR) hmx (aCi hz _) ?_).perm p2.symm
  rw [hcp]
  simp only [List.length_map,aMo]
  apply List.ext_getElem?
  intro i
  rw [List.getElem?_take]
  split
  ·rename_i hi
   simp only [Array.getElem?_toList]
   by_cases h1:i < lo * sz
   ·rw [aEt _ _ _ _ (.inl h1),hcur i hi,List.append_assoc,List.getElem?_append_left (by rw [List.length_take]; omega),List.getElem?_take,if_pos h1]
   ·by_cases h2:i < lo * sz + vs.length
    ·have h3:=aNy vs cur (lo * sz) (i - lo * sz) (by omega) hin
     rw [show lo * sz + (i - lo * sz)=i by omega] at h3
     rw [h3,List.append_assoc,List.getElem?_append_right (by rw [List.length_take]; omega),List.getElem?_append_left (by rw [List.length_take]; omega)]
     congr 1
     rw [List.length_take]; omega
    ·rw [aEt _ _ _ _ (.inr (by omega)),hcur i hi,List.getElem?_append_right (by rw [List.length_append,List.length_take]; omega),List.getElem?_drop]
     congr 1
     rw [List.length_append,List.length_take,Nat.add_mul]; omega
  ·rename_i hi
   rw [List.getElem?_eq_none]
   rw [List.length_append,List.length_append,List.length_take,List.length_drop,Nat.add_mul]
   omega
end copies
def mulU (x y:Int):Option (Int × Int) :=
 if 0≤x∧x < 18446744073709551616∧0≤y∧y < 18446744073709551616 then some (((x.toNat * y.toNat / 18446744073709551616:Nat):Int),((x.toNat * y.toNat % 18446744073709551616:Nat):Int)) else none
theorem aRv {P:Program} {fid:Nat} {G:cJ} {L:List Ent} {w:World} {x y:Int} {res:Int × Int}
  (h:∀ (x y:Nat),x < 18446744073709551616→y < 18446744073709551616→∀ w:World,Calls P fid #[.int .u64 x,.int .u64 y] w λe w'=>e=.returned (.tuple #[.int .u64 ((x * y / 18446744073709551616:Nat):Int),.int .u64 ((x * y % 18446744073709551616:Nat):Int)])∧w'=w)
  (hc:Ctx G L w) (hF:mulU x y=some res):Calls P fid #[.int .u64 x,.int .u64 y] w λe w'=>e=.returned (.tuple #[.int .u64 res.1,.int .u64 res.2])∧Ctx G L w':=by
 unfold mulU at hF
 split at hF
 ·rename_i hb
  obtain ⟨h1,h2,h3,h4⟩:=hb
  obtain ⟨a,rfl⟩:=Int.eq_ofNat_of_zero_le h1
  obtain ⟨b,rfl⟩:=Int.eq_ofNat_of_zero_le h3
  obtain rfl:=Option.some.inj hF
  refine (h a b (by omega) (by omega) w).mono ?_
  rintro e w' ⟨rfl,rfl⟩
  exact ⟨rfl,hc⟩
 ·cases hF
theorem Has.castAt {N:Fm} {a:Act} {F:List (Nat × Value)} {v v':Value} (h:Has N a F) (d:Nat) (hl:kH F d=some v) (e:v=v'):Has N a ((d,v')::F):=by
 subst e
 refine ⟨h.size,h.defers,λk u hk=>?_⟩
 simp only [kH] at hk
 cases hb:Nat.beq d k with
 | true=>
  rw [hb] at hk
  have:d=k:=Nat.eq_of_beq_eq_true hb
  subst this
  simp only [cond_true,Option.some.injEq] at hk
  subst hk
  exact h.get _ _ hl
 | false=>rw [hb] at hk; exact h.get k u hk
end Go.Nilo
