/-
  A key of a map from ints is deleted. Conditions: what each theorem names.
-/
import Derived.Test.YtfgdaecfjidahaaGreatNl30
set_option linter.unusedSimpArgs false
set_option linter.unusedVariables false
namespace Go.Nilo
def yK {ν:Type} (m:Int→Option ν) (k:Int):Int→Option ν:=fun j=>if j=k then none else m j
theorem tL.del {es:List MapEntry} {clock:Nat} {f:Int→Option Value} {pend:Option (Nat × Int)} (h:tL es clock f pend) {k:Int} {i:Nat} {e:MapEntry} (he:es[i]?=some e) (hk:e.key=.int .i64 k):tL (es.eraseIdx i) clock (fun j=>if j=k then none else f j) none:=by
 refine ⟨fun x hx=>h.keys x (List.mem_of_mem_eraseIdx hx),h.one.sublist (List.eraseIdx_sublist _ _),fun x hx=>h.old x (List.mem_of_mem_eraseIdx hx),fun j v=>?_,fun s k' hc=>by cases hc⟩
 constructor
 ·intro hj
  by_cases hjk:j=k
  ·simp [hjk] at hj
  ·simp only [if_neg hjk] at hj
   obtain ⟨x,hx,hxk,hv⟩:=(h.some' j v).1 hj
   refine ⟨x,List.mem_eraseIdx_iff_getElem?.2 ?_,hxk,hv⟩
   obtain ⟨p,hp⟩:=List.mem_iff_getElem?.1 hx
   refine ⟨p,fun hpi=>?_,hp⟩
   rw [hpi,he] at hp
   have:e=x:=Option.some.inj hp
   rw [← this,hk] at hxk
   injection hxk with _ hc
   exact hjk hc.symm
 ·rintro ⟨x,hx,hxk,hv⟩
  obtain ⟨p,hpi,hp⟩:=List.mem_eraseIdx_iff_getElem?.1 hx
  by_cases hjk:j=k
  ·exfalso
   subst hjk
   obtain ⟨a1,a2⟩:=List.getElem?_eq_some_iff.1 hp
   obtain ⟨b1,b2⟩:=List.getElem?_eq_some_iff.1 he
   rcases Nat.lt_trichotomy p i with hc | hc | hc
   ·exact (List.pairwise_iff_getElem.1 h.one p i a1 b1 hc).1 (by rw [a2,b2,hxk,hk])
   ·exact hpi hc
   ·exact (List.pairwise_iff_getElem.1 h.one i p b1 a1 hc).1 (by rw [a2,b2,hxk,hk])
  ·simp only [if_neg hjk]
   exact (h.some' j v).2 ⟨x,List.mem_of_getElem? hp,hxk,hv⟩
theorem tL.del_none {es:List MapEntry} {clock:Nat} {f:Int→Option Value} {pend:Option (Nat × Int)} (h:tL es clock f pend) {k:Int} (hn:∀ e ∈ es,e.key ≠ .int .i64 k):tL es clock (fun j=>if j=k then none else f j) none:=by
 refine ⟨h.keys,h.one,h.old,fun j v=>?_,fun s k' hc=>by cases hc⟩
 by_cases hjk:j=k
 ·subst hjk
  simp only [if_true]
  constructor
  ·intro hc
   cases hc
  ·rintro ⟨x,hx,hxk,-⟩
   exact absurd hxk (hn x hx)
 ·simp only [if_neg hjk]
  exact h.some' j v
section steps
variable {P:Program} {ops:Array Oper} {Q:Exit→Act→World→Prop} {rest:List Oper} {a:Act} {w:World} {N:Fm} {d:Nat} {F:List (Nat × Value)} {G:aU} {L L':List Ent} {v:Value}
 {ty:TypeId} {pos:String} {aft:Array Edge} {gd:Option (Nat × Bool)} {x y z:Operand} {T:TypeId}
theorem aN0 {ν:Type} {b E K:TypeId} {kk:IntKind} {enc:ν→Value} {m:Int→Option ν} {pend:Option (Nat × Int)} {k:Int} {dd:Option Nat} {t2:TypeId} (hf:Has N a F) (hc:Ctx G L w) (hg:nX ops F ⟨dd,.call { callee:=.builtin .delete,args:=#[x,y],argTypes:=#[T,t2] },ty,pos,aft,gd⟩=some true) (hd:dd=none) (hT:P.underlying T=some (.map K E)) (hK:P.underlying K=some (.int kk))
  (hx:ev F x=some (.map (some b))) (hy:ev F y=some (.int .i64 k))
  (hu:Upd L (.im b (fun j=>(m j).map enc) pend) (.im b (fun j=>(yK m k j).map enc) none) L')
  (kk':∀ w,Ctx G L' w→wpList P ops Q rest a w):wpList P ops Q (⟨dd,.call { callee:=.builtin .delete,args:=#[x,y],argTypes:=#[T,t2] },ty,pos,aft,gd⟩::rest) a w:=by
 subst hd
 refine wpList_step fun KK hKK=>?_
 rw [fF hf hg,if_pos rfl]
 obtain ⟨es,clock,hb,hi⟩:=hc.sat _ hu.mem
 have hlt:b < w.heap.size:=(Array.getElem?_eq_some_iff.1 hb).1
 obtain ⟨r,hr,hcase⟩:=uS (P:=P) hK (k:=k) hi.keys w
 have hget:(getObj b).run P w=.ok (.map es clock) w:=by simp [getObj,Sem.run,hb]
 rcases hcase with ⟨rfl,hn⟩ | ⟨j,e,he,hk,rfl⟩
 ·have hrun:(execOp a.eval ⟨none,.call { callee:=.builtin .delete,args:=#[x,y],argTypes:=#[T,t2] },ty,pos,aft,gd⟩).run P w=.ok (.value (.tuple #[])) (w.putObj b (.map es clock)):=by
   simp [execOp,resolve,hf.ev hx,hf.ev hy,invoke,builtin,Builtin.delete_,run_underlying hT,hget,mI hK,hr,kN _ hb]
  unfold Oper.wp
  rw [hrun,Oper.upon_value]
  refine hKK _ _ (kk' _ (yQ hc hu rfl rfl (fun w' hw'=>⟨_,_,hw',?_⟩) hlt))
  exact (hi.del_none hn).congr fun j=>by by_cases hj:j=k <;> simp [yK,hj]
 ·have hrun:(execOp a.eval ⟨none,.call { callee:=.builtin .delete,args:=#[x,y],argTypes:=#[T,t2] },ty,pos,aft,gd⟩).run P w=.ok (.value (.tuple #[])) (w.putObj b (.map (es.eraseIdxIfInBounds j) clock)):=by
   simp [execOp,resolve,hf.ev hx,hf.ev hy,invoke,builtin,Builtin.delete_,run_underlying hT,hget,mI hK,hr,kN _ hb]
  unfold Oper.wp
  rw [hrun,Oper.upon_value]
  refine hKK _ _ (kk' _ (yQ hc hu rfl rfl (fun w' hw'=>⟨_,_,hw',?_⟩) hlt))
  have e1:(es.eraseIdxIfInBounds j).toList=es.toList.eraseIdx j:=by
   have hj:j < es.size:=by simpa using (List.getElem?_eq_some_iff.1 he).1
   simp [Array.eraseIdxIfInBounds,hj]
  rw [e1]
  exact (hi.del he hk).congr fun j=>by by_cases hj:j=k <;> simp [yK,hj]
end steps
end Go.Nilo
