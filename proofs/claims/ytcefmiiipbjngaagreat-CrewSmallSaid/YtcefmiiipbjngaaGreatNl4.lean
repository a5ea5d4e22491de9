/-
  New boxes and stores, one law each. Conditions: what each theorem names.
-/
import Derived.Test.YtcefmiiipbjngaaGreatNl3
set_option linter.unusedSimpArgs false
set_option linter.unusedVariables false
namespace Go.Nilo

inductive Upd:List Ent→Ent→Ent→List Ent→Prop where
 | here {e e':Ent} {L:List Ent}:Upd (e::L) e e' (e'::L)
 | there {x e e':Ent} {L L':List Ent} (h:Upd L e e' L'):Upd (x::L) e e' (x::L')

inductive uG:List Ent→Ent→List Ent→Prop where
 | here {e:Ent} {L:List Ent}:uG (e::L) e L
 | there {x e:Ent} {L L':List Ent} (h:uG L e L'):uG (x::L) e (x::L')

theorem uG.perm {L L':List Ent} {e:Ent} (h:uG L e L'):L.Perm (e::L'):=by
 induction h with
 | here=>exact List.Perm.refl _
 | there _ ih=>exact (List.Perm.cons _ ih).trans (List.Perm.swap _ _ _)

theorem Upd.pick {L L':List Ent} {e e':Ent} (h:Upd L e e' L'):∃ M,L.Perm (e::M)∧L'.Perm (e'::M):=by
 induction h with
 | here=>exact ⟨_,List.Perm.refl _,List.Perm.refl _⟩
 | there _ ih=>
  obtain ⟨M,h1,h2⟩:=ih
  exact ⟨_::M,(List.Perm.cons _ h1).trans (List.Perm.swap _ _ _),(List.Perm.cons _ h2).trans (List.Perm.swap _ _ _)⟩

theorem Upd.mem {L L':List Ent} {e e':Ent} (h:Upd L e e' L'):e ∈ L:=by
 obtain ⟨M,h1,-⟩:=h.pick
 exact h1.mem_iff.2 List.mem_cons_self

theorem Ctx.updAt {G:cJ} {L L':List Ent} {w w':World} {e e':Ent} (h:Ctx G L w) (hu:Upd L e e' L') (h1:w'.os=w.os) (h2:w'.tape=w.tape) (h3:w'.output=w.output) (h4:w.heap.size≤w'.heap.size)
  (hb:∀ b,b < w.heap.size→¬ e.own b→w'.heap[b]?=w.heap[b]?) (hs:e'.sat w') (hf:∀ b,e'.own b→e.own b ∨ w.heap.size≤b):Ctx G L' w':=by
 obtain ⟨M,p1,p2⟩:=hu.pick
 exact ((h.perm p1).upd h1 h2 h3 h4 hb hs hf).perm p2.symm

theorem Ctx.pick {G:cJ} {L L':List Ent} {w:World} {e:Ent} (h:Ctx G L w) (hp:uG L e L'):Ctx G (e::L') w:=h.perm hp.perm
theorem Ctx.drop {G:cJ} {L L':List Ent} {w:World} {e:Ent} (h:Ctx G L w) (hp:uG L e L'):Ctx G L' w:=(h.pick hp).tail
theorem Ctx.nilRow {G:cJ} {L:List Ent} {w:World} (h:Ctx G L w) (T sz:Nat):Ctx G (.row none 0 [] T sz::L) w:=by
 refine ⟨h.os,h.tape,h.output,h.sz,h.pers,?_,?_,List.pairwise_cons.2 ⟨λe _ b hb=>by simp [Ent.own] at hb,h.sep⟩⟩
 ·intro e he
  rcases List.mem_cons.1 he with rfl | he
  ·exact ⟨by simp,World.ownsRow_nil w 0 T sz⟩
  ·exact h.sat e he
 ·intro e he b hb
  rcases List.mem_cons.1 he with rfl | he
  ·simp [Ent.own] at hb
  ·exact h.fresh e he b hb

def spl:List Value→Nat→List Value→List Value
 | cs,0,[]=>cs
 | [],0,_::_=>[]
 | _::cs,0,v::vs=>v::spl cs 0 vs
 | [],_ + 1,_=>[]
 | c::cs,o + 1,vs=>c::spl cs o vs

theorem aEh (cs:List Value):∀ o,spl cs o []=cs:=by
 induction cs with
 | nil=>intro o; cases o <;> rfl
 | cons c cs ih=>intro o; cases o <;> simp [spl,ih]

theorem aAs (v:Value) (vs:List Value):∀ (cs:List Value) (o:Nat),o < cs.length→spl cs o (v::vs)=spl (cs.set o v) (o + 1) vs
 | [],o,h=>by simp at h
 | c::cs,0,_=>by simp [spl]
 | c::cs,o + 1,h=>by
  simp only [spl,List.set_cons_succ,List.cons.injEq,true_and]
  exact aAs v vs cs o (by simpa using h)

theorem aHu (vs:List Value):∀ (cs:List Value) (o:Nat),(spl cs o vs).length=cs.length:=by
 induction vs with
 | nil=>intro cs o; rw [aEh]
 | cons v vs ih=>
  intro cs o
  by_cases h:o < cs.length
  ·rw [aAs v vs cs o h,ih]; simp
  ·have:∀ (cs:List Value) (o:Nat),cs.length≤o→spl cs o (v::vs)=cs:=by
    intro cs
    induction cs with
    | nil=>intro o _; cases o <;> rfl
    | cons c cs ih=>intro o ho; cases o <;> simp at ho; simp [spl,ih _ ho]
   rw [this cs o (by omega)]
structure aSk (b:Nat) (w w':World):Prop where
 os:w'.os=w.os
 tape:w'.tape=w.tape
 output:w'.output=w.output
 size:w'.heap.size=w.heap.size
 block:∀ k,k ≠ b→w'.heap[k]?=w.heap[k]?

theorem yV {P:Program} {b T:Nat}:∀ (vs:List Value) (o i:Nat) (cs:List Value) (w:World),w.heap[b]?=some (.cells cs.toArray T (0,0))→o + i + vs.length≤cs.length→(∀ v ∈ vs,v.oneCell'=true) →
  ∃ w',(storeCells ⟨b,o,none⟩ vs i).run P w=.ok () w'∧w'.heap[b]?=some (.cells (spl cs (o + i) vs).toArray T (0,0))∧aSk b w w'
 | [],o,i,cs,w,hg,_,_=>⟨w,by simp [storeCells],by rw [aEh]; exact hg,rfl,rfl,rfl,rfl,λ_ _=>rfl⟩
 | v::vs,o,i,cs,w,hg,hl,h1=>by
  have hi:o + i < cs.length:=by simp at hl; omega
  have hcell:w.cell? ⟨b,o + i,none⟩=some cs[o + i]:=by simp [World.cell?,hg,hi]
  have hfro:w.frozen? ⟨b,o + i,none⟩=false:=by simp [World.frozen?,hg]
  have hst:(store ((⟨b,o,none⟩:Addr).add i) v).run P w=.ok () (w.setCell ⟨b,o + i,none⟩ v):=by
   rw [Addr.add_lit,run_store P w _ v _ (h1 v (by simp)),hcell]
   simp [hfro]
  have hheap:(w.setCell ⟨b,o + i,none⟩ v).heap[b]?=some (.cells (cs.set (o + i) v).toArray T (0,0)):=by
   rw [heap_setCell_same w b (o + i) cs.toArray T v hg]
   simp
  obtain ⟨w',hr,hw,hwr⟩:=yV (P:=P) vs o (i + 1) (cs.set (o + i) v) _ hheap (by simp at hl ⊢; omega) (λu hu=>h1 u (by simp [hu]))
  refine ⟨w',?_,?_,hwr.os,hwr.tape,hwr.output,by rw [hwr.size]; simp [World.setCell],λk hk=>by rw [hwr.block k hk,heap_setCell_other w _ k v hk]⟩
  ·simp only [storeCells,Sem.run_bind,hst,Result.andThen_ok,hr]
  ·rw [hw,aAs v vs cs (o + i) hi,Nat.add_assoc]

theorem aAo {P:Program} {b T ty o:Nat} {cs vs:List Value} {v:Value} {w:World} (hg:w.heap[b]?=some (.cells cs.toArray T (0,0))) (hs:(P.info? ty).map (·.size)=some vs.length) (hv:v.cells=vs.toArray) (hl:o + vs.length≤cs.length)
  (h1:∀ u ∈ vs,u.oneCell'=true):∃ w',(storeVar ty ⟨b,o,none⟩ v).run P w=.ok () w'∧w'.heap[b]?=some (.cells (spl cs o vs).toArray T (0,0))∧aSk b w w':=by
 obtain ⟨w',hr,hw,hwr⟩:=yV (P:=P) vs o 0 cs w hg (by omega) h1
 refine ⟨w',?_,hw,hwr⟩
 have e1:v.cells.size=vs.length:=by simp [hv]
 have e2:v.cells.toList=vs:=by simp [hv]
 simp only [storeVar,Sem.run_bind,wF hs,Result.andThen_ok,e1,ne_eq,not_true_eq_false,if_false,e2]
 simpa using hr

def sG (vs:List Value):Bool:=vs.all (·.oneCell')

section steps
variable {P:Program} {ops:Array Oper} {Q:Exit→Act→World→Prop} {rest:List Oper} {a:Act} {w:World} {N:Fm} {d:Nat} {F:List (Nat × Value)} {G:cJ} {L L':List Ent} {v:Value}
 {ty:TypeId} {pos:String} {aft:Array Edge} {gd:Option (Nat × Bool)} {x y:Operand} {T:TypeId}
theorem stAl {z:Value} {cs:List Value} (hf:Has N a F) (hc:Ctx G L w) (hg:vJ ops F ⟨some d,.alloc T,ty,pos,aft,gd⟩=some true) (hN:Nat.blt d N.n=true) (hz:(P.info? T).map (·.zero)=some (some z)) (hz':z.cells=cs.toArray)
  (k:∀ b a w,Has N a ((d,.pointer (some ⟨b,0,none⟩))::F)→Ctx G (.box b cs T::L) w→wpList P ops Q rest a w):wpList P ops Q (⟨some d,.alloc T,ty,pos,aft,gd⟩::rest) a w:=by
 refine wpList_step λK hK=>?_
 rw [gX hf hg,if_pos rfl]
 have hr:(execOp a.eval ⟨some d,.alloc T,ty,pos,aft,gd⟩).run P w=.ok (.value (.pointer (some ⟨w.heap.size,0,none⟩))) (w.alloc (.cells cs.toArray T)):=by
  cases hi:P.info? T with
  | none=>simp [hi] at hz
  | some i=>
   simp [hi] at hz
   simp [execOp,Instr.alloc,zeroValue,typeInfo,hi,hz,newVar,newRow,hz']
 unfold Oper.wp
 rw [hr,Oper.upon_value]
 exact hK _ _ (k _ _ _ (hf.put hN _) (hc.newBox cs T))

theorem stBx {u:Value} {cs:List Value} (hf:Has N a F) (hc:Ctx G L w) (hg:vJ ops F ⟨some d,.box T x,ty,pos,aft,gd⟩=some true) (hN:Nat.blt d N.n=true) (hx:ev F x=some u) (hz':u.cells=cs.toArray)
  (k:∀ b a w,Has N a ((d,.pointer (some ⟨b,0,none⟩))::F)→Ctx G (.box b cs T::L) w→wpList P ops Q rest a w):wpList P ops Q (⟨some d,.box T x,ty,pos,aft,gd⟩::rest) a w:=by
 refine wpList_step λK hK=>?_
 rw [gX hf hg,if_pos rfl]
 have hr:(execOp a.eval ⟨some d,.box T x,ty,pos,aft,gd⟩).run P w=.ok (.value (.pointer (some ⟨w.heap.size,0,none⟩))) (w.alloc (.cells cs.toArray T)):=by
  simp [execOp,Instr.box,hf.ev hx,newVar,newRow,hz']
 unfold Oper.wp
 rw [hr,Oper.upon_value]
 exact hK _ _ (k _ _ _ (hf.put hN _) (hc.newBox cs T))
theorem stSt {b o T0:Nat} {cs vs:List Value} {u:Value} (hf:Has N a F) (hc:Ctx G L w) (hg:vJ ops F ⟨none,.store T x y,ty,pos,aft,gd⟩=some true) (hx:ev F x=some (.pointer (some ⟨b,o,none⟩))) (hy:ev F y=some u)
  (hv:u.cells=vs.toArray) (hs:(P.info? T).map (·.size)=some vs.length) (h1:sG vs=true) (hl:Nat.ble (o + vs.length) cs.length=true) (hu:Upd L (.box b cs T0) (.box b (spl cs o vs) T0) L')
  (k:∀ w,Ctx G L' w→wpList P ops Q rest a w):wpList P ops Q (⟨none,.store T x y,ty,pos,aft,gd⟩::rest) a w:=by
 refine wpList_step λK hK=>?_
 rw [gX hf hg,if_pos rfl]
 have hb:=hc.sat _ hu.mem
 obtain ⟨w',hr,hw,hwr⟩:=aAo (P:=P) hb hs hv (by simpa using hl) (by simpa [sG] using h1)
 have hr':(execOp a.eval ⟨none,.store T x y,ty,pos,aft,gd⟩).run P w=.ok .skip w':=by
  simp [execOp,hf.ev hx,hf.ev hy,Instr.storeAt,Instr.sureAddr,hr]
 unfold Oper.wp
 rw [hr',Oper.upon_skip]
 refine hK _ _ (k _ (hc.updAt hu hwr.os hwr.tape hwr.output (Nat.le_of_eq hwr.size.symm) (λk hk hne=>hwr.block k (λe=>hne (by simp [Ent.own,e]))) hw (λk hk=>.inl hk)))
end steps
end Go.Nilo
