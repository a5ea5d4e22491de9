/-
  Frames and memory as lists of facts; the steps of a walk, one law a kind of operation. Conditions: none.
-/
import Derived.WalkKit
import Derived.Deep.Quiet
set_option linter.unusedSimpArgs false
set_option linter.unusedVariables false
namespace Go.Nilo


def kH:List (Nat × Value)→Nat→Option Value
 | [],_=>none
 | (d,v)::F,t=>bif Nat.beq d t then some v else kH F t

def ev (F:List (Nat × Value)):Operand→Option Value
 | .tmp t=>kH F t
 | .const v=>some v
 | .func f=>some (.func (.func f) #[] #[])
 | .global _=>none
structure Fm where
 n:Nat
 ds:List Deferred
instance (k:Nat):OfNat Fm k:=⟨⟨k,[]⟩⟩

structure Has (N:Fm) (a:Act) (F:List (Nat × Value)):Prop where
 size:a.tmps.size=N.n
 defers:a.defers=N.ds
 get:∀ d v,kH F d=some v→a.tmps[d]?=some v

theorem Has.ev {N:Fm} {a:Act} {F:List (Nat × Value)} (h:Has N a F) {x:Operand} {v:Value} (hx:ev F x=some v):a.eval x=v:=by
 cases x with
 | tmp t=>simp only [Go.Nilo.ev] at hx; simp [Act.eval,h.get t v hx]
 | const c=>simpa [Go.Nilo.ev,Act.eval] using hx
 | func f=>simpa [Go.Nilo.ev,Act.eval] using hx
 | global g=>simp [Go.Nilo.ev] at hx

theorem Has.put {N:Fm} {a:Act} {F:List (Nat × Value)} (h:Has N a F) {d:Nat} (hd:Nat.blt d N.n=true) (v:Value):Has N (a.put (some d) v) ((d,v)::F):=by
 have hd':d < N.n:=by simpa [Nat.blt_eq] using hd
 refine ⟨by simpa [Act.put] using h.size,by simpa [Act.put] using h.defers,λe u he=>?_⟩
 simp only [kH] at he
 cases hb:Nat.beq d e with
 | true=>
  rw [hb] at he
  have:d=e:=Nat.eq_of_beq_eq_true hb
  subst this
  simp at he
  subst he
  simp [Act.put,h.size,hd']
 | false=>
  rw [hb] at he
  have hne:d ≠ e:=λe'=>by subst e'; simp at hb
  simp only [Act.put,Array.getElem?_setIfInBounds_ne hne]
  exact h.get e u he

theorem Has.weaken {N:Fm} {a:Act} {F F':List (Nat × Value)} (h:Has N a F) (hs:∀ d v,kH F' d=some v→kH F d=some v):Has N a F' :=
 ⟨h.size,h.defers,λd v hv=>h.get d v (hs d v hv)⟩

theorem aK1 {F F':List (Nat × Value)} (h:F'.foldr (λp q=>kH F p.1=some p.2∧q) True):∀ d v,kH F' d=some v→kH F d=some v:=by
 induction F' with
 | nil=>intro d v hv; simp [kH] at hv
 | cons p F' ih=>
  obtain ⟨e,u⟩:=p
  intro d v hv
  simp only [List.foldr_cons] at h
  simp only [kH] at hv
  cases hb:Nat.beq e d with
  | true=>
   rw [hb] at hv
   have:e=d:=Nat.eq_of_beq_eq_true hb
   subst this
   simp at hv
   subst hv
   exact h.1
  | false=>rw [hb] at hv; exact ih h.2 d v hv

theorem Has.keep {N:Fm} {a:Act} {F F':List (Nat × Value)} (h:Has N a F) (hs:F'.foldr (λp q=>kH F p.1=some p.2∧q) True):Has N a F' :=
 h.weaken (aK1 hs)

structure cJ where
 blk:Nat→Option Obj
 os:Os
 tape:Nat→Question→Nat
 output:Array (Nat × ByteArray)
 sz:Nat

def cJ.le (G G':cJ):Prop:=(∀ b o,G.blk b=some o→G'.blk b=some o)∧G'.os=G.os∧G'.tape=G.tape∧G'.output=G.output∧G'.sz=G.sz
theorem cJ.le_refl (G:cJ):G.le G:=⟨λ_ _ h=>h,rfl,rfl,rfl,rfl⟩
theorem cJ.le_trans {A B C:cJ} (h:A.le B) (k:B.le C):A.le C :=
 ⟨λb o x=>k.1 b o (h.1 b o x),k.2.1.trans h.2.1,k.2.2.1.trans h.2.2.1,k.2.2.2.1.trans h.2.2.2.1,k.2.2.2.2.trans h.2.2.2.2⟩
structure aBf (es:List MapEntry) (clock:Nat) (f:Int→Option Value) (pend:Option (Nat × Int)):Prop where
 keys:∀ e ∈ es,∃ k,e.key=.int .i64 k
 one:es.Pairwise λa b=>a.key ≠ b.key∧a.born ≠ b.born
 old:∀ e ∈ es,e.born < clock
 some':∀ k v,f k=some v ↔ ∃ e ∈ es,e.key=.int .i64 k∧e.val=v
 pend:∀ s k,pend=some (s,k)→∃ e ∈ es,e.born=s∧e.key=.int .i64 k
inductive Ent where
 | box (b:Nat) (cs:List Value) (T:TypeId)
 | row (p:Option Addr) (cap:Nat) (rows:List (List Value)) (T sz:Nat)
 | mp (b:Nat) (es:Array MapEntry) (clock:Nat)
 | raw (b:Nat) (o:Obj)
 | im (b:Nat) (f:Int→Option Value) (pend:Option (Nat × Int))
 | gm (b:Nat) (Q:List MapEntry→Nat→Prop)
 | grp (F:Nat→Prop) (Q:World→Prop)

def Ent.foot:Ent→Option Nat
 | .box b _ _=>some b
 | .row p _ _ _ _=>p.map (·.block)
 | .mp b _ _=>some b
 | .raw b _=>some b
 | .im b _ _=>some b
 | .gm b _=>some b
 | .grp _ _=>none
def Ent.own:Ent→Nat→Prop
 | .box b _ _,c=>some b=some c
 | .row p _ _ _ _,c=>p.map (·.block)=some c
 | .mp b _ _,c=>some b=some c
 | .raw b _,c=>some b=some c
 | .im b _ _,c=>some b=some c
 | .gm b _,c=>some b=some c
 | .grp F _,c=>F c

theorem Ent.own_foot {e:Ent} {n b:Nat} (h:e.foot=some n):e.own b ↔ n=b:=by
 cases e with
 | row p c r T sz=>
  simp only [Ent.foot] at h
  simp only [Ent.own,h,Option.some.injEq]
 | grp F Q=>simp [Ent.foot] at h
 | _=>simp only [Ent.foot] at h; simp only [Ent.own]; rw [h]; simp

def Ent.sat (w:World):Ent→Prop
 | .box b cs T=>w.heap[b]?=some (.cells cs.toArray T (0,0))
 | .row p cap rows T sz=>(∀ r ∈ rows,r.length=sz)∧w.ownsRow 0 T sz (.slice p rows.length cap) rows.length rows.flatten
 | .mp b es clock=>w.heap[b]?=some (.map es clock)
 | .raw b o=>w.heap[b]?=some o
 | .im b f pend=>∃ es clock,w.heap[b]?=some (.map es clock)∧aBf es.toList clock f pend
 | .gm b Q=>∃ es clock,w.heap[b]?=some (.map es clock)∧Q es.toList clock
 | .grp F Q=>Q w∧(∀ b,F b→b < w.heap.size)∧∀ w',(∀ b,F b→w'.heap[b]?=w.heap[b]?)→Q w'

structure Ctx (G:cJ) (L:List Ent) (w:World):Prop where
 os:w.os=G.os
 tape:w.tape=G.tape
 output:w.output=G.output
 sz:G.sz≤w.heap.size
 pers:∀ b o,G.blk b=some o→w.heap[b]?=some o
 sat:∀ e ∈ L,e.sat w
 fresh:∀ e ∈ L,∀ b,e.own b→G.blk b=none
 sep:L.Pairwise λe e'=>∀ b,e.own b→¬ e'.own b
def pD (L:List Ent) (e:Ent):Prop:=∀ G w,Ctx G L w→e.sat w
theorem pD.of {L:List Ent} {e:Ent} (h:e ∈ L):pD L e:=λ_ _ hc=>hc.sat _ h

theorem aRj {w:World} {p:Option Addr} {n cap:Nat} {cs:List Value} {T sz b:Nat} (h:w.ownsRow 0 T sz (.slice p n cap) n cs) (hb:p.map (·.block)=some b) :
  (Value.slice p n cap).ownBlock=some b:=by
 cases p with
 | none=>simp at hb
 | some a=>simpa [Value.ownBlock] using hb

theorem Ent.lt {w:World} {e:Ent} (h:e.sat w) {b:Nat} (hb:e.own b):b < w.heap.size:=by
 cases e with
 | box b' cs T=>
  simp only [Ent.own,Option.some.injEq] at hb
  subst hb
  exact (Array.getElem?_eq_some_iff.1 h).1
 | row p cap rows T sz=>exact (World.ownsRow.lt h.2 b (aRj h.2 hb)).2
 | mp b' es c=>
  simp only [Ent.own,Option.some.injEq] at hb
  subst hb
  exact (Array.getElem?_eq_some_iff.1 h).1
 | raw b' o=>
  simp only [Ent.own,Option.some.injEq] at hb
  subst hb
  exact (Array.getElem?_eq_some_iff.1 h).1
 | im b' f pend=>
  simp only [Ent.own,Option.some.injEq] at hb
  subst hb
  obtain ⟨es,clock,h,_⟩:=h
  exact (Array.getElem?_eq_some_iff.1 h).1
 | gm b' Q=>
  simp only [Ent.own,Option.some.injEq] at hb
  subst hb
  obtain ⟨es,clock,h,_⟩:=h
  exact (Array.getElem?_eq_some_iff.1 h).1
 | grp F Q=>exact h.2.1 b hb
theorem Ent.stay {w w':World} {e:Ent} (h:e.sat w) (hb:∀ b,e.own b→w'.heap[b]?=w.heap[b]?):e.sat w':=by
 cases e with
 | box b cs T=>simp only [Ent.sat] at *; rw [hb b rfl]; exact h
 | row p cap rows T sz=>
  simp only [Ent.sat,World.ownsRow] at *
  refine ⟨h.1,h.2.1,?_⟩
  rcases h.2.2 with h2 | ⟨g,cap',cur,hv,hg,hh,hr⟩
  ·exact .inl h2
  ·refine .inr ⟨g,cap',cur,hv,hg,?_,hr⟩
   simp only [Value.slice.injEq] at hv
   obtain ⟨rfl,-,rfl⟩:=hv
   rw [hb g rfl]
   exact hh
 | mp b es c=>simp only [Ent.sat] at *; rw [hb b rfl]; exact h
 | raw b o=>simp only [Ent.sat] at *; rw [hb b rfl]; exact h
 | im b f pend=>simp only [Ent.sat] at *; rw [hb b rfl]; exact h
 | gm b Q=>simp only [Ent.sat] at *; rw [hb b rfl]; exact h
 | grp F Q=>
  refine ⟨h.2.2 w' hb,λb hF=>?_,λw2 h2=>h.2.2 w2 λb hF=>(h2 b hF).trans (hb b hF)⟩
  have h1:=h.2.1 b hF
  have h2:=hb b hF
  rw [Array.getElem?_eq_getElem h1] at h2
  exact (Array.getElem?_eq_some_iff.1 h2).1

theorem Ctx.lt {G:cJ} {L:List Ent} {w:World} (h:Ctx G L w) {b:Nat} {o:Obj} (hb:G.blk b=some o):b < w.heap.size :=
 (Array.getElem?_eq_some_iff.1 (h.pers b o hb)).1
theorem Ctx.stay {G:cJ} {L:List Ent} {w w':World} (h:Ctx G L w) (h1:w'.os=w.os) (h2:w'.tape=w.tape) (h3:w'.output=w.output) (h4:w.heap.size≤w'.heap.size)
  (hb:∀ b,b < w.heap.size→w'.heap[b]?=w.heap[b]?):Ctx G L w' :=
 ⟨h1.trans h.os,h2.trans h.tape,h3.trans h.output,Nat.le_trans h.sz h4,λb o ho=>(hb b (h.lt ho)).trans (h.pers b o ho),
  λe he=>Ent.stay (h.sat e he) λb hf=>hb b (Ent.lt (h.sat e he) hf),h.fresh,h.sep⟩

theorem Ctx.drew {G:cJ} {L:List Ent} {w:World} (h:Ctx G L w):Ctx G L { w with drawn:=w.drawn + 1 } :=
 ⟨h.os,h.tape,h.output,h.sz,h.pers,λe he=>Ent.stay (h.sat e he) λ_ _=>rfl,h.fresh,h.sep⟩

theorem Ctx.below {G:cJ} {L:List Ent} {w w':World} (h:Ctx G L w) (hb:RowKit.Below w.heap.size w w'):Ctx G L w' :=
 h.stay hb.os hb.tape hb.output hb.size hb.block

theorem Ctx.tail {G:cJ} {L:List Ent} {e:Ent} {w:World} (h:Ctx G (e::L) w):Ctx G L w :=
 ⟨h.os,h.tape,h.output,h.sz,h.pers,λe he=>h.sat e (List.mem_cons_of_mem _ he),λe he=>h.fresh e (List.mem_cons_of_mem _ he),(List.pairwise_cons.1 h.sep).2⟩

theorem Ctx.perm {G:cJ} {L L':List Ent} {w:World} (h:Ctx G L w) (hp:L.Perm L'):Ctx G L' w :=
 ⟨h.os,h.tape,h.output,h.sz,h.pers,λe he=>h.sat e (hp.mem_iff.2 he),λe he=>h.fresh e (hp.mem_iff.2 he),
  (hp.pairwise_iff (λhab x hx hy=>hab x hy hx)).1 h.sep⟩
theorem Ctx.new {G:cJ} {L:List Ent} {w:World} (h:Ctx G L w) (o:Obj) (e:Ent) (hf:e.foot=some w.heap.size) (hs:e.sat (w.alloc o)):Ctx G (e::L) (w.alloc o):=by
 have hst:Ctx G L (w.alloc o):=h.stay rfl rfl rfl (by simp) λb hb=>Go.heap_alloc_old w o hb
 refine ⟨hst.os,hst.tape,hst.output,hst.sz,hst.pers,?_,?_,?_⟩
 ·intro e' he'
  rcases List.mem_cons.1 he' with rfl | he'
  ·exact hs
  ·exact hst.sat e' he'
 ·intro e' he' b hb
  rcases List.mem_cons.1 he' with rfl | he'
  ·cases hg:G.blk b with
   | none=>rfl
   | some o'=>
    have:=h.lt hg
    have:=(Ent.own_foot hf).1 hb
    omega
  ·exact h.fresh e' he' b hb
 ·refine List.pairwise_cons.2 ⟨λe' he' b hb hb'=>?_,h.sep⟩
  have:=Ent.lt (h.sat e' he') hb'
  have:=(Ent.own_foot hf).1 hb
  omega

theorem Ctx.newBox {G:cJ} {L:List Ent} {w:World} (h:Ctx G L w) (cs:List Value) (T:TypeId):Ctx G (.box w.heap.size cs T::L) (w.alloc (.cells cs.toArray T)) :=
 h.new _ _ rfl (heap_alloc_new w _)
theorem Ctx.upd {G:cJ} {L:List Ent} {w w':World} {e e':Ent} (h:Ctx G (e::L) w) (h1:w'.os=w.os) (h2:w'.tape=w.tape) (h3:w'.output=w.output) (h4:w.heap.size≤w'.heap.size)
  (hb:∀ b,b < w.heap.size→¬ e.own b→w'.heap[b]?=w.heap[b]?) (hs:e'.sat w') (hf:∀ b,e'.own b→e.own b ∨ w.heap.size≤b):Ctx G (e'::L) w':=by
 obtain ⟨hsep,hsep'⟩:=List.pairwise_cons.1 h.sep
 refine ⟨h1.trans h.os,h2.trans h.tape,h3.trans h.output,Nat.le_trans h.sz h4,?_,?_,?_,?_⟩
 ·intro b o ho
  rw [hb b (h.lt ho) (λhe=>by have:=h.fresh e List.mem_cons_self b he; rw [this] at ho; cases ho)]
  exact h.pers b o ho
 ·intro x hx
  rcases List.mem_cons.1 hx with rfl | hx
  ·exact hs
  ·exact Ent.stay (h.sat x (List.mem_cons_of_mem _ hx)) λb hfb=>hb b (Ent.lt (h.sat x (List.mem_cons_of_mem _ hx)) hfb) (λhe=>hsep x hx b he hfb)
 ·intro x hx b hxb
  rcases List.mem_cons.1 hx with rfl | hx
  ·rcases hf b hxb with he | he
   ·exact h.fresh e List.mem_cons_self b he
   ·cases hg:G.blk b with
    | none=>rfl
    | some o=>have:=h.lt hg; omega
  ·exact h.fresh x (List.mem_cons_of_mem _ hx) b hxb
 ·refine List.pairwise_cons.2 ⟨λx hx b hxb hxb'=>?_,hsep'⟩
  rcases hf b hxb with he | he
  ·exact hsep x hx b he hxb'
  ·have:=Ent.lt (h.sat x (List.mem_cons_of_mem _ hx)) hxb'
   omega

@[reducible] def i6 (x:Int):Value:=.int .i64 x
@[reducible] def pq (b:Nat):Value:=.pointer (some ⟨b,0,none⟩)
theorem sj {α:Type} {a b:α} (h:some a=some b):a=b:=Option.some.inj h
theorem Z {α:Sort _} {a:α}:a=a:=rfl
end Go.Nilo
