/-
  From a row's arguments to the walk: what lay when the call began stays. Conditions: none.
-/
import Derived.Test.YtbkcdekgmilmcaaGreatNl12
import Derived.Below
set_option linter.unusedSimpArgs false
set_option linter.unusedVariables false
namespace Go.Nilo
open Go.RowKit
def aEr (w:World):aT:={ blk:=fun b=>w.heap[b]?,os:=w.os,tape:=w.tape,output:=w.output,sz:=w.heap.size }
theorem aF0 (w:World):Ctx (aEr w) [] w :=
 ⟨rfl,rfl,rfl,Nat.le_refl _,fun _ _ h=>h,fun _ h=>(nomatch h),fun _ h=>(nomatch h),List.Pairwise.nil⟩
theorem Ctx.behind {w w':World} {L:List Ent} (h:Ctx (aEr w) L w'):Below w.heap.size w w':=by
 refine ⟨h.os,h.tape,h.output,h.sz,fun b hb=>?_⟩
 have:w.heap[b]?=some w.heap[b]:=by simp [hb]
 rw [this]
 exact h.pers b _ this

theorem aKl {k:IntKind} {w:World} {a:Option Addr} {len cap:Nat} {zs:List Int}
  (h:(a=none∧len=0∧cap=0∧zs=[]) ∨ ∃ x,a=some x∧len≤cap∧cap≤maxLen∧zs.length=cap∧(∀ i,i < zs.length→w.cell? (x.add i)=some (.int k (zs.getD i 0)))∧∀ n ∈ zs,(Lit.int k n).wf=true) :
  (zs.take len).length=len∧Rd (aEr w) 1 a cap ((zs.take len).map fun n=>[Value.int k n]):=by
 rcases h with ⟨rfl,rfl,rfl,rfl⟩ | ⟨x,rfl,hl,hm,hz,hcell,hwf⟩
 ·exact ⟨rfl,by simp,by decide,by simp,.inl rfl⟩
 ·have hlen:(zs.take len).length=len:=by simp; omega
  refine ⟨hlen,by simp; omega,hm,fun r hr=>by obtain ⟨n,-,rfl⟩:=List.mem_map.1 hr; rfl,?_⟩
  by_cases h0:len=0
  ·left; subst h0; simp
  ·right
   obtain ⟨b,o,sp⟩:=x
   have hc0:=hcell 0 (by omega)
   simp only [Addr.add,if_pos] at hc0
   cases hb:w.heap[b]? with
   | none=>simp [World.cell?,hb] at hc0
   | some ob=>
    cases ob with
    | cells cur T fr=>
     cases sp with
     | some q=>simp [World.cell?,hb] at hc0
     | none=>
      refine ⟨b,o,rfl,cur,T,fr,hb,fun i r hi j u hu=>?_⟩
      rw [List.getElem?_map,List.getElem?_take] at hi
      split at hi
      ·rename_i hil
       cases hzi:zs[i]? with
       | none=>simp [hzi] at hi
       | some n=>
        simp [hzi] at hi
        subst hi
        have hj:j=0:=by
         cases j with
         | zero=>rfl
         | succ j=>simp at hu
        subst hj
        simp at hu
        subst hu
        have hci:=hcell i (by omega)
        rw [Addr.add_lit] at hci
        have hgd:zs.getD i 0=n:=by simp [List.getD,hzi]
        rw [hgd] at hci
        simpa [World.cell?,hb] using hci
      ·simp at hi
    | _=>simp [World.cell?,hb] at hc0
@[reducible] def bR {α:Type} (a:List Value) (n:Nat) (enc:α→List Value) (f:Nat→α) (b:List Value):List Value:=a++(arr n enc f++b)
theorem aBn {α:Type} {x:α} {P:Prop} (h:(none:Option α)=some x):P:=by cases h
abbrev aAg {α β:Type} {γ:Sort _} (f:α→γ) (g:β→γ) (x:α ⊕ β):γ:=match x with | .inl a=>f a | .inr b=>g b
theorem aC4 {α β γ:Type} {f:α→γ} {g:β→γ} {a:α} {z:γ} (h:aAg f g (.inl a)=z):f a=z:=h
theorem aC7 {α β γ:Type} {f:α→γ} {g:β→γ} {b:β} {z:γ} (h:aAg f g (.inr b)=z):g b=z:=h
def iY (P:Program) (t:TypeId):Option (List Value × List (Nat × Nat)) :=
 match P.info? t,P.underlying t with
 | some it,some (.struct fields)=>
  match it.zero,fields.toList.mapM (fun f=>(P.info? f.type).map fun i=>(f.offset,i.size)) with
  | some z,some places=>some (z.cells.toList,places)
  | _,_=>none
 | _,_=>none
def aCc:Value→List Value
 | .agg a=>a.toList
 | v=>[v]
def aNl:List Value→Nat→List Value→List Value
 | [],_,cs=>cs
 | c::l,o,cs=>aNl l (o + 1) (cs.set o c)
def aGa (pl:List (Nat × Nat)):List Value→List (Nat × Value)→Option (List Value)
 | cs,[]=>some cs
 | cs,(i,v)::rest=>
  match pl[i]? with
  | none=>none
  | some (off,size)=>cond (Nat.beq (aCc v).length size && Nat.ble (off + size) cs.length) (aGa pl (aNl (aCc v) off cs) rest) none
theorem aFs (v:Value):v.cells.toList=aCc v:=by cases v <;> rfl
theorem aJ9 (off:Nat):∀ (l:List Value) (k:Nat) (cs:Array Value),((l.zipIdx k).foldl (fun (cs:Array Value) (x:Value × Nat)=>cs.setIfInBounds (off + x.2) x.1) cs).toList=aNl l (off + k) cs.toList
 | [],k,cs=>rfl
 | c::l,k,cs=>by
  rw [List.zipIdx_cons,List.foldl_cons,aJ9 off l (k + 1) _,aNl,Array.toList_setIfInBounds]
  rfl
theorem aIo (pl:List (Nat × Nat)):∀ (vs:List (Nat × Value)) (cs:Array Value) (out:List Value),aGa pl cs.toList vs=some out→Instr.fill (pl.toArray[·]?) cs vs=some out.toArray
 | [],cs,out,h=>by
  simp only [aGa,Option.some.injEq] at h
  subst h
  simp [Instr.fill]
 | (i,v)::rest,cs,out,h=>by
  simp only [aGa] at h
  unfold Instr.fill
  have hp:pl.toArray[i]?=pl[i]?:=by simp
  simp only [hp]
  cases hi:pl[i]? with
  | none=>simp [hi] at h
  | some q=>
   obtain ⟨off,size⟩:=q
   simp only [hi] at h
   cases hb:(Nat.beq (aCc v).length size && Nat.ble (off + size) cs.toList.length) with
   | false=>rw [hb] at h; cases h
   | true=>
    rw [hb] at h
    simp only [Bool.and_eq_true] at hb
    have h1:(aCc v).length=size:=Nat.eq_of_beq_eq_true hb.1
    have h2:off + size≤cs.toList.length:=Nat.le_of_ble_eq_true hb.2
    have hs:v.cells.size=size:=by rw [← h1,← aFs]; simp
    have hle:off + size≤cs.size:=by simpa using h2
    have hk:(v.cells.zipIdx.foldl (fun (cs:Array Value) (x:Value × Nat)=>cs.setIfInBounds (off + x.2) x.1) cs).toList=aNl (aCc v) off cs.toList:=by
     rw [← Array.foldl_toList,Array.toList_zipIdx,aJ9,aFs]; rfl
    have ih:=aIo pl rest (v.cells.zipIdx.foldl (fun (cs:Array Value) (x:Value × Nat)=>cs.setIfInBounds (off + x.2) x.1) cs) out (by rw [hk]; exact h)
    simp only [hs]
    rw [if_neg (by simp; omega)]
    exact ih
theorem aLz {P:Program} {t:TypeId} {z:List Value} {pl:List (Nat × Nat)} {vs:List (Nat × Value)} {out:List Value} (h:iY P t=some (z,pl)) (h2:aGa pl z vs=some out):P.built t vs=some out.toArray:=by
 unfold iY at h
 unfold Program.built
 cases hi:P.info? t with
 | none=>simp [hi] at h
 | some it=>
  cases hu:P.underlying t with
  | none=>simp [hi,hu] at h
  | some d=>
   cases d <;> simp only [hi,hu] at h <;> try (cases h; done)
   rename_i fields
   cases hz:it.zero with
   | none=>simp [hz] at h
   | some zv=>
    cases hp:fields.toList.mapM (fun f=>(P.info? f.type).map fun i=>(f.offset,i.size)) with
    | none=>simp [hz,hp] at h
    | some places=>
     simp only [hz,hp,Option.some.injEq,Prod.mk.injEq] at h
     obtain ⟨rfl,rfl⟩:=h
     simpa [hz,hp] using aIo _ vs zv.cells out h2
section
variable {P:Program} {N:Fm} {F:List (Nat × Value)} {G:aT} {L:List Ent} {ty:TypeId} {pos:String} {aft:Array Edge} {gd:Option (Nat × Bool)} {d:Option Tmp} {v:Value} {x y c:Operand} {T:TypeId}
theorem iF {parts:Array (Nat × Operand)} {vs:List (Nat × Value)} {z:List Value} {pl:List (Nat × Nat)} {cells:List Value} (hT:iY P T=some (z,pl)) (h1:parts.toList.mapM (fun q=>(ev F q.2).map fun v=>(q.1,v))=some vs) (h:aGa pl z vs=some cells) :
  Pu P ⟨d,.build T parts,ty,pos,aft,gd⟩ F (.agg cells.toArray):=aQu h1 (aLz hT h)
end

theorem iC (t:Bool):t=true ∨ t=false:=by cases t <;> simp
theorem andT {t b:Bool} (h:t=true):b=(t && b):=by rw [h]; rfl
theorem andF {t b:Bool} (h:t=false):false=(t && b):=by rw [h]; rfl
section
variable {N:Fm} {a:Act} {F:List (Nat × Value)} {d:Nat} {v v' x y u:Value} {t b:Bool}
theorem aD8 (h:v=v') (hf:Has N a ((d,v)::F)):Has N a ((d,v')::F):=h ▸ hf
theorem eI (h:t=b) (hf:Has N a ((d,.bool t)::F)):Has N a ((d,.bool b)::F):=h ▸ hf
theorem jM (h:t=true) (hf:Has N a ((d,bif t then x else y)::F)):Has N a ((d,x)::F):=by rw [h] at hf; exact hf
theorem jN (h:t=false) (hf:Has N a ((d,bif t then x else y)::F)):Has N a ((d,y)::F):=by rw [h] at hf; exact hf
theorem mE (h:t=true) (hf:Has N a ((d,x)::F)):Has N a ((d,bif t then x else u)::F):=by rw [h]; exact hf
theorem mG (h:t=false) (hf:Has N a ((d,x)::F)):Has N a ((d,bif t then u else x)::F):=by rw [h]; exact hf
end
end Go.Nilo
