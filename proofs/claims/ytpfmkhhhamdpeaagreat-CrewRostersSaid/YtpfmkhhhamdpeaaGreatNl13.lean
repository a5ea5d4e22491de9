/-
  From a row's arguments to the walk: what lay when the call began stays. Conditions: none.
-/
import Derived.Test.YtpfmkhhhamdpeaaGreatNl12
import Derived.Below
set_option linter.unusedSimpArgs false
set_option linter.unusedVariables false
namespace Go.Nilo
open Go.RowKit
def vR (w:World):aQ:={ blk:=fun b=>w.heap[b]?,os:=w.os,tape:=w.tape,output:=w.output,sz:=w.heap.size }
theorem aD3 (w:World):Ctx (vR w) [] w :=
 ⟨rfl,rfl,rfl,Nat.le_refl _,fun _ _ h=>h,fun _ h=>(nomatch h),fun _ h=>(nomatch h),List.Pairwise.nil⟩
theorem Ctx.behind {w w':World} {L:List Ent} (h:Ctx (vR w) L w'):Below w.heap.size w w':=by
 refine ⟨h.os,h.tape,h.output,h.sz,fun b hb=>?_⟩
 have:w.heap[b]?=some w.heap[b]:=by simp [hb]
 rw [this]
 exact h.pers b _ this
@[reducible] def vT {α:Type} (a:List Value) (n:Nat) (enc:α→List Value) (f:Nat→α) (b:List Value):List Value:=a++(arr n enc f++b)
theorem aBs {α:Type} {x:α} {P:Prop} (h:(none:Option α)=some x):P:=by cases h
abbrev aB0 {α β:Type} {γ:Sort _} (f:α→γ) (g:β→γ) (x:α ⊕ β):γ:=match x with | .inl a=>f a | .inr b=>g b
theorem aG9 {α β γ:Type} {f:α→γ} {g:β→γ} {a:α} {z:γ} (h:aB0 f g (.inl a)=z):f a=z:=h
theorem aHk {α β γ:Type} {f:α→γ} {g:β→γ} {b:β} {z:γ} (h:aB0 f g (.inr b)=z):g b=z:=h
def iA (P:Program) (t:TypeId):Option (List Value × List (Nat × Nat)) :=
 match P.info? t,P.underlying t with
 | some it,some (.struct fields)=>
  match it.zero,fields.toList.mapM (fun f=>(P.info? f.type).map fun i=>(f.offset,i.size)) with
  | some z,some places=>some (z.cells.toList,places)
  | _,_=>none
 | _,_=>none
def aBd:Value→List Value
 | .agg a=>a.toList
 | v=>[v]
def aJv:List Value→Nat→List Value→List Value
 | [],_,cs=>cs
 | c::l,o,cs=>aJv l (o + 1) (cs.set o c)
def aD8 (pl:List (Nat × Nat)):List Value→List (Nat × Value)→Option (List Value)
 | cs,[]=>some cs
 | cs,(i,v)::rest=>
  match pl[i]? with
  | none=>none
  | some (off,size)=>cond (Nat.beq (aBd v).length size && Nat.ble (off + size) cs.length) (aD8 pl (aJv (aBd v) off cs) rest) none
theorem aEb (v:Value):v.cells.toList=aBd v:=by cases v <;> rfl
theorem aH7 (off:Nat):∀ (l:List Value) (k:Nat) (cs:Array Value),((l.zipIdx k).foldl (fun (cs:Array Value) (x:Value × Nat)=>cs.setIfInBounds (off + x.2) x.1) cs).toList=aJv l (off + k) cs.toList
 | [],k,cs=>rfl
 | c::l,k,cs=>by
  rw [List.zipIdx_cons,List.foldl_cons,aH7 off l (k + 1) _,aJv,Array.toList_setIfInBounds]
  rfl
theorem aFk (pl:List (Nat × Nat)):∀ (vs:List (Nat × Value)) (cs:Array Value) (out:List Value),aD8 pl cs.toList vs=some out→Instr.fill (pl.toArray[·]?) cs vs=some out.toArray
 | [],cs,out,h=>by
  simp only [aD8,Option.some.injEq] at h
  subst h
  simp [Instr.fill]
 | (i,v)::rest,cs,out,h=>by
  simp only [aD8] at h
  unfold Instr.fill
  have hp:pl.toArray[i]?=pl[i]?:=by simp
  simp only [hp]
  cases hi:pl[i]? with
  | none=>simp [hi] at h
  | some q=>
   obtain ⟨off,size⟩:=q
   simp only [hi] at h
   cases hb:(Nat.beq (aBd v).length size && Nat.ble (off + size) cs.toList.length) with
   | false=>rw [hb] at h; cases h
   | true=>
    rw [hb] at h
    simp only [Bool.and_eq_true] at hb
    have h1:(aBd v).length=size:=Nat.eq_of_beq_eq_true hb.1
    have h2:off + size≤cs.toList.length:=Nat.le_of_ble_eq_true hb.2
    have hs:v.cells.size=size:=by rw [← h1,← aEb]; simp
    have hle:off + size≤cs.size:=by simpa using h2
    have hk:(v.cells.zipIdx.foldl (fun (cs:Array Value) (x:Value × Nat)=>cs.setIfInBounds (off + x.2) x.1) cs).toList=aJv (aBd v) off cs.toList:=by
     rw [← Array.foldl_toList,Array.toList_zipIdx,aH7,aEb]; rfl
    have ih:=aFk pl rest (v.cells.zipIdx.foldl (fun (cs:Array Value) (x:Value × Nat)=>cs.setIfInBounds (off + x.2) x.1) cs) out (by rw [hk]; exact h)
    simp only [hs]
    rw [if_neg (by simp; omega)]
    exact ih
theorem aJh {P:Program} {t:TypeId} {z:List Value} {pl:List (Nat × Nat)} {vs:List (Nat × Value)} {out:List Value} (h:iA P t=some (z,pl)) (h2:aD8 pl z vs=some out):P.built t vs=some out.toArray:=by
 unfold iA at h
 unfold Program.built
 cases hi:P.info? t with
 | none=>simp [hi] at h
 | some it=>
  cases hu:P.underlying t with
  | none=>simp [hi,hu] at h
  | some d=>
   cases d <;> simp only [hi,hu] at h <;> try (cases h; done)
   rename_i fields
   cases hz:it.zero with
   | none=>simp [hz] at h
   | some zv=>
    cases hp:fields.toList.mapM (fun f=>(P.info? f.type).map fun i=>(f.offset,i.size)) with
    | none=>simp [hz,hp] at h
    | some places=>
     simp only [hz,hp,Option.some.injEq,Prod.mk.injEq] at h
     obtain ⟨rfl,rfl⟩:=h
     simpa [hz,hp] using aFk _ vs zv.cells out h2
section
variable {P:Program} {N:Fm} {F:List (Nat × Value)} {G:aQ} {L:List Ent} {ty:TypeId} {pos:String} {aft:Array Edge} {gd:Option (Nat × Bool)} {d:Option Tmp} {v:Value} {x y c:Operand} {T:TypeId}
theorem cK {parts:Array (Nat × Operand)} {vs:List (Nat × Value)} {z:List Value} {pl:List (Nat × Nat)} {cells:List Value} (hT:iA P T=some (z,pl)) (h1:parts.toList.mapM (fun q=>(ev F q.2).map fun v=>(q.1,v))=some vs) (h:aD8 pl z vs=some cells) :
  Pu P ⟨d,.build T parts,ty,pos,aft,gd⟩ F (.agg cells.toArray):=aNx h1 (aJh hT h)
end
def gE (t:Bool) (e:Ent):Ent:=bif t then e else .row none 0 [] 0 0
theorem gE_T {t:Bool} {e:Ent} (h:t=true):gE t e=e:=by rw [h]; rfl
theorem gE_F {t:Bool} {e:Ent} (h:t=false):gE t e=.row none 0 [] 0 0:=by rw [h]; rfl
theorem fP (t:Bool):t=true ∨ t=false:=by cases t <;> simp
theorem aD0 {t b:Bool} (h:t=true):b=(t && b):=by rw [h]; rfl
theorem aDv {t b:Bool} (h:t=false):false=(t && b):=by rw [h]; rfl
section
variable {N:Fm} {a:Act} {F:List (Nat × Value)} {d:Nat} {v v' x y u:Value} {t b:Bool}
theorem oG (h:v=v') (hf:Has N a ((d,v)::F)):Has N a ((d,v')::F):=h ▸ hf
theorem cO (h:t=b) (hf:Has N a ((d,.bool t)::F)):Has N a ((d,.bool b)::F):=h ▸ hf
theorem kZ (h:t=true) (hf:Has N a ((d,bif t then x else y)::F)):Has N a ((d,x)::F):=by rw [h] at hf; exact hf
theorem kY (h:t=false) (hf:Has N a ((d,bif t then x else y)::F)):Has N a ((d,y)::F):=by rw [h] at hf; exact hf
theorem oL (h:t=true) (hf:Has N a ((d,x)::F)):Has N a ((d,bif t then x else u)::F):=by rw [h]; exact hf
theorem oK (h:t=false) (hf:Has N a ((d,x)::F)):Has N a ((d,bif t then u else x)::F):=by rw [h]; exact hf
end
end Go.Nilo
