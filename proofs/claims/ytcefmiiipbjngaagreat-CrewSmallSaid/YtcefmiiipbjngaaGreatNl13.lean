/-
  From a row's arguments to the walk: what lay when the call began stays. Conditions: none.
-/
import Derived.Test.YtcefmiiipbjngaaGreatNl12
import Derived.Below
set_option linter.unusedSimpArgs false
set_option linter.unusedVariables false
namespace Go.Nilo
open Go.RowKit
def aP5 (w:World):cJ:={ blk:=λb=>w.heap[b]?,os:=w.os,tape:=w.tape,output:=w.output,sz:=w.heap.size }
theorem aOz (w:World):Ctx (aP5 w) [] w :=
 ⟨rfl,rfl,rfl,Nat.le_refl _,λ_ _ h=>h,λ_ h=>(nomatch h),λ_ h=>(nomatch h),List.Pairwise.nil⟩
theorem Ctx.behind {w w':World} {L:List Ent} (h:Ctx (aP5 w) L w'):Below w.heap.size w w':=by
 refine ⟨h.os,h.tape,h.output,h.sz,λb hb=>?_⟩
 have:w.heap[b]?=some w.heap[b]:=by simp [hb]
 rw [this]
 exact h.pers b _ this
@[reducible] def aBc {α:Type} (a:List Value) (n:Nat) (enc:α→List Value) (f:Nat→α) (b:List Value):List Value:=a++(arr n enc f++b)
theorem aG5 {α:Type} {x:α} {P:Prop} (h:(none:Option α)=some x):P:=by cases h
abbrev aGl {α β:Type} {γ:Sort _} (f:α→γ) (g:β→γ) (x:α ⊕ β):γ:=match x with | .inl a=>f a | .inr b=>g b
theorem aNv {α β γ:Type} {f:α→γ} {g:β→γ} {a:α} {z:γ} (h:aGl f g (.inl a)=z):f a=z:=h
theorem aMx {α β γ:Type} {f:α→γ} {g:β→γ} {b:β} {z:γ} (h:aGl f g (.inr b)=z):g b=z:=h
def iR (P:Program) (t:TypeId):Option (List Value × List (Nat × Nat)) :=
 match P.info? t,P.underlying t with
 | some it,some (.struct fields)=>
  match it.zero,fields.toList.mapM (λf=>(P.info? f.type).map λi=>(f.offset,i.size)) with
  | some z,some places=>some (z.cells.toList,places)
  | _,_=>none
 | _,_=>none
def aFp:Value→List Value
 | .agg a=>a.toList
 | v=>[v]
def aQ8:List Value→Nat→List Value→List Value
 | [],_,cs=>cs
 | c::l,o,cs=>aQ8 l (o + 1) (cs.set o c)
def aIu (pl:List (Nat × Nat)):List Value→List (Nat × Value)→Option (List Value)
 | cs,[]=>some cs
 | cs,(i,v)::rest=>
  match pl[i]? with
  | none=>none
  | some (off,size)=>cond (Nat.beq (aFp v).length size && Nat.ble (off + size) cs.length) (aIu pl (aQ8 (aFp v) off cs) rest) none
theorem aI0 (v:Value):v.cells.toList=aFp v:=by cases v <;> rfl
theorem aNh (off:Nat):∀ (l:List Value) (k:Nat) (cs:Array Value),((l.zipIdx k).foldl (λ(cs:Array Value) (x:Value × Nat)=>cs.setIfInBounds (off + x.2) x.1) cs).toList=aQ8 l (off + k) cs.toList
 | [],k,cs=>rfl
 | c::l,k,cs=>by
  rw [List.zipIdx_cons,List.foldl_cons,aNh off l (k + 1) _,aQ8,Array.toList_setIfInBounds]
  rfl
theorem aK7 (pl:List (Nat × Nat)):∀ (vs:List (Nat × Value)) (cs:Array Value) (out:List Value),aIu pl cs.toList vs=some out→Instr.fill (pl.toArray[·]?) cs vs=some out.toArray
 | [],cs,out,h=>by
  simp only [aIu,Option.some.injEq] at h
  subst h
  simp [Instr.fill]
 | (i,v)::rest,cs,out,h=>by
  simp only [aIu] at h
  unfold Instr.fill
  have hp:pl.toArray[i]?=pl[i]?:=by simp
  simp only [hp]
  cases hi:pl[i]? with
  | none=>simp [hi] at h
  | some q=>
   obtain ⟨off,size⟩:=q
   simp only [hi] at h
   cases hb:(Nat.beq (aFp v).length size && Nat.ble (off + size) cs.toList.length) with
   | false=>rw [hb] at h; cases h
   | true=>
    rw [hb] at h
    simp only [Bool.and_eq_true] at hb
    have h1:(aFp v).length=size:=Nat.eq_of_beq_eq_true hb.1
    have h2:off + size≤cs.toList.length:=Nat.le_of_ble_eq_true hb.2
    have hs:v.cells.size=size:=by rw [← h1,← aI0]; simp
    have hle:off + size≤cs.size:=by simpa using h2
    have hk:(v.cells.zipIdx.foldl (λ(cs:Array Value) (x:Value × Nat)=>cs.setIfInBounds (off + x.2) x.1) cs).toList=aQ8 (aFp v) off cs.toList:=by
     rw [← Array.foldl_toList,Array.toList_zipIdx,aNh,aI0]; rfl
    have ih:=aK7 pl rest (v.cells.zipIdx.foldl (λ(cs:Array Value) (x:Value × Nat)=>cs.setIfInBounds (off + x.2) x.1) cs) out (by rw [hk]; exact h)
    simp only [hs]
    rw [if_neg (by simp; omega)]
    exact ih
theorem aQf {P:Program} {t:TypeId} {z:List Value} {pl:List (Nat × Nat)} {vs:List (Nat × Value)} {out:List Value} (h:iR P t=some (z,pl)) (h2:aIu pl z vs=some out):P.built t vs=some out.toArray:=by
 unfold iR at h
 unfold Program.built
 cases hi:P.info? t with
 | none=>simp [hi] at h
 | some it=>
  cases hu:P.underlying t with
  | none=>simp [hi,hu] at h
  | some d=>
   cases d <;> simp only [hi,hu] at h <;> try (cases h; done)
   rename_i fields
   cases hz:it.zero with
   | none=>simp [hz] at h
   | some zv=>
    cases hp:fields.toList.mapM (λf=>(P.info? f.type).map λi=>(f.offset,i.size)) with
    | none=>simp [hz,hp] at h
    | some places=>
     simp only [hz,hp,Option.some.injEq,Prod.mk.injEq] at h
     obtain ⟨rfl,rfl⟩:=h
     simpa [hz,hp] using aK7 _ vs zv.cells out h2
section
variable {P:Program} {N:Fm} {F:List (Nat × Value)} {G:cJ} {L:List Ent} {ty:TypeId} {pos:String} {aft:Array Edge} {gd:Option (Nat × Bool)} {d:Option Tmp} {v:Value} {x y c:Operand} {T:TypeId}
theorem bS {parts:Array (Nat × Operand)} {vs:List (Nat × Value)} {z:List Value} {pl:List (Nat × Nat)} {cells:List Value} (hT:iR P T=some (z,pl)) (h1:parts.toList.mapM (λq=>(ev F q.2).map λv=>(q.1,v))=some vs) (h:aIu pl z vs=some cells) :
  Pu P ⟨d,.build T parts,ty,pos,aft,gd⟩ F (.agg cells.toArray):=aTq h1 (aQf hT h)
end
def gE (t:Bool) (e:Ent):Ent:=bif t then e else .row none 0 [] 0 0
theorem aOn {t:Bool} {e:Ent} (h:t=true):gE t e=e:=by rw [h]; rfl
theorem aN6 {t:Bool} {e:Ent} (h:t=false):gE t e=.row none 0 [] 0 0:=by rw [h]; rfl
theorem cH (t:Bool):t=true ∨ t=false:=by cases t <;> simp
theorem aHt {t:Bool} (h:t=false):(!t)=true:=by rw [h]; rfl
theorem notF {t:Bool} (h:t=true):(!t)=false:=by rw [h]; rfl
theorem aHp {t b:Bool} (h:t=true):b=(t && b):=by rw [h]; rfl
theorem aHw {t b:Bool} (h:t=false):false=(t && b):=by rw [h]; rfl
theorem orT {t b:Bool} (h:t=true):true=(t || b):=by rw [h]; rfl
theorem orF {t b:Bool} (h:t=false):b=(t || b):=by rw [h]; rfl
section
variable {N:Fm} {a:Act} {F:List (Nat × Value)} {d:Nat} {v v' x y u:Value} {t b:Bool}
theorem mQ (h:v=v') (hf:Has N a ((d,v)::F)):Has N a ((d,v')::F):=h ▸ hf
theorem bH (h:t=b) (hf:Has N a ((d,.bool t)::F)):Has N a ((d,.bool b)::F):=h ▸ hf
theorem dD (h:t=true) (hf:Has N a ((d,bif t then x else y)::F)):Has N a ((d,x)::F):=by rw [h] at hf; exact hf
theorem dB (h:t=false) (hf:Has N a ((d,bif t then x else y)::F)):Has N a ((d,y)::F):=by rw [h] at hf; exact hf
theorem eP (h:t=true) (hf:Has N a ((d,x)::F)):Has N a ((d,bif t then x else u)::F):=by rw [h]; exact hf
theorem eQ (h:t=false) (hf:Has N a ((d,x)::F)):Has N a ((d,bif t then u else x)::F):=by rw [h]; exact hf
end
end Go.Nilo
