/-
  Steps whose side conditions are read off the code. Conditions: what each theorem names.
-/
import Derived.Test.YtbkcdekgmilmcaaGreatNl28
import Derived.Shelf.Slices.Delete
import Derived.Shelf.Slices.Empties
set_option linter.unusedSimpArgs false
set_option linter.unusedVariables false
namespace Go.Nilo

def aPw:IntKind→IntKind→Bool
 | .i8,.i8=>true
 | .i16,.i16=>true
 | .i32,.i32=>true
 | .i64,.i64=>true
 | .u8,.u8=>true
 | .u16,.u16=>true
 | .u32,.u32=>true
 | .u64,.u64=>true
 | _,_=>false
theorem aMk {k k':IntKind} (h:aPw k k'=true):k=k':=by
 cases k <;> cases k' <;> first | rfl | exact nomatch h
def iBin (k:IntKind) (m n:Int):BinOp→Option Value
 | .add=>some (.int k (k.wrap (m + n)))
 | .sub=>some (.int k (k.wrap (m - n)))
 | .mul=>some (.int k (k.wrap (m * n)))
 | .lss=>some (.bool (decide (m < n)))
 | .leq=>some (.bool (decide (m≤n)))
 | .gtr=>some (.bool (decide (n < m)))
 | .geq=>some (.bool (decide (n≤m)))
 | .eql=>some (.bool (m == n))
 | .neq=>some (.bool (m != n))
 | _=>none
def aL9:List Value→Nat→Option Value
 | [],_=>none
 | v::_,0=>some v
 | _::l,i + 1=>aL9 l i
theorem aEs:∀ {l:List Value} {i:Nat} {v:Value},aL9 l i=some v→l[i]?=some v
 | [],_,_,h=>nomatch h
 | _::_,0,_,h=>by simpa [aL9] using h
 | _::l,i + 1,v,h=>by simpa using aEs (l:=l) (i:=i) h
def puV (F:List (Nat × Value)):Op→Option Value
 | .move x=>ev F x
 | .assign x=>ev F x
 | .pick c x y=>match ev F c with
  | some (.bool true)=>ev F x
  | some (.bool false)=>ev F y
  | _=>none
 | .binOp b _ x y _=>match ev F x with
  | some (.int k m)=>match ev F y with
   | some (.int k' n)=>match aPw k k' with
    | true=>iBin k m n b
    | false=>none
   | _=>none
  | _=>none
 | .unOp .not _ x=>match ev F x with
  | some (.bool p)=>some (.bool (!p))
  | _=>none
 | .unOp .neg _ x=>match ev F x with
  | some (.int k m)=>some (.int k (k.wrap (0 - m)))
  | _=>none
 | .nilCheck x=>match ev F x with
  | some (.pointer (some q))=>some (.pointer (some q))
  | _=>none
 | .extract x i=>match ev F x with
  | some (.tuple vs)=>aL9 vs.toList i
  | _=>none
 | _=>none
theorem aQ6 {P:Program} {F:List (Nat × Value)} {v:Value}:∀ {o:Oper},puV F o.op=some v→Pu P o F v:=by
 rintro ⟨d,op,ty,pos,aft,gd⟩ h
 cases op with
 | move x=>exact pM h
 | assign x=>exact pA h
 | pick c x y=>
  simp only [puV] at h
  split at h
  ·rename_i hc; exact pPt hc h
  ·rename_i hc; exact pPf hc h
  ·cases h
 | binOp b T x y T'=>
  simp only [puV] at h
  split at h
  ·rename_i k m hx
   split at h
   ·rename_i k' n hy
    split at h
    ·rename_i hk
     obtain rfl:=aMk hk
     cases b <;> simp only [iBin,Option.some.injEq,reduceCtorEq] at h <;> subst h
     ·exact pAdd hx hy
     ·exact pSub hx hy
     ·exact pMul hx hy
     ·exact pEq hx hy
     ·exact pNe hx hy
     ·exact pLt hx hy
     ·exact pLe hx hy
     ·exact pGt hx hy
     ·exact pGe hx hy
    ·cases h
   ·cases h
  ·cases h
 | unOp u T x=>
  cases u <;> simp only [puV] at h <;> try (cases h; done)
  ·split at h
   ·rename_i hx
    obtain rfl:=Option.some.inj h
    exact pNeg hx
   ·cases h
  ·split at h
   ·rename_i hx
    obtain rfl:=Option.some.inj h
    exact pNot hx
   ·cases h
 | nilCheck x=>
  simp only [puV] at h
  split at h
  ·rename_i hx
   obtain rfl:=Option.some.inj h
   exact pNC hx
  ·cases h
 | extract x i=>
  simp only [puV] at h
  split at h
  ·rename_i hx
   exact pX hx (by have:=aEs h; simpa using this)
  ·cases h
 | _=>simp [puV] at h
def exs (ops:Array Oper) (m:Nat):Nat→List (Nat × Value)→List Oper→Option (List (Nat × Value) × List Oper)
 | 0,F,l=>some (F,l)
 | _ + 1,_,[]=>none
 | n + 1,F,o::l=>match pT ops F o with
  | some true=>match o.dst with
   | some d=>match Nat.blt d m with
    | true=>match puV F o.op with
     | some v=>exs ops m n ((d,v)::F) l
     | none=>none
    | false=>none
   | none=>none
  | _=>none
section sp
variable {P:Program} {ops:Array Oper} {Q:Exit→Act→World→Prop} {N:Fm} {F':List (Nat × Value)} {l':List Oper}
theorem sp:∀ (n:Nat) {F:List (Nat × Value)} {l:List Oper} {a:Act} {w:World},Has N a F→exs ops N.n n F l=some (F',l')→(∀ a,Has N a F'→wpList P ops Q l' a w)→wpList P ops Q l a w
 | 0,F,l,a,w,hf,h,k=>by
  simp only [exs,Option.some.injEq,Prod.mk.injEq] at h
  obtain ⟨rfl,rfl⟩:=h
  exact k a hf
 | n + 1,F,[],a,w,hf,h,k=>nomatch h
 | n + 1,F,o::l,a,w,hf,h,k=>by
  unfold exs at h
  split at h
  ·rename_i hg
   split at h
   ·rename_i d hd
    split at h
    ·rename_i hN
     split at h
     ·rename_i v hv
      exact stP hf hg hd hN (aQ6 hv) fun a hf=>sp n hf h k
     ·cases h
    ·cases h
   ·cases h
  ·cases h
end sp

section z
variable {P:Program} {ops:Array Oper} {Q:Exit→Act→World→Prop} {rest:List Oper} {o:Oper} {a:Act} {w:World} {N:Fm} {d:Nat} {F:List (Nat × Value)} {G:aT} {L L':List Ent} {v:Value} {T T' b n:Nat} {cs vs:List Value}

def pre (ops:Array Oper) (m:Nat) (F:List (Nat × Value)) (o:Oper):Option Nat:=match pT ops F o with
 | some true=>match o.dst with
  | some d=>match Nat.blt d m with
   | true=>some d
   | false=>none
  | none=>none
 | _=>none
theorem aEb {m:Nat} (h:pre ops m F o=some d):pT ops F o=some true∧o.dst=some d∧Nat.blt d m=true:=by
 unfold pre at h
 split at h
 ·rename_i hg
  split at h
  ·rename_i d' hd
   split at h
   ·rename_i hN
    obtain rfl:=Option.some.inj h
    exact ⟨hg,hd,hN⟩
   ·cases h
  ·cases h
 ·cases h
theorem zP (hf:Has N a F) (h:pre ops N.n F o=some d) (e:Pu P o F v) (k:∀ a,Has N a ((d,v)::F)→wpList P ops Q rest a w):wpList P ops Q (o::rest) a w :=
 let ⟨h1,h2,h3⟩:=aEb h
 stP hf h1 h2 h3 e k
theorem zE (hf:Has N a F) (hc:Ctx G L w) (h:pre ops N.n F o=some d) (e:Ev P o N F G L v) (k:∀ a w,Has N a ((d,v)::F)→Ctx G L w→wpList P ops Q rest a w):wpList P ops Q (o::rest) a w :=
 let ⟨h1,h2,h3⟩:=aEb h
 stE hf hc h1 h2 h3 e k
def aKf:Nat→List Value→Option (List Value)
 | 0,_=>some []
 | _ + 1,[]=>none
 | n + 1,c::l=>match aKf n l with
  | some r=>some (c::r)
  | none=>none
def aH9:Nat→List Value→List Value
 | 0,l=>l
 | _ + 1,[]=>[]
 | n + 1,_::l=>aH9 n l
theorem aH1:∀ {n:Nat} {l r:List Value},aKf n l=some r→l.take n=r∧r.length=n
 | 0,l,r,h=>by
  obtain rfl:=Option.some.inj h
  exact ⟨by simp,rfl⟩
 | n + 1,[],r,h=>nomatch h
 | n + 1,c::l,r,h=>by
  unfold aKf at h
  split at h
  ·rename_i q hq
   obtain rfl:=Option.some.inj h
   obtain ⟨h1,h2⟩:=aH1 hq
   exact ⟨by simp [h1],by simp [h2]⟩
  ·cases h
theorem aIq:∀ (n:Nat) (l:List Value),aH9 n l=l.drop n
 | 0,l=>rfl
 | n + 1,[]=>by simp [aH9]
 | n + 1,_::l=>by simpa [aH9] using aIq n l
def aGc:List Value→Option (List Value)
 | []=>some []
 | c::l=>match aGc l with
  | some r=>some (c::r)
  | none=>none
theorem aBw:∀ {l r:List Value},aGc l=some r→l=r
 | [],r,h=>Option.some.inj h
 | c::l,r,h=>by
  unfold aGc at h
  split at h
  ·rename_i q hq
   obtain rfl:=Option.some.inj h
   rw [aBw hq]
  ·cases h
def aN0:List Value→List Value→Option (List Value)
 | [],m=>aGc m
 | c::l,m=>match aN0 l m with
  | some r=>some (c::r)
  | none=>none
theorem aGh:∀ {l m r:List Value},aN0 l m=some r→l++m=r
 | [],m,r,h=>aBw h
 | c::l,m,r,h=>by
  unfold aN0 at h
  split at h
  ·rename_i q hq
   obtain rfl:=Option.some.inj h
   rw [List.cons_append,aGh hq]
  ·cases h
def aE6:Value→List Value
 | .agg cs=>cs.toList
 | v=>[v]
theorem aE2 (u:Value):u.cells=(aE6 u).toArray:=by cases u <;> simp [Value.cells,aE6]
def aLd:List Value→Nat→List Value→Option (List Value)
 | cs,0,[]=>some cs
 | [],0,_::_=>none
 | _::cs,0,v::vs=>match aLd cs 0 vs with
  | some r=>some (v::r)
  | none=>none
 | [],_ + 1,_=>none
 | c::cs,o + 1,vs=>match aLd cs o vs with
  | some r=>some (c::r)
  | none=>none
theorem aGr:∀ {cs:List Value} {o:Nat} {vs r:List Value},aLd cs o vs=some r→spl cs o vs=r∧o + vs.length≤cs.length
 | cs,0,[],r,h=>by
  cases cs <;> (obtain rfl:=Option.some.inj h; exact ⟨rfl,by simp⟩)
 | [],0,_::_,r,h=>nomatch h
 | _::cs,0,v::vs,r,h=>by
  unfold aLd at h
  split at h
  ·rename_i q hq
   obtain rfl:=Option.some.inj h
   obtain ⟨h1,h2⟩:=aGr hq
   exact ⟨by rw [spl,h1],by simp only [List.length_cons]; omega⟩
  ·cases h
 | [],_ + 1,_,r,h=>nomatch h
 | c::cs,o + 1,vs,r,h=>by
  unfold aLd at h
  split at h
  ·rename_i q hq
   obtain rfl:=Option.some.inj h
   obtain ⟨h1,h2⟩:=aGr hq
   exact ⟨by rw [spl,h1],by simp only [List.length_cons]; omega⟩
  ·cases h
def ldp (ops:Array Oper) (m:Nat) (F:List (Nat × Value)) (o:Oper) (cs:List Value):Option (Nat × Nat × Nat × Value):=match pre ops m F o with
 | some d=>match o.op with
  | .load T x=>match ev F x with
   | some (.pointer (some ⟨b,q,none⟩))=>match aL9 cs q with
    | some v=>some (d,T,b,v)
    | none=>none
   | _=>none
  | _=>none
 | none=>none
theorem zL (hf:Has N a F) (hc:Ctx G L w) (hT:ScT P T) (he:lW L (.box b cs T')) (h:ldp ops N.n F o cs=some (d,T,b,v)) (k:∀ a w,Has N a ((d,v)::F)→Ctx G L w→wpList P ops Q rest a w):wpList P ops Q (o::rest) a w:=by
 obtain ⟨dst,op,ty,pos,aft,gd⟩:=o
 unfold ldp at h
 split at h
 ·rename_i d' hp
  split at h
  ·rename_i T0 x ho
   obtain rfl:op=.load T0 x:=ho
   split at h
   ·rename_i b0 q hx
    split at h
    ·rename_i v0 hv
     simp only [Option.some.injEq,Prod.mk.injEq] at h
     obtain ⟨rfl,rfl,rfl,rfl⟩:=h
     exact zE hf hc hp (eP hT hx (iA he (aEs hv))) k
    ·cases h
   ·cases h
  ·cases h
 ·cases h
def ldn (ops:Array Oper) (m:Nat) (F:List (Nat × Value)) (o:Oper) (cs:List Value) (n:Nat):Option (Nat × Nat × Nat × List Value):=match pre ops m F o with
 | some d=>match o.op with
  | .load T x=>match ev F x with
   | some (.pointer (some ⟨b,q,none⟩))=>match aKf n (aH9 q cs) with
    | some vs=>some (d,T,b,vs)
    | none=>none
   | _=>none
  | _=>none
 | none=>none
theorem zN (hf:Has N a F) (hc:Ctx G L w) (hT:yL P T n) (he:lW L (.box b cs T')) (h:ldn ops N.n F o cs n=some (d,T,b,vs)) (k:∀ a w,Has N a ((d,.agg vs.toArray)::F)→Ctx G L w→wpList P ops Q rest a w):wpList P ops Q (o::rest) a w:=by
 obtain ⟨dst,op,ty,pos,aft,gd⟩:=o
 unfold ldn at h
 split at h
 ·rename_i d' hp
  split at h
  ·rename_i T0 x ho
   obtain rfl:op=.load T0 x:=ho
   split at h
   ·rename_i b0 q hx
    split at h
    ·rename_i v0 hv
     simp only [Option.some.injEq,Prod.mk.injEq] at h
     obtain ⟨rfl,rfl,rfl,rfl⟩:=h
     obtain ⟨h1,h2⟩:=aH1 hv
     rw [aIq] at h1
     exact zE hf hc hp (lK hT hx h2 (dN he h1)) k
    ·cases h
   ·cases h
  ·cases h
 ·cases h
def sto (ops:Array Oper) (F:List (Nat × Value)) (o:Oper) (cs:List Value):Option (Nat × Nat × Nat × List Value):=match pT ops F o with
 | some true=>match o.dst with
  | none=>match o.op with
   | .store T x y=>match ev F x with
    | some (.pointer (some ⟨b,q,none⟩))=>match ev F y with
     | some u=>match oQ (aE6 u) with
      | true=>match aLd cs q (aE6 u) with
       | some r=>some (T,b,(aE6 u).length,r)
       | none=>none
      | false=>none
     | none=>none
    | _=>none
   | _=>none
  | some _=>none
 | _=>none
theorem zW {r:List Value} {T0:Nat} (hf:Has N a F) (hc:Ctx G L w) (hs:(P.info? T).map (·.size)=some n) (hu:Upd L (.box b cs T0) (.box b r T0) L') (h:sto ops F o cs=some (T,b,n,r)) (k:∀ w,Ctx G L' w→wpList P ops Q rest a w):wpList P ops Q (o::rest) a w:=by
 obtain ⟨dst,op,ty,pos,aft,gd⟩:=o
 unfold sto at h
 split at h
 ·rename_i hg
  split at h
  ·rename_i hd
   obtain rfl:dst=none:=hd
   split at h
   ·rename_i T0 x y ho
    obtain rfl:op=.store T0 x y:=ho
    split at h
    ·rename_i b0 q hx
     split at h
     ·rename_i u hy
      split at h
      ·rename_i h1
       split at h
       ·rename_i r0 hr
        simp only [Option.some.injEq,Prod.mk.injEq] at h
        obtain ⟨rfl,rfl,rfl,rfl⟩:=h
        obtain ⟨k1,k2⟩:=aGr hr
        subst k1
        exact stSt hf hc hg hx hy (aE2 u) hs h1 (by simpa using k2) hu k
       ·cases h
      ·cases h
     ·cases h
    ·cases h
   ·cases h
  ·cases h
 ·cases h
def bxp (ops:Array Oper) (m:Nat) (F:List (Nat × Value)) (o:Oper):Option (Nat × Nat × List Value):=match pre ops m F o with
 | some d=>match o.op with
  | .box T x=>match ev F x with
   | some u=>match aGc (aE6 u) with
    | some cs=>some (d,T,cs)
    | none=>none
   | none=>none
  | _=>none
 | none=>none
theorem zB (hf:Has N a F) (hc:Ctx G L w) (h:bxp ops N.n F o=some (d,T,cs)) (k:∀ b a w,Has N a ((d,.pointer (some ⟨b,0,none⟩))::F)→Ctx G (.box b cs T::L) w→wpList P ops Q rest a w):wpList P ops Q (o::rest) a w:=by
 obtain ⟨dst,op,ty,pos,aft,gd⟩:=o
 unfold bxp at h
 split at h
 ·rename_i d' hp
  split at h
  ·rename_i T0 x ho
   obtain rfl:op=.box T0 x:=ho
   split at h
   ·rename_i u hx
    split at h
    ·rename_i c0 hv
     simp only [Option.some.injEq,Prod.mk.injEq] at h
     obtain ⟨rfl,rfl,rfl⟩:=h
     obtain ⟨h1,h2,h3⟩:=aEb hp
     obtain rfl:dst=some d':=h2
     exact stBx hf hc h1 h3 hx (by rw [aE2,aBw hv]) k
    ·cases h
   ·cases h
  ·cases h
 ·cases h
def alp (ops:Array Oper) (m:Nat) (F:List (Nat × Value)) (o:Oper) (z:Value):Option (Nat × Nat × List Value):=match pre ops m F o with
 | some d=>match o.op with
  | .alloc T=>match aGc (aE6 z) with
   | some cs=>some (d,T,cs)
   | none=>none
  | _=>none
 | none=>none
theorem zA {z:Value} (hf:Has N a F) (hc:Ctx G L w) (hz:(P.info? T).map (·.zero)=some (some z)) (h:alp ops N.n F o z=some (d,T,cs)) (k:∀ b a w,Has N a ((d,.pointer (some ⟨b,0,none⟩))::F)→Ctx G (.box b cs T::L) w→wpList P ops Q rest a w):wpList P ops Q (o::rest) a w:=by
 obtain ⟨dst,op,ty,pos,aft,gd⟩:=o
 unfold alp at h
 split at h
 ·rename_i d' hp
  split at h
  ·rename_i T0 ho
   obtain rfl:op=.alloc T0:=ho
   split at h
   ·rename_i c0 hv
    simp only [Option.some.injEq,Prod.mk.injEq] at h
    obtain ⟨rfl,rfl,rfl⟩:=h
    obtain ⟨h1,h2,h3⟩:=aEb hp
    obtain rfl:dst=some d':=h2
    exact aFg hf hc h1 h3 hz (by rw [aE2,aBw hv]) k
   ·cases h
  ·cases h
 ·cases h
def evL (F:List (Nat × Value)):List Operand→Option (List Value)
 | []=>some []
 | x::l=>match ev F x with
  | some v=>match evL F l with
   | some r=>some (v::r)
   | none=>none
  | none=>none
theorem aMm:∀ {l:List Operand} {r:List Value},evL F l=some r→l.mapM (ev F)=some r
 | [],r,h=>by
  obtain rfl:=Option.some.inj h
  rfl
 | x::l,r,h=>by
  unfold evL at h
  split at h
  ·rename_i v hv
   split at h
   ·rename_i q hq
    obtain rfl:=Option.some.inj h
    simp [List.mapM_cons,hv,aMm hq]
   ·cases h
  ·cases h
def clp (ops:Array Oper) (m:Nat) (F:List (Nat × Value)) (o:Oper):Option (Nat × Nat × List Value):=match pre ops m F o with
 | some d=>match o.op with
  | .call c=>match c.callee with
   | .value x=>match ev F x with
    | some (.func (.func f) bs caps)=>match evL F c.args.toList with
     | some vs=>match aN0 vs caps.toList with
      | some us=>match aN0 bs.toList us with
       | some args=>some (d,f,args)
       | none=>none
      | none=>none
     | none=>none
    | _=>none
   | _=>none
  | _=>none
 | none=>none
theorem aNk {m f:Nat} {args:List Value} (h:clp ops m F o=some (d,f,args)):∃ (c:Call) (x:Operand) (bs caps:Array Value) (vs:List Value),pT ops F o=some true∧o=⟨some d,.call c,o.type,o.pos,o.after,o.guard⟩∧Nat.blt d m=true∧c.callee=.value x∧ev F x=some (.func (.func f) bs.toList.toArray caps.toList.toArray)∧c.args.toList.mapM (ev F)=some vs∧args=bs.toList++(vs++caps.toList):=by
 obtain ⟨dst,op,ty,pos,aft,gd⟩:=o
 unfold clp at h
 split at h
 ·rename_i d' hp
  split at h
  ·rename_i c ho
   obtain rfl:op=.call c:=ho
   split at h
   ·rename_i x hx
    split at h
    ·rename_i f' bs caps hfx
     split at h
     ·rename_i vs hvs
      split at h
      ·rename_i us hus
       split at h
       ·rename_i ar har
        simp only [Option.some.injEq,Prod.mk.injEq] at h
        obtain ⟨rfl,rfl,rfl⟩:=h
        obtain ⟨h1,h2,h3⟩:=aEb hp
        obtain rfl:dst=some d':=h2
        exact ⟨c,x,bs,caps,vs,h1,rfl,h3,hx,by simpa using hfx,aMm hvs,by rw [← aGh har,← aGh hus]⟩
       ·cases h
      ·cases h
     ·cases h
    ·cases h
   ·cases h
  ·cases h
 ·cases h
theorem zC {f:Nat} {args:List Value} {R:Ending→World→Prop} (hf:Has N a F) (hen:En P f) (h:clp ops N.n F o=some (d,f,args)) (hcall:Calls P f args.toArray w R) (k:∀ e w,R e w→∃ v,e=.returned v∧∀ a,Has N a ((d,v)::F)→wpList P ops Q rest a w):wpList P ops Q (o::rest) a w:=by
 obtain ⟨c,x,bs,caps,vs,h1,ho,h3,hc,hx,hvs,rfl⟩:=aNk h
 rw [ho] at h1 ⊢
 exact stCB hf h1 h3 hc hen hx (by simp) hvs rfl hcall k
theorem zQ {f:Nat} {args:List Value} (hf:Has N a F) (hc:Ctx G L w) (hen:En P f) (h:clp ops N.n F o=some (d,f,args)) (hcall:∀ w,Ctx G L w→Calls P f args.toArray w fun e w'=>e=.returned v∧Ctx G L w') (k:∀ a w,Has N a ((d,v)::F)→Ctx G L w→wpList P ops Q rest a w):wpList P ops Q (o::rest) a w:=by
 obtain ⟨c,x,bs,caps,vs,h1,ho,h3,hcc,hx,hvs,rfl⟩:=aNk h
 rw [ho] at h1 ⊢
 exact stE hf hc h1 rfl h3 (eCB hen hcc hx (by simp) hvs hcall) k
end z

section zc
variable {P:Program} {Q:Exit→Act→World→Prop} {a:Act} {w:World} {N:Fm} {F:List (Nat × Value)} {G:aT} {L:List Ent}
theorem zS {id:Nat} {l:List Oper} {y:Code} (h:∀ K:Act→World→Prop,(∀ a w,y.wp P Q a w→K a w)→wpList P l.toArray (Exit.then K Q) l a w):(Code.seq (.region id l.toArray false) y).wp P Q a w :=
 wp_seq_k fun K h'=>bV (h K h')
theorem zT {ops:Array Oper} {K Y:Act→World→Prop} (h:∀ a w,Y a w→K a w) (h':Y a w):wpList P ops (Exit.then K Q) [] a w:=h _ _ h'
theorem zI {α:Type} {c:Operand} {x y:Code} {b:Bool} {A B r:α} (hf:Has N a F) (hc:ev F c=some (.bool b)) (hF:cond b A B=r) (h1:A=r→x.wp P Q a w) (h2:B=r→y.wp P Q a w):(Code.cond c x y).wp P Q a w :=
 cCond hf hc (fun hb=>h1 (fP hb hF)) (fun hb=>h2 (kI hb hF))
theorem jX {ops:Array Oper} {l:List Oper} (n:Nat) (H:Act→Prop) (_hc:Ctx G L w) (h1:wpList P ops (Exit.then (fun a w=>H a∧Ctx G L w) Q) (l.take n) a w) (h2:∀ a w,H a∧Ctx G L w→wpList P ops Q (l.drop n) a w):wpList P ops Q l a w :=
 aNw n _ h1 h2
theorem zO1 {fn:Func} {R:Ending→World→Prop} {n t:Nat} {v:Value} (hres:fn.results=#[.tmp t]) (hf:Has ⟨n,[]⟩ a F) (h1:gR F t=some v) (hR:R (.returned v) w):bodyPost P fn R .ret a w:=by
 refine vG (.inl rfl) rfl hf ?_ hR
 rw [nT,hres]
 simp [rdR,hf.get _ _ h1]
theorem zO2 {fn:Func} {R:Ending→World→Prop} {n t t':Nat} {v v':Value} (hres:fn.results=#[.tmp t,.tmp t']) (hf:Has ⟨n,[]⟩ a F) (h1:gR F t=some v) (h2:gR F t'=some v') (hR:R (.returned (.tuple #[v,v'])) w):bodyPost P fn R .ret a w:=by
 refine vG (.inl rfl) rfl hf ?_ hR
 rw [nT,hres]
 simp [rdR,hf.get _ _ h1,hf.get _ _ h2]
theorem zO3 {fn:Func} {R:Ending→World→Prop} {n t t' t'':Nat} {v v' v'':Value} (hres:fn.results=#[.tmp t,.tmp t',.tmp t'']) (hf:Has ⟨n,[]⟩ a F) (h1:gR F t=some v) (h2:gR F t'=some v') (h3:gR F t''=some v'') (hR:R (.returned (.tuple #[v,v',v''])) w):bodyPost P fn R .ret a w:=by
 refine vG (.inl rfl) rfl hf ?_ hR
 rw [nT,hres]
 simp [rdR,hf.get _ _ h1,hf.get _ _ h2,hf.get _ _ h3]
end zc

section zd
variable {P:Program} {ops:Array Oper} {Q:Exit→Act→World→Prop} {N:Fm} {G:aT} {a a':Act} {w:World} {E:Nat→Bool} {i d:Nat} {v:Value} {Lk:List (Nat × Value)}
theorem zD {F:(Nat→Th)→List Fa} {M:(Nat→Th)→List Ent} (θ:Nat→Th) (he:fN N a E (F θ)) (hi:E i=false) (hf:Has N a' Lk) (q:Nat) (hl:gR Lk d=some v) (hq:((F θ)[q]?).map (·.v)=some v) (ok:okB i d q 0 (F θ)=true) (hc:Ctx G (M θ) w) :
  wpList P ops (Exit.then (fun a₁ w'=>∀ ds u,a₁={ a with defers:=ds }.put (some d) u→∃ θ',fN N a₁ (tN E i) (F θ')∧Ctx G (M θ') w') Q) [] a' w:=by
 refine aP (eJ ?_)
 intro ds u hau
 exact ⟨θ,he.put0 hi hau hf hl q hq ok,hc⟩
theorem zG {F:(Nat→Th)→List Fa} {M:(Nat→Th)→List Ent} (θ:Nat→Th) (he:fN N a E (F θ)) (hi:E i=false) (hf:Has N a' Lk) (ok:okC i (F θ)=true) (hc:Ctx G (M θ) w) :
  wpList P ops (Exit.then (fun a₁ w'=>∀ ds u,a₁={ a with defers:=ds }.put none u→∃ θ',fN N a₁ (tN E i) (F θ')∧Ctx G (M θ') w') Q) [] a' w:=by
 refine aP (eJ ?_)
 intro ds u hau
 exact ⟨θ,he.stay0 hi hau hf ok,hc⟩
end zd
theorem Has.mT {N:Fm} {a:Act} {E:Nat→Bool} {F:List Fa} {L:List (Nat × Value)} (h:Has N a L) (he:fN N a E F) (q:Nat) {d:Nat} {v:Value} (hq:F[q]?=some ⟨none,none,d,v⟩):Has N a ((d,v)::L):=h.more he q hq onT
theorem Has.mP {N:Fm} {a:Act} {E:Nat→Bool} {F:List Fa} {L:List (Nat × Value)} (h:Has N a L) (he:fN N a E F) (q:Nat) {k d:Nat} {v:Value} (hq:F[q]?=some ⟨some k,none,d,v⟩) (hk:E k=true):Has N a ((d,v)::L):=h.more he q hq (onP hk)
theorem Has.mN {N:Fm} {a:Act} {E:Nat→Bool} {F:List Fa} {L:List (Nat × Value)} (h:Has N a L) (he:fN N a E F) (q:Nat) {k d:Nat} {v:Value} (hq:F[q]?=some ⟨none,some k,d,v⟩) (hk:E k=false):Has N a ((d,v)::L):=h.more he q hq (onN hk)
theorem wT.o {o:Oper} {E:Nat→Bool} (h:wT o E) (k:Nat) (hk:aJ1 o k=true):E k=true:=h.of hk
theorem aJy {F:List (Nat × Value)}:∀ {F':List (Nat × Value)},(F'.map fun p=>gR F p.1)=(F'.map fun p=>some p.2)→F'.foldr (fun p q=>gR F p.1=some p.2∧q) True
 | [],_=>trivial
 | p::F',h=>by
  simp only [List.map_cons,List.cons.injEq] at h
  exact ⟨h.1,aJy h.2⟩
theorem Has.kp {N:Fm} {a:Act} {F F':List (Nat × Value)} (h:Has N a F) (hs:(F'.map fun p=>gR F p.1)=(F'.map fun p=>some p.2)):Has N a F':=h.keep (aJy hs)
section
open Go.Sort
theorem aMy {P:Program} {fid:Nat} {E:TypeId}
  (h0:∀ (a:Option Addr) (c:Nat) (w:World),Calls P fid #[.slice a 0 c,.int .i64 0,.int .i64 0] w fun e w'=>e=.returned (.slice a 0 c)∧w'=w)
  (hs:∀ (blk off cap i j:Nat) (zs:List Int) (w:World),Holds (Value.int .i64) w blk off zs.toArray→zs.length≤cap→cap≤9223372036854775807→i≤j→j≤zs.length →
   Calls P fid #[.slice (some ⟨blk,off,none⟩) zs.length cap,.int .i64 i,.int .i64 j] w fun e w'=>e=.returned (.slice (some ⟨blk,off,none⟩) (zs.length - (j - i)) cap) ∧
    ∃ q,w'=putRow (Value.int .i64) (Sort.ahead w q) blk off (zs.take i++zs.drop j++List.replicate (j - i) 0).toArray)
  {G:aT} {L:List Ent} {w:World} {p:Option Addr} {c:Nat} {s res:List Int} {i j:Int} (hc:Ctx G (.row p c (s.map aB) E 1::L) w) (hF:delO s i j=some res) :
  Calls P fid #[.slice p s.length c,.int .i64 i,.int .i64 j] w (fun e w=>∃ (p':Option Addr) (c':Nat),e=.returned (.slice p' res.length c')∧Ctx G (.row p' c' (res.map aB) E 1::L) w):=by
 unfold delO at hF
 split at hF
 ·rename_i hb
  obtain ⟨b0,b1,b2⟩:=hb
  obtain rfl:=Option.some.inj hF
  obtain ⟨a,rfl⟩:∃ a:Nat,i=(a:Int):=⟨i.toNat,by omega⟩
  obtain ⟨b,rfl⟩:∃ b:Nat,j=(b:Int):=⟨j.toNat,by omega⟩
  simp only [Int.toNat_natCast]
  rcases zU hc with ⟨rfl,h,rfl⟩ | ⟨g,cur,rfl,hg,hcs,h,hm,ht⟩
  ·have:s=[]:=by simpa using h
   subst this
   have ea:a=0:=by simp at b2; omega
   have eb:b=0:=by simp at b2; omega
   subst ea eb
   refine (h0 none 0 w).mono ?_
   rintro e w' ⟨rfl,rfl⟩
   exact ⟨none,0,rfl,hc⟩
  ·rw [List.length_map] at h ht
   rw [vV,Nat.mul_one] at ht
   have hgl:g < w.heap.size:=(Array.getElem?_eq_some_iff.1 hg).1
   refine (hs g 0 c a b s w (holds_of_blockI hg ht) h (aLt hm) (by omega) (by omega)).mono ?_
   rintro e w' ⟨rfl,n,rfl⟩
   have hlen:(s.take a++s.drop b).length=s.length - (b - a):=by simp; omega
   generalize s.take a++s.drop b=ts at *
   have hus:∀ us:List Int,grow (putRow (Value.int .i64) (Sort.ahead w n) g 0 (ts++us).toArray) #[]=putRow (Value.int .i64) (Sort.ahead w n) g 0 (ts++us).toArray:=fun us=>grow_empty _
   generalize hu:List.replicate (b - a) (0:Int)=us
   have hul:(ts++us).length=s.length:=by rw [← hu]; simp; omega
   obtain ⟨g1,g2,g3,g4,g5⟩:=grownBy_sortedI (w:=w) (g:=g) (n:=n) (os:=#[]) (ts++us).toArray
   have hh:=heap_sortedI (w:=w) (n:=n) (os:=#[]) (ts++us).toArray hg
   rw [hus us] at g1 g2 g3 g4 g5 hh
   refine ⟨_,c,by rw [hlen],hc.upd g1 g2 g3 g4 (fun b hb hne=>g5 b hb (fun e=>hne e.symm)) ⟨zV ts,fU _ (zV ts),.inr ⟨g,c,_,rfl,Nat.zero_le _,hh,?_,hm,?_,?_⟩⟩ fun b hbf=>.inl hbf⟩
   ·rw [List.length_map]; omega
   ·simp [putCells,hcs]
   ·rw [List.length_map,vV,Nat.mul_one]
    exact aLo cur ts us (by rw [hcs,hul]; omega)
 ·cases hF
end
end Go.Nilo
