/-
  Steps whose side conditions are read off the code. Conditions: what each theorem names.
-/
import Derived.Test.YtcefmiiipbjngaaGreatNl28
import Derived.Shelf.Slices.Delete
import Derived.Shelf.Slices.Empties
set_option linter.unusedSimpArgs false
set_option linter.unusedVariables false
namespace Go.Nilo

def aSm:IntKind→IntKind→Bool
 | .i8,.i8=>true
 | .i16,.i16=>true
 | .i32,.i32=>true
 | .i64,.i64=>true
 | .u8,.u8=>true
 | .u16,.u16=>true
 | .u32,.u32=>true
 | .u64,.u64=>true
 | _,_=>false
theorem aQp {k k':IntKind} (h:aSm k k'=true):k=k':=by
 cases k <;> cases k' <;> first | rfl | exact nomatch h
def iBin (k:IntKind) (m n:Int):BinOp→Option Value
 | .add=>some (.int k (k.wrap (m + n)))
 | .sub=>some (.int k (k.wrap (m - n)))
 | .mul=>some (.int k (k.wrap (m * n)))
 | .lss=>some (.bool (decide (m < n)))
 | .leq=>some (.bool (decide (m≤n)))
 | .gtr=>some (.bool (decide (n < m)))
 | .geq=>some (.bool (decide (n≤m)))
 | .eql=>some (.bool (m == n))
 | .neq=>some (.bool (m != n))
 | _=>none
def aQn:List Value→Nat→Option Value
 | [],_=>none
 | v::_,0=>some v
 | _::l,i + 1=>aQn l i
theorem aG9:∀ {l:List Value} {i:Nat} {v:Value},aQn l i=some v→l[i]?=some v
 | [],_,_,h=>nomatch h
 | _::_,0,_,h=>by simpa [aQn] using h
 | _::l,i + 1,v,h=>by simpa using aG9 (l:=l) (i:=i) h
def puV (F:List (Nat × Value)):Op→Option Value
 | .move x=>ev F x
 | .assign x=>ev F x
 | .pick c x y=>match ev F c with
  | some (.bool true)=>ev F x
  | some (.bool false)=>ev F y
  | _=>none
 | .binOp b _ x y _=>match ev F x with
  | some (.int k m)=>match ev F y with
   | some (.int k' n)=>match aSm k k' with
    | true=>iBin k m n b
    | false=>none
   | _=>none
  | _=>none
 | .unOp .not _ x=>match ev F x with
  | some (.bool p)=>some (.bool (!p))
  | _=>none
 | .unOp .neg _ x=>match ev F x with
  | some (.int k m)=>some (.int k (k.wrap (0 - m)))
  | _=>none
 | .nilCheck x=>match ev F x with
  | some (.pointer (some q))=>some (.pointer (some q))
  | _=>none
 | .extract x i=>match ev F x with
  | some (.tuple vs)=>aQn vs.toList i
  | _=>none
 | _=>none
theorem aPw {P:Program} {F:List (Nat × Value)} {v:Value}:∀ {o:Oper},puV F o.op=some v→Pu P o F v:=by
 rintro ⟨d,op,ty,pos,aft,gd⟩ h
 cases op with
 | move x=>exact pM h
 | assign x=>exact pA h
 | pick c x y=>
  simp only [puV] at h
  split at h
  ·rename_i hc; exact pPt hc h
  ·rename_i hc; exact pPf hc h
  ·cases h
 | binOp b T x y T'=>
  simp only [puV] at h
  split at h
  ·rename_i k m hx
   split at h
   ·rename_i k' n hy
    split at h
    ·rename_i hk
     obtain rfl:=aQp hk
     cases b <;> simp only [iBin,Option.some.injEq,reduceCtorEq] at h <;> subst h
     ·exact pAdd hx hy
     ·exact pSub hx hy
     ·exact pMul hx hy
     ·exact pEq hx hy
     ·exact pNe hx hy
     ·exact pLt hx hy
     ·exact pLe hx hy
     ·exact pGt hx hy
     ·exact pGe hx hy
    ·cases h
   ·cases h
  ·cases h
 | unOp u T x=>
  cases u <;> simp only [puV] at h <;> try (cases h; done)
  ·split at h
   ·rename_i hx
    obtain rfl:=Option.some.inj h
    exact pNeg hx
   ·cases h
  ·split at h
   ·rename_i hx
    obtain rfl:=Option.some.inj h
    exact pNot hx
   ·cases h
 | nilCheck x=>
  simp only [puV] at h
  split at h
  ·rename_i hx
   obtain rfl:=Option.some.inj h
   exact pNC hx
  ·cases h
 | extract x i=>
  simp only [puV] at h
  split at h
  ·rename_i hx
   exact pX hx (by have:=aG9 h; simpa using this)
  ·cases h
 | _=>simp [puV] at h
def exs (ops:Array Oper) (m:Nat):Nat→List (Nat × Value)→List Oper→Option (List (Nat × Value) × List Oper)
 | 0,F,l=>some (F,l)
 | _ + 1,_,[]=>none
 | n + 1,F,o::l=>match vJ ops F o with
  | some true=>match o.dst with
   | some d=>match Nat.blt d m with
    | true=>match puV F o.op with
     | some v=>exs ops m n ((d,v)::F) l
     | none=>none
    | false=>none
   | none=>none
  | some false=>match o.dst with
   | some d=>match Nat.blt d m with
    | true=>exs ops m n ((d,undef)::F) l
    | false=>none
   | none=>none
  | none=>none
section sp
variable {P:Program} {ops:Array Oper} {Q:Exit→Act→World→Prop} {N:Fm} {F':List (Nat × Value)} {l':List Oper}
theorem sp:∀ (n:Nat) {F:List (Nat × Value)} {l:List Oper} {a:Act} {w:World},Has N a F→exs ops N.n n F l=some (F',l')→(∀ a,Has N a F'→wpList P ops Q l' a w)→wpList P ops Q l a w
 | 0,F,l,a,w,hf,h,k=>by
  simp only [exs,Option.some.injEq,Prod.mk.injEq] at h
  obtain ⟨rfl,rfl⟩:=h
  exact k a hf
 | n + 1,F,[],a,w,hf,h,k=>nomatch h
 | n + 1,F,o::l,a,w,hf,h,k=>by
  unfold exs at h
  split at h
  ·rename_i hg
   split at h
   ·rename_i d hd
    split at h
    ·rename_i hN
     split at h
     ·rename_i v hv
      exact stP hf hg hd hN (aPw hv) λa hf=>sp n hf h k
     ·cases h
    ·cases h
   ·cases h
  ·rename_i hg
   split at h
   ·rename_i d hd
    split at h
    ·rename_i hN
     exact stS hf hg hd hN λa hf=>sp n hf h k
    ·cases h
   ·cases h
  ·cases h
end sp

section z
variable {P:Program} {ops:Array Oper} {Q:Exit→Act→World→Prop} {rest:List Oper} {o:Oper} {a:Act} {w:World} {N:Fm} {d:Nat} {F:List (Nat × Value)} {G:cJ} {L L':List Ent} {v:Value} {T T' b n:Nat} {cs vs:List Value}

def pre (ops:Array Oper) (m:Nat) (F:List (Nat × Value)) (o:Oper):Option Nat:=match vJ ops F o with
 | some true=>match o.dst with
  | some d=>match Nat.blt d m with
   | true=>some d
   | false=>none
  | none=>none
 | _=>none
theorem aFf {m:Nat} (h:pre ops m F o=some d):vJ ops F o=some true∧o.dst=some d∧Nat.blt d m=true:=by
 unfold pre at h
 split at h
 ·rename_i hg
  split at h
  ·rename_i d' hd
   split at h
   ·rename_i hN
    obtain rfl:=Option.some.inj h
    exact ⟨hg,hd,hN⟩
   ·cases h
  ·cases h
 ·cases h
theorem zP (hf:Has N a F) (h:pre ops N.n F o=some d) (e:Pu P o F v) (k:∀ a,Has N a ((d,v)::F)→wpList P ops Q rest a w):wpList P ops Q (o::rest) a w :=
 let ⟨h1,h2,h3⟩:=aFf h
 stP hf h1 h2 h3 e k
theorem zE (hf:Has N a F) (hc:Ctx G L w) (h:pre ops N.n F o=some d) (e:Ev P o N F G L v) (k:∀ a w,Has N a ((d,v)::F)→Ctx G L w→wpList P ops Q rest a w):wpList P ops Q (o::rest) a w :=
 let ⟨h1,h2,h3⟩:=aFf h
 stE hf hc h1 h2 h3 e k
def aM6:Nat→List Value→Option (List Value)
 | 0,_=>some []
 | _ + 1,[]=>none
 | n + 1,c::l=>match aM6 n l with
  | some r=>some (c::r)
  | none=>none
def aLh:Nat→List Value→List Value
 | 0,l=>l
 | _ + 1,[]=>[]
 | n + 1,_::l=>aLh n l
theorem aKp:∀ {n:Nat} {l r:List Value},aM6 n l=some r→l.take n=r∧r.length=n
 | 0,l,r,h=>by
  obtain rfl:=Option.some.inj h
  exact ⟨by simp,rfl⟩
 | n + 1,[],r,h=>nomatch h
 | n + 1,c::l,r,h=>by
  unfold aM6 at h
  split at h
  ·rename_i q hq
   obtain rfl:=Option.some.inj h
   obtain ⟨h1,h2⟩:=aKp hq
   exact ⟨by simp [h1],by simp [h2]⟩
  ·cases h
theorem aKj:∀ (n:Nat) (l:List Value),aLh n l=l.drop n
 | 0,l=>rfl
 | n + 1,[]=>by simp [aLh]
 | n + 1,_::l=>by simpa [aLh] using aKj n l
def aJb:List Value→Option (List Value)
 | []=>some []
 | c::l=>match aJb l with
  | some r=>some (c::r)
  | none=>none
theorem aEo:∀ {l r:List Value},aJb l=some r→l=r
 | [],r,h=>Option.some.inj h
 | c::l,r,h=>by
  unfold aJb at h
  split at h
  ·rename_i q hq
   obtain rfl:=Option.some.inj h
   rw [aEo hq]
  ·cases h
def aPk:List Value→List Value→Option (List Value)
 | [],m=>aJb m
 | c::l,m=>match aPk l m with
  | some r=>some (c::r)
  | none=>none
theorem aJ3:∀ {l m r:List Value},aPk l m=some r→l++m=r
 | [],m,r,h=>aEo h
 | c::l,m,r,h=>by
  unfold aPk at h
  split at h
  ·rename_i q hq
   obtain rfl:=Option.some.inj h
   rw [List.cons_append,aJ3 hq]
  ·cases h
def aH7:Value→List Value
 | .agg cs=>cs.toList
 | v=>[v]
theorem aG2 (u:Value):u.cells=(aH7 u).toArray:=by cases u <;> simp [Value.cells,aH7]
def aOt:List Value→Nat→List Value→Option (List Value)
 | cs,0,[]=>some cs
 | [],0,_::_=>none
 | _::cs,0,v::vs=>match aOt cs 0 vs with
  | some r=>some (v::r)
  | none=>none
 | [],_ + 1,_=>none
 | c::cs,o + 1,vs=>match aOt cs o vs with
  | some r=>some (c::r)
  | none=>none
theorem aJ1:∀ {cs:List Value} {o:Nat} {vs r:List Value},aOt cs o vs=some r→spl cs o vs=r∧o + vs.length≤cs.length
 | cs,0,[],r,h=>by
  cases cs <;> (obtain rfl:=Option.some.inj h; exact ⟨rfl,by simp⟩)
 | [],0,_::_,r,h=>nomatch h
 | _::cs,0,v::vs,r,h=>by
  unfold aOt at h
  split at h
  ·rename_i q hq
   obtain rfl:=Option.some.inj h
   obtain ⟨h1,h2⟩:=aJ1 hq
   exact ⟨by rw [spl,h1],by simp only [List.length_cons]; omega⟩
  ·cases h
 | [],_ + 1,_,r,h=>nomatch h
 | c::cs,o + 1,vs,r,h=>by
  unfold aOt at h
  split at h
  ·rename_i q hq
   obtain rfl:=Option.some.inj h
   obtain ⟨h1,h2⟩:=aJ1 hq
   exact ⟨by rw [spl,h1],by simp only [List.length_cons]; omega⟩
  ·cases h
def ldp (ops:Array Oper) (m:Nat) (F:List (Nat × Value)) (o:Oper) (cs:List Value):Option (Nat × Nat × Nat × Value):=match pre ops m F o with
 | some d=>match o.op with
  | .load T x=>match ev F x with
   | some (.pointer (some ⟨b,q,none⟩))=>match aQn cs q with
    | some v=>some (d,T,b,v)
    | none=>none
   | _=>none
  | _=>none
 | none=>none
theorem zL (hf:Has N a F) (hc:Ctx G L w) (hT:ScT P T) (he:pD L (.box b cs T')) (h:ldp ops N.n F o cs=some (d,T,b,v)) (k:∀ a w,Has N a ((d,v)::F)→Ctx G L w→wpList P ops Q rest a w):wpList P ops Q (o::rest) a w:=by
 obtain ⟨dst,op,ty,pos,aft,gd⟩:=o
 unfold ldp at h
 split at h
 ·rename_i d' hp
  split at h
  ·rename_i T0 x ho
   obtain rfl:op=.load T0 x:=ho
   split at h
   ·rename_i b0 q hx
    split at h
    ·rename_i v0 hv
     simp only [Option.some.injEq,Prod.mk.injEq] at h
     obtain ⟨rfl,rfl,rfl,rfl⟩:=h
     exact zE hf hc hp (bB hT hx (bN he (aG9 hv))) k
    ·cases h
   ·cases h
  ·cases h
 ·cases h
def ldn (ops:Array Oper) (m:Nat) (F:List (Nat × Value)) (o:Oper) (cs:List Value) (n:Nat):Option (Nat × Nat × Nat × List Value):=match pre ops m F o with
 | some d=>match o.op with
  | .load T x=>match ev F x with
   | some (.pointer (some ⟨b,q,none⟩))=>match aM6 n (aLh q cs) with
    | some vs=>some (d,T,b,vs)
    | none=>none
   | _=>none
  | _=>none
 | none=>none
theorem zN (hf:Has N a F) (hc:Ctx G L w) (hT:aAt P T n) (he:pD L (.box b cs T')) (h:ldn ops N.n F o cs n=some (d,T,b,vs)) (k:∀ a w,Has N a ((d,.agg vs.toArray)::F)→Ctx G L w→wpList P ops Q rest a w):wpList P ops Q (o::rest) a w:=by
 obtain ⟨dst,op,ty,pos,aft,gd⟩:=o
 unfold ldn at h
 split at h
 ·rename_i d' hp
  split at h
  ·rename_i T0 x ho
   obtain rfl:op=.load T0 x:=ho
   split at h
   ·rename_i b0 q hx
    split at h
    ·rename_i v0 hv
     simp only [Option.some.injEq,Prod.mk.injEq] at h
     obtain ⟨rfl,rfl,rfl,rfl⟩:=h
     obtain ⟨h1,h2⟩:=aKp hv
     rw [aKj] at h1
     exact zE hf hc hp (iY hT hx h2 (bT he h1)) k
    ·cases h
   ·cases h
  ·cases h
 ·cases h
def sto (ops:Array Oper) (F:List (Nat × Value)) (o:Oper) (cs:List Value):Option (Nat × Nat × Nat × List Value):=match vJ ops F o with
 | some true=>match o.dst with
  | none=>match o.op with
   | .store T x y=>match ev F x with
    | some (.pointer (some ⟨b,q,none⟩))=>match ev F y with
     | some u=>match sG (aH7 u) with
      | true=>match aOt cs q (aH7 u) with
       | some r=>some (T,b,(aH7 u).length,r)
       | none=>none
      | false=>none
     | none=>none
    | _=>none
   | _=>none
  | some _=>none
 | _=>none
theorem zW {r:List Value} {T0:Nat} (hf:Has N a F) (hc:Ctx G L w) (hs:(P.info? T).map (·.size)=some n) (hu:Upd L (.box b cs T0) (.box b r T0) L') (h:sto ops F o cs=some (T,b,n,r)) (k:∀ w,Ctx G L' w→wpList P ops Q rest a w):wpList P ops Q (o::rest) a w:=by
 obtain ⟨dst,op,ty,pos,aft,gd⟩:=o
 unfold sto at h
 split at h
 ·rename_i hg
  split at h
  ·rename_i hd
   obtain rfl:dst=none:=hd
   split at h
   ·rename_i T0 x y ho
    obtain rfl:op=.store T0 x y:=ho
    split at h
    ·rename_i b0 q hx
     split at h
     ·rename_i u hy
      split at h
      ·rename_i h1
       split at h
       ·rename_i r0 hr
        simp only [Option.some.injEq,Prod.mk.injEq] at h
        obtain ⟨rfl,rfl,rfl,rfl⟩:=h
        obtain ⟨k1,k2⟩:=aJ1 hr
        subst k1
        exact stSt hf hc hg hx hy (aG2 u) hs h1 (by simpa using k2) hu k
       ·cases h
      ·cases h
     ·cases h
    ·cases h
   ·cases h
  ·cases h
 ·cases h
def bxp (ops:Array Oper) (m:Nat) (F:List (Nat × Value)) (o:Oper):Option (Nat × Nat × List Value):=match pre ops m F o with
 | some d=>match o.op with
  | .box T x=>match ev F x with
   | some u=>match aJb (aH7 u) with
    | some cs=>some (d,T,cs)
    | none=>none
   | none=>none
  | _=>none
 | none=>none
theorem zB (hf:Has N a F) (hc:Ctx G L w) (h:bxp ops N.n F o=some (d,T,cs)) (k:∀ b a w,Has N a ((d,.pointer (some ⟨b,0,none⟩))::F)→Ctx G (.box b cs T::L) w→wpList P ops Q rest a w):wpList P ops Q (o::rest) a w:=by
 obtain ⟨dst,op,ty,pos,aft,gd⟩:=o
 unfold bxp at h
 split at h
 ·rename_i d' hp
  split at h
  ·rename_i T0 x ho
   obtain rfl:op=.box T0 x:=ho
   split at h
   ·rename_i u hx
    split at h
    ·rename_i c0 hv
     simp only [Option.some.injEq,Prod.mk.injEq] at h
     obtain ⟨rfl,rfl,rfl⟩:=h
     obtain ⟨h1,h2,h3⟩:=aFf hp
     obtain rfl:dst=some d':=h2
     exact stBx hf hc h1 h3 hx (by rw [aG2,aEo hv]) k
    ·cases h
   ·cases h
  ·cases h
 ·cases h
def alp (ops:Array Oper) (m:Nat) (F:List (Nat × Value)) (o:Oper) (z:Value):Option (Nat × Nat × List Value):=match pre ops m F o with
 | some d=>match o.op with
  | .alloc T=>match aJb (aH7 z) with
   | some cs=>some (d,T,cs)
   | none=>none
  | _=>none
 | none=>none
theorem zA {z:Value} (hf:Has N a F) (hc:Ctx G L w) (hz:(P.info? T).map (·.zero)=some (some z)) (h:alp ops N.n F o z=some (d,T,cs)) (k:∀ b a w,Has N a ((d,.pointer (some ⟨b,0,none⟩))::F)→Ctx G (.box b cs T::L) w→wpList P ops Q rest a w):wpList P ops Q (o::rest) a w:=by
 obtain ⟨dst,op,ty,pos,aft,gd⟩:=o
 unfold alp at h
 split at h
 ·rename_i d' hp
  split at h
  ·rename_i T0 ho
   obtain rfl:op=.alloc T0:=ho
   split at h
   ·rename_i c0 hv
    simp only [Option.some.injEq,Prod.mk.injEq] at h
    obtain ⟨rfl,rfl,rfl⟩:=h
    obtain ⟨h1,h2,h3⟩:=aFf hp
    obtain rfl:dst=some d':=h2
    exact stAl hf hc h1 h3 hz (by rw [aG2,aEo hv]) k
   ·cases h
  ·cases h
 ·cases h
def evL (F:List (Nat × Value)):List Operand→Option (List Value)
 | []=>some []
 | x::l=>match ev F x with
  | some v=>match evL F l with
   | some r=>some (v::r)
   | none=>none
  | none=>none
theorem aO4:∀ {l:List Operand} {r:List Value},evL F l=some r→l.mapM (ev F)=some r
 | [],r,h=>by
  obtain rfl:=Option.some.inj h
  rfl
 | x::l,r,h=>by
  unfold evL at h
  split at h
  ·rename_i v hv
   split at h
   ·rename_i q hq
    obtain rfl:=Option.some.inj h
    simp [List.mapM_cons,hv,aO4 hq]
   ·cases h
  ·cases h
def clp (ops:Array Oper) (m:Nat) (F:List (Nat × Value)) (o:Oper):Option (Nat × Nat × List Value):=match pre ops m F o with
 | some d=>match o.op with
  | .call c=>match c.callee with
   | .value x=>match ev F x with
    | some (.func (.func f) bs caps)=>match evL F c.args.toList with
     | some vs=>match aPk vs caps.toList with
      | some us=>match aPk bs.toList us with
       | some args=>some (d,f,args)
       | none=>none
      | none=>none
     | none=>none
    | _=>none
   | _=>none
  | _=>none
 | none=>none
theorem aPi {m f:Nat} {args:List Value} (h:clp ops m F o=some (d,f,args)):∃ (c:Call) (x:Operand) (bs caps:Array Value) (vs:List Value),vJ ops F o=some true∧o=⟨some d,.call c,o.type,o.pos,o.after,o.guard⟩∧Nat.blt d m=true∧c.callee=.value x∧ev F x=some (.func (.func f) bs.toList.toArray caps.toList.toArray)∧c.args.toList.mapM (ev F)=some vs∧args=bs.toList++(vs++caps.toList):=by
 obtain ⟨dst,op,ty,pos,aft,gd⟩:=o
 unfold clp at h
 split at h
 ·rename_i d' hp
  split at h
  ·rename_i c ho
   obtain rfl:op=.call c:=ho
   split at h
   ·rename_i x hx
    split at h
    ·rename_i f' bs caps hfx
     split at h
     ·rename_i vs hvs
      split at h
      ·rename_i us hus
       split at h
       ·rename_i ar har
        simp only [Option.some.injEq,Prod.mk.injEq] at h
        obtain ⟨rfl,rfl,rfl⟩:=h
        obtain ⟨h1,h2,h3⟩:=aFf hp
        obtain rfl:dst=some d':=h2
        exact ⟨c,x,bs,caps,vs,h1,rfl,h3,hx,by simpa using hfx,aO4 hvs,by rw [← aJ3 har,← aJ3 hus]⟩
       ·cases h
      ·cases h
     ·cases h
    ·cases h
   ·cases h
  ·cases h
 ·cases h
theorem zC {f:Nat} {args:List Value} {R:Ending→World→Prop} (hf:Has N a F) (hen:En P f) (h:clp ops N.n F o=some (d,f,args)) (hcall:Calls P f args.toArray w R) (k:∀ e w,R e w→∃ v,e=.returned v∧∀ a,Has N a ((d,v)::F)→wpList P ops Q rest a w):wpList P ops Q (o::rest) a w:=by
 obtain ⟨c,x,bs,caps,vs,h1,ho,h3,hc,hx,hvs,rfl⟩:=aPi h
 rw [ho] at h1 ⊢
 exact stCB hf h1 h3 hc hen hx (by simp) hvs rfl hcall k
theorem zQ {f:Nat} {args:List Value} (hf:Has N a F) (hc:Ctx G L w) (hen:En P f) (h:clp ops N.n F o=some (d,f,args)) (hcall:∀ w,Ctx G L w→Calls P f args.toArray w λe w'=>e=.returned v∧Ctx G L w') (k:∀ a w,Has N a ((d,v)::F)→Ctx G L w→wpList P ops Q rest a w):wpList P ops Q (o::rest) a w:=by
 obtain ⟨c,x,bs,caps,vs,h1,ho,h3,hcc,hx,hvs,rfl⟩:=aPi h
 rw [ho] at h1 ⊢
 exact stE hf hc h1 rfl h3 (eCB hen hcc hx (by simp) hvs hcall) k
end z

section zc
variable {P:Program} {Q:Exit→Act→World→Prop} {a:Act} {w:World} {N:Fm} {F:List (Nat × Value)} {G:cJ} {L:List Ent}
theorem zS {id:Nat} {l:List Oper} {y:Code} (h:∀ K:Act→World→Prop,(∀ a w,y.wp P Q a w→K a w)→wpList P l.toArray (Exit.then K Q) l a w):(Code.seq (.region id l.toArray false) y).wp P Q a w :=
 wp_seq_k λK h'=>bK (h K h')
theorem zT {ops:Array Oper} {K Y:Act→World→Prop} (h:∀ a w,Y a w→K a w) (h':Y a w):wpList P ops (Exit.then K Q) [] a w:=h _ _ h'
theorem zI {α:Type} {c:Operand} {x y:Code} {b:Bool} {A B r:α} (hf:Has N a F) (hc:ev F c=some (.bool b)) (hF:cond b A B=r) (h1:A=r→x.wp P Q a w) (h2:B=r→y.wp P Q a w):(Code.cond c x y).wp P Q a w :=
 cCond hf hc (λhb=>h1 (cO hb hF)) (λhb=>h2 (eG hb hF))
theorem cV {ops:Array Oper} {l:List Oper} (n:Nat) (H:Act→Prop) (_hc:Ctx G L w) (h1:wpList P ops (Exit.then (λa w=>H a∧Ctx G L w) Q) (l.take n) a w) (h2:∀ a w,H a∧Ctx G L w→wpList P ops Q (l.drop n) a w):wpList P ops Q l a w :=
 stCut n _ h1 h2
theorem zO1 {fn:Func} {R:Ending→World→Prop} {n t:Nat} {v:Value} (hres:fn.results=#[.tmp t]) (hf:Has ⟨n,[]⟩ a F) (h1:kH F t=some v) (hR:R (.returned v) w):bodyPost P fn R .ret a w:=by
 refine aC7 (.inl rfl) rfl hf ?_ hR
 rw [uM,hres]
 simp [rdR,hf.get _ _ h1]
theorem zO2 {fn:Func} {R:Ending→World→Prop} {n t t':Nat} {v v':Value} (hres:fn.results=#[.tmp t,.tmp t']) (hf:Has ⟨n,[]⟩ a F) (h1:kH F t=some v) (h2:kH F t'=some v') (hR:R (.returned (.tuple #[v,v'])) w):bodyPost P fn R .ret a w:=by
 refine aC7 (.inl rfl) rfl hf ?_ hR
 rw [uM,hres]
 simp [rdR,hf.get _ _ h1,hf.get _ _ h2]
theorem zO3 {fn:Func} {R:Ending→World→Prop} {n t t' t'':Nat} {v v' v'':Value} (hres:fn.results=#[.tmp t,.tmp t',.tmp t'']) (hf:Has ⟨n,[]⟩ a F) (h1:kH F t=some v) (h2:kH F t'=some v') (h3:kH F t''=some v'') (hR:R (.returned (.tuple #[v,v',v''])) w):bodyPost P fn R .ret a w:=by
 refine aC7 (.inl rfl) rfl hf ?_ hR
 rw [uM,hres]
 simp [rdR,hf.get _ _ h1,hf.get _ _ h2,hf.get _ _ h3]
end zc

section zd
variable {P:Program} {ops:Array Oper} {Q:Exit→Act→World→Prop} {N:Fm} {G:cJ} {a a':Act} {w:World} {E:Nat→Bool} {i d:Nat} {v:Value} {Lk:List (Nat × Value)}
theorem zD {F:(Nat→Th)→List Fa} {M:(Nat→Th)→List Ent} (θ:Nat→Th) (he:iW N a E (F θ)) (hi:E i=false) (hf:Has N a' Lk) (q:Nat) (hl:kH Lk d=some v) (hq:((F θ)[q]?).map (·.v)=some v) (ok:okB i d q 0 (F θ)=true) (hc:Ctx G (M θ) w) :
  wpList P ops (Exit.then (λa₁ w'=>∀ ds u,a₁={ a with defers:=ds }.put (some d) u→∃ θ',iW N a₁ (yA E i) (F θ')∧Ctx G (M θ') w') Q) [] a' w:=by
 refine aN (eS ?_)
 intro ds u hau
 exact ⟨θ,he.put0 hi hau hf hl q hq ok,hc⟩
theorem zG {F:(Nat→Th)→List Fa} {M:(Nat→Th)→List Ent} (θ:Nat→Th) (he:iW N a E (F θ)) (hi:E i=false) (hf:Has N a' Lk) (ok:okC i (F θ)=true) (hc:Ctx G (M θ) w) :
  wpList P ops (Exit.then (λa₁ w'=>∀ ds u,a₁={ a with defers:=ds }.put none u→∃ θ',iW N a₁ (yA E i) (F θ')∧Ctx G (M θ') w') Q) [] a' w:=by
 refine aN (eS ?_)
 intro ds u hau
 exact ⟨θ,he.stay0 hi hau hf ok,hc⟩
end zd
theorem Has.mT {N:Fm} {a:Act} {E:Nat→Bool} {F:List Fa} {L:List (Nat × Value)} (h:Has N a L) (he:iW N a E F) (q:Nat) {d:Nat} {v:Value} (hq:F[q]?=some ⟨none,none,d,v⟩):Has N a ((d,v)::L):=h.more he q hq onT
theorem Has.mP {N:Fm} {a:Act} {E:Nat→Bool} {F:List Fa} {L:List (Nat × Value)} (h:Has N a L) (he:iW N a E F) (q:Nat) {k d:Nat} {v:Value} (hq:F[q]?=some ⟨some k,none,d,v⟩) (hk:E k=true):Has N a ((d,v)::L):=h.more he q hq (onP hk)
theorem Has.mN {N:Fm} {a:Act} {E:Nat→Bool} {F:List Fa} {L:List (Nat × Value)} (h:Has N a L) (he:iW N a E F) (q:Nat) {k d:Nat} {v:Value} (hq:F[q]?=some ⟨none,some k,d,v⟩) (hk:E k=false):Has N a ((d,v)::L):=h.more he q hq (onN hk)
theorem aBg.o {o:Oper} {E:Nat→Bool} (h:aBg o E) (k:Nat) (hk:aM3 o k=true):E k=true:=h.of hk
theorem aM7 {F:List (Nat × Value)}:∀ {F':List (Nat × Value)},(F'.map λp=>kH F p.1)=(F'.map λp=>some p.2)→F'.foldr (λp q=>kH F p.1=some p.2∧q) True
 | [],_=>trivial
 | p::F',h=>by
  simp only [List.map_cons,List.cons.injEq] at h
  exact ⟨h.1,aM7 h.2⟩
theorem Has.kp {N:Fm} {a:Act} {F F':List (Nat × Value)} (h:Has N a F) (hs:(F'.map λp=>kH F p.1)=(F'.map λp=>some p.2)):Has N a F':=h.keep (aM7 hs)
section
open Go.Sort
end
@[reducible] def aBr (v:Value):List Value:=[v]
def stI {α:Type} (b:Bool) (l:List α) (i:Nat) (z:α):List α:=cond b (l.set i z) l
theorem aMt {α:Type} {b:Bool} {l:List α} {i:Nat} {z:α}:(stI b l i z).length=l.length:=by
 unfold stI
 cases b
 ·rfl
 ·exact List.length_set
end Go.Nilo
