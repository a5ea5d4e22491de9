/-
  What the plain functions compute, in plain arithmetic, part 2. Conditions: what each theorem names.
-/
import Derived.Test.YtfgdaecfjidahaaGreatTmL1
set_option linter.unusedSimpArgs false
set_option linter.unusedVariables false
namespace Go.Nilo
def s00:aC:=⟨0,0⟩
def t00:Nat→Int:=fun _=>0
structure VL (l:List aC):Prop where
 l1:1≤l.length
 l32:l.length≤32
 ok:∀ s ∈ l,tN s
theorem VL.at_ {l:List aC} (h:VL l) {i:Nat} (hi:i < l.length):tN (l.getD i s00):=by
 rw [← eF hi]
 exact h.ok _ (List.getElem_mem _)
theorem VL.rev {l:List aC} (h:VL l):VL l.reverse:=⟨by rw [List.length_reverse]; exact h.l1,by rw [List.length_reverse]; exact h.l32,fun s hs=>h.ok s (List.mem_reverse.1 hs)⟩
theorem xT {l:List aC} {i:Nat} (h:i < l.length):(l.take (i + 1)).reverse=l.getD i s00::(l.take i).reverse:=by
 rw [List.take_succ_eq_append_getElem h,List.reverse_append,eF (d:=s00) h]
 rfl
def mL (l:List aC) (i:Nat):Int→Int:=fI ((l.take (i + 1)).reverse)
def lR (l:List aC) (i:Nat):Int→Int:=fI (l.drop i)
def aBl (l:List aC):List (Nat→Int):=(List.range l.length).map fun i=>cG (l.getD i s00) (mL l i)
def uT (l:List aC):List (Nat→Int):=(List.range l.length).map fun i=>cG (l.getD i s00) (lR l i)
theorem aJh {l:List aC} (h:VL l) {i:Nat} (hi:i < l.length) {y:Int} (h1:(l.getD i s00).Lo≤y) (h2:y≤(l.getD i s00).Hi):0≤mL l i y∧mL l i y≤20000:=by
 have hs:=h.at_ hi
 have h32:=h.l32
 unfold mL
 rcases aA9 ((l.take (i + 1)).reverse) y (fun s hs=>h.ok s (List.mem_of_mem_take (List.mem_reverse.1 hs))) (by unfold tN at hs; omega) with ⟨k1,k2⟩ | k
 ·rw [List.length_reverse,List.length_take] at k2
  omega
 ·rw [xT hi] at k
  cases k
theorem aE2 {l:List aC} (h:VL l) {i:Nat} (hi:i < l.length) {y:Int} (h1:(l.getD i s00).Lo≤y) (h2:y≤(l.getD i s00).Hi):0≤lR l i y∧lR l i y≤20000:=by
 have hs:=h.at_ hi
 have h32:=h.l32
 unfold lR
 rcases aA9 (l.drop i) y (fun s hs=>h.ok s (List.mem_of_mem_drop hs)) (by unfold tN at hs; omega) with ⟨k1,k2⟩ | k
 ·rw [List.length_drop] at k2
  omega
 ·have:=congrArg List.length k
  rw [List.length_drop] at this
  simp at this
  omega
theorem aBo {α:Type} (f:Nat→α) (n:Nat):(List.range (n + 1)).map f=(List.range n).map f++[f n]:=by rw [List.range_succ,List.map_append]; rfl
theorem aCw {N:Nat} (hN:700≤N) {l:List aC} (h:VL l):lX N l=some (aBl l):=by
 have h1:=h.l1
 have h32:=h.l32
 unfold lX
 rw [show (0:Int)=((0:Nat):Int) from rfl,getI_d s00 (by omega),Option.bind_some,aGn hN,Option.bind_some]
 have hsub:rO l 1 ((l.length:Nat):Int)=some ((l.drop 1).take (l.length - 1)):=by
  unfold rO
  rw [if_pos (by omega)]
  congr 1
 rw [hsub,Option.bind_some]
 have hlen:((l.drop 1).take (l.length - 1)).length=l.length - 1:=by simp
 have hget:∀ i,i < l.length - 1→bQ ((l.drop 1).take (l.length - 1)) (i:Int)=some (l.getD (i + 1) s00):=fun i hi=>by
  rw [tI (by rw [hlen]; exact hi),List.getElem_take,List.getElem_drop,eF (d:=s00),Nat.add_comm 1 i]
 have h0:cG (l.getD 0 s00) (fun _=>0)=cG (l.getD 0 s00) (mL l 0):=by
  congr 1
  funext x
  unfold mL
  rw [xT (by omega)]
  rfl
 rw [h0]
 have:=aEb (ρ:=List (Nat→Int)) (fun i:Nat=>(((List.range (i + 1)).map fun i=>cG (l.getD i s00) (mL l i),(i:Int),cG (l.getD i s00) (mL l i)):List (Nat→Int) × Int × (Nat→Int))) (l.length - 1) (fun s6=>gI N ((l.drop 1).take (l.length - 1)) s6.1 s6.2.1 s6.2.2) (fun i hi=>by
  show gI N ((l.drop 1).take (l.length - 1)) _ (i:Int) (cG (l.getD i s00) (mL l i))=_
  unfold gI
  rw [hlen,sO hi,cond_true,hget i hi,Option.bind_some,aLu hN (h.at_ (by omega)) (fun y h1 h2=>aJh h (by omega) h1 h2),Option.bind_some,mX (by simp; omega),Option.bind_some,dQ (by omega)]
  have e:(fun x=>qK (fun y=>ap x y + mL l i y) (l.getD i s00).Lo ((l.getD i s00).Hi - (l.getD i s00).Lo).toNat)=mL l (i + 1):=by
   funext x
   unfold mL
   rw [xT (show i + 1 < l.length by omega),xT (show i < l.length by omega)]
   rfl
  rw [e,aBo _ (i + 1)]) (by
  show gI N ((l.drop 1).take (l.length - 1)) _ ((l.length - 1:Nat):Int) _=_
  unfold gI
  rw [hlen,pZ,cond_false]) (N:=N) (by omega)
 have e0:([cG (l.getD 0 s00) (mL l 0)]:List (Nat→Int))=(List.range (0 + 1)).map fun i=>cG (l.getD i s00) (mL l i):=rfl
 rw [e0,this,Option.bind_some]
 show some _=some _
 unfold aBl
 rw [Nat.sub_add_cancel h1]
theorem rev_s {N:Nat} {xs:List aC} (hl:xs.length≤600) (hN:700≤N):cV N xs=some xs.reverse:=by
 unfold cV
 obtain ⟨i,j,h⟩:=aF9 (ρ:=List aC) s00 (fun s3=>fC N s3.1 s3.2.1 s3.2.2) (fun s i j=>rfl) (N:=N) (xs:=xs) (by omega) (by omega)
 rw [h,Option.bind_some]
 simp only [exK]
 unfold xQ
 rw [if_pos (by simp),Option.bind_some]
theorem rev_t {N:Nat} {xs:List (Nat→Int)} (hl:xs.length≤600) (hN:700≤N):cE N xs=some xs.reverse:=by
 unfold cE
 obtain ⟨i,j,h⟩:=aF9 (ρ:=List (Nat→Int)) t00 (fun s3=>dX N s3.1 s3.2.1 s3.2.2) (fun s i j=>rfl) (N:=N) (xs:=xs) (by omega) (by omega)
 rw [h,Option.bind_some]
 simp only [exK]
 unfold xQ
 rw [if_pos (by simp),Option.bind_some]
theorem aF2 {N:Nat} (hN:700≤N) {l:List aC} (h:VL l):mE N l=some (uT l):=by
 have h1:=h.l1
 have h32:=h.l32
 unfold mE
 have hc:dH N l=some l:=by
  unfold dH
  rw [mX (by omega)]
  rfl
 rw [hc,Option.bind_some,rev_s (by omega) hN,Option.bind_some,aCw hN h.rev,Option.bind_some,rev_t (by simp [aBl]; omega) hN,Option.bind_some]
 congr 1
 refine List.ext_getElem (by simp [aBl,uT]) fun i a b=>?_
 have hi:i < l.length:=by simpa [uT] using b
 rw [List.getElem_reverse]
 simp only [aBl,uT,List.length_map,List.length_range,List.length_reverse,List.getElem_map,List.getElem_range]
 have e1:l.reverse.getD (l.length - 1 - i) s00=l.getD i s00:=by
  rw [← eF (by rw [List.length_reverse]; omega),List.getElem_reverse,eF (d:=s00)]
  congr 1
  omega
 have e2:mL l.reverse (l.length - 1 - i)=lR l i:=by
  unfold mL lR
  rw [List.take_reverse,List.reverse_reverse]
  congr 2
  omega
 rw [e1,e2]
theorem aFb {l:List aC} {G:List aC→Nat→Int→Int} {i:Nat} (hi:i < l.length):bQ ((List.range l.length).map fun i=>cG (l.getD i s00) (G l i)) (i:Int)=some (cG (l.getD i s00) (G l i)):=by
 rw [tI (by simpa using hi)]
 simp
end Go.Nilo
namespace Go.Nilo
def move:List Int→Int
 | x::y::l=>ap x y + move (y::l)
 | [_]=>0
 | []=>0
def Crs:List aC→List Int→Prop
 | s::l,x::c=>s.Lo≤x∧x≤s.Hi∧Crs l c
 | [],[]=>True
 | _,_=>False
theorem yY (x y:Int):0≤ap x y:=by unfold ap; omega
theorem aAx (x y:Int):ap x y=ap y x:=by unfold ap; omega
theorem aN9 (x y z:Int):ap x z≤ap x y + ap y z:=by unfold ap; omega
theorem pL:∀ c,0≤move c
 | []=>Int.le_refl _
 | [_]=>Int.le_refl _
 | x::y::l=>by
  have:=pL (y::l)
  have:=yY x y
  unfold move
  omega
theorem aFo (x:Int) (b:List Int):∀ a,move (a++x::b)=move (a++[x]) + move (x::b)
 | []=>by
  show move (x::b)=move [x] + move (x::b)
  simp [move]
 | [y]=>by
  show move (y::x::b)=move (y::x::[]) + move (x::b)
  simp [move]
 | y::z::a=>by
  have:=aFo x b (z::a)
  show move (y::z::(a++x::b))=move (y::z::(a++[x])) + move (x::b)
  rw [move,move]
  have e1:z::a++x::b=z::(a++x::b):=rfl
  have e2:z::a++[x]=z::(a++[x]):=rfl
  rw [e1,e2] at this
  omega
theorem Crs.len:∀ {l c},Crs l c→c.length=l.length
 | [],[],_=>rfl
 | s::l,x::c,h=>by simp [Crs.len h.2.2]
 | [],_::_,h=>h.elim
 | _::_,[],h=>h.elim
theorem Crs.app:∀ {l c l' c'},Crs l c→Crs l' c'→Crs (l++l') (c++c')
 | [],[],_,_,_,h=>h
 | s::l,x::c,_,_,h,h'=>⟨h.1,h.2.1,Crs.app h.2.2 h'⟩
 | [],_::_,_,_,h,_=>h.elim
 | _::_,[],_,_,h,_=>h.elim
theorem Crs.rev:∀ {l c},Crs l c→Crs l.reverse c.reverse
 | [],[],_=>trivial
 | s::l,x::c,h=>by
  rw [List.reverse_cons,List.reverse_cons]
  exact Crs.app (Crs.rev h.2.2) ⟨h.1,h.2.1,trivial⟩
 | [],_::_,h=>h.elim
 | _::_,[],h=>h.elim
theorem Crs.take:∀ {l c},Crs l c→∀ i,Crs (l.take i) (c.take i)
 | [],[],_,_=>by simp [Crs]
 | s::l,x::c,h,0=>by simp [Crs]
 | s::l,x::c,h,i + 1=>⟨h.1,h.2.1,Crs.take h.2.2 i⟩
 | [],_::_,h,_=>h.elim
 | _::_,[],h,_=>h.elim
theorem Crs.drop:∀ {l c},Crs l c→∀ i,Crs (l.drop i) (c.drop i)
 | [],[],_,_=>by simp [Crs]
 | s::l,x::c,h,0=>h
 | s::l,x::c,h,i + 1=>Crs.drop h.2.2 i
 | [],_::_,h,_=>h.elim
 | _::_,[],h,_=>h.elim
theorem Crs.at_:∀ {l c},Crs l c→∀ i,i < l.length→(l.getD i s00).Lo≤c.getD i 0∧c.getD i 0≤(l.getD i s00).Hi
 | s::l,x::c,h,0,_=>⟨h.1,h.2.1⟩
 | s::l,x::c,h,i + 1,hi=>by
  have:=Crs.at_ h.2.2 i (by simpa using hi)
  simpa using this
 | [],[],_,_,hi=>by simp at hi
 | [],_::_,h,_,_=>h.elim
 | _::_,[],h,_,_=>h.elim
theorem Crs.of:∀ {l:List aC} {c:List Int},c.length=l.length→(∀ i,i < l.length→(l.getD i s00).Lo≤c.getD i 0∧c.getD i 0≤(l.getD i s00).Hi)→Crs l c
 | [],[],_,_=>trivial
 | s::l,x::c,h,hh=>by
  have h0:=hh 0 (by simp)
  refine ⟨by simpa using h0.1,by simpa using h0.2,Crs.of (by simpa using h) fun i hi=>?_⟩
  have:=hh (i + 1) (by simpa using hi)
  simpa using this
 | [],_::_,h,_=>by simp at h
 | _::_,[],h,_=>by simp at h
theorem aEz:∀ (l:List aC) (s:aC) (x:Int) (c:List Int),Crs (s::l) (x::c)→fI (s::l) x≤move (x::c)
 | [],s,x,[],h=>Int.le_refl _
 | t::l,s,x,y::c,h=>by
  have ih:=aEz l t y c h.2.2
  have ht:=h.2.2
  unfold fI move
  have:=vZ (fun y=>ap x y + fI (t::l) y) t.Lo (t.Hi - t.Lo).toNat y ht.1 (by have:=ht.2.1; have:=ht.1; omega)
  omega
 | [],s,x,_::_,h=>h.2.2.elim
 | _::_,s,x,[],h=>h.2.2.elim
theorem sZ {l:List aC} {i:Nat} (h:i < l.length):l.drop i=l.getD i s00::l.drop (i + 1):=by rw [List.drop_eq_getElem_cons h,eF (d:=s00) h]
end Go.Nilo
namespace Go.Nilo
theorem aIr {α:Type} {xs:List α} {n:Nat} (h:xs.length=n):rO xs ((0:Nat):Int) ((n:Nat):Int)=some xs:=by
 subst h
 unfold rO
 rw [if_pos ⟨by omega,by omega,by omega⟩]
 congr 1
 simp
def nF (l:List aC):Int:=qK (fI l) (l.getD 0 s00).Lo ((l.getD 0 s00).Hi - (l.getD 0 s00).Lo).toNat
def aA2 (p:Option Int) (x:Int):Int:=(p.map (ap x)).getD 0
def pB (l:List aC) (left:Int) (p:Option Int) (x:Int):Bool:=decide ((l.getD 0 s00).Lo≤x∧x≤(l.getD 0 s00).Hi) && decide (aA2 p x + fI l x=left)
theorem tF {l:List aC} {left:Int} {p:Option Int} {x:Int}:pB l left p x=true ↔ ((l.getD 0 s00).Lo≤x∧x≤(l.getD 0 s00).Hi)∧aA2 p x + fI l x=left:=by
 unfold pB
 rw [Bool.and_eq_true,decide_eq_true_eq,decide_eq_true_eq]
def aGk (P:Int→Bool) (n:Nat):Nat:=(List.range n).findIdx fun k:Nat=>P ((k:Int) - 300)
def uM (P:Int→Bool):Nat:=aGk P 601
def gre:List aC→Int→Option Int→List Int
 | [],_,_=>[]
 | s::l,left,p=>((uM (pB (s::l) left p):Int) - 300)::gre l (fI (s::l) ((uM (pB (s::l) left p):Int) - 300)) (some ((uM (pB (s::l) left p):Int) - 300))
theorem aI9 {P:Int→Bool} {x:Int} {n:Nat} (h1 : -300≤x) (h2:x < (n:Int) - 300) (h:P x=true):aGk P n < n∧P ((aGk P n:Int) - 300)=true∧∀ j:Nat,j < aGk P n→P ((j:Int) - 300)=false:=by
 have hlt:aGk P n < (List.range n).length:=by
  refine List.findIdx_lt_length.2 ⟨(x + 300).toNat,List.mem_range.2 (by omega),?_⟩
  rw [show (((x + 300).toNat:Nat):Int) - 300=x by omega]
  exact h
 have h601:aGk P n < n:=by rwa [List.length_range] at hlt
 refine ⟨h601,?_,fun j hj=>?_⟩
 ·have:P ((((List.range n)[aGk P n]'hlt:Nat):Int) - 300)=true:=List.findIdx_getElem (w:=hlt)
  rwa [List.getElem_range] at this
 ·have:=List.not_of_lt_findIdx (p:=fun k:Nat=>P ((k:Int) - 300)) (xs:=List.range n) (i:=j) hj
  rw [List.getElem_range] at this
  simpa using this
theorem aDn {P:Int→Bool} {x:Int} (h1 : -300≤x) (h2:x≤300) (h:P x=true):uM P < 601∧P ((uM P:Int) - 300)=true∧∀ j:Nat,j < uM P→P ((j:Int) - 300)=false :=
 aI9 h1 (by omega) h
theorem aFg:∀ (l:List aC) (left:Int) (p:Option Int),(∀ s ∈ l,tN s)→(l ≠ []→∃ x,pB l left p x=true)→Crs l (gre l left p)∧(l ≠ []→move (p.toList++gre l left p)=left)
 | [],_,_,_,_=>⟨trivial,fun h=>absurd rfl h⟩
 | s::l,left,p,hl,hx=>by
  obtain ⟨x,hx⟩:=hx (by simp)
  have hs:=hl s (by simp)
  have hx':s.Lo≤x∧x≤s.Hi:=(tF.1 hx).1
  obtain ⟨a,b,-⟩:=aDn (P:=pB (s::l) left p) (x:=x) (by unfold tN at hs; omega) (by unfold tN at hs; omega) hx
  unfold gre
  generalize ((uM (pB (s::l) left p):Nat):Int) - 300=y at *
  have hy:(s.Lo≤y∧y≤s.Hi)∧aA2 p y + fI (s::l) y=left:=tF.1 b
  obtain ⟨ih1,ih2⟩:=aFg l (fI (s::l) y) (some y) (fun t ht=>hl t (List.mem_cons_of_mem _ ht)) (fun hne=>by
   obtain ⟨t,l',rfl⟩:=List.exists_cons_of_ne_nil hne
   obtain ⟨z,k1,k2,k3⟩:=sA (fun z=>ap y z + fI (t::l') z) t.Lo (t.Hi - t.Lo).toNat
   have ht:=hl t (by simp)
   refine ⟨z,tF.2 ⟨⟨k1,?_⟩,?_⟩⟩
   ·have:=ht.2.1
    show z≤t.Hi
    omega
   ·have e:fI (s::t::l') y=qK (fun z=>ap y z + fI (t::l') z) t.Lo (t.Hi - t.Lo).toNat:=rfl
    rw [e,k3,aAx y z]
    rfl)
  refine ⟨⟨hy.1.1,hy.1.2,ih1⟩,fun _=>?_⟩
  have hm:move (y::gre l (fI (s::l) y) (some y))=fI (s::l) y:=by
   cases l with
   | nil=>rfl
   | cons t l'=>exact ih2 (by simp)
  cases p with
  | none=>
   show move (y::gre l (fI (s::l) y) (some y))=left
   rw [hm,← hy.2]
   simp [aA2]
  | some q=>
   show move (q::y::gre l (fI (s::l) y) (some y))=left
   rw [move,hm,← hy.2,aAx]
   rfl
theorem aE9 {l:List aC} (h:VL l):∃ x,pB l (nF l) none x=true:=by
 have h1:=h.l1
 have hs:=h.at_ (i:=0) (by omega)
 obtain ⟨x,k1,k2,k3⟩:=sA (fI l) (l.getD 0 s00).Lo ((l.getD 0 s00).Hi - (l.getD 0 s00).Lo).toNat
 refine ⟨x,tF.2 ⟨⟨k1,?_⟩,?_⟩⟩
 ·have:=hs.2.1
  omega
 ·unfold nF
  rw [k3]
  simp [aA2]
def aEg (l:List aC):List Int:=gre l (nF l) none
theorem zX {l:List aC} (h:VL l):Crs l (aEg l)∧move (aEg l)=nF l:=by
 have h1:=h.l1
 obtain ⟨a,b⟩:=aFg l (nF l) none h.ok (fun _=>aE9 h)
 exact ⟨a,b (by intro e; rw [e] at h1; simp at h1)⟩
theorem aBe {l:List aC} (h:VL l) {c:List Int} (hc:Crs l c):nF l≤move c:=by
 have h1:=h.l1
 cases l with
 | nil=>simp at h1
 | cons s l=>
  cases c with
  | nil=>exact hc.elim
  | cons x c=>
   have:=aEz l s x c hc
   have:=vZ (fI (s::l)) s.Lo (s.Hi - s.Lo).toNat x hc.1 (by have:=hc.1; have:=hc.2.1; omega)
   unfold nF
   show qK (fI (s::l)) s.Lo (s.Hi - s.Lo).toNat≤_
   omega
theorem aEp {l:List aC} (h:VL l):0≤nF l:=by
 rw [← (zX h).2]
 exact pL _
theorem aCf {N:Nat} (hN:700≤N) {a b:Int} (ha : -1000000≤a∧a≤1000000) (hb : -1000000≤b∧b≤1000000):nQ N a b=some (ap a b):=by
 unfold nQ oA
 rw [W_sm (n:=a - b) (by omega) (by omega),W_sm (n:=b - a) (by omega) (by omega)]
 have:=aEb (ρ:=Int) (fun i:Nat=>((if i=0 then a - b else ap a b,(i:Int)):Int × Int)) 1 (fun s4=>nZ N [b - a] s4.1 s4.2) (fun i hi=>by
  obtain rfl:i=0:=by omega
  rfl) rfl (N:=N) (by omega)
 rw [show ((a - b,0):Int × Int)=(if (0:Nat)=0 then a - b else ap a b,((0:Nat):Int)) from rfl,this]
 rfl
theorem aKe {N:Nat} (hN:700≤N) {xs:List Int} (h1:1≤xs.length) (h2:xs.length≤650):iM N xs=some (qK (fun y=>xs.getD y.toNat 0) 0 (xs.length - 1)):=by
 unfold iM
 rw [dF (show ¬ ((xs.length:Nat):Int) < 1 by omega),cond_false,show (0:Int)=((0:Nat):Int) from rfl,getI_d 0 (by omega),Option.bind_some]
 have:=aEb (ρ:=Int) (fun i:Nat=>((qK (fun y=>xs.getD y.toNat 0) 0 i,((i + 1:Nat):Int)):Int × Int)) (xs.length - 1) (fun s7=>dU N xs s7.1 s7.2) (fun i hi=>by
  show dU N xs _ ((i + 1:Nat):Int)=_
  unfold dU
  rw [sO (by omega),cond_true,getI_d 0 (by omega),Option.bind_some,dQ (by omega)]
  show some (cP.cont (min (qK (fun y=>xs.getD y.toNat 0) 0 i) (xs.getD (i + 1) 0),_))=some (cP.cont (min (qK (fun y=>xs.getD y.toNat 0) 0 i) (xs.getD (0 + ((i + 1:Nat):Int)).toNat 0),_))
  rw [Int.zero_add,Int.toNat_natCast]) (by
  show dU N xs _ ((xs.length - 1 + 1:Nat):Int)=_
  unfold dU
  rw [Nat.sub_add_cancel h1,pZ,cond_false]) (N:=N) (by omega)
 show Option.bind (bC _ N (qK (fun y=>xs.getD y.toNat 0) 0 0,((0 + 1:Nat):Int))) _=_
 rw [this]
 rfl
theorem aLv {l:List aC} (h:VL l):qK (fun y=>((aL 601 (cG (l.getD 0 s00) (lR l 0))).getD y.toNat 0)) 0 600=nF l:=by
 have h1:=h.l1
 have hs:=h.at_ (i:=0) (by omega)
 have hget:∀ k:Nat,k < 601→(aL 601 (cG (l.getD 0 s00) (lR l 0))).getD k 0=cG (l.getD 0 s00) (lR l 0) k:=fun k hk=>by simp [aL,List.getD,hk]
 have hre:lR l 0=fI l:=by unfold lR; rw [List.drop_zero]
 have hin:∀ x,(l.getD 0 s00).Lo≤x→x≤(l.getD 0 s00).Hi→cG (l.getD 0 s00) (lR l 0) (x + 300).toNat=fI l x:=fun x a b=>by
  unfold tN at hs
  unfold cG
  rw [if_pos (by omega),show (((x + 300).toNat:Nat):Int) - 300=x by omega,if_pos ⟨a,b⟩,hre]
 obtain ⟨x,k1,k2,k3⟩:=sA (fI l) (l.getD 0 s00).Lo ((l.getD 0 s00).Hi - (l.getD 0 s00).Lo).toNat
 have hx:x≤(l.getD 0 s00).Hi:=by have:=hs.2.1; omega
 obtain ⟨y,j1,j2,j3⟩:=sA (fun y=>((aL 601 (cG (l.getD 0 s00) (lR l 0))).getD y.toNat 0)) 0 600
 refine Int.le_antisymm ?_ ?_
 ·have:=vZ (fun y=>((aL 601 (cG (l.getD 0 s00) (lR l 0))).getD y.toNat 0)) 0 600 (x + 300) (by unfold tN at hs; omega) (by unfold tN at hs; omega)
  rw [hget _ (by unfold tN at hs; omega),hin x k1 hx] at this
  unfold nF
  rw [k3]
  exact this
 ·rw [j3,hget _ (by omega)]
  unfold cG
  rw [if_pos (by omega)]
  split
  ·rename_i hc
   rw [hre]
   exact vZ (fI l) _ _ _ hc.1 (by omega)
  ·have hb:=aE2 h (i:=0) (by omega) k1 hx
   rw [hre] at hb
   unfold nF
   rw [k3]
   unfold oE
   omega
theorem aFe {N:Nat} (hN:700≤N) {l:List aC} (h:VL l) {i:Nat} (hi:i < l.length) {left:Int} {c:List Int} (hc:c.length=i) (hcb:∀ x ∈ c,-300≤x∧x≤300) {k:Nat} (hk:k < 601) :
  fL N (i:Int) (cG (l.getD i s00) (lR l i)) left c (k:Int) ((k:Int) - 300)=some (if pB (l.drop i) left c.getLast? ((k:Int) - 300)=true then Rs.brk (fI (l.drop i) ((k:Int) - 300),c++[(k:Int) - 300]) else Rs.go (left,c)):=by
 have h32:=h.l32
 have hj:∀ st,0≤st→st≤1000000→st=aA2 c.getLast? ((k:Int) - 300)→jT N (cG (l.getD i s00) (lR l i)) left c (k:Int) ((k:Int) - 300) st=some (if pB (l.drop i) left c.getLast? ((k:Int) - 300)=true then Rs.brk (fI (l.drop i) ((k:Int) - 300),c++[(k:Int) - 300]) else Rs.go (left,c)):=fun st h0 h1 he=>by
  unfold jT
  rw [inR_ok hk,Option.bind_some,Int.toNat_natCast]
  have e0:(l.drop i).getD 0 s00=l.getD i s00:=by rw [sZ hi]; rfl
  unfold cG pB
  rw [if_pos hk,e0]
  by_cases hin:(l.getD i s00).Lo≤(k:Int) - 300∧(k:Int) - 300≤(l.getD i s00).Hi
  ·have b2:=aE2 h hi hin.1 hin.2
   rw [if_pos hin,dT hin,Bool.true_and]
   have:(lR l i ((k:Int) - 300) != 1073741824)=true:=by simp; omega
   rw [this,cond_true,Option.bind_some,W_sm (by omega) (by omega)]
   unfold lR at *
   by_cases hq:st + fI (l.drop i) ((k:Int) - 300)=left
   ·rw [hq,beq_self_eq_true,cond_true,mX (by simp; omega),Option.bind_some,Option.bind_some,if_pos (by rw [decide_eq_true_eq]; rw [← he]; exact hq)]
   ·have:(st + fI (l.drop i) ((k:Int) - 300) == left)=false:=by simpa using hq
    rw [this,cond_false,if_neg (by rw [decide_eq_true_eq]; rw [← he]; exact hq)]
  ·rw [if_neg hin,dF hin,Bool.false_and]
   rfl
 unfold fL
 rcases Nat.eq_zero_or_pos i with h0 | h0
 ·subst h0
  have:c=[]:=List.eq_nil_of_length_eq_zero hc
  subst this
  rw [dF (by omega),cond_false]
  exact hj 0 (by omega) (by omega) rfl
 ·rw [dT (show (0:Int) < (i:Int) by omega),cond_true,W_sm (n:=(i:Int) - 1) (by omega) (by omega),show ((i:Nat):Int) - 1=((i - 1:Nat):Int) by omega,getI_d 0 (by omega),Option.bind_some]
  have hlast:c.getLast?=some (c.getD (i - 1) 0):=by
   rw [List.getLast?_eq_getElem?,hc,List.getElem?_eq_getElem (by omega),eF (d:=(0:Int))]
  have hb:=hcb (c.getD (i - 1) 0) (by rw [← eF (by omega)]; exact List.getElem_mem _)
  rw [aCf hN (by omega) (by omega),Option.bind_some]
  exact hj _ (yY _ _) (by unfold ap; omega) (by rw [hlast]; rfl)
theorem aGe {N:Nat} (hN:700≤N) {l:List aC} (h:VL l):∀ (m i M:Nat) (left:Int) (c:List Int),i + m=l.length→m < M→c.length=i→(∀ x ∈ c,-300≤x∧x≤300)→(i < l.length→∃ x,pB (l.drop i) left c.getLast? x=true) →
  ∃ z:Int × Int,bC (fun s16:Int × Int × List Int=>iK N (uT l) s16.1 s16.2.1 s16.2.2) M ((i:Int),left,c)=some (.go (z.1,z.2,c++gre (l.drop i) left c.getLast?)):=by
 intro m
 have h32:=h.l32
 have hrl:(uT l).length=l.length:=by simp [uT]
 induction m with
 | zero=>
  intro i M left c hi hM hc hb hx
  obtain ⟨M,rfl⟩:∃ M',M=M' + 1:=⟨M - 1,by omega⟩
  obtain rfl:i=l.length:=by omega
  refine ⟨((l.length:Int),left),?_⟩
  unfold bC
  have:iK N (uT l) (l.length:Int) left c=some (.brk ((l.length:Int),left,c)):=by
   unfold iK
   rw [hrl,pZ,cond_false]
  simp only [this]
  rw [List.drop_eq_nil_of_le (Nat.le_refl _)]
  simp [gre]
 | succ m ih=>
  intro i M left c hi hM hc hb hx
  obtain ⟨M,rfl⟩:∃ M',M=M' + 1:=⟨M - 1,by omega⟩
  have hil:i < l.length:=by omega
  obtain ⟨x,hx⟩:=hx hil
  have hs:=h.at_ hil
  have e0:(l.drop i).getD 0 s00=l.getD i s00:=by rw [sZ hil]; rfl
  have hxin:∀ y,pB (l.drop i) left c.getLast? y=true→((l.getD i s00).Lo≤y∧y≤(l.getD i s00).Hi)∧aA2 c.getLast? y + fI (l.drop i) y=left:=fun y hy=>by
   have:=tF.1 hy
   rwa [e0] at this
  have hx1:=(hxin x hx).1
  obtain ⟨f1,f2,f3⟩:=aDn (P:=pB (l.drop i) left c.getLast?) (x:=x) (by unfold tN at hs; omega) (by unfold tN at hs; omega) hx
  have hy:=hxin _ f2
  have hsh:eA N (rY (fun (zz:Int × (List Int)) (ix_:(Int × Int))=>fL N (i:Int) (cG (l.getD i s00) (lR l i)) zz.1 zz.2 ix_.1 ix_.2)) (.go (left,c))=some (.brk (fI (l.drop i) ((uM (pB (l.drop i) left c.getLast?):Int) - 300),c++[(uM (pB (l.drop i) left c.getLast?):Int) - 300])):=by
   refine aGm hN _ (fun _=>Rs.go (left,c)) _ _ f1 (fun j hj=>?_) ?_
   ·show Option.map _ (fL N (i:Int) _ left c (j:Int) ((j:Int) - 300))=_
    rw [aFe hN h hil hc hb (by omega),if_neg (by rw [f3 j hj]; simp)]
    rfl
   ·show Option.map _ (fL N (i:Int) _ left c _ _)=_
    rw [aFe hN h hil hc hb f1,if_pos f2]
    rfl
  have hstep:iK N (uT l) (i:Int) left c=some (.cont (((i + 1:Nat):Int),fI (l.drop i) ((uM (pB (l.drop i) left c.getLast?):Int) - 300),c++[(uM (pB (l.drop i) left c.getLast?):Int) - 300])):=by
   unfold iK
   rw [hrl,sO hil,cond_true]
   unfold uT
   rw [aFb hil,Option.bind_some,hsh,Option.bind_some]
   show some (cP.cont (W ((i:Int) + 1),_,_))=_
   rw [dQ (by omega)]
  unfold bC
  simp only [hstep]
  obtain ⟨z,k⟩:=ih (i + 1) M (fI (l.drop i) ((uM (pB (l.drop i) left c.getLast?):Int) - 300)) (c++[(uM (pB (l.drop i) left c.getLast?):Int) - 300]) (by omega) (by omega) (by simp [hc]) (fun y hy'=>by
   rcases List.mem_append.1 hy' with h1 | h1
   ·exact hb y h1
   ·simp only [List.mem_singleton] at h1
    rw [h1]
    have:=hy.1
    have:=hs.1
    have:=hs.2.2
    exact ⟨by omega,by omega⟩) (fun hi1=>by
   have hd:=sZ hi1
   obtain ⟨w,w1,w2,w3⟩:=sA (fun w=>ap ((uM (pB (l.drop i) left c.getLast?):Int) - 300) w + fI (l.drop (i + 1)) w) (l.getD (i + 1) s00).Lo ((l.getD (i + 1) s00).Hi - (l.getD (i + 1) s00).Lo).toNat
   have hs1:=h.at_ hi1
   have e0':(l.drop (i + 1)).getD 0 s00=l.getD (i + 1) s00:=by rw [hd]; rfl
   refine ⟨w,?_⟩
   rw [List.getLast?_concat]
   refine tF.2 ⟨by rw [e0']; exact ⟨w1,by have:=hs1.2.1; omega⟩,?_⟩
   generalize ((uM (pB (l.drop i) left c.getLast?):Nat):Int) - 300=y at *
   have e1:fI (l.drop i) y=qK (fun w=>ap y w + fI (l.drop (i + 1)) w) (l.getD (i + 1) s00).Lo ((l.getD (i + 1) s00).Hi - (l.getD (i + 1) s00).Lo).toNat:=by
    rw [sZ hil,hd]
    rfl
   rw [e1,w3,aAx]
   rfl)
  refine ⟨z,?_⟩
  rw [k,List.getLast?_concat]
  have hg:gre (l.drop i) left c.getLast?=((uM (pB (l.drop i) left c.getLast?):Int) - 300)::gre (l.drop (i + 1)) (fI (l.drop i) ((uM (pB (l.drop i) left c.getLast?):Int) - 300)) (some ((uM (pB (l.drop i) left c.getLast?):Int) - 300)):=by
   rw [sZ hil]
   rfl
  rw [hg,List.append_assoc]
  rfl
theorem sU {r:aR} (hr:wE r) (h:(passes r).all lK=true):VL (passes r):=by
 refine ⟨by simpa [passes] using hr.g1,by have:=hr.g30; simp [passes]; omega,fun s hs=>?_⟩
 have hok:=of_decide_eq_true (List.all_eq_true.1 h s hs)
 obtain ⟨g,hg,rfl⟩:=List.mem_map.1 hs
 rcases wZ (jN r.Rating g) 601 with ⟨a,b,c,d,e,f⟩ | ⟨a,b,c⟩
 ·have e':(iT (jN r.Rating g) 601).2 < 301:=e
  exact ⟨d,a,show (iT (jN r.Rating g) 601).2≤300 by omega⟩
 ·have hok':(iT (jN r.Rating g) 601).1≤(iT (jN r.Rating g) 601).2:=hok
  omega
theorem aG5 {N:Nat} (hN:700≤N) {r:aR} (hr:wE r) (h:(passes r).all lK=true):nP N r=some (aEg (passes r),nF (passes r),0):=by
 have hv:=sU hr h
 have h1:=hv.l1
 unfold nP
 rcases sR hN hr with ⟨o,-,k⟩ | ⟨k,-⟩
 ·rw [h] at k
  cases k
 rw [k,Option.bind_some]
 show Option.bind (mE N (passes r)) _=_
 have hg0:bQ (uT (passes r)) ((0:Nat):Int)=some (cG ((passes r).getD 0 s00) (lR (passes r) 0)):=aFb (G:=lR) (by omega)
 rw [aF2 hN hv,Option.bind_some,show (0:Int)=((0:Nat):Int) from rfl,hg0,Option.bind_some]
 have hsub:rO (aL 601 (cG ((passes r).getD 0 s00) (lR (passes r) 0))) ((0:Nat):Int) ((601:Nat):Int)=some (aL 601 (cG ((passes r).getD 0 s00) (lR (passes r) 0))):=by
  exact aIr vO
 rw [hsub,Option.bind_some,aKe hN (by rw [vO]; omega) (by rw [vO]; omega),Option.bind_some,vO]
 rw [show 601 - 1=600 from rfl,aLv hv]
 obtain ⟨z,k⟩:=aGe hN hv (passes r).length 0 N (nF (passes r)) [] (by omega) (by have:=hv.l32; omega) rfl (fun x hx=>by simp at hx) (fun _=>aE9 hv)
 rw [k,Option.bind_some]
 rfl
end Go.Nilo
namespace Go.Nilo
def tn0:aK:=⟨0,false⟩
def qM (S:List aC) (t:aK):Int:=bif t.Up then (S.getD t.Gauging.toNat s00).Hi else (S.getD t.Gauging.toNat s00).Lo
structure TOk (n:Nat) (l:List aK):Prop where
 len:l.length≤1000
 rg:∀ t ∈ l,0≤t.Gauging∧t.Gauging < n
 up:∀ i,i + 1 < l.length→(l.getD i tn0).Gauging < (l.getD (i + 1) tn0).Gauging∧(l.getD i tn0).Up ≠ (l.getD (i + 1) tn0).Up
theorem TOk.at_ {n:Nat} {l:List aK} (h:TOk n l) {i:Nat} (hi:i < l.length):0≤(l.getD i tn0).Gauging∧(l.getD i tn0).Gauging < n:=by
 rw [← eF hi]
 exact h.rg _ (List.getElem_mem _)
def pO (S:List aC) (l:List aK) (i:Nat):Int:=bif (l.getD i tn0).Up then qM S (l.getD (i - 1) tn0) - qM S (l.getD i tn0) else qM S (l.getD i tn0) - qM S (l.getD (i - 1) tn0)
def nG (S:List aC) (l:List aK):Nat→Int
 | 0=>0
 | i + 1=>if i=0 then 0 else nG S l i + pO S l i
theorem aEe {S:List aC} (hS:∀ s ∈ S,tN s) {l:List aK} (h:TOk S.length l):∀ i:Nat,i≤l.length→-600 * (i:Int)≤nG S l i∧nG S l i≤600 * (i:Int)
 | 0,_=>by simp [nG]
 | i + 1,hi=>by
  have ih:=aEe hS h i (by omega)
  unfold nG
  split
  ·push_cast
   omega
  ·have he:∀ j,j < l.length→-300≤qM S (l.getD j tn0)∧qM S (l.getD j tn0)≤300:=fun j hj=>by
    have hr:=h.at_ hj
    have hs:tN (S.getD (l.getD j tn0).Gauging.toNat s00):=by
     rw [← eF (by omega)]
     exact hS _ (List.getElem_mem _)
    unfold qM
    unfold tN at hs
    cases (l.getD j tn0).Up with
    | true=>rw [cond_true]; omega
    | false=>rw [cond_false]; omega
   have h1:=he i (by omega)
   have h2:=he (i - 1) (by omega)
   unfold pO
   push_cast
   cases (l.getD i tn0).Up with
   | true=>rw [cond_true]; omega
   | false=>rw [cond_false]; omega
theorem aGi {N:Nat} {l:List aK} {r:aR} (hl:l.length < N) (hl':l.length≤1000000):dY N l r=some (l.all fun t=>hO t r):=by
 unfold dY cJ cZ
 exact yV (f:=fun t=>fH t r) (ok:=fun t=>hO t r) (fun x=>rfl) hl hl' _ (fun x=>rfl)
theorem aIs {N:Nat} (hN:700≤N) {r:aR} (hr:wE r) (h:(passes r).all lK=true) {l:List aK} (hl:TOk (passes r).length l) (hlen:l.length≤100):mG N r l=some (nG (passes r) l l.length,0):=by
 have hv:=sU hr h
 have hpl:(passes r).length=r.Gaugings.length:=by simp [passes]
 have h30:=hr.g30
 have h1:=hr.g1
 unfold mG
 rcases sR hN hr with ⟨o,-,k⟩ | ⟨k,-⟩
 ·rw [h] at k
  cases k
 rw [k,Option.bind_some]
 show Option.bind (dY N l r) _=_
 rw [aGi (by omega) (by omega),Option.bind_some]
 have hall:(l.all fun t=>hO t r)=true:=by
  rw [List.all_eq_true]
  intro t ht
  have:=hl.rg t ht
  unfold hO
  rw [W_sm (by omega) (by omega),aD8]
  exact dT (by omega)
 rw [hall,Bool.not_true,cond_false]
 have:=aEb (ρ:=Int × Int) (fun i:Nat=>((nG (passes r) l i,(i:Int)):Int × Int)) l.length (fun s32=>gT N l (passes r,0) s32.1 s32.2) (fun i hi=>by
  show gT N l (passes r,0) (nG (passes r) l i) (i:Int)=_
  unfold gT
  rw [sO hi,cond_true,getI_d tn0 hi,Option.bind_some]
  unfold iU
  rw [dQ (by omega)]
  rcases Nat.eq_zero_or_pos i with h0 | h0
  ·subst h0
   rfl
  ·have e0:(((i:Nat):Int) == 0)=false:=by simp; omega
   have hu:=hl.up (i - 1) (by omega)
   rw [Nat.sub_add_cancel h0] at hu
   have r1:=hl.at_ hi
   have r2:=hl.at_ (i:=i - 1) (by omega)
   have hb:=aEe hv.ok hl (i + 1) (by omega)
   have hb0:=aEe hv.ok hl i (by omega)
   have hz:nG (passes r) l (i + 1)=nG (passes r) l i + pO (passes r) l i:=by
    show (if i=0 then _ else _)=_
    rw [if_neg (by omega)]
   have e1:(decide ((l.getD i tn0).Gauging≤(l.getD (i - 1) tn0).Gauging))=false:=dF (by omega)
   have e2:((l.getD i tn0).Up == (l.getD (i - 1) tn0).Up)=false:=by
    rw [beq_eq_false_iff_ne]
    exact fun c=>hu.2 c.symm
   have g1:bQ (passes r) (l.getD (i - 1) tn0).Gauging=some ((passes r).getD (l.getD (i - 1) tn0).Gauging.toNat s00):=by
    have:=getI_d (l:=passes r) s00 (i:=(l.getD (i - 1) tn0).Gauging.toNat) (by omega)
    rwa [show (((l.getD (i - 1) tn0).Gauging.toNat:Nat):Int)=(l.getD (i - 1) tn0).Gauging by omega] at this
   have g2:bQ (passes r) (l.getD i tn0).Gauging=some ((passes r).getD (l.getD i tn0).Gauging.toNat s00):=by
    have:=getI_d (l:=passes r) s00 (i:=(l.getD i tn0).Gauging.toNat) (by omega)
    rwa [show (((l.getD i tn0).Gauging.toNat:Nat):Int)=(l.getD i tn0).Gauging by omega] at this
   rw [e0,cond_false,W_sm (n:=(i:Int) - 1) (by omega) (by omega),show ((i:Nat):Int) - 1=((i - 1:Nat):Int) by omega,getI_d tn0 (by omega),Option.bind_some,e1,e2,Bool.or_false,cond_false,g1,Option.bind_some,g2,Option.bind_some]
   have ez:∀ t:aK,(bif (bV t) then (bY ((passes r).getD t.Gauging.toNat s00)) else (bZ ((passes r).getD t.Gauging.toNat s00)))=qM (passes r) t:=fun t=>by
    unfold bV qM
    cases t.Up <;> rfl
   rw [ez,ez]
   have hzs:pO (passes r) l i=bif (l.getD i tn0).Up then qM (passes r) (l.getD (i - 1) tn0) - qM (passes r) (l.getD i tn0) else qM (passes r) (l.getD i tn0) - qM (passes r) (l.getD (i - 1) tn0):=rfl
   cases hup:(l.getD i tn0).Up with
   | true=>
    rw [hup,cond_true] at hzs
    rw [cond_true,← hzs,W_sm (n:=pO (passes r) l i) (by omega) (by omega),W_sm (by omega) (by omega),hz]
   | false=>
    rw [hup,cond_false] at hzs
    rw [cond_false,← hzs,W_sm (n:=pO (passes r) l i) (by omega) (by omega),W_sm (by omega) (by omega),hz]) (by
  show gT N l (passes r,0) _ (l.length:Int)=_
  unfold gT
  rw [pZ,cond_false]) (N:=N) (by omega)
 show Option.bind (bC _ N (nG (passes r) l 0,((0:Nat):Int))) _=_
 rw [this]
 rfl
end Go.Nilo
namespace Go.Nilo
end Go.Nilo
namespace Go.Nilo
structure aAc (l:List Int):Prop where
 el:∀ e ∈ l,0≤e∧e≤255
 len:l.length≤9223372036854775807
structure SOk (u m:Int) (k:Nat):Prop where
 u0:0≤u
 u1:u≤k
 m0:0≤m
 m1:m≤250


theorem aH1 {N:Nat} {s_:bG} {n b2 b3:Int} {k:Nat} (hs:SOk s_.used s_.mix k) (hk:k≤1000000) (hn:2≤n) (h2:0≤b2∧b2≤2000000) (h3:0≤b3) :
  ∃ r u m,fQ N s_ n b2 b3=some (r,u,m)∧0≤r∧r < n∧SOk u m (k + 1):=by
 obtain ⟨u0,u1,m0,m1⟩:=hs
 have e1:W (5 * s_.mix)=5 * s_.mix:=pN (by omega) (by omega)
 have e2:W (5 * s_.mix + b2)=5 * s_.mix + b2:=pN (by omega) (by omega)
 have e3:W (5 * s_.mix + b2 + 1)=5 * s_.mix + b2 + 1:=pN (by omega) (by omega)
 have e4:W (s_.used + 1)=s_.used + 1:=pN (by omega) (by omega)
 have hz:nz n=some ():=by unfold nz; rw [if_neg (by omega)]
 refine ⟨b3 % n,s_.used + 1,(5 * s_.mix + b2 + 1) % 251,?_,Int.emod_nonneg _ (by omega),Int.emod_lt_of_pos _ (by omega),⟨by omega,by push_cast; omega,Int.emod_nonneg _ (by omega),?_⟩⟩
 ·unfold fQ
  rw [hz,e1,e2,e3,e4,oZ h3,oZ (by omega)]
  rfl
 ·have:=Int.emod_lt_of_pos (5 * s_.mix + b2 + 1) (show (0:Int) < 251 by omega)
  omega

theorem aLl {N:Nat} {s_:bG} {n b2:Int} {k:Nat} (hs:SOk s_.used s_.mix k) (hk:k≤1000000) (hn:2≤n) (h2:0≤b2∧b2≤2000000) :
  ∃ r u m,fR N s_ n b2=some (r,u,m)∧0≤r∧r < n∧SOk u m (k + 1):=by
 unfold fR
 obtain ⟨u0,u1,m0,m1⟩:=id hs
 have e1:W (5 * s_.mix)=5 * s_.mix:=pN (by omega) (by omega)
 have e2:W (5 * s_.mix + b2)=5 * s_.mix + b2:=pN (by omega) (by omega)
 have e3:W (5 * s_.mix + b2 + 1)=5 * s_.mix + b2 + 1:=pN (by omega) (by omega)
 have e5:W (256 * b2)=256 * b2:=pN (by omega) (by omega)
 have hm:0≤(5 * s_.mix + b2 + 1) % 251:=Int.emod_nonneg _ (by omega)
 have hm':=Int.emod_lt_of_pos (5 * s_.mix + b2 + 1) (show (0:Int) < 251 by omega)
 cases hb:decide (256 < n) with
 | true=>
  show ∃ r u m,fQ N s_ n b2 _=some (r,u,m)∧_
  refine aH1 hs hk hn h2 ?_
  rw [e1,e2,e3,e5,oZ (by omega),pN (by omega) (by omega)]
  omega
 | false=>exact aH1 (N:=N) hs hk hn h2 h2.1

theorem mH {N:Nat} {l:List Int} (hl:aAc l) {u m n:Int} {k:Nat} (hs:SOk u m k) (hk:k≤1000000) :
  ∃ r u' m',cH N ⟨l,u,m⟩ n=some (r,u',m')∧0≤r∧(r < n ∨ r=0)∧SOk u' m' (k + 1):=by
 obtain ⟨u0,u1,m0,m1⟩:=id hs
 unfold cH
 cases h1:(decide (n < 2) || (((l.length:Nat):Int) == 0)) with
 | true=>exact ⟨0,u,m,rfl,by omega,.inr rfl,⟨u0,by push_cast; omega,m0,m1⟩⟩
 | false=>
  simp at h1
  have hl0:0 < l.length:=by
   cases l with
   | nil=>simp at h1
   | cons=>simp
  have hz:nz ((l.length:Nat):Int)=some ():=by unfold nz; rw [if_neg (by omega)]
  have hmod:0≤u % (l.length:Int)∧u % (l.length:Int) < l.length:=⟨Int.emod_nonneg _ (by omega),Int.emod_lt_of_pos _ (by omega)⟩
  have hg:bQ l (u.tmod ((l.length:Nat):Int))=some (l[(u % (l.length:Int)).toNat]'(by omega)):=by
   rw [oZ u0]
   unfold bQ
   rw [if_pos hmod.1]
   exact List.getElem?_eq_getElem _
  have he:=hl.el (l[(u % (l.length:Int)).toNat]'(by omega)) (List.getElem_mem _)
  generalize (l[(u % (l.length:Int)).toNat]'(by omega))=e at hg he
  have hd:0≤u / (l.length:Int)∧u / (l.length:Int)≤u:=⟨Int.ediv_nonneg u0 (by omega),Int.ediv_le_self _ u0⟩
  have ew:W e=e:=pN (by omega) (by omega)
  have ed:W (u / (l.length:Int))=u / (l.length:Int):=pN (by omega) (by omega)
  have e11:W (11 * m)=11 * m:=pN (by omega) (by omega)
  have es:W (11 * m + u / (l.length:Int))=11 * m + u / (l.length:Int):=pN (by omega) (by omega)
  have es2:W (e + (11 * m + u / (l.length:Int)))=e + (11 * m + u / (l.length:Int)):=pN (by omega) (by omega)
  have hgo:∀ b2,0≤b2∧b2≤2000000→∃ r u' m',fR N ⟨l,u,m⟩ n b2=some (r,u',m')∧0≤r∧(r < n ∨ r=0)∧SOk u' m' (k + 1):=by
   intro b2 hb2
   obtain ⟨r,u',m',h2,h3,h4,h5⟩:=aLl (N:=N) (s_:=⟨l,u,m⟩) (n:=n) hs hk (by omega) hb2
   exact ⟨r,u',m',h2,h3,.inl h4,h5⟩
  simp only [cond_false,hz,hg,Option.bind_some]
  rw [uV u0,ew,ed,e11,es,es2]
  cases decide (((l.length:Nat):Int)≤u) with
  | true=>exact hgo _ (by omega)
  | false=>exact hgo _ (by omega)

theorem nS {N:Nat} {l:List Int} (hl:aAc l) {u m lo hi:Int} {k:Nat} (hs:SOk u m k) (hk:k≤1000000) (h0 : -1000000000000000≤lo) (h1:hi≤1000000000000000) (hle:lo≤hi) :
  ∃ r u' m',dP N ⟨l,u,m⟩ lo hi=some (r,u',m')∧lo≤r∧r≤hi∧SOk u' m' (k + 1):=by
 obtain ⟨r,u',m',h2,h3,h4,h5⟩:=mH (N:=N) hl (n:=W (W (hi - lo) + 1)) hs hk
 have e1:W (hi - lo)=hi - lo:=pN (by omega) (by omega)
 have e2:W (hi - lo + 1)=hi - lo + 1:=pN (by omega) (by omega)
 rw [e1,e2] at h4 h2
 have e3:W (lo + r)=lo + r:=pN (by omega) (by omega)
 refine ⟨lo + r,u',m',?_,by omega,by omega,h5⟩
 unfold dP
 rw [e1,e2,h2]
 simp [e3]


end Go.Nilo
namespace Go.Nilo
structure RInv (i:Nat) (out:List aG) (stage flow:Int):Prop where
 len:out.length=i
 s0 : -20≤stage∧stage≤20 + 30 * i
 f0:0≤flow∧flow≤49 + 400 * i
 e:∀ j,j < i→(-20≤mS out j∧mS out j < stage)∧0≤mF out j∧mF out j < flow
 up:∀ j,j + 1 < i→mS out j < mS out (j + 1)∧mF out j < mF out (j + 1)
theorem RInv.next {i:Nat} {out:List aG} {stage flow a b:Int} (h:RInv i out stage flow) (ha:1≤a∧a≤30) (hb:1≤b∧b≤400):RInv (i + 1) (out++[⟨stage,flow⟩]) (stage + a) (flow + b):=by
 obtain ⟨h1,h2,h3,h4,h5⟩:=h
 have hlt:∀ j,j < i→mS (out++[⟨stage,flow⟩]) j=mS out j∧mF (out++[⟨stage,flow⟩]) j=mF out j:=fun j hj=>by
  unfold mS mF
  rw [lN (by omega)]
  exact ⟨rfl,rfl⟩
 have heq:mS (out++[⟨stage,flow⟩]) i=stage∧mF (out++[⟨stage,flow⟩]) i=flow:=by
  subst h1
  unfold mS mF
  rw [lO]
  exact ⟨rfl,rfl⟩
 refine ⟨by simp [h1],by push_cast; omega,by push_cast; omega,fun j hj=>?_,fun j hj=>?_⟩
 ·rcases Nat.lt_or_eq_of_le (show j≤i by omega) with c | c
  ·have:=h4 j c
   rw [(hlt j c).1,(hlt j c).2]
   omega
  ·subst c
   rw [heq.1,heq.2]
   omega
 ·have c:j < i:=by omega
  rw [(hlt j c).1,(hlt j c).2]
  rcases Nat.lt_or_eq_of_le (show j + 1≤i by omega) with d | d
  ·rw [(hlt _ d).1,(hlt _ d).2]
   exact h5 j d
  ·rw [d,heq.1,heq.2]
   have:=h4 j c
   omega
structure RMade (l:List aG):Prop where
 ok:ROk l
 l7:l.length≤7
 s:∀ j,j < l.length→-20≤mS l j∧mS l j≤230
 f:∀ j,j < l.length→mF l j≤2900
end Go.Nilo
namespace Go.Nilo
structure GInv (l:List aG) (i:Nat) (course:List Int) (day at_:Int) (gs:List aJ):Prop where
 lc:course.length=i
 lg:gs.length=i
 d:0≤day∧day≤8 + 9 * i
 a : -9 - 5 * (i:Int)≤at_∧at_≤9 + 5 * i
 g:∀ j,j < i→aEi (gs.getD j g0)∧(gs.getD j g0).Day < day∧jN l (gs.getD j g0) (course.getD j 0)=true∧-9 - 5 * (j:Int)≤course.getD j 0∧course.getD j 0≤9 + 5 * j
 up:∀ j,j + 1 < i→(gs.getD j g0).Day < (gs.getD (j + 1) g0).Day∧ap (course.getD j 0) (course.getD (j + 1) 0)≤5
 la:∀ j,j + 1=i→ap (course.getD j 0) at_≤5
theorem GInv.next {l:List aG} {i:Nat} {course:List Int} {day at_ a b:Int} {gs:List aJ} {g:aJ} (h:GInv l i course day at_ gs) (hi:i≤20) (hd:g.Day=day) (hg:(-2000≤g.Stage∧g.Stage≤2000)∧0≤g.Flow.Lo∧g.Flow.Lo≤g.Flow.Hi∧g.Flow.Hi≤1000000000) (hp:jN l g at_=true) (ha:1≤a∧a≤9) (hb : -5≤b∧b≤5) :
  GInv l (i + 1) (course++[at_]) (day + a) (at_ + b) (gs++[g]):=by
 obtain ⟨h1,h2,h3,h4,h5,h6,h7⟩:=h
 have hlt:∀ j,j < i→(gs++[g]).getD j g0=gs.getD j g0∧(course++[at_]).getD j 0=course.getD j 0:=fun j hj=>⟨lN (by omega),lN (by omega)⟩
 have heq:(gs++[g]).getD i g0=g∧(course++[at_]).getD i 0=at_:=by
  constructor
  ·have:=lO (l:=gs) (x:=g) (d:=g0)
   rwa [h2] at this
  ·have:=lO (l:=course) (x:=at_) (d:=(0:Int))
   rwa [h1] at this
 refine ⟨by simp [h1],by simp [h2],by push_cast; omega,by push_cast; omega,fun j hj=>?_,fun j hj=>?_,fun j hj=>?_⟩
 ·rcases Nat.lt_or_eq_of_le (show j≤i by omega) with c | c
  ·rw [(hlt j c).1,(hlt j c).2]
   obtain ⟨k1,k2,k3,k4⟩:=h5 j c
   exact ⟨k1,by omega,k3,k4⟩
  ·subst c
   rw [heq.1,heq.2]
   exact ⟨⟨by omega,hg.1,hg.2⟩,by omega,hp,h4⟩
 ·have c:j < i:=by omega
  rw [(hlt j c).1,(hlt j c).2]
  rcases Nat.lt_or_eq_of_le (show j + 1≤i by omega) with d | d
  ·rw [(hlt _ d).1,(hlt _ d).2]
   exact h6 j d
  ·rw [d,heq.1,heq.2]
   have:=h5 j c
   exact ⟨by omega,h7 j d⟩
 ·obtain rfl:j=i:=by omega
  rw [heq.2]
  unfold ap
  omega
structure Gd (r:aR) (c:List Int) (most:Nat):Prop where
 mad:RMade r.Rating
 g1:1≤r.Gaugings.length
 gm:r.Gaugings.length≤most
 len:c.length=r.Gaugings.length
 g:∀ j,j < r.Gaugings.length→aEi (r.Gaugings.getD j g0)∧(r.Gaugings.getD j g0).Day≤8 + 9 * (r.Gaugings.length:Int)∧jN r.Rating (r.Gaugings.getD j g0) (c.getD j 0)=true∧-9 - 5 * (j:Int)≤c.getD j 0∧c.getD j 0≤9 + 5 * j
 up:∀ j,j + 1 < r.Gaugings.length→(r.Gaugings.getD j g0).Day < (r.Gaugings.getD (j + 1) g0).Day∧ap (c.getD j 0) (c.getD (j + 1) 0)≤5
theorem aFu {l:List aG} {g:aJ} {x:Int} (h:jN l g x=true) (h1 : -300≤x) (h2:x≤300):lK (oK l g)=true∧(oK l g).Lo≤x∧x≤(oK l g).Hi:=by
 rcases wZ (jN l g) 601 with ⟨a,b,c,d,e,f⟩ | ⟨a,b,c⟩
 ·exact ⟨dT a,f x h1 (by omega) h⟩
 ·rw [c x h1 (by omega)] at h
  cases h
theorem aLh {r:aR} {c:List Int} (hlen:c.length=r.Gaugings.length) (h:∀ j,j < r.Gaugings.length→jN r.Rating (r.Gaugings.getD j g0) (c.getD j 0)=true∧-300≤c.getD j 0∧c.getD j 0≤300):(passes r).all lK=true∧Crs (passes r) c:=by
 constructor
 ·rw [List.all_eq_true]
  intro s hs
  obtain ⟨g,hg,rfl⟩:=List.mem_map.1 hs
  obtain ⟨i,hi,rfl⟩:=List.getElem_of_mem hg
  rw [eF (d:=g0) hi]
  obtain ⟨a,b,c⟩:=h i hi
  exact (aFu a b c).1
 ·refine Crs.of (by simp [passes,hlen]) fun i hi=>?_
  have hi':i < r.Gaugings.length:=by simpa [passes] using hi
  have e:(passes r).getD i s00=oK r.Rating (r.Gaugings.getD i g0):=by simp [passes,List.getD,hi']
  rw [e]
  obtain ⟨a,b,c⟩:=h i hi'
  exact (aFu a b c).2
theorem aIf {k:Int} (hk:0≤k):∀ c:List Int,(∀ j,j + 1 < c.length→ap (c.getD j 0) (c.getD (j + 1) 0)≤k)→move c≤k * c.length
 | [],_=>by simp [move]
 | [_],_=>by simp [move]; exact hk
 | x::y::l,h=>by
  have ih:=aIf hk (y::l) fun j hj=>by
   have:=h (j + 1) (by simpa using hj)
   simpa using this
  have h0:=h 0 (by simp)
  simp only [List.getD_cons_zero,List.getD_cons_succ] at h0
  rw [move]
  simp only [List.length_cons] at ih ⊢
  have:k * ((l.length + 1 + 1:Nat):Int)=k * ((l.length + 1:Nat):Int) + k:=by push_cast; grind
  omega
theorem Gd.mv {r:aR} {c:List Int} {most:Nat} (h:Gd r c most) (hm:most≤30):move c≤150:=by
 have h1:=h.gm
 have h2:=h.len
 have:=aIf (k:=5) (by omega) c fun j hj=>(h.up j (by omega)).2
 omega
end Go.Nilo
namespace Go.Nilo
theorem vS {c:List Int} {i:Nat} (h1:1≤i) (hi:i < c.length):move (c.take (i + 1))=move (c.take i) + ap (c.getD (i - 1) 0) (c.getD i 0):=by
 have e1:c.take i=c.take (i - 1)++[c.getD (i - 1) 0]:=by
  have:=List.take_succ_eq_append_getElem (l:=c) (i:=i - 1) (by omega)
  rw [Nat.sub_add_cancel h1] at this
  rw [this,eF (d:=(0:Int))]
 have e2:c.take (i + 1)=c.take (i - 1)++c.getD (i - 1) 0::[c.getD i 0]:=by
  rw [List.take_succ_eq_append_getElem hi,e1,eF (d:=(0:Int)) hi]
  simp
 rw [e2,aFo,← e1]
 simp [move]
theorem wQ {c:List Int} (hb:∀ j,j < c.length→-300≤c.getD j 0∧c.getD j 0≤300):∀ i,i≤c.length→0≤move (c.take i)∧move (c.take i)≤600 * (i:Int)
 | 0,_=>by simp [move]
 | i + 1,hi=>by
  have ih:=wQ hb i (by omega)
  rcases Nat.eq_zero_or_pos i with h | h
  ·subst h
   have:move (c.take (0 + 1))=0:=by
    cases c with
    | nil=>rfl
    | cons x c=>rfl
   rw [this]
   omega
  ·rw [vS h (by omega)]
   have h1:=hb i (by omega)
   have h2:=hb (i - 1) (by omega)
   unfold ap
   push_cast
   omega
end Go.Nilo
