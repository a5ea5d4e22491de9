/-
  What the plain functions compute, in plain arithmetic, part 10. Conditions: what each theorem names.
-/
import Derived.Test.YtofihdjdhecfdaaGreatDrL9
set_option linter.unusedSimpArgs false
set_option linter.unusedVariables false
namespace Go.Nilo
def move:List Int→Int
 | x::y::l=>ap x y + move (y::l)
 | [_]=>0
 | []=>0
def Crs:List aA→List Int→Prop
 | s::l,x::c=>s.Lo≤x∧x≤s.Hi∧Crs l c
 | [],[]=>True
 | _,_=>False
theorem aB6 (x y:Int):0≤ap x y:=by unfold ap; omega
theorem aC0 (x y:Int):ap x y=ap y x:=by unfold ap; omega
theorem yW:∀ c,0≤move c
 | []=>Int.le_refl _
 | [_]=>Int.le_refl _
 | x::y::l=>by
  have:=yW (y::l)
  have:=aB6 x y
  unfold move
  omega
theorem qM (x:Int) (b:List Int):∀ a,move (a++x::b)=move (a++[x]) + move (x::b)
 | []=>by
  show move (x::b)=move [x] + move (x::b)
  simp [move]
 | [y]=>by
  show move (y::x::b)=move (y::x::[]) + move (x::b)
  simp [move]
 | y::z::a=>by
  have:=qM x b (z::a)
  show move (y::z::(a++x::b))=move (y::z::(a++[x])) + move (x::b)
  rw [move,move]
  have e1:z::a++x::b=z::(a++x::b):=rfl
  have e2:z::a++[x]=z::(a++[x]):=rfl
  rw [e1,e2] at this
  omega
theorem aBp:∀ c,move c.reverse=move c
 | []=>rfl
 | [_]=>rfl
 | x::y::l=>by
  have:=aBp (y::l)
  rw [List.reverse_cons] at this
  rw [List.reverse_cons,List.reverse_cons,List.append_assoc]
  show move (l.reverse++y::[x])=_
  rw [qM,this]
  have:=aC0 x y
  simp [move]
  omega
theorem Crs.len:∀ {l c},Crs l c→c.length=l.length
 | [],[],_=>rfl
 | s::l,x::c,h=>by simp [Crs.len h.2.2]
 | [],_::_,h=>h.elim
 | _::_,[],h=>h.elim
theorem Crs.app:∀ {l c l' c'},Crs l c→Crs l' c'→Crs (l++l') (c++c')
 | [],[],_,_,_,h=>h
 | s::l,x::c,_,_,h,h'=>⟨h.1,h.2.1,Crs.app h.2.2 h'⟩
 | [],_::_,_,_,h,_=>h.elim
 | _::_,[],_,_,h,_=>h.elim
theorem Crs.rev:∀ {l c},Crs l c→Crs l.reverse c.reverse
 | [],[],_=>trivial
 | s::l,x::c,h=>by
  rw [List.reverse_cons,List.reverse_cons]
  exact Crs.app (Crs.rev h.2.2) ⟨h.1,h.2.1,trivial⟩
 | [],_::_,h=>h.elim
 | _::_,[],h=>h.elim
theorem Crs.take:∀ {l c},Crs l c→∀ i,Crs (l.take i) (c.take i)
 | [],[],_,_=>by simp [Crs]
 | s::l,x::c,h,0=>by simp [Crs]
 | s::l,x::c,h,i + 1=>⟨h.1,h.2.1,Crs.take h.2.2 i⟩
 | [],_::_,h,_=>h.elim
 | _::_,[],h,_=>h.elim
theorem Crs.drop:∀ {l c},Crs l c→∀ i,Crs (l.drop i) (c.drop i)
 | [],[],_,_=>by simp [Crs]
 | s::l,x::c,h,0=>h
 | s::l,x::c,h,i + 1=>Crs.drop h.2.2 i
 | [],_::_,h,_=>h.elim
 | _::_,[],h,_=>h.elim
theorem Crs.at_:∀ {l c},Crs l c→∀ i,i < l.length→(l.getD i s00).Lo≤c.getD i 0∧c.getD i 0≤(l.getD i s00).Hi
 | s::l,x::c,h,0,_=>⟨h.1,h.2.1⟩
 | s::l,x::c,h,i + 1,hi=>by
  have:=Crs.at_ h.2.2 i (by simpa using hi)
  simpa using this
 | [],[],_,_,hi=>by simp at hi
 | [],_::_,h,_,_=>h.elim
 | _::_,[],h,_,_=>h.elim
theorem Crs.of:∀ {l:List aA} {c:List Int},c.length=l.length→(∀ i,i < l.length→(l.getD i s00).Lo≤c.getD i 0∧c.getD i 0≤(l.getD i s00).Hi)→Crs l c
 | [],[],_,_=>trivial
 | s::l,x::c,h,hh=>by
  have h0:=hh 0 (by simp)
  refine ⟨by simpa using h0.1,by simpa using h0.2,Crs.of (by simpa using h) fun i hi=>?_⟩
  have:=hh (i + 1) (by simpa using hi)
  simpa using this
 | [],_::_,h,_=>by simp at h
 | _::_,[],h,_=>by simp at h
theorem xC:∀ (l:List aA) (s:aA) (x:Int) (c:List Int),Crs (s::l) (x::c)→gB (s::l) x≤move (x::c)
 | [],s,x,[],h=>Int.le_refl _
 | t::l,s,x,y::c,h=>by
  have ih:=xC l t y c h.2.2
  have ht:=h.2.2
  unfold gB move
  have:=vH (fun y=>ap x y + gB (t::l) y) t.Lo (t.Hi - t.Lo).toNat y ht.1 (by have:=ht.2.1; have:=ht.1; omega)
  omega
 | [],s,x,_::_,h=>h.2.2.elim
 | _::_,s,x,[],h=>h.2.2.elim
theorem aBj:∀ (l:List aA) (s:aA) (x:Int),(∀ t ∈ l,vQ t)→s.Lo≤x→x≤s.Hi→∃ c,Crs (s::l) (x::c)∧move (x::c)=gB (s::l) x
 | [],s,x,_,h1,h2=>⟨[],⟨h1,h2,trivial⟩,rfl⟩
 | t::l,s,x,hl,h1,h2=>by
  obtain ⟨y,k1,k2,k3⟩:=rH (fun y=>ap x y + gB (t::l) y) t.Lo (t.Hi - t.Lo).toNat
  have ht:=hl t (by simp)
  have hy:y≤t.Hi:=by have:=ht.2.1; omega
  obtain ⟨c,c1,c2⟩:=aBj l t y (fun u hu=>hl u (List.mem_cons_of_mem _ hu)) k1 hy
  refine ⟨y::c,⟨h1,h2,c1⟩,?_⟩
  unfold gB
  rw [k3,move,c2]
theorem aBc {i:Nat} {c:List Int} (h:i < c.length):c=c.take i++c.getD i 0::c.drop (i + 1):=by
 have:=List.take_append_drop i c
 rw [List.drop_eq_getElem_cons h,cF (d:=0) h] at this
 exact this.symm
theorem oC {l:List aA} {i:Nat} (h:i < l.length):l.drop i=l.getD i s00::l.drop (i + 1):=by rw [List.drop_eq_getElem_cons h,cF (d:=s00) h]
theorem aA9 {l:List aA} (h:VL l) {most:Int} {i:Nat} (hi:i < l.length) {x:Int}:oK l most i x=true ↔ ∃ c,Crs l c∧c.getD i 0=x∧move c≤most:=by
 unfold oK
 rw [Bool.and_eq_true,decide_eq_true_eq,decide_eq_true_eq]
 unfold kI kP
 rw [vC hi,oC hi]
 constructor
 ·rintro ⟨⟨h1,h2⟩,h3⟩
  obtain ⟨a,a1,a2⟩:=aBj ((l.take i).reverse) (l.getD i s00) x (fun t ht=>h.ok t (List.mem_of_mem_take (List.mem_reverse.1 ht))) h1 h2
  obtain ⟨b,b1,b2⟩:=aBj (l.drop (i + 1)) (l.getD i s00) x (fun t ht=>h.ok t (List.mem_of_mem_drop ht)) h1 h2
  have ha:a.length=i:=by
   have:=a1.2.2.len
   rw [this,List.length_reverse,List.length_take]
   omega
  refine ⟨a.reverse++x::b,?_,?_,?_⟩
  ·have k1:Crs (l.take i) a.reverse:=by
    have:=a1.2.2.rev
    rwa [List.reverse_reverse] at this
   have:=k1.app b1
   rwa [← oC hi,List.take_append_drop] at this
  ·simp [List.getD,ha]
  ·rw [qM]
   have e:a.reverse++[x]=(x::a).reverse:=by simp
   rw [e,aBp,a2,b2]
   exact h3
 ·rintro ⟨c,c1,rfl,c3⟩
  have hlen:=c1.len
  have hat:=c1.at_ i hi
  refine ⟨hat,?_⟩
  have hs:=aBc (c:=c) (i:=i) (by omega)
  rw [hs,qM] at c3
  have k1:Crs (l.getD i s00::(l.take i).reverse) (c.getD i 0::(c.take i).reverse):=⟨hat.1,hat.2,(c1.take i).rev⟩
  have k2:Crs (l.getD i s00::l.drop (i + 1)) (c.getD i 0::c.drop (i + 1)):=⟨hat.1,hat.2,c1.drop (i + 1)⟩
  have m1:=xC _ _ _ _ k1
  have m2:=xC _ _ _ _ k2
  have e:c.getD i 0::(c.take i).reverse=(c.take i++[c.getD i 0]).reverse:=by simp
  rw [e,aBp] at m1
  omega
theorem tD {l:List aA} (h:VL l) {most:Int} {i:Nat} (hi:i < l.length) :
  (eD (fT l most i)=true∧oK l most i (fT l most i).Lo=true∧oK l most i (fT l most i).Hi=true∧∀ x,oK l most i x=true→(fT l most i).Lo≤x∧x≤(fT l most i).Hi) ∨
  (eD (fT l most i)=false∧∀ x,oK l most i x=false):=by
 have hs:=h.at_ hi
 have hin:∀ x,oK l most i x=true→-300≤x∧x≤300:=fun x hx=>by
  unfold oK at hx
  rw [Bool.and_eq_true,decide_eq_true_eq] at hx
  unfold vQ at hs
  omega
 rcases tE (oK l most i) 601 with ⟨a,b,c,d,e,f⟩ | ⟨a,b,c⟩
 ·left
  refine ⟨dT a,b,c,fun x hx=>?_⟩
  have:=hin x hx
  exact f x this.1 (by omega) hx
 ·right
  refine ⟨?_,fun x=>?_⟩
  ·unfold eD fT
   simp only [a,b]
   rfl
  ·cases hx:oK l most i x with
   | false=>rfl
   | true=>
    have:=hin x hx
    rw [c x this.1 (by omega)] at hx
    cases hx
theorem aJz {l:List aA} (h:VL l) {most:Int}:(uB l most).all eD=true ↔ ∃ c,Crs l c∧move c≤most:=by
 have h1:=h.l1
 unfold uB
 rw [List.all_map,List.all_eq_true]
 constructor
 ·intro ha
  have:=ha 0 (List.mem_range.2 (by omega))
  rcases tD h (most:=most) (i:=0) (by omega) with ⟨_,b,_,_⟩ | ⟨b,_⟩
  ·obtain ⟨c,c1,_,c3⟩:=(aA9 h (by omega)).1 b
   exact ⟨c,c1,c3⟩
  ·simp only [Function.comp_apply] at this
   rw [b] at this
   cases this
 ·rintro ⟨c,c1,c3⟩ i hi
  have hi':=List.mem_range.1 hi
  rcases tD h (most:=most) (i:=i) hi' with ⟨a,_⟩ | ⟨_,b⟩
  ·exact a
  ·have:=(aA9 h (most:=most) hi').2 ⟨c,c1,rfl,c3⟩
   rw [b] at this
   cases this
theorem aJe {l:List aA} {most:Int}:(uB l most).length=l.length:=by simp [uB]
theorem aHs {l:List aA} {most:Int} {i:Nat} (hi:i < l.length):(uB l most).getD i s00=fT l most i:=by simp [uB,List.getD,hi]
theorem aLw {l:List aA} (h:VL l) {most:Int} {c:List Int} (hc:Crs l c) (hm:move c≤most) {i:Nat} (hi:i < l.length):(fT l most i).Lo≤c.getD i 0∧c.getD i 0≤(fT l most i).Hi:=by
 have hp:=(aA9 h (most:=most) hi).2 ⟨c,hc,rfl,hm⟩
 rcases tD h (most:=most) (i:=i) hi with ⟨_,_,_,a⟩ | ⟨_,b⟩
 ·exact a _ hp
 ·rw [b] at hp
  cases hp
end Go.Nilo
