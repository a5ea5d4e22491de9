/-
  What the plain functions compute, in plain arithmetic, part 3. Conditions: what each theorem names.
-/
import Derived.Test.YtfgdaecfjidahaaGreatTmL2
set_option linter.unusedSimpArgs false
set_option linter.unusedVariables false
namespace Go.Nilo
theorem aEm {c:List Int} {i:Nat}:∀ k:Nat,i + k < c.length→ap (c.getD i 0) (c.getD (i + k) 0) + move (c.take (i + 1))≤move (c.take (i + k + 1))
 | 0,_=>by
  have:ap (c.getD i 0) (c.getD (i + 0) 0)=0:=by unfold ap; rw [Nat.add_zero]; omega
  rw [this,Nat.add_zero]
  omega
 | k + 1,h=>by
  have ih:=aEm (c:=c) (i:=i) k (by omega)
  have h1:=vS (c:=c) (i:=i + k + 1) (by omega) (by omega)
  rw [Nat.add_sub_cancel] at h1
  have h2:=aN9 (c.getD i 0) (c.getD (i + k) 0) (c.getD (i + k + 1) 0)
  rw [show i + (k + 1)=i + k + 1 by omega]
  omega
theorem aJa {c:List Int} {i:Nat} (h:i≤c.length):move (c.take i)≤move c:=by
 rcases Nat.eq_zero_or_pos i with h0 | h0
 ·subst h0
  rw [List.take_zero]
  exact pL c
 ·have h1:=aEm (c:=c) (i:=i - 1) (c.length - i) (by omega)
  have h2:=yY (c.getD (i - 1) 0) (c.getD (i - 1 + (c.length - i)) 0)
  rw [show i - 1 + 1=i by omega,show i - 1 + (c.length - i) + 1=c.length by omega,List.take_length] at h1
  omega
theorem aHw {S:List aC} {c:List Int} (hc:Crs S c) {l:List aK} (h:TOk S.length l):∀ i:Nat,i < l.length→nG S l (i + 1)≤move (c.take ((l.getD i tn0).Gauging.toNat + 1))
 | 0,_=>by
  show (if (0:Nat)=0 then (0:Int) else _)≤_
  rw [if_pos rfl]
  exact pL _
 | i + 1,hi=>by
  have ih:=aHw hc h i (by omega)
  have hu:=h.up i hi
  have r1:=h.at_ (i:=i) (by omega)
  have r2:=h.at_ hi
  have cl:=hc.len
  have c1:=hc.at_ (l.getD i tn0).Gauging.toNat (by omega)
  have c2:=hc.at_ (l.getD (i + 1) tn0).Gauging.toNat (by omega)
  have hz:nG S l (i + 1 + 1)=nG S l (i + 1) + pO S l (i + 1):=by
   show (if i + 1=0 then (0:Int) else _)=_
   rw [if_neg (by omega)]
  have hk:=aEm (c:=c) (i:=(l.getD i tn0).Gauging.toNat) ((l.getD (i + 1) tn0).Gauging.toNat - (l.getD i tn0).Gauging.toNat) (by omega)
  rw [show (l.getD i tn0).Gauging.toNat + ((l.getD (i + 1) tn0).Gauging.toNat - (l.getD i tn0).Gauging.toNat)=(l.getD (i + 1) tn0).Gauging.toNat by omega] at hk
  have hs:pO S l (i + 1)≤ap (c.getD (l.getD i tn0).Gauging.toNat 0) (c.getD (l.getD (i + 1) tn0).Gauging.toNat 0):=by
   unfold pO qM ap
   rw [Nat.add_sub_cancel]
   cases h1:(l.getD (i + 1) tn0).Up with
   | true=>
    have h2:(l.getD i tn0).Up=false:=by
     cases h3:(l.getD i tn0).Up with
     | false=>rfl
     | true=>exact absurd (h3.trans h1.symm) hu.2
    rw [h2]
    simp only [cond_true,cond_false]
    omega
   | false=>
    have h2:(l.getD i tn0).Up=true:=by
     cases h3:(l.getD i tn0).Up with
     | true=>rfl
     | false=>exact absurd (h3.trans h1.symm) hu.2
    rw [h2]
    simp only [cond_true,cond_false]
    omega
  omega
theorem aIx {S:List aC} (hS:VL S) {l:List aK} (h:TOk S.length l):nG S l l.length≤nF S:=by
 obtain ⟨hc,hm⟩:=zX hS
 rw [← hm]
 cases hl:l.length with
 | zero=>exact pL _
 | succ n=>
  have r:=h.at_ (i:=n) (by omega)
  have cl:=hc.len
  exact Int.le_trans (aHw hc h n (by omega)) (aJa (by omega))
theorem aBs {α:Type} {l:List α} {i k:Nat} {d:α} (h:i < k):(l.take k).getD i d=l.getD i d:=by simp [List.getD,List.getElem?_take,h]
theorem aCe {α:Type} {l:List α} {i k:Nat} {d:α}:(l.drop k).getD i d=l.getD (k + i) d:=by simp [List.getD,List.getElem?_drop]
theorem TOk.take {n:Nat} {l:List aK} (h:TOk n l) (k:Nat):TOk n (l.take k):=by
 refine ⟨Nat.le_trans (List.length_take_le' k l) h.len,fun t ht=>h.rg t (List.mem_of_mem_take ht),fun i hi=>?_⟩
 rw [List.length_take] at hi
 rw [aBs (by omega),aBs (by omega)]
 exact h.up i (by omega)
theorem TOk.drop {n:Nat} {l:List aK} (h:TOk n l) (k:Nat):TOk n (l.drop k):=by
 refine ⟨by rw [List.length_drop]; have:=h.len; omega,fun t ht=>h.rg t (List.mem_of_mem_drop ht),fun i hi=>?_⟩
 rw [List.length_drop] at hi
 rw [aCe,aCe]
 exact h.up (k + i) (by omega)
theorem TOk.nil {n:Nat}:TOk n []:=⟨by simp,by simp,fun i hi=>by simp at hi⟩
theorem TOk.snoc {n:Nat} {l:List aK} (h:TOk n l) {t:aK} (hl:l.length≤100) (ht:0≤t.Gauging∧t.Gauging < n) (hu:∀ i,i + 1=l.length→(l.getD i tn0).Gauging < t.Gauging∧(l.getD i tn0).Up ≠ t.Up):TOk n (l++[t]):=by
 refine ⟨by simp; omega,fun u hu'=>?_,fun i hi=>?_⟩
 ·rcases List.mem_append.1 hu' with k | k
  ·exact h.rg u k
  ·simp only [List.mem_singleton] at k
   subst k
   exact ht
 ·simp only [List.length_append,List.length_cons,List.length_nil] at hi
  by_cases hil:i + 1 < l.length
  ·rw [lN (by omega),lN hil]
   exact h.up i hil
  ·have e:i + 1=l.length:=by omega
   rw [lN (by omega),e,lO]
   exact hu i e
end Go.Nilo
namespace Go.Nilo
theorem aAe {N n i:Nat} {l:List aK} (h:TOk n l) (hlt:∀ t ∈ l,t.Gauging < (i:Int)) {g:Int} {up:Bool} (hg:0≤g∧g < (i:Int)) (hi:i < n) (hl:l.length≤70) :
  ∃ l',fM N l ⟨g,!up⟩ ⟨(i:Int),up⟩=some l'∧TOk n l'∧(∀ t ∈ l',t.Gauging < ((i + 1:Nat):Int))∧l'.length≤l.length + 2:=by
 unfold fM
 rcases Nat.eq_zero_or_pos l.length with h0 | h0
 ·obtain rfl:=List.length_eq_zero_iff.1 h0
  refine ⟨[⟨g,!up⟩,⟨(i:Int),up⟩],rfl,⟨by simp,fun t ht=>?_,fun j hj=>?_⟩,fun t ht=>?_,by simp⟩
  ·simp only [List.mem_cons,List.not_mem_nil,or_false] at ht
   rcases ht with rfl | rfl
   ·exact ⟨hg.1,by show g < (n:Int); omega⟩
   ·exact ⟨by show (0:Int)≤(i:Int); omega,by show (i:Int) < (n:Int); omega⟩
  ·have hj':j + 1 < 2:=hj
   obtain rfl:j=0:=by omega
   exact ⟨hg.2,by show (!up) ≠ up; cases up <;> decide⟩
  ·simp only [List.mem_cons,List.not_mem_nil,or_false] at ht
   rcases ht with rfl | rfl
   ·show g < ((i + 1:Nat):Int)
    omega
   ·show (i:Int) < ((i + 1:Nat):Int)
    omega
 ·have e0:((((l.length:Nat):Int)) == 0)=false:=by rw [beq_eq_false_iff_ne]; omega
  have hla:=h.at_ (i:=l.length - 1) (by omega)
  have hll:(l.getD (l.length - 1) tn0).Gauging < (i:Int):=hlt _ (by rw [← eF (show l.length - 1 < l.length by omega)]; exact List.getElem_mem _)
  rw [e0,cond_false,W_sm (n:=(l.length:Int) - 1) (by omega) (by omega),show (l.length:Int) - 1=((l.length - 1:Nat):Int) by omega,getI_d tn0 (by omega),Option.bind_some,Option.bind_some,Option.bind_some,beq_self_eq_true,Bool.true_and,Int.toNat_natCast]
  cases hu:((l.getD (l.length - 1) tn0).Up == up) with
  | true=>
   rw [beq_iff_eq] at hu
   have hset:∀ j,(l.set (l.length - 1) (⟨(i:Int),up⟩:aK)).getD j tn0=if j=l.length - 1 then ⟨(i:Int),up⟩ else l.getD j tn0:=fun j=>by
    by_cases hj:j=l.length - 1
    ·subst hj
     rw [if_pos rfl,List.getD,List.getElem?_set_self (by omega)]
     rfl
    ·rw [if_neg hj]
     simp [List.getD,List.getElem?_set_ne (show l.length - 1 ≠ j by omega)]
   have hmem:∀ t ∈ l.set (l.length - 1) (⟨(i:Int),up⟩:aK),t=⟨(i:Int),up⟩ ∨ t ∈ l:=fun t ht=>(List.mem_or_eq_of_mem_set ht).symm
   refine ⟨_,rfl,⟨by rw [List.length_set]; exact h.len,fun t ht=>?_,fun j hj=>?_⟩,fun t ht=>?_,by rw [List.length_set]; omega⟩
   ·rcases hmem t ht with rfl | k
    ·exact ⟨by show (0:Int)≤(i:Int); omega,by show (i:Int) < (n:Int); omega⟩
    ·exact h.rg t k
   ·rw [List.length_set] at hj
    have hj':=h.up j hj
    rw [hset,hset,if_neg (by omega)]
    by_cases e:j + 1=l.length - 1
    ·rw [if_pos e]
     rw [e] at hj'
     exact ⟨by show (l.getD j tn0).Gauging < (i:Int); omega,by rw [← hu]; exact hj'.2⟩
    ·rw [if_neg e]
     exact hj'
   ·rcases hmem t ht with rfl | k
    ·show (i:Int) < ((i + 1:Nat):Int)
     omega
    ·have:=hlt t k
     omega
  | false=>
   rw [cond_false,mX (by simp; omega),Option.bind_some]
   refine ⟨_,rfl,h.snoc (by omega) ⟨by show (0:Int)≤(i:Int); omega,by show (i:Int) < (n:Int); omega⟩ (fun j hj=>?_),fun t ht=>?_,by simp⟩
   ·rw [show j=l.length - 1 by omega]
    exact ⟨hll,by rw [beq_eq_false_iff_ne] at hu; exact hu⟩
   ·rcases List.mem_append.1 ht with k | k
    ·have:=hlt t k
     omega
    ·simp only [List.mem_singleton] at k
     subst k
     show (i:Int) < ((i + 1:Nat):Int)
     omega
theorem aF1 {N:Nat} (hN:700≤N) {r:aR} (hr:wE r) (h:(passes r).all lK=true):∃ z,jY N r=some (z,0)∧TOk (passes r).length z∧z.length≤60:=by
 have hv:=sU hr h
 have hpl:(passes r).length=r.Gaugings.length:=by simp [passes]
 have h30:=hr.g30
 have h1:=hr.g1
 unfold jY
 rcases sR hN hr with ⟨o,-,k⟩ | ⟨k,-⟩
 ·rw [h] at k
  cases k
 rw [k,Option.bind_some]
 show ∃ z,Option.bind (bQ (passes r) ((0:Nat):Int)) _=_∧_
 rw [getI_d s00 (by omega),Option.bind_some]
 have hs0:=hv.at_ (i:=0) (by omega)
 have hs0':=hs0.2.1
 obtain ⟨⟨out,x,x1,x2,x3,x4⟩,l1,hx,hT,hlt,hlen,-⟩:=jK (fun s14:List aK × Int × Int × Int × Int × Int=>eI N (passes r,0) s14.1 s14.2.1 s14.2.2.1 s14.2.2.2.1 s14.2.2.2.2.1 s14.2.2.2.2.2)
  (fun i s=>s.2.1=(i:Int)∧TOk (passes r).length s.1∧(∀ t ∈ s.1,t.Gauging < (i:Int))∧s.1.length≤2 * i∧((i=0∧s.2.2=(((passes r).getD 0 s00).Lo,((passes r).getD 0 s00).Hi,0,0)) ∨ (0 < i∧(0≤s.2.2.2.2.1∧s.2.2.2.2.1 < (i:Int))∧0≤s.2.2.2.2.2∧s.2.2.2.2.2 < (i:Int)))) (passes r).length
  (by
   rintro i ⟨out,x,x1,x2,x3,x4⟩ hi ⟨rfl,hT,hlt,hlen,hw⟩
   dsimp only at hT hlt hlen hw ⊢
   have ej:∀ (o:List aK) (a b c d:Int),eH N (i:Int) o a b c d=some (.cont (o,((i + 1:Nat):Int),a,b,c,d)):=fun o a b c d=>by
    unfold eH
    rw [dQ (by omega)]
   have hlt':∀ t ∈ out,t.Gauging < ((i + 1:Nat):Int):=fun t ht=>by
    have:=hlt t ht
    omega
   have ej27:∀ (e:aC) (a c:Int),0≤c∧c < ((i + 1:Nat):Int)→0≤x4∧x4 < ((i + 1:Nat):Int)→∃ s',fU N out (i:Int) x2 x4 e a c=some (.cont s')∧s'.2.1=((i + 1:Nat):Int)∧s'.1=out∧(0≤s'.2.2.2.2.1∧s'.2.2.2.2.1 < ((i + 1:Nat):Int))∧0≤s'.2.2.2.2.2∧s'.2.2.2.2.2 < ((i + 1:Nat):Int):=fun e a c hc h4=>by
    unfold fU
    cases decide (e.Hi < x2) with
    | true=>
     rw [cond_true,ej]
     exact ⟨_,rfl,rfl,rfl,hc,by dsimp only; omega,by dsimp only; omega⟩
    | false=>
     rw [cond_false,ej]
     exact ⟨_,rfl,rfl,rfl,hc,h4.1,h4.2⟩
   unfold eI
   dsimp only
   rw [sO hi,cond_true,getI_d s00 hi,Option.bind_some]
   have hb3:0≤x3∧x3 < ((i + 1:Nat):Int):=by
    rcases hw with ⟨rfl,hw⟩ | hw
    ·have:x3=0:=congrArg (fun p:Int × Int × Int × Int=>p.2.2.1) hw
     omega
    ·omega
   have hb4:0≤x4∧x4 < ((i + 1:Nat):Int):=by
    rcases hw with ⟨rfl,hw⟩ | hw
    ·have:x4=0:=congrArg (fun p:Int × Int × Int × Int=>p.2.2.2) hw
     omega
    ·omega
   by_cases c1:x2 < ((passes r).getD i s00).Lo
   ·rw [dT c1,cond_true]
    rcases hw with ⟨rfl,hw⟩ | ⟨h0,h3,h4⟩
    ·have:x2=((passes r).getD 0 s00).Hi:=congrArg (fun p:Int × Int × Int × Int=>p.2.1) hw
     omega
    ·obtain ⟨l',t1,t2,t3,t4⟩:=aAe (N:=N) (up:=false) hT hlt h4 hi (by omega)
     show ∃ s',Option.bind (fM N out ⟨x4,!false⟩ ⟨(i:Int),false⟩) _=_∧_
     rw [t1,Option.bind_some,ej]
     exact ⟨_,rfl,rfl,t2,t3,by dsimp only; omega,.inr ⟨by omega,by dsimp only; omega,by dsimp only; omega,by dsimp only; omega⟩⟩
   ·rw [dF c1,cond_false]
    by_cases c2:((passes r).getD i s00).Hi < x1
    ·rw [dT c2,cond_true]
     rcases hw with ⟨rfl,hw⟩ | ⟨h0,h3,h4⟩
     ·have:x1=((passes r).getD 0 s00).Lo:=congrArg (fun p:Int × Int × Int × Int=>p.1) hw
      omega
     ·obtain ⟨l',t1,t2,t3,t4⟩:=aAe (N:=N) (up:=true) hT hlt h3 hi (by omega)
      show ∃ s',Option.bind (fM N out ⟨x3,!true⟩ ⟨(i:Int),true⟩) _=_∧_
      rw [t1,Option.bind_some,ej]
      exact ⟨_,rfl,rfl,t2,t3,by dsimp only; omega,.inr ⟨by omega,by dsimp only; omega,by dsimp only; omega,by dsimp only; omega⟩⟩
    ·rw [dF c2,cond_false]
     cases decide (x1 < ((passes r).getD i s00).Lo) with
     | true=>
      rw [cond_true]
      obtain ⟨s',q1,q2,q3,q4,q5⟩:=ej27 ((passes r).getD i s00) ((passes r).getD i s00).Lo (i:Int) (by omega) hb4
      refine ⟨s',q1,q2,by rw [q3]; exact hT,by rw [q3]; exact hlt',by rw [q3]; omega,.inr ⟨by omega,q4,q5⟩⟩
     | false=>
      rw [cond_false]
      obtain ⟨s',q1,q2,q3,q4,q5⟩:=ej27 ((passes r).getD i s00) x1 x3 hb3 hb4
      refine ⟨s',q1,q2,by rw [q3]; exact hT,by rw [q3]; exact hlt',by rw [q3]; omega,.inr ⟨by omega,q4,q5⟩⟩)
  (by
   rintro ⟨out,x,x1,x2,x3,x4⟩ ⟨rfl,-⟩
   dsimp only
   unfold eI
   dsimp only
   rw [pZ,cond_false])
  (passes r).length 0 ([],0,((passes r).getD 0 s00).Lo,((passes r).getD 0 s00).Hi,0,0) N (by omega) (by omega)
  ⟨rfl,TOk.nil,fun t ht=>absurd ht (List.not_mem_nil),by simp,.inl ⟨rfl,rfl⟩⟩
 dsimp only at hT hlen
 refine ⟨out,?_,hT,by omega⟩
 show Option.bind (bC (fun s14:List aK × Int × Int × Int × Int × Int=>eI N (passes r,0) s14.1 s14.2.1 s14.2.2.1 s14.2.2.2.1 s14.2.2.2.2.1 s14.2.2.2.2.2) N ([],0,((passes r).getD 0 s00).Lo,((passes r).getD 0 s00).Hi,0,0)) _=_
 rw [l1]
 rfl
end Go.Nilo
namespace Go.Nilo
theorem yG {N i:Nat} {l:List aK} {g:Int} {up:Bool} (hl:l.length≤70) :
  ∃ l',fM N l ⟨g,!up⟩ ⟨(i:Int),up⟩=some l'∧((l=[]∧l'=[⟨g,!up⟩,⟨(i:Int),up⟩]) ∨ (0 < l.length∧(l.getD (l.length - 1) tn0).Up=up∧l'=l.set (l.length - 1) ⟨(i:Int),up⟩) ∨ (0 < l.length∧(l.getD (l.length - 1) tn0).Up ≠ up∧l'=l++[⟨(i:Int),up⟩])):=by
 unfold fM
 rcases Nat.eq_zero_or_pos l.length with h0 | h0
 ·obtain rfl:=List.length_eq_zero_iff.1 h0
  exact ⟨_,rfl,.inl ⟨rfl,rfl⟩⟩
 ·have e0:((((l.length:Nat):Int)) == 0)=false:=by rw [beq_eq_false_iff_ne]; omega
  rw [e0,cond_false,W_sm (n:=(l.length:Int) - 1) (by omega) (by omega),show (l.length:Int) - 1=((l.length - 1:Nat):Int) by omega,getI_d tn0 (by omega),Option.bind_some,Option.bind_some,Option.bind_some,beq_self_eq_true,Bool.true_and,Int.toNat_natCast]
  cases hu:((l.getD (l.length - 1) tn0).Up == up) with
  | true=>exact ⟨_,rfl,.inr (.inl ⟨h0,beq_iff_eq.1 hu,rfl⟩)⟩
  | false=>
   rw [cond_false,mX (by simp; omega),Option.bind_some]
   exact ⟨_,rfl,.inr (.inr ⟨h0,by rw [beq_eq_false_iff_ne] at hu; exact hu,rfl⟩)⟩

theorem xE {S:List aC} {l l':List aK}:∀ k,(∀ j,j < k→l.getD j tn0=l'.getD j tn0)→nG S l k=nG S l' k
 | 0,_=>rfl
 | k + 1,h=>by
  unfold nG
  by_cases h0:k=0
  ·rw [if_pos h0,if_pos h0]
  ·rw [if_neg h0,if_neg h0,xE k fun j hj=>h j (by omega)]
   unfold pO
   rw [h k (by omega),h (k - 1) (by omega)]
theorem yW (x:Int):∀ c:List Int,0 < c.length→move (c++[x])=move c + ap (c.getD (c.length - 1) 0) x:=by
 intro c hc
 have h:=vS (c:=c++[x]) (i:=c.length) (by omega) (by simp)
 rw [List.take_of_length_le (by simp),List.take_left] at h
 rw [h,lN (by omega),lO]
structure ZB (S:List aC) (i:Nat) (out:List aK) (p:Int):Prop where
 i0:0 < i
 n2:2≤out.length
 la:qM S (out.getD (out.length - 1) tn0)=p
 c:∃ c:List Int,c.length=i∧(∀ k,k < i→(S.getD k s00).Lo≤c.getD k 0∧c.getD k 0≤(S.getD k s00).Hi)∧c.getD (i - 1) 0=p∧move c=nG S out out.length
def ZI (S:List aC) (i:Nat) (out:List aK) (lo hi low high:Int):Prop :=
 (out=[]∧lo≤hi∧(∀ k,k < i→(S.getD k s00).Lo≤lo∧hi≤(S.getD k s00).Hi)∧(S.getD low.toNat s00).Lo=lo∧(S.getD high.toNat s00).Hi=hi) ∨ (lo=hi∧ZB S i out lo)
theorem ZB.jump {S:List aC} {i:Nat} {out l':List aK} {p q g:Int} {up:Bool} (hi:i < S.length) (hS:(S.getD i s00).Lo≤(S.getD i s00).Hi) (hq:qM S ⟨(i:Int),up⟩=q) (hd:up=false∧p≤q ∨ up=true∧q≤p)
  (h:(out=[]∧0 < i∧qM S ⟨g,!up⟩=p∧∀ k,k < i→(S.getD k s00).Lo≤p∧p≤(S.getD k s00).Hi) ∨ ZB S i out p)
  (hl:(out=[]∧l'=[⟨g,!up⟩,⟨(i:Int),up⟩]) ∨ (0 < out.length∧(out.getD (out.length - 1) tn0).Up=up∧l'=out.set (out.length - 1) ⟨(i:Int),up⟩) ∨ (0 < out.length∧(out.getD (out.length - 1) tn0).Up ≠ up∧l'=out++[⟨(i:Int),up⟩])) :
  ZB S (i + 1) l' q:=by
 have hin:(S.getD i s00).Lo≤q∧q≤(S.getD i s00).Hi:=by
  unfold qM at hq
  dsimp only at hq
  rw [Int.toNat_natCast] at hq
  cases up with
  | true=>rw [cond_true] at hq; omega
  | false=>rw [cond_false] at hq; omega
 have hap:ap p q=if up then p - q else q - p:=by
  unfold ap
  rcases hd with ⟨rfl,h⟩ | ⟨rfl,h⟩
  ·simp; omega
  ·simp; omega
 -- a course that goes on
 have hgo:∀ (c:List Int) (Z:Int),c.length=i→0 < i→(∀ k,k < i→(S.getD k s00).Lo≤c.getD k 0∧c.getD k 0≤(S.getD k s00).Hi)→c.getD (i - 1) 0=p→Z=move c + ap p q →
   ∃ c:List Int,c.length=i + 1∧(∀ k,k < i + 1→(S.getD k s00).Lo≤c.getD k 0∧c.getD k 0≤(S.getD k s00).Hi)∧c.getD (i + 1 - 1) 0=q∧move c=Z:=by
  intro c Z h1 h0 h2 h3 h4
  refine ⟨c++[q],by simp [h1],fun k hk=>?_,?_,?_⟩
  ·rcases Nat.lt_or_ge k i with h | h
   ·rw [lN (by omega)]; exact h2 k h
   ·have:k=c.length:=by omega
    rw [this,lO,h1]; exact hin
  ·have:i + 1 - 1=c.length:=by omega
   rw [this,lO]
  ·rw [yW q c (by omega),h1,h3,h4]
 rcases hl with ⟨rfl,rfl⟩ | ⟨h0,hu,rfl⟩ | ⟨h0,hu,rfl⟩
 ·rcases h with ⟨-,h0,h1,h2⟩ | h
  ·refine ⟨by omega,by simp,hq,?_⟩
   have hz:nG S [⟨g,!up⟩,⟨(i:Int),up⟩] 2=ap p q:=by
    show (if (1:Nat)=0 then (0:Int) else nG S [⟨g,!up⟩,⟨(i:Int),up⟩] 1 + pO S [⟨g,!up⟩,⟨(i:Int),up⟩] 1)=_
    rw [if_neg (by omega)]
    show (if (0:Nat)=0 then (0:Int) else _) + (bif up then qM S ⟨g,!up⟩ - qM S ⟨(i:Int),up⟩ else qM S ⟨(i:Int),up⟩ - qM S ⟨g,!up⟩)=_
    rw [if_pos rfl,h1,hq,hap]
    cases up <;> simp
   have hm:∀ n,move (List.replicate (n + 1) p)=0:=by
    intro n
    induction n with
    | zero=>rfl
    | succ n ih=>
     show ap p p + move (List.replicate (n + 1) p)=0
     rw [ih]
     unfold ap
     omega
   have hg:∀ k,k < i→(List.replicate i p).getD k 0=p:=fun k hk=>by simp [List.getD,hk]
   obtain ⟨i',rfl⟩:∃ i',i=i' + 1:=⟨i - 1,by omega⟩
   exact hgo (List.replicate (i' + 1) p) _ (by simp) (by omega) (fun k hk=>by rw [hg k hk]; exact h2 k hk) (hg _ (by omega)) (by rw [hm]; show nG S _ 2=_; rw [hz]; omega)
  ·have:=h.n2
   simp at this
 ·rcases h with ⟨rfl,-⟩ | h
  ·simp at h0
  ·obtain ⟨c,c1,c2,c3,c4⟩:=h.c
   have hn:=h.n2
   have hset:∀ j,(out.set (out.length - 1) (⟨(i:Int),up⟩:aK)).getD j tn0=if j=out.length - 1 then ⟨(i:Int),up⟩ else out.getD j tn0:=fun j=>by
    by_cases hj:j=out.length - 1
    ·subst hj
     rw [if_pos rfl,List.getD,List.getElem?_set_self (by omega)]
     rfl
    ·rw [if_neg hj]
     simp [List.getD,List.getElem?_set_ne (show out.length - 1 ≠ j by omega)]
   refine ⟨by omega,by rw [List.length_set]; exact hn,by rw [List.length_set,hset,if_pos rfl,hq],?_⟩
   refine hgo c _ c1 h.i0 c2 c3 ?_
   rw [List.length_set,c4]
   obtain ⟨m,hm⟩:∃ m,out.length=m + 2:=⟨out.length - 2,by omega⟩
   have hz:∀ l:List aK,nG S l (m + 2)=nG S l (m + 1) + pO S l (m + 1):=fun l=>by
    show (if m + 1=0 then (0:Int) else nG S l (m + 1) + pO S l (m + 1))=_
    rw [if_neg (by omega)]
   have hlast:out.getD (m + 1) tn0=out.getD (out.length - 1) tn0:=by rw [hm]; rfl
   have hla:=h.la
   have hzl:∀ l:List aK,nG S l out.length=nG S l (m + 1) + pO S l (m + 1):=fun l=>by rw [hm]; exact hz l
   have hzz:nG S (out.set (out.length - 1) (⟨(i:Int),up⟩:aK)) (m + 1)=nG S out (m + 1):=xE (m + 1) (fun j hj=>by rw [hset,if_neg (by omega)])
   rw [hzl,hzl,hzz]
   unfold pO
   rw [hset,hset,if_pos (show m + 1=out.length - 1 by omega),if_neg (show ¬ m + 1 - 1=out.length - 1 by omega),hlast,hu,hap,hla,hq]
   cases up
   ·simp; omega
   ·simp; omega
 ·rcases h with ⟨rfl,-⟩ | h
  ·simp at h0
  ·obtain ⟨c,c1,c2,c3,c4⟩:=h.c
   have hn:=h.n2
   refine ⟨by omega,by rw [List.length_append]; omega,?_,?_⟩
   ·rw [List.length_append]
    have:out.length + [(⟨(i:Int),up⟩:aK)].length - 1=out.length:=by simp
    rw [this,lO,hq]
   ·refine hgo c _ c1 h.i0 c2 c3 ?_
    rw [List.length_append,c4]
    show (if out.length=0 then (0:Int) else nG S (out++[⟨(i:Int),up⟩]) out.length + pO S (out++[⟨(i:Int),up⟩]) out.length)=_
    rw [if_neg (by omega),xE (l':=out) out.length (fun j hj=>lN hj)]
    unfold pO
    rw [lO,lN (by omega),h.la,hq,hap]
    dsimp only
    cases up <;> simp

theorem ZI.next {S:List aC} {i:Nat} {out:List aK} {lo hi low high:Int} (h:ZI S i out lo hi low high) (hi0:i < S.length) (hS:(S.getD i s00).Lo≤(S.getD i s00).Hi) (c1:¬ hi < (S.getD i s00).Lo) (c2:¬ (S.getD i s00).Hi < lo) (h0:i=0→out=[]) :
  ZI S (i + 1) out (if lo < (S.getD i s00).Lo then (S.getD i s00).Lo else lo) (if (S.getD i s00).Hi < hi then (S.getD i s00).Hi else hi) (if lo < (S.getD i s00).Lo then (i:Int) else low) (if (S.getD i s00).Hi < hi then (i:Int) else high):=by
 rcases h with ⟨rfl,h1,h2,h3,h4⟩ | ⟨rfl,h⟩
 ·refine .inl ⟨rfl,by split <;> split <;> omega,fun k hk=>?_,?_,?_⟩
  ·rcases Nat.lt_or_ge k i with h | h
   ·have:=h2 k h
    split <;> split <;> omega
   ·have:k=i:=by omega
    subst this
    split <;> split <;> omega
  ·split
   ·rw [Int.toNat_natCast]
   ·exact h3
  ·split
   ·rw [Int.toNat_natCast]
   ·exact h4
 ·rw [if_neg (by omega),if_neg (by omega)]
  refine .inr ⟨rfl,by omega,h.n2,h.la,?_⟩
  obtain ⟨c,k1,k2,k3,k4⟩:=h.c
  have hi1:=h.i0
  refine ⟨c++[lo],by simp [k1],fun k hk=>?_,?_,?_⟩
  ·rcases Nat.lt_or_ge k i with h | h
   ·rw [lN (by omega)]; exact k2 k h
   ·have:k=c.length:=by omega
    rw [this,lO,k1]; omega
  ·have:i + 1 - 1=c.length:=by omega
   rw [this,lO]
  ·rw [yW lo c (by omega),k1,k3,k4]
   unfold ap
   omega

theorem aD2 {N:Nat} (hN:700≤N) {r:aR} (hr:wE r) (h:(passes r).all lK=true):∃ z,jY N r=some (z,0)∧TOk (passes r).length z∧z.length≤60∧nG (passes r) z z.length=nF (passes r):=by
 obtain ⟨z,z1,z2,z3⟩:=aF1 hN hr h
 refine ⟨z,z1,z2,z3,?_⟩
 have hv:=sU hr h
 have hpl:(passes r).length=r.Gaugings.length:=by simp [passes]
 have h30:=hr.g30
 have h1:=hr.g1
 have hle:=aIx hv z2
 have hk:gY N r=some (.inr (passes r,0)):=by
  rcases sR hN hr with ⟨o,-,k⟩ | ⟨k,-⟩
  ·rw [h] at k
   cases k
  ·exact k
 have hspan:∀ i,i < (passes r).length→((passes r).getD i s00).Lo≤((passes r).getD i s00).Hi:=fun i hi=>(hv.at_ hi).2.1
 obtain ⟨⟨out,x,lo,hi,low,high⟩,l1,hx,hZ,-⟩:=jK (ρ:=List aK × Int) (fun s14:List aK × Int × Int × Int × Int × Int=>eI N (passes r,0) s14.1 s14.2.1 s14.2.2.1 s14.2.2.2.1 s14.2.2.2.2.1 s14.2.2.2.2.2)
  (fun i s=>s.2.1=(i:Int)∧ZI (passes r) i s.1 s.2.2.1 s.2.2.2.1 s.2.2.2.2.1 s.2.2.2.2.2∧s.1.length≤2 * i∧(i=0→s.2.2.1=((passes r).getD 0 s00).Lo∧s.2.2.2.1=((passes r).getD 0 s00).Hi)) (passes r).length (by
   rintro i ⟨out,x,lo,hi,low,high⟩ hi0 ⟨rfl,hZ,hlen,hw⟩
   dsimp only at hZ hlen hw ⊢
   have hs:=hspan i hi0
   have ej:∀ (o:List aK) (a b c d:Int),eH N (i:Int) o a b c d=some (.cont (o,((i + 1:Nat):Int),a,b,c,d)):=fun o a b c d=>by
    unfold eH
    rw [dQ (by omega)]
   unfold eI
   dsimp only
   rw [sO hi0,cond_true,getI_d s00 hi0,Option.bind_some]
   by_cases c1:hi < ((passes r).getD i s00).Lo
   ·have hi1:0 < i:=by
     rcases Nat.eq_zero_or_pos i with h | h
     ·subst h
      have:=(hw rfl).2
      omega
     ·exact h
    obtain ⟨l',t1,t2⟩:=yG (N:=N) (i:=i) (l:=out) (g:=high) (up:=false) (by omega)
    rw [dT c1,cond_true]
    show ∃ s',Option.bind (fM N out ⟨high,!false⟩ ⟨(i:Int),false⟩) _=_∧_
    rw [t1,Option.bind_some,ej]
    refine ⟨_,rfl,rfl,.inr ⟨rfl,ZB.jump (p:=hi) (g:=high) (up:=false) hi0 hs ?_ (.inl ⟨rfl,by dsimp only; omega⟩) ?_ t2⟩,?_,fun h=>by omega⟩
    ·unfold qM; dsimp only; rw [cond_false,Int.toNat_natCast]
    ·rcases hZ with ⟨rfl,a1,a2,a3,a4⟩ | ⟨rfl,hB⟩
     ·exact .inl ⟨rfl,hi1,a4,fun k hk=>by have:=a2 k hk; omega⟩
     ·exact .inr hB
    ·dsimp only
     rcases t2 with ⟨-,rfl⟩ | ⟨-,-,rfl⟩ | ⟨-,-,rfl⟩
     ·simp; omega
     ·rw [List.length_set]; omega
     ·rw [List.length_append]; simp; omega
   ·rw [dF c1,cond_false]
    by_cases c2:((passes r).getD i s00).Hi < lo
    ·have hi1:0 < i:=by
      rcases Nat.eq_zero_or_pos i with h | h
      ·subst h
       have:=(hw rfl).1
       omega
      ·exact h
     obtain ⟨l',t1,t2⟩:=yG (N:=N) (i:=i) (l:=out) (g:=low) (up:=true) (by omega)
     rw [dT c2,cond_true]
     show ∃ s',Option.bind (fM N out ⟨low,!true⟩ ⟨(i:Int),true⟩) _=_∧_
     rw [t1,Option.bind_some,ej]
     refine ⟨_,rfl,rfl,.inr ⟨rfl,ZB.jump (p:=lo) (g:=low) (up:=true) hi0 hs ?_ (.inr ⟨rfl,by dsimp only; omega⟩) ?_ t2⟩,?_,fun h=>by omega⟩
     ·unfold qM; dsimp only; rw [cond_true,Int.toNat_natCast]
     ·rcases hZ with ⟨rfl,a1,a2,a3,a4⟩ | ⟨rfl,hB⟩
      ·exact .inl ⟨rfl,hi1,a3,fun k hk=>by have:=a2 k hk; omega⟩
      ·exact .inr hB
     ·dsimp only
      rcases t2 with ⟨-,rfl⟩ | ⟨-,-,rfl⟩ | ⟨-,-,rfl⟩
      ·simp; omega
      ·rw [List.length_set]; omega
      ·rw [List.length_append]; simp; omega
    ·have hn:=hZ.next hi0 hs c1 c2 (fun h=>List.eq_nil_of_length_eq_zero (by omega))
     rw [dF c2,cond_false]
     by_cases c3:lo < ((passes r).getD i s00).Lo
     ·rw [dT c3,cond_true]
      unfold fU
      rw [if_pos c3,if_pos c3] at hn
      by_cases c4:((passes r).getD i s00).Hi < hi
      ·rw [if_pos c4,if_pos c4] at hn
       rw [dT c4,cond_true,ej]
       exact ⟨_,rfl,rfl,hn,by dsimp only; omega,fun h=>by omega⟩
      ·rw [if_neg c4,if_neg c4] at hn
       rw [dF c4,cond_false,ej]
       exact ⟨_,rfl,rfl,hn,by dsimp only; omega,fun h=>by omega⟩
     ·rw [dF c3,cond_false]
      unfold fU
      rw [if_neg c3,if_neg c3] at hn
      by_cases c4:((passes r).getD i s00).Hi < hi
      ·rw [if_pos c4,if_pos c4] at hn
       rw [dT c4,cond_true,ej]
       exact ⟨_,rfl,rfl,hn,by dsimp only; omega,fun h=>by omega⟩
      ·rw [if_neg c4,if_neg c4] at hn
       rw [dF c4,cond_false,ej]
       exact ⟨_,rfl,rfl,hn,by dsimp only; omega,fun h=>by omega⟩) (by
   rintro ⟨out,x,x1,x2,x3,x4⟩ ⟨rfl,-⟩
   dsimp only
   unfold eI
   dsimp only
   rw [pZ,cond_false])
  (passes r).length 0 ([],0,((passes r).getD 0 s00).Lo,((passes r).getD 0 s00).Hi,0,0) N (by omega) (by omega)
  ⟨rfl,.inl ⟨rfl,hspan 0 (by omega),fun k hk=>by omega,rfl,rfl⟩,by simp,fun _=>⟨rfl,rfl⟩⟩
 dsimp only at hZ
 have hz:z=out:=by
  unfold jY at z1
  rw [hk,Option.bind_some] at z1
  have z1':Option.bind (bQ (passes r) ((0:Nat):Int)) (fun e_1=>Option.bind (bC (fun s14:List aK × Int × Int × Int × Int × Int=>eI N (passes r,0) s14.1 s14.2.1 s14.2.2.1 s14.2.2.2.1 s14.2.2.2.2.1 s14.2.2.2.2.2) N ([],0,e_1.Lo,e_1.Hi,0,0)) fun x14=>exK x14 (fun s14=>some (s14.1,(0:Int))) some)=some (z,0):=z1
  rw [getI_d s00 (by omega),Option.bind_some,l1,Option.bind_some] at z1'
  have:=Option.some.inj z1'
  exact (congrArg Prod.fst this).symm
 rw [hz]
 rw [hz] at hle
 rcases hZ with ⟨rfl,a1,a2,a3,a4⟩ | ⟨rfl,hB⟩
 ·-- a course that stays
  have hc:Crs (passes r) (List.replicate (passes r).length lo):=Crs.of (by simp) fun i hi'=>by
   have:(List.replicate (passes r).length lo).getD i 0=lo:=by simp [List.getD,hi']
   rw [this]
   have:=a2 i hi'
   omega
  have hm:∀ n,move (List.replicate n lo)=0:=by
   intro n
   induction n with
   | zero=>rfl
   | succ n ih=>
    cases n with
    | zero=>rfl
    | succ n=>
     show ap lo lo + move (List.replicate (n + 1) lo)=0
     rw [ih]
     unfold ap
     omega
  have h2:=aBe hv hc
  rw [hm] at h2
  have h3:=aEp hv
  show (0:Int)=_
  omega
 ·obtain ⟨c,c1,c2,c3,c4⟩:=hB.c
  have h2:=aBe hv (Crs.of c1 c2)
  omega
end Go.Nilo
namespace Go.Nilo
theorem eK {σ ρ τ:Type} (s:σ) (f:σ→Option τ) (g:ρ→Option τ):exK (Ex.go s) f g=f s:=rfl
theorem aLw {a b:Int} (hb:0 < b):a≤(a + b - 1) / b * b:=by
 have h1:=Int.emod_add_mul_ediv (a + b - 1) b
 have h2:=Int.emod_lt_of_pos (a + b - 1) hb
 rw [Int.mul_comm b] at h1
 omega
def mfl (l:List aG) (a:Int):Int:=(fO l a).N / (fO l a).D
def mce (l:List aG) (a:Int):Int:=((fO l a).N + (fO l a).D - 1) / (fO l a).D
theorem aKs {l:List aG} (hl:ROk l) (a:Int):mfl l a * (fO l a).D≤(fO l a).N∧0≤mfl l a∧mfl l a≤1000000000:=by
 obtain ⟨a1,-,a3,-,-⟩:=vP hl a
 have h:=aHa hl a
 refine ⟨Int.ediv_mul_le _ (by omega),Int.ediv_nonneg a3 (by omega),?_⟩
 have:mfl l a < 1000000000 + 1:=by
  refine (Int.ediv_lt_iff_lt_mul (by omega)).2 ?_
  rw [Int.add_mul]
  omega
 omega
theorem aJv {l:List aG} (hl:ROk l) (a:Int):(fO l a).N≤mce l a * (fO l a).D∧0≤mce l a∧mce l a≤1000000001:=by
 obtain ⟨a1,-,a3,-,-⟩:=vP hl a
 have h:=aHa hl a
 refine ⟨aLw (by omega),Int.ediv_nonneg (by omega) (by omega),?_⟩
 have:mce l a < 1000000001 + 1:=by
  refine (Int.ediv_lt_iff_lt_mul (by omega)).2 ?_
  rw [Int.add_mul]
  omega
 omega
theorem aJ7 {N:Nat} (hN:700≤N) {r:aR} (hr:wE r) (h:(passes r).all lK=true) {c:List Int} (hc:Crs (passes r) c) (hb:∀ j,j < c.length→-300≤c.getD j 0∧c.getD j 0≤300):nV N r c=some (move c,0):=by
 have h30:=hr.g30
 have hlen:=hc.len
 have hpl:(passes r).length=r.Gaugings.length:=by simp [passes]
 unfold nV
 rcases sR hN hr with ⟨o,-,k⟩ | ⟨k,-⟩
 ·rw [h] at k
  cases k
 rw [k,Option.bind_some]
 show cond ((0:Int) != 0) _ (cond (((c.length:Nat):Int) != ((r.Gaugings.length:Nat):Int)) _ (Option.bind (bC (fun s19=>iG N c (passes r,0) s19.1 s19.2) N ((0:Int),((0:Nat):Int))) _))=_
 rw [bne_self_eq_false,cond_false,hlen,hpl,bne_self_eq_false,cond_false]
 have e0:(0:Int)=move (c.take 0):=rfl
 rw [e0]
 rw [aEb (ρ:=Int × Int) (fun i:Nat=>(move (c.take i),(i:Int))) c.length _ (fun i hi=>by
  show iG N c (passes r,0) (move (c.take i)) (i:Int)=_
  unfold iG
  have h1:=hc.at_ i (by omega)
  have h2:=wQ hb i (by omega)
  have h3:=wQ hb (i + 1) (by omega)
  show cond (decide ((i:Int) < (((passes r).length:Nat):Int))) (Option.bind (bQ (passes r) (i:Int)) _) _=_
  rw [sO (by omega),cond_true,getI_d s00 (by omega),Option.bind_some,getI_d 0 hi,Option.bind_some,aD8,dT h1]
  show cond (decide ((0:Int) < (i:Int))) _ _=_
  rcases Nat.eq_zero_or_pos i with hz | hz
  ·subst hz
   rw [dF (by omega),cond_false]
   unfold jR
   rw [dQ (by omega)]
   have:move (c.take (0 + 1))=move (c.take 0):=by
    cases c with
    | nil=>rfl
    | cons x c=>rfl
   rw [this]
  ·have b1:=hb i hi
   have b2:=hb (i - 1) (by omega)
   have hs:=vS hz hi
   rw [dT (by omega),cond_true,W_sm (n:=(i:Int) - 1) (by omega) (by omega),show (i:Int) - 1=((i - 1:Nat):Int) by omega,Option.bind_some,getI_d 0 (by omega),Option.bind_some,aCf hN (by omega) (by omega),Option.bind_some,aAx,← hs,W_sm (n:=move (c.take (i + 1))) (by omega) (by omega)]
   unfold jR
   rw [dQ (by omega)]) (by
  show iG N c (passes r,0) (move (c.take c.length)) ((c.length:Nat):Int)=_
  unfold iG
  show cond (decide (((c.length:Nat):Int) < (((passes r).length:Nat):Int))) _ _=_
  rw [dF (by omega),cond_false]) (N:=N) (by omega),Option.bind_some,eK,List.take_length]

end Go.Nilo
namespace Go.Nilo
theorem aGl:rU 700=some true:=by decide +kernel
end Go.Nilo
namespace Go.Nilo
def rt2 (F:Int):List aG:=[⟨-500,0⟩,⟨500,F⟩]
theorem aGg {F:Int} (h:2000≤F∧F≤2499):ROk (rt2 F):=by
 refine ⟨by simp [rt2],by simp [rt2],fun i hi=>?_,fun i hi=>?_,fun i hi=>?_,fun i hi=>?_⟩ <;> simp [rt2] at hi
 ·rcases (show i=0 ∨ i=1 by omega) with rfl | rfl <;> simp [rt2]
 ·rcases (show i=0 ∨ i=1 by omega) with rfl | rfl <;> simp [rt2] <;> omega
 ·obtain rfl:i=0:=by omega
  simp [rt2]
 ·obtain rfl:i=0:=by omega
  simp [rt2]; omega

def pT (when sank d:Int):Int:=if when≤d then sank else 0
structure GJ (F when sank:Int) (k0:Nat) (i:Nat) (course:List Int) (d u m:Int) (gs:List aJ):Prop where
 lc:course.length=i
 lg:gs.length=i
 db:2 * (i:Int)≤d∧d≤48
 d0:i=0→d≤2
 g:∀ j,j < i→aEi (gs.getD j g0)∧(gs.getD j g0).Day < d∧jN (rt2 F) (gs.getD j g0) (course.getD j 0)=true∧course.getD j 0=pT when sank (gs.getD j g0).Day
 up:∀ j,j + 1 < i→(gs.getD j g0).Day < (gs.getD (j + 1) g0).Day
 mv:move course≤(if i=0 then 0 else course.getD (i - 1) 0)
 st:SOk u m (k0 + 10 * i)

theorem SOk.mono1 {u m:Int} {k k':Nat} (h:SOk u m k) (hk:k≤k'):SOk u m k':=⟨h.u0,by have:=h.u1; omega,h.m0,h.m1⟩
theorem GJ.next {F when sank:Int} {k0 i:Nat} {course:List Int} {d u m u' m' a:Int} {gs:List aJ} {g:aJ} (h:GJ F when sank k0 i course d u m gs) (hs0:0≤sank∧sank≤79) (hd:d < 40) (ha:2≤a∧a≤8 + 1) (hg:aEi g) (hgd:g.Day=d) (hp:jN (rt2 F) g (pT when sank d)=true) (hs:SOk u' m' (k0 + 10 * (i + 1))) (hd48:d + a≤48) :
  GJ F when sank k0 (i + 1) (course++[pT when sank d]) (d + a) u' m' (gs++[g]):=by
 obtain ⟨h1,h2,h3,h3',h4,h5,h6,h7⟩:=h
 have hlt:∀ j,j < i→(gs++[g]).getD j g0=gs.getD j g0∧(course++[pT when sank d]).getD j 0=course.getD j 0:=fun j hj=>⟨lN (by omega),lN (by omega)⟩
 have heq:(gs++[g]).getD i g0=g∧(course++[pT when sank d]).getD i 0=pT when sank d:=by
  constructor
  ·have:=lO (l:=gs) (x:=g) (d:=g0)
   rwa [h2] at this
  ·have:=lO (l:=course) (x:=pT when sank d) (d:=(0:Int))
   rwa [h1] at this
 refine ⟨by simp [h1],by simp [h2],by push_cast; omega,fun h=>by omega,fun j hj=>?_,fun j hj=>?_,?_,hs⟩
 ·rcases Nat.lt_or_eq_of_le (show j≤i by omega) with c | c
  ·rw [(hlt j c).1,(hlt j c).2]
   obtain ⟨k1,k2,k3,k4⟩:=h4 j c
   exact ⟨k1,by omega,k3,k4⟩
  ·subst c
   rw [heq.1,heq.2,hgd]
   exact ⟨hg,by omega,hp,rfl⟩
 ·have c:j < i:=by omega
  rw [(hlt j c).1]
  rcases Nat.lt_or_eq_of_le (show j + 1≤i by omega) with e | e
  ·rw [(hlt _ e).1]
   exact h5 j e
  ·rw [e,heq.1,hgd]
   exact (h4 j c).2.1
 ·rw [if_neg (by omega),show i + 1 - 1=i from rfl,heq.2]
  rcases Nat.eq_zero_or_pos i with h0 | h0
  ·subst h0
   have:course=[]:=List.eq_nil_of_length_eq_zero h1
   subst this
   show move [pT when sank d]≤_
   show (0:Int)≤_
   unfold pT
   split <;> omega
  ·rw [if_neg (by omega)] at h6
   rw [yW _ _ (by omega),h1]
   obtain ⟨k1,k2,k3,k4⟩:=h4 (i - 1) (by omega)
   have:course.getD (i - 1) 0≤pT when sank d:=by
    rw [k4]
    unfold pT
    split <;> split <;> omega
   unfold ap
   omega

theorem aJy {F stage now day n1 n2:Int} (hF:2000≤F∧F≤2499) (hst : -90≤stage∧stage≤150) (hnow:0≤now∧now≤79) (hd:0≤day∧day≤48) (h1:0≤n1∧n1≤5) (h2:0≤n2∧n2≤5) :
  let q:=fO (rt2 F) stage
  let g:aJ:=⟨day,stage + now,⟨max 0 (q.N / q.D - n1),(q.N + q.D - 1) / q.D + n2⟩⟩
  (1≤q.D∧q.D≤4000∧0≤q.N∧q.N≤2499 * q.D)∧aEi g∧jN (rt2 F) g now=true:=by
 have hr:=aGg hF
 obtain ⟨a1,a2,a3,a4,-⟩:=vP hr stage
 have hhi:=Val.hi hr (by omega) a4 (j:=1) (by simp [rt2]) (by simp [mS,rt2]; omega)
 have hmF:mF (rt2 F) 1=F:=rfl
 rw [hmF] at hhi
 have hND:(fO (rt2 F) stage).N≤2499 * (fO (rt2 F) stage).D:=by
  have:=Int.mul_le_mul_of_nonneg_right hF.2 (show 0≤(fO (rt2 F) stage).D by omega)
  omega
 obtain ⟨b1,b2,-⟩:=aKs hr stage
 obtain ⟨c1,c2,-⟩:=aJv hr stage
 unfold mfl at b1 b2
 unfold mce at c1 c2
 have hce:((fO (rt2 F) stage).N + (fO (rt2 F) stage).D - 1) / (fO (rt2 F) stage).D≤2499:=by
  have:((fO (rt2 F) stage).N + (fO (rt2 F) stage).D - 1) / (fO (rt2 F) stage).D < 2500:=by
   apply Int.ediv_lt_of_lt_mul (by omega)
   omega
  omega
 have hfc:(fO (rt2 F) stage).N / (fO (rt2 F) stage).D≤((fO (rt2 F) stage).N + (fO (rt2 F) stage).D - 1) / (fO (rt2 F) stage).D:=Int.ediv_le_ediv (by omega) (by omega)
 dsimp only
 refine ⟨⟨a1,a2,a3,hND⟩,⟨by dsimp only; omega,by dsimp only; omega,by dsimp only; omega⟩,?_⟩
 unfold jN
 dsimp only
 rw [show stage + now - now=stage by omega,Bool.and_eq_true,decide_eq_true_eq,decide_eq_true_eq]
 generalize (fO (rt2 F) stage).N=n at *
 generalize (fO (rt2 F) stage).D=dd at *
 constructor
 ·rcases Int.le_total 0 (n / dd - n1) with h | h
  ·rw [Int.max_eq_right h]
   have:=Int.mul_le_mul_of_nonneg_right (show n / dd - n1≤n / dd by omega) (show 0≤dd by omega)
   omega
  ·rw [Int.max_eq_left h,Int.zero_mul]; exact a3
 ·have:=Int.mul_le_mul_of_nonneg_right (show (n + dd - 1) / dd≤(n + dd - 1) / dd + n2 by omega) (show 0≤dd by omega)
  omega

theorem aLj {bs:List Int} (hb:aAc bs) {by_ day when sank x:Int} (hwhen:W (1 + (W day).tmod 29)=when) (hsank:(W by_).tmod 80=sank) (hs0:0≤sank∧sank≤79) (hx:0≤x∧x≤499) {r5:Int × Int × Int} (hr5:r5.1=x) {d0 u m:Int} (hd0:0≤d0∧d0≤2) {k:Nat} (hst:SOk u m k) (hk:k≤100000) :
  ∃ s:List Int × Int × Int × Int × List aJ,bC (fun s18:List Int × Int × Int × Int × List aJ=>eY 700 bs by_ day r5 s18.1 s18.2.1 s18.2.2.1 s18.2.2.2.1 s18.2.2.2.2) 700 (([]:List Int),d0,u,m,([]:List aJ))=some (.go s) ∧
   ∃ i d u' m',1≤i∧i≤24∧GJ (2000 + x) when sank k i s.1 d u' m' s.2.2.2.2:=by
 have hN:700≤700:=by omega
 have hW:W (2000 + x)=2000 + x:=W_sm (by omega) (by omega)
 have hrt:([(⟨(-500),0⟩:aG),(⟨500,W (2000 + r5.1)⟩:aG)]:List aG)=rt2 (2000 + x):=by rw [hr5,hW]; rfl
 have hex:∀ s:List Int × Int × Int × Int × List aJ,(∃ i,GJ (2000 + x) when sank k i s.1 s.2.1 s.2.2.1 s.2.2.2.1 s.2.2.2.2) →
   (∃ s',(fun s18:List Int × Int × Int × Int × List aJ=>eY 700 bs by_ day r5 s18.1 s18.2.1 s18.2.2.1 s18.2.2.2.1 s18.2.2.2.2) s=some (.brk s')∧∃ i d u' m',1≤i∧i≤24∧GJ (2000 + x) when sank k i s'.1 d u' m' s'.2.2.2.2) ∨
   (∃ s',(fun s18:List Int × Int × Int × Int × List aJ=>eY 700 bs by_ day r5 s18.1 s18.2.1 s18.2.2.1 s18.2.2.2.1 s18.2.2.2.2) s=some (.cont s')∧(∃ i,GJ (2000 + x) when sank k i s'.1 s'.2.1 s'.2.2.1 s'.2.2.2.1 s'.2.2.2.2)∧48 - s'.2.1.toNat < 48 - s.2.1.toNat):=by
  rintro ⟨course,d,u,m,gs⟩ ⟨i,h⟩
  dsimp only at h ⊢
  have hd:=h.db
  by_cases hd40:d < 40
  ·right
   obtain ⟨stage,v1,n1,e1,e2,e3,e4⟩:=nS (N:=700) hb (lo:=-90) (hi:=150) h.st (by omega) (by omega) (by omega) (by omega)
   obtain ⟨p1,v2,n2,f1,f2,f3,f4⟩:=mH (N:=700) hb (n:=6) e4 (by omega)
   obtain ⟨p2,v3,n3,k1,k2,k3,k4⟩:=mH (N:=700) hb (n:=6) f4 (by omega)
   obtain ⟨a,v4,n4,q1,q2,q3,q4⟩:=nS (N:=700) hb (lo:=2) (hi:=9) k4 (by omega) (by omega) (by omega) (by omega)
   have hF:2000≤2000 + x∧2000 + x≤2499:=by omega
   have hnow:0≤pT when sank d∧pT when sank d≤79:=by unfold pT; split <;> omega
   obtain ⟨⟨g1,g2,g3,g4⟩,g5,g6⟩:=aJy (F:=2000 + x) (stage:=stage) (now:=pT when sank d) (day:=d) (n1:=p1) (n2:=p2) hF ⟨e2,e3⟩ hnow ⟨by omega,by omega⟩ ⟨by omega,by omega⟩ ⟨by omega,by omega⟩
   have hM:=aJ2 hN (aGg hF) (at_:=stage) (sh:=0) ⟨by omega,by omega⟩ ⟨by omega,by omega⟩
   rw [Int.sub_zero] at hM
   have hgf:=g5.f
   have hnext:=h.next (a:=a) hs0 hd40 ⟨q2,by omega⟩ g5 rfl g6 (SOk.mono1 q4 (by omega)) (by omega)
   have hj:iW 700 bs r5 course d u m gs (pT when sank d)=some (.cont (course++[pT when sank d],d + a,v4,n4,gs++[⟨d,stage + pT when sank d,⟨max 0 ((fO (rt2 (2000 + x)) stage).N / (fO (rt2 (2000 + x)) stage).D - p1),((fO (rt2 (2000 + x)) stage).N + (fO (rt2 (2000 + x)) stage).D - 1) / (fO (rt2 (2000 + x)) stage).D + p2⟩⟩])):=by
    unfold iW
    rw [hrt,e1,Option.bind_some]
    dsimp only
    rw [hM,Option.bind_some]
    dsimp only at hgf ⊢
    generalize (fO (rt2 (2000 + x)) stage).N=n at *
    generalize (fO (rt2 (2000 + x)) stage).D=dd at *
    have hnz:nz dd=some ():=by unfold nz; rw [if_neg (by omega)]
    have hfl0:0≤n / dd:=Int.ediv_nonneg (by omega) (by omega)
    have hfl1:n / dd≤(n + dd - 1) / dd:=Int.ediv_le_ediv (by omega) (by omega)
    rw [bne_self_eq_false,dF (show ¬ dd < 1 by omega),Bool.or_false,cond_false,hnz,Option.bind_some,f1,Option.bind_some]
    dsimp only
    rw [Option.bind_some,k1,Option.bind_some]
    dsimp only
    rw [uV (show 0≤n by omega),W_sm (n:=stage + pT when sank d) (by omega) (by omega),W_sm (n:=n / dd) (by omega) (by omega),W_sm (n:=n / dd - p1) (by omega) (by omega),W_sm (n:=n + dd) (by omega) (by omega),W_sm (n:=n + dd - 1) (by omega) (by omega),uV (show 0≤n + dd - 1 by omega),W_sm (n:=(n + dd - 1) / dd) (by omega) (by omega),W_sm (n:=(n + dd - 1) / dd + p2) (by omega) (by omega)]
    have hlc:=h.lc
    have hlg:=h.lg
    rw [mX (by rw [List.length_append]; simp; omega),Option.bind_some,mX (by rw [List.length_append]; simp; omega),Option.bind_some,q1,Option.bind_some]
    dsimp only
    rw [W_sm (n:=d + a) (by omega) (by omega)]
   refine ⟨(course++[pT when sank d],d + a,v4,n4,gs++[⟨d,stage + pT when sank d,⟨max 0 ((fO (rt2 (2000 + x)) stage).N / (fO (rt2 (2000 + x)) stage).D - p1),((fO (rt2 (2000 + x)) stage).N + (fO (rt2 (2000 + x)) stage).D - 1) / (fO (rt2 (2000 + x)) stage).D + p2⟩⟩]),?_,⟨i + 1,hnext⟩,?_⟩
   ·unfold eY
    rw [hwhen,hsank,dT hd40,cond_true]
    by_cases hw:when≤d
    ·have:pT when sank d=sank:=if_pos hw
     rw [this] at hj
     rw [dT hw,cond_true,hj,this]
    ·have:pT when sank d=0:=if_neg hw
     rw [this] at hj
     rw [dF hw,cond_false,hj,this]
   ·dsimp only
    omega
  ·left
   refine ⟨(course,d,u,m,gs),?_,i,d,u,m,?_,by omega,h⟩
   ·unfold eY
    rw [dF hd40,cond_false]
   ·rcases Nat.eq_zero_or_pos i with h0 | h0
    ·have:=h.d0 h0
     omega
    ·exact h0
 have hloop:∀ (M:Nat) (s:List Int × Int × Int × Int × List aJ),(∃ i,GJ (2000 + x) when sank k i s.1 s.2.1 s.2.2.1 s.2.2.2.1 s.2.2.2.2)→48 - s.2.1.toNat < M→∃ s',bC (fun s18:List Int × Int × Int × Int × List aJ=>eY 700 bs by_ day r5 s18.1 s18.2.1 s18.2.2.1 s18.2.2.2.1 s18.2.2.2.2) M s=some (.go s')∧∃ i d u' m',1≤i∧i≤24∧GJ (2000 + x) when sank k i s'.1 d u' m' s'.2.2.2.2:=by
  intro M
  induction M with
  | zero=>intro s _ h; omega
  | succ M ih=>
   intro s hs hm
   rw [bC]
   rcases hex s hs with ⟨s',k1,k2⟩ | ⟨s',k1,k2,k3⟩
   ·dsimp only at k1 ⊢
    rw [k1]
    exact ⟨s',rfl,k2⟩
   ·dsimp only at k1 ⊢
    rw [k1]
    exact ih s' k2 (by omega)
 exact hloop 700 _ ⟨0,rfl,rfl,by dsimp only; omega,fun _=>hd0.2,fun j hj=>by omega,fun j hj=>by omega,by show (0:Int)≤0; omega,SOk.mono1 hst (by omega)⟩ (by dsimp only; omega)
end Go.Nilo
