/-
  What the plain functions compute, in plain arithmetic, part 5. Conditions: what each theorem names.
-/
import Derived.Test.YtofihdjdhecfdaaGreatDrL4
set_option linter.unusedSimpArgs false
set_option linter.unusedVariables false
namespace Go.Nilo
def pE (l:List aE) (at_:Int):Nat:=l.findIdx fun m=>gG m at_
def bB (l:List aE) (at_:Int):eE :=
 if at_≤mS l 0 then ⟨mF l 0,1⟩ else if mS l (l.length - 1)≤at_ then ⟨mF l (l.length - 1),1⟩
 else red (mF l (pE l at_ - 1) * (mS l (pE l at_) - mS l (pE l at_ - 1)) + (mF l (pE l at_) - mF l (pE l at_ - 1)) * (at_ - mS l (pE l at_ - 1))) (mS l (pE l at_) - mS l (pE l at_ - 1))
theorem aCd {l:List aE} (hl:ROk l) {at_:Int} (h0:mS l 0 < at_) (h1:at_ < mS l (l.length - 1)):1≤pE l at_∧pE l at_ < l.length∧mS l (pE l at_ - 1)≤at_∧at_ < mS l (pE l at_):=by
 have hlen:=hl.l2
 have hlt:pE l at_ < l.length:=by
  refine List.findIdx_lt_length.2 ⟨l.getD (l.length - 1) mk0,?_,?_⟩
  ·rw [← cF (by omega)]
   exact List.getElem_mem _
  ·exact dT h1
 have hg:at_ < mS l (pE l at_):=by
  have:gG (l[pE l at_]'hlt) at_=true:=List.findIdx_getElem (w:=hlt)
  rw [cF (d:=mk0) hlt] at this
  exact of_decide_eq_true this
 have hpos:1≤pE l at_:=by
  rcases Nat.eq_zero_or_pos (pE l at_) with h | h
  ·rw [h] at hg
   omega
  ·exact h
 refine ⟨hpos,hlt,?_,hg⟩
 have:=List.not_of_lt_findIdx (p:=fun m=>gG m at_) (xs:=l) (i:=pE l at_ - 1) (show pE l at_ - 1 < pE l at_ by omega)
 rw [cF (d:=mk0) (by omega)] at this
 have h2:¬ at_ < mS l (pE l at_ - 1):=fun hc=>by
  rw [show gG (l.getD (pE l at_ - 1) mk0) at_=true from dT hc] at this
  simp at this
 omega
theorem aFr {l:List aE} (hl:ROk l) {i:Nat} (h1:1≤i) (hi:i < l.length):0 < mS l i - mS l (i - 1)∧mS l i - mS l (i - 1)≤4000∧0≤mF l (i - 1)∧mF l (i - 1) < mF l i∧mF l i≤1000000000∧-2000≤mS l (i - 1)∧mS l i≤2000:=by
 have a:=hl.slt (show i - 1 < i by omega) hi
 have b:=hl.st (i - 1) (by omega)
 have c:=hl.st i hi
 have d:=hl.fl (i - 1) (by omega)
 have e:=hl.fl i hi
 simp only [mS,mF] at *
 omega
theorem aFo {w F G x:Int} (hw:0 < w∧w≤4000) (hF:0≤F∧F≤G∧G≤1000000000) (hx:0≤x∧x≤w):0≤F * w∧F * w≤4000000000000∧0≤(G - F) * x∧(G - F) * x≤4000000000000:=by
 have h1:=yM hF.1 (by omega:0≤w) (show F≤1000000000 by omega) hw.2
 have h2:=yM (show 0≤G - F by omega) hx.1 (show G - F≤1000000000 by omega) (show x≤4000 by omega)
 omega
theorem gO {l:List aE} (hl:ROk l) (at_:Int):1≤(bB l at_).D∧(bB l at_).D≤4000∧0≤(bB l at_).N∧Val l at_ (bB l at_).N (bB l at_).D∧red (bB l at_).N (bB l at_).D=bB l at_:=by
 have hlen:=hl.l2
 have f0:=hl.fl 0 (by omega)
 have f1:=hl.fl (l.length - 1) (by omega)
 unfold bB
 split
 ·exact ⟨by simp,by simp,f0.1,.inl ⟨by assumption,by simp⟩,aGl f0.1⟩
 ·split
  ·exact ⟨by simp,by simp,f1.1,.inr (.inl ⟨by assumption,by simp⟩),aGl f1.1⟩
  ·obtain ⟨s1,s2,s3,s4⟩:=aCd hl (at_:=at_) (by omega) (by omega)
   generalize pE l at_=i at *
   have hb:=aFr hl s1 s2
   have hlb:=aFo (w:=mS l i - mS l (i - 1)) (F:=mF l (i - 1)) (G:=mF l i) (x:=at_ - mS l (i - 1)) (by omega) (by omega) (by omega)
   obtain ⟨r1,r2,r3,r4,r5⟩:=aEh (n:=mF l (i - 1) * (mS l i - mS l (i - 1)) + (mF l i - mF l (i - 1)) * (at_ - mS l (i - 1))) (d:=mS l i - mS l (i - 1)) (by omega) (by omega)
   refine ⟨r1,by omega,r3,.inr (.inr ⟨i - 1,by omega,s3,?_,?_⟩),aIh (by omega) (by omega)⟩
   ·rw [Nat.sub_add_cancel s1]
    omega
   ·rw [Nat.sub_add_cancel s1]
    exact r5
theorem aCn {l:List aE} (hl:ROk l) {a b:Int} (h:a≤b):(bB l a).N * (bB l b).D≤(bB l b).N * (bB l a).D:=by
 obtain ⟨a1,-,-,a2,-⟩:=gO hl a
 obtain ⟨b1,-,-,b2,-⟩:=gO hl b
 exact a2.mono hl (by omega) (by omega) b2 h
theorem aAb {l:List aE} (hl:ROk l) (a:Int):(bB l a).N≤1000000000 * (bB l a).D:=by
 have hlen:=hl.l2
 obtain ⟨a1,-,-,a2,-⟩:=gO hl a
 have f1:=hl.fl (l.length - 1) (by omega)
 have hm:(bB l a).N≤mF l (l.length - 1) * (bB l a).D:=by
  rcases Int.lt_or_le (mS l (l.length - 1)) a with h | h
  ·rcases a2 with ⟨h1,h2⟩ | ⟨h1,h2⟩ | ⟨i,hi,h1,h2,h3⟩
   ·have:=hl.mon (Nat.zero_le (l.length - 1)) (by omega)
    omega
   ·omega
   ·have:=hl.mon (show i + 1≤l.length - 1 by omega) (by omega)
    omega
  ·exact a2.hi hl (by omega) (by omega) h
 have:mF l (l.length - 1) * (bB l a).D≤1000000000 * (bB l a).D:=gW f1.2 (by omega)
 omega
theorem tJ {N:Nat} (hN:700≤N) {l:List aE} (hl:ROk l) {at_:Int} (hb : -1000000≤at_∧at_≤1000000):iX N l at_=some (bB l at_):=by
 have hlen:=hl.l2
 have hlen':=hl.l12
 unfold iX bB
 rw [W_sm (n:=(l.length:Int) - 1) (by omega) (by omega),show ((l.length:Nat):Int) - 1=((l.length - 1:Nat):Int) by omega,getI_d mk0 (by omega),Option.bind_some,show (0:Int)=((0:Nat):Int) from rfl,getI_d mk0 (by omega),Option.bind_some,Option.bind_some]
 show cond (decide (at_≤mS l 0)) (some (⟨mF l 0,1⟩:eE)) (cond (decide (mS l (l.length - 1)≤at_)) (some (⟨mF l (l.length - 1),1⟩:eE)) _)=_
 by_cases h0:at_≤mS l 0
 ·rw [dT h0,cond_true,if_pos h0]
 rw [dF h0,cond_false,if_neg h0]
 by_cases h1:mS l (l.length - 1)≤at_
 ·rw [dT h1,cond_true,if_pos h1]
 rw [dF h1,cond_false,if_neg h1]
 obtain ⟨s1,s2,s3,s4⟩:=aCd hl (at_:=at_) (by omega) (by omega)
 have hidx:bN N l at_=some ((pE l at_:Nat):Int):=by
  unfold bN
  rcases aCb (fun m=>gG m at_) l (by omega) (fun s4=>cW N l at_ s4) (fun x=>rfl) l.length 0 N (by omega) (by omega) (fun j _ hj=>absurd hj (by omega)) with ⟨-,k⟩ | ⟨k,-⟩
  ·rw [show (0:Int)=((0:Nat):Int) from rfl,k]
   rfl
  ·unfold pE at s2
   omega
 rw [hidx,Option.bind_some]
 generalize pE l at_=i at *
 have hb':=aFr hl s1 s2
 have hlb:=aFo (w:=mS l i - mS l (i - 1)) (F:=mF l (i - 1)) (G:=mF l i) (x:=at_ - mS l (i - 1)) (by omega) (by omega) (by omega)
 rw [W_sm (n:=(i:Int) - 1) (by omega) (by omega),show ((i:Nat):Int) - 1=((i - 1:Nat):Int) by omega,getI_d mk0 (by omega),Option.bind_some,getI_d mk0 (by omega),Option.bind_some]
 unfold oL
 show Option.bind (Option.bind (mU N (W ((W (mF l (i - 1) * (W (mS l i - mS l (i - 1))))) + (W ((W (mF l i - mF l (i - 1))) * (W (at_ - mS l (i - 1))))))) (W (mS l i - mS l (i - 1)))) some) some=_
 rw [W_sm (n:=mS l i - mS l (i - 1)) (by omega) (by omega),W_sm (n:=mF l i - mF l (i - 1)) (by omega) (by omega),W_sm (n:=at_ - mS l (i - 1)) (by omega) (by omega),W_sm (n:=mF l (i - 1) * (mS l i - mS l (i - 1))) (by omega) (by omega),W_sm (n:=(mF l i - mF l (i - 1)) * (at_ - mS l (i - 1))) (by omega) (by omega),W_sm (by omega) (by omega),aEu hN (by omega) (by omega) (by omega) (by omega)]
 rfl
theorem aEx {N:Nat} (hN:700≤N) {l:List aE} (hl:l.length≤50) {at_ sh:Int}:jB N l at_ sh=some (if aDn l at_ sh=0 then (bB l (at_ - sh),0) else (⟨0,0⟩,aDn l at_ sh)):=by
 unfold jB
 rw [aE7 hN hl,Option.bind_some]
 by_cases h:aDn l at_ sh=0
 ·obtain ⟨h1,h2,h3⟩:=aCt.1 h
  rw [if_pos h,h,W_sm (by omega) (by omega),tJ hN h1 (by omega)]
  rfl
 ·have:(aDn l at_ sh != 0)=true:=by simp [h]
  rw [if_neg h,this]
  rfl
theorem aDx {N:Nat} (hN:700≤N) {l:List aE} (hl:ROk l) {at_ sh:Int} (h1 : -2000≤at_∧at_≤2000) (h2 : -300≤sh∧sh≤300):jB N l at_ sh=some (bB l (at_ - sh),0):=by
 rw [aEx hN (by have:=hl.l12; omega),if_pos (aCt.2 ⟨hl,h1,h2⟩)]
end Go.Nilo
