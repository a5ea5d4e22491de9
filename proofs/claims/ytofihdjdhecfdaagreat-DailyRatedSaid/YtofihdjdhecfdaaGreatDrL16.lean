/-
  What the plain functions compute, in plain arithmetic, part 16. Conditions: what each theorem names.
-/
import Derived.Test.YtofihdjdhecfdaaGreatDrL15
set_option linter.unusedSimpArgs false
set_option linter.unusedVariables false
namespace Go.Nilo
theorem eK {σ ρ τ:Type} (s:σ) (f:σ→Option τ) (g:ρ→Option τ):exK (Ex.go s) f g=f s:=rfl
theorem aLe {a b a' b':Int} (hb:0 < b) (hb':0 < b') (h:a * b'≤a' * b):a / b≤a' / b':=by
 have h1:a / b * b≤a:=Int.ediv_mul_le a (by omega)
 refine (Int.le_ediv_iff_mul_le hb').2 ?_
 refine Int.le_of_mul_le_mul_right ?_ hb
 have h2:=Int.mul_le_mul_of_nonneg_right h1 (show 0≤b' by omega)
 have e:a / b * b * b'=a / b * b' * b:=by rw [Int.mul_assoc,Int.mul_comm b b',← Int.mul_assoc]
 rw [e] at h2
 omega
theorem aGb {a b:Int} (hb:0 < b):a≤(a + b - 1) / b * b:=by
 have h1:=Int.emod_add_mul_ediv (a + b - 1) b
 have h2:=Int.emod_lt_of_pos (a + b - 1) hb
 rw [Int.mul_comm b] at h1
 omega
theorem aJq {a b a' b':Int} (hb:0 < b) (hb':0 < b') (h:a * b'≤a' * b):(a + b - 1) / b≤(a' + b' - 1) / b':=by
 have h1:=aGb (a:=a') hb'
 generalize (a' + b' - 1) / b'=q at *
 have h2:a≤q * b:=by
  refine Int.le_of_mul_le_mul_right ?_ hb'
  have h3:=Int.mul_le_mul_of_nonneg_right h1 (show 0≤b by omega)
  have e:q * b' * b=q * b * b':=by rw [Int.mul_assoc,Int.mul_comm b' b,← Int.mul_assoc]
  rw [e] at h3
  omega
 have h4:(a + b - 1) / b < q + 1:=by
  refine (Int.ediv_lt_iff_lt_mul hb).2 ?_
  rw [Int.add_mul]
  omega
 omega
def mfl (l:List aE) (a:Int):Int:=(bB l a).N / (bB l a).D
def mce (l:List aE) (a:Int):Int:=((bB l a).N + (bB l a).D - 1) / (bB l a).D
theorem aHu {l:List aE} (hl:ROk l) {a b:Int} (h:a≤b):mfl l a≤mfl l b:=by
 obtain ⟨a1,-,-,-,-⟩:=gO hl a
 obtain ⟨b1,-,-,-,-⟩:=gO hl b
 exact aLe (by omega) (by omega) (aCn hl h)
theorem aI2 {l:List aE} (hl:ROk l) {a b:Int} (h:a≤b):mce l a≤mce l b:=by
 obtain ⟨a1,-,-,-,-⟩:=gO hl a
 obtain ⟨b1,-,-,-,-⟩:=gO hl b
 exact aJq (by omega) (by omega) (aCn hl h)
theorem aEf {l:List aE} (hl:ROk l) (a:Int):mfl l a * (bB l a).D≤(bB l a).N∧0≤mfl l a∧mfl l a≤1000000000:=by
 obtain ⟨a1,-,a3,-,-⟩:=gO hl a
 have h:=aAb hl a
 refine ⟨Int.ediv_mul_le _ (by omega),Int.ediv_nonneg a3 (by omega),?_⟩
 have:mfl l a < 1000000000 + 1:=by
  refine (Int.ediv_lt_iff_lt_mul (by omega)).2 ?_
  rw [Int.add_mul]
  omega
 omega
theorem aI0 {l:List aE} (hl:ROk l) (a:Int):(bB l a).N≤mce l a * (bB l a).D∧0≤mce l a∧mce l a≤1000000001:=by
 obtain ⟨a1,-,a3,-,-⟩:=gO hl a
 have h:=aAb hl a
 refine ⟨aGb (by omega),Int.ediv_nonneg (by omega) (by omega),?_⟩
 have:mce l a < 1000000001 + 1:=by
  refine (Int.ediv_lt_iff_lt_mul (by omega)).2 ?_
  rw [Int.add_mul]
  omega
 omega
theorem aJx {r:aH} (hr:pT r) (h:(passes r).all eD=true) {most day at_:Int} {c:List Int} (hc:Crs (fK r day) c) (hm:move c≤most) :
  aHi r most day at_=(⟨mfl r.Rating (at_ - (fT (fK r day) most (adF r day)).Hi),mce r.Rating (at_ - (fT (fK r day) most (adF r day)).Lo)⟩,0):=by
 have hvb:=yK hr h day
 unfold aHi
 rw [if_pos ((aJz hvb).2 ⟨c,hc,hm⟩)]
 rfl
theorem aB4 {c:List Int} {i:Nat} (h1:1≤i) (hi:i < c.length):move (c.take (i + 1))=move (c.take i) + ap (c.getD (i - 1) 0) (c.getD i 0):=by
 have e1:c.take i=c.take (i - 1)++[c.getD (i - 1) 0]:=by
  have:=List.take_succ_eq_append_getElem (l:=c) (i:=i - 1) (by omega)
  rw [Nat.sub_add_cancel h1] at this
  rw [this,cF (d:=(0:Int))]
 have e2:c.take (i + 1)=c.take (i - 1)++c.getD (i - 1) 0::[c.getD i 0]:=by
  rw [List.take_succ_eq_append_getElem hi,e1,cF (d:=(0:Int)) hi]
  simp
 rw [e2,qM,← e1]
 simp [move]
theorem wQ {c:List Int} (hb:∀ j,j < c.length→-300≤c.getD j 0∧c.getD j 0≤300):∀ i,i≤c.length→0≤move (c.take i)∧move (c.take i)≤600 * (i:Int)
 | 0,_=>by simp [move]
 | i + 1,hi=>by
  have ih:=wQ hb i (by omega)
  rcases Nat.eq_zero_or_pos i with h | h
  ·subst h
   have:move (c.take (0 + 1))=0:=by
    cases c with
    | nil=>rfl
    | cons x c=>rfl
   rw [this]
   omega
  ·rw [aB4 h (by omega)]
   have h1:=hb i (by omega)
   have h2:=hb (i - 1) (by omega)
   unfold ap
   push_cast
   omega
theorem aIi {N:Nat} (hN:700≤N) {r:aH} (hr:pT r) (h:(passes r).all eD=true) {c:List Int} (hc:Crs (passes r) c) (hb:∀ j,j < c.length→-300≤c.getD j 0∧c.getD j 0≤300):mR N r c=some (move c,0):=by
 have h30:=hr.g30
 have hlen:=hc.len
 have hpl:(passes r).length=r.Gaugings.length:=by simp [passes]
 unfold mR
 rcases opened_ok hN hr with ⟨o,-,k⟩ | ⟨k,-⟩
 ·rw [h] at k
  cases k
 rw [k,Option.bind_some]
 show cond ((0:Int) != 0) _ (cond (((c.length:Nat):Int) != ((r.Gaugings.length:Nat):Int)) _ (Option.bind (bE (fun s19=>gR N c (passes r,0) s19.1 s19.2) N ((0:Int),((0:Nat):Int))) _))=_
 rw [bne_self_eq_false,cond_false,hlen,hpl,bne_self_eq_false,cond_false]
 have e0:(0:Int)=move (c.take 0):=rfl
 rw [e0]
 rw [uM (ρ:=Int × Int) (fun i:Nat=>(move (c.take i),(i:Int))) c.length _ (fun i hi=>by
  show gR N c (passes r,0) (move (c.take i)) (i:Int)=_
  unfold gR
  have h1:=hc.at_ i (by omega)
  have h2:=wQ hb i (by omega)
  have h3:=wQ hb (i + 1) (by omega)
  show cond (decide ((i:Int) < (((passes r).length:Nat):Int))) (Option.bind (bG (passes r) (i:Int)) _) _=_
  rw [lR (by omega),cond_true,getI_d s00 (by omega),Option.bind_some,getI_d 0 hi,Option.bind_some,in_dec,dT h1]
  show cond (decide ((0:Int) < (i:Int))) _ _=_
  rcases Nat.eq_zero_or_pos i with hz | hz
  ·subst hz
   rw [dF (by omega),cond_false]
   unfold iS
   rw [fP (by omega)]
   have:move (c.take (0 + 1))=move (c.take 0):=by
    cases c with
    | nil=>rfl
    | cons x c=>rfl
   rw [this]
  ·have b1:=hb i hi
   have b2:=hb (i - 1) (by omega)
   have hs:=aB4 hz hi
   rw [dT (by omega),cond_true,W_sm (n:=(i:Int) - 1) (by omega) (by omega),show (i:Int) - 1=((i - 1:Nat):Int) by omega,Option.bind_some,getI_d 0 (by omega),Option.bind_some,aBh hN (by omega) (by omega),Option.bind_some,aC0,← hs,W_sm (n:=move (c.take (i + 1))) (by omega) (by omega)]
   unfold iS
   rw [fP (by omega)]) (by
  show gR N c (passes r,0) (move (c.take c.length)) ((c.length:Nat):Int)=_
  unfold gR
  show cond (decide (((c.length:Nat):Int) < (((passes r).length:Nat):Int))) _ _=_
  rw [dF (by omega),cond_false]) (N:=N) (by omega),Option.bind_some,eK,List.take_length]
theorem aJf {r:aH} {c:List Int} (hr:pT r) (hp:(passes r).all eD=true) (hc:Crs (passes r) c) {i:Nat} (hi:i < r.Gaugings.length) {day:Int} (h1:(r.Gaugings.getD i g0).Day≤day) (h2:i + 1 < r.Gaugings.length→day < (r.Gaugings.getD (i + 1) g0).Day) (st:Int) :
  ∃ s:aA,aHi r (move c) day st=(s,0)∧s.Lo≤mfl r.Rating (st - c.getD i 0)∧mce r.Rating (st - c.getD i 0)≤s.Hi∧(∃ a,s.Lo=mfl r.Rating a)∧∃ a,s.Hi=mce r.Rating a:=by
 have hpl:(passes r).length=r.Gaugings.length:=by simp [passes]
 have hlen:=hc.len
 have hvl:=rW hr hp
 have hvb:=yK hr hp day
 obtain ⟨a1,a2,a3⟩:=aC9 hr day r.Gaugings.length (Nat.le_refl _)
 have hal:=aCl hr day
 obtain ⟨c',q1,q2,q3⟩:∃ c',Crs (fK r day) c'∧move c'=move c∧c'.getD (adF r day) 0=c.getD i 0:=by
  by_cases hm:aHc r day=true
  ·obtain ⟨m1,m2⟩:=(aGk hr day).2 hm
   have he:adF r day=i:=by
    rcases Nat.lt_trichotomy (adF r day) i with hx | hx | hx
    ·have:=wZ hr hx hi
     omega
    ·exact hx
    ·have h3:=h2 (by omega)
     rcases Nat.lt_or_eq_of_le (show i + 1≤adF r day by omega) with hy | hy
     ·have:=wZ hr hy m1
      omega
     ·rw [hy] at h3
      omega
   refine ⟨c,?_,rfl,by rw [he]⟩
   unfold fK
   rw [if_pos hm]
   exact hc
  ·have he:adF r day=i + 1:=by
    have hd:adN r.Gaugings day r.Gaugings.length=adF r day:=rfl
    rw [hd] at a1 a2 a3
    rcases Nat.lt_trichotomy (adF r day) (i + 1) with hx | hx | hx
    ·have:=a3 i (by omega) hi
     exact absurd ((aDb r.Gaugings day r.Gaugings.length).2 ⟨i,hi,by omega⟩) hm
    ·exact hx
    ·have:=a2 (i + 1) hx
     have:=h2 (by omega)
     omega
   have hci:=hc.at_ i (by omega)
   have hsi:=hvl.at_ (i:=i) (by omega)
   unfold vQ at hsi
   have hcl:(c.take (i + 1)).length=i + 1:=by rw [List.length_take]; omega
   have hone:Crs [(⟨-300,300⟩:aA)] [c.getD i 0]:=Crs.of rfl fun k hk=>by
    match k,hk with
    | 0,_=>exact ⟨by show -300≤c.getD i 0; omega,by show c.getD i 0≤300; omega⟩
    | k + 1,hk=>simp at hk
   refine ⟨c.take (i + 1)++[c.getD i 0]++c.drop (i + 1),?_,?_,?_⟩
   ·unfold fK
    rw [if_neg hm,he]
    exact ((hc.take (i + 1)).app hone).app (hc.drop (i + 1))
   ·have e1:=aBc (i:=i) (c:=c) (by omega)
    have e2:c.take (i + 1)=c.take i++[c.getD i 0]:=by
     rw [List.take_succ_eq_append_getElem (by omega),cF (d:=(0:Int)) (by omega)]
    rw [e2]
    have e3:c.take i++[c.getD i 0]++[c.getD i 0]++c.drop (i + 1)=c.take i++c.getD i 0::c.getD i 0::c.drop (i + 1):=by simp
    rw [e3,qM]
    have e4:move c=move (c.take i++[c.getD i 0]) + move (c.getD i 0::c.drop (i + 1)):=by
     rw [← qM,← e1]
    rw [e4,show move (c.getD i 0::c.getD i 0::c.drop (i + 1))=ap (c.getD i 0) (c.getD i 0) + move (c.getD i 0::c.drop (i + 1)) from rfl]
    unfold ap
    omega
   ·rw [he,List.append_assoc]
    simp [List.getD,List.getElem?_append_right (show (c.take (i + 1)).length≤i + 1 by omega),hcl]
 have hm:=aLw hvb q1 (most:=move c) (by omega) hal
 rw [q3] at hm
 refine ⟨_,aJx hr hp q1 (by omega),aHu hr.rt (by omega),aI2 hr.rt (by omega),⟨_,rfl⟩,⟨_,rfl⟩⟩
theorem aDj {N:Nat} {r:aH} {c:List Int} {u m day:Int}:∀ (d i M:Nat),i + d + 1=r.Gaugings.length→d < M→i + d < 1000→(r.Gaugings.getD i g0).Day≤day →
  ∃ k:Nat,bE (fun s37=>cS N (r,c,u,m) day s37) M (i:Int)=some (.go (k:Int))∧k < r.Gaugings.length∧(r.Gaugings.getD k g0).Day≤day∧(k + 1 < r.Gaugings.length→day < (r.Gaugings.getD (k + 1) g0).Day)
 | 0,i,M + 1,h1,_,h4,h3=>by
  refine ⟨i,?_,by omega,h3,fun h=>by omega⟩
  rw [bE]
  unfold cS
  dsimp only
  rw [fP (by omega),dF (by omega),cond_false,Option.bind_some,cond_false]
 | d + 1,i,M + 1,h1,h2,h4,h3=>by
  by_cases hc:(r.Gaugings.getD (i + 1) g0).Day≤day
  ·obtain ⟨k,k1,k2⟩:=aDj (N:=N) (c:=c) (u:=u) (m:=m) d (i + 1) M (by omega) (by omega) (by omega) hc
   refine ⟨k,?_,k2⟩
   rw [bE]
   have hb:cS N (r,c,u,m) day (i:Int)=some (.cont ((i + 1:Nat):Int)):=by
    unfold cS
    dsimp only
    rw [fP (by omega),dT (by omega),cond_true,getI_d g0 (by omega),Option.bind_some,dT hc,Option.bind_some,cond_true]
   rw [hb]
   exact k1
  ·refine ⟨i,?_,by omega,h3,fun h=>by omega⟩
   rw [bE]
   have hb:cS N (r,c,u,m) day (i:Int)=some (.brk (i:Int)):=by
    unfold cS
    dsimp only
    rw [fP (by omega),dT (by omega),cond_true,getI_d g0 (by omega),Option.bind_some,dF hc,Option.bind_some,cond_false]
   rw [hb]
end Go.Nilo
