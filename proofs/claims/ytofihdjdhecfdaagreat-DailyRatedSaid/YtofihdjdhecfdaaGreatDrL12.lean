/-
  What the plain functions compute, in plain arithmetic, part 12. Conditions: what each theorem names.
-/
import Derived.Test.YtofihdjdhecfdaaGreatDrL11
set_option linter.unusedSimpArgs false
set_option linter.unusedVariables false
namespace Go.Nilo
def adN (gs:List aI) (day:Int):Nat→Nat
 | 0=>0
 | i + 1=>if (gs.getD i g0).Day < day then i + 1 else adN gs day i
def mpN (gs:List aI):Nat→Int→Option Int
 | 0=>fun _=>none
 | i + 1=>wL (mpN gs i) (gs.getD i g0).Day (i:Int)
theorem wZ {r:aH} (hr:pT r) {i j:Nat} (hij:i < j) (hj:j < r.Gaugings.length):(r.Gaugings.getD i g0).Day < (r.Gaugings.getD j g0).Day:=by
 obtain ⟨k,rfl⟩:∃ k,j=i + k + 1:=⟨j - i - 1,by omega⟩
 clear hij
 induction k with
 | zero=>exact hr.d i hj
 | succ k ih=>
  have h1:=ih (by omega)
  have h2:=hr.d (i + k + 1) (by omega)
  have e:i + (k + 1) + 1=i + k + 1 + 1:=by omega
  rw [e]
  omega
theorem aC9 {r:aH} (hr:pT r) (day:Int):∀ i,i≤r.Gaugings.length→adN r.Gaugings day i≤i∧(∀ j,j < adN r.Gaugings day i→(r.Gaugings.getD j g0).Day < day)∧∀ j,adN r.Gaugings day i≤j→j < i→day≤(r.Gaugings.getD j g0).Day
 | 0,_=>⟨Nat.le_refl _,fun j hj=>by simp [adN] at hj,fun j _ hj=>by omega⟩
 | i + 1,hi=>by
  obtain ⟨h1,h2,h3⟩:=aC9 hr day i (by omega)
  unfold adN
  split
  ·rename_i h
   refine ⟨Nat.le_refl _,fun j hj=>?_,fun j h4 h5=>by omega⟩
   rcases Nat.lt_or_eq_of_le (show j≤i by omega) with c | c
   ·have:=wZ hr c (by omega)
    omega
   ·subst c
    exact h
  ·rename_i h
   refine ⟨by omega,h2,fun j h4 h5=>?_⟩
   rcases Nat.lt_or_eq_of_le (show j≤i by omega) with c | c
   ·exact h3 j h4 c
   ·subst c
    omega
theorem aDb (gs:List aI) (day:Int):∀ n,((mpN gs n) day).isSome=true ↔ ∃ i,i < n∧(gs.getD i g0).Day=day
 | 0=>by simp [mpN]
 | n + 1=>by
  have ih:=aDb gs day n
  unfold mpN wL
  by_cases h:day=(gs.getD n g0).Day
  ·subst h
   simp only [if_true,Option.isSome_some,true_iff]
   exact ⟨n,by omega,rfl⟩
  ·rw [if_neg h,ih]
   constructor
   ·rintro ⟨i,a,b⟩
    exact ⟨i,by omega,b⟩
   ·rintro ⟨i,a,b⟩
    rcases Nat.lt_or_eq_of_le (show i≤n by omega) with c | c
    ·exact ⟨i,c,b⟩
    ·subst c
     exact absurd b.symm h
def adF (r:aH) (day:Int):Nat:=adN r.Gaugings day r.Gaugings.length
def aHc (r:aH) (day:Int):Bool:=((mpN r.Gaugings r.Gaugings.length) day).isSome
def fK (r:aH) (day:Int):List aA:=if aHc r day=true then passes r else (passes r).take (adF r day)++[(⟨-300,300⟩:aA)]++(passes r).drop (adF r day)
theorem aGk {r:aH} (hr:pT r) (day:Int):adF r day≤r.Gaugings.length∧(aHc r day=true→adF r day < r.Gaugings.length∧(r.Gaugings.getD (adF r day) g0).Day=day):=by
 obtain ⟨h1,h2,h3⟩:=aC9 hr day r.Gaugings.length (Nat.le_refl _)
 refine ⟨h1,fun h=>?_⟩
 obtain ⟨i,a,b⟩:=(aDb _ _ _).1 h
 have hle:adF r day≤i:=by
  rcases Nat.lt_or_ge i (adF r day) with c | c
  ·have:=h2 i c
   omega
  ·exact c
 have hl:adF r day < r.Gaugings.length:=by omega
 refine ⟨hl,?_⟩
 have h4:=h3 (adF r day) (Nat.le_refl _) hl
 rcases Nat.lt_or_eq_of_le hle with c | c
 ·have:=wZ hr c a
  omega
 ·rw [c]
  exact b
theorem aA1 {r:aH} (hr:pT r) (day:Int):(fK r day).length=if aHc r day=true then r.Gaugings.length else r.Gaugings.length + 1:=by
 have:=(aGk hr day).1
 unfold fK passes
 split
 ·simp
 ·simp
  omega
theorem yK {r:aH} (hr:pT r) (h:(passes r).all eD=true) (day:Int):VL (fK r day):=by
 have hv:=rW hr h
 have h30:=hr.g30
 have h1:=hr.g1
 have hl:=aA1 hr day
 refine ⟨?_,?_,fun s hs=>?_⟩
 ·rw [hl]
  split <;> omega
 ·rw [hl]
  split <;> omega
 ·unfold fK at hs
  split at hs
  ·exact hv.ok s hs
  ·rcases List.mem_append.1 hs with k | k
   ·rcases List.mem_append.1 k with k | k
    ·exact hv.ok s (List.mem_of_mem_take k)
    ·simp only [List.mem_singleton] at k
     subst k
     exact ⟨by decide,by decide,by decide⟩
   ·exact hv.ok s (List.mem_of_mem_drop k)
theorem aCl {r:aH} (hr:pT r) (day:Int):adF r day < (fK r day).length:=by
 obtain ⟨h1,h2⟩:=aGk hr day
 rw [aA1 hr day]
 split
 ·rename_i h
  exact (h2 h).1
 ·omega
def aHi (r:aH) (most day at_:Int):aA × Int :=
 if (uB (fK r day) most).all eD=true then
  (⟨(bB r.Rating (at_ - (fT (fK r day) most (adF r day)).Hi)).N / (bB r.Rating (at_ - (fT (fK r day) most (adF r day)).Hi)).D,
   ((bB r.Rating (at_ - (fT (fK r day) most (adF r day)).Lo)).N + (bB r.Rating (at_ - (fT (fK r day) most (adF r day)).Lo)).D - 1) / (bB r.Rating (at_ - (fT (fK r day) most (adF r day)).Lo)).D⟩,0)
 else (⟨0,0⟩,5)
theorem aIk {l:List aA} (h:VL l) {most:Int} (ha:(uB l most).all eD=true) {i:Nat} (hi:i < l.length) : -300≤(fT l most i).Lo∧(fT l most i).Lo≤(fT l most i).Hi∧(fT l most i).Hi≤300∧(l.getD i s00).Lo≤(fT l most i).Lo∧(fT l most i).Hi≤(l.getD i s00).Hi:=by
 have hs:=h.at_ hi
 have hok:eD (fT l most i)=true:=by
  unfold uB at ha
  rw [List.all_map,List.all_eq_true] at ha
  exact ha i (List.mem_range.2 hi)
 rcases tD h (most:=most) (i:=i) hi with ⟨a,b,c,d⟩ | ⟨b,_⟩
 ·have h1:=of_decide_eq_true a
  unfold oK at b c
  rw [Bool.and_eq_true,decide_eq_true_eq] at b c
  have:=hs.1
  have:=hs.2.2
  omega
 ·rw [hok] at b
  cases b
theorem aEy {N:Nat} (hN:700≤N) {r:aH} (hr:pT r) (h:(passes r).all eD=true) {most day at_:Int} (h1:0≤most∧most≤18000) (h2:0≤day∧day≤40000) (h3 : -2000≤at_∧at_≤2000) :
  kT N r most day at_=some (aHi r most day at_):=by
 have hv:=rW hr h
 have hvb:=yK hr h day
 have hlt:=aCl hr day
 have h30:=hr.g30
 have hpl:(passes r).length=r.Gaugings.length:=by simp [passes]
 unfold kT
 rcases opened_ok hN hr with ⟨o,-,k⟩ | ⟨k,-⟩
 ·rw [h] at k
  cases k
 rw [k,Option.bind_some]
 show cond (((!(aG most 0 18000)) || (!(aG day 0 40000))) || (!(aG at_ (-2000) 2000))) _ _=_
 rw [in_dec,in_dec,in_dec,dT h1,dT h2,dT h3]
 show Option.bind (bE _ N (((0:Nat):Int),((0:Nat):Int),mpN r.Gaugings 0)) _=_
 have:=uM (ρ:=aA × Int) (fun i:Nat=>((((adN r.Gaugings day i:Nat):Int),(i:Int),mpN r.Gaugings i):Int × Int × (Int→Option Int))) r.Gaugings.length (fun s29=>fR N r day s29.1 s29.2.1 s29.2.2) (fun i hi=>by
  show fR N r day ((adN r.Gaugings day i:Nat):Int) (i:Int) (mpN r.Gaugings i)=_
  unfold fR jA
  rw [lR hi,cond_true,getI_d g0 hi,Option.bind_some,fP (by omega)]
  show _=some (cY.cont (((if (r.Gaugings.getD i g0).Day < day then i + 1 else adN r.Gaugings day i:Nat):Int),((i + 1:Nat):Int),wL (mpN r.Gaugings i) (r.Gaugings.getD i g0).Day (i:Int)))
  by_cases hd:(r.Gaugings.getD i g0).Day < day
  ·rw [dT hd,if_pos hd,cond_true]
  ·rw [dF hd,if_neg hd,cond_false]) (by
  show fR N r day _ (r.Gaugings.length:Int) _=_
  unfold fR
  rw [mJ,cond_false]) (N:=N) (by omega)
 have e0:(((0:Nat):Int),((0:Nat):Int),mpN r.Gaugings 0)=((((adN r.Gaugings day 0:Nat):Int),((0:Nat):Int),mpN r.Gaugings 0):Int × Int × (Int→Option Int)):=rfl
 rw [e0,this,Option.bind_some]
 have hj:fN N r most at_ ((adF r day:Nat):Int) (fK r day)=some (aHi r most day at_):=by
  unfold fN aHi
  rw [aJc hN hvb,Option.bind_some]
  cases hca:(uB (fK r day) most).all eD with
  | false=>rfl
  | true=>
   have hg:bG (uB (fK r day) most) ((adF r day:Nat):Int)=some (fT (fK r day) most (adF r day)):=by
    rw [getI_d s00 (by rw [aJe]; exact hlt),aHs hlt]
   obtain ⟨b1,b2,b3,-,-⟩:=aIk hvb hca hlt
   show Option.bind (bG (uB (fK r day) most) ((adF r day:Nat):Int)) _=_
   rw [hg,Option.bind_some,W_sm (by omega) (by omega),tJ hN hr.rt (by omega),Option.bind_some]
   show Option.bind (bG (uB (fK r day) most) ((adF r day:Nat):Int)) _=_
   rw [hg,Option.bind_some,W_sm (by omega) (by omega),tJ hN hr.rt (by omega),Option.bind_some,if_pos rfl]
   generalize (fT (fK r day) most (adF r day)).Hi=u at *
   generalize (fT (fK r day) most (adF r day)).Lo=v at *
   obtain ⟨p1,p2,p3,-,-⟩:=gO hr.rt (at_ - u)
   obtain ⟨q1,q2,q3,-,-⟩:=gO hr.rt (at_ - v)
   have p4:=aAb hr.rt (at_ - u)
   have q4:=aAb hr.rt (at_ - v)
   have z1:nz (bB r.Rating (at_ - u)).D=some ():=by unfold nz; rw [if_neg (by omega)]
   have z2:nz (bB r.Rating (at_ - v)).D=some ():=by unfold nz; rw [if_neg (by omega)]
   rw [z1,Option.bind_some,z2,Option.bind_some,W_sm (n:=(bB r.Rating (at_ - v)).N + (bB r.Rating (at_ - v)).D) (by omega) (by omega),W_sm (n:=(bB r.Rating (at_ - v)).N + (bB r.Rating (at_ - v)).D - 1) (by omega) (by omega),oS p3,oS (by omega)]
   have d1:=Int.ediv_le_self (bB r.Rating (at_ - u)).D p3
   have d2:=Int.ediv_nonneg p3 (show 0≤(bB r.Rating (at_ - u)).D by omega)
   have d3:=Int.ediv_le_self (bB r.Rating (at_ - v)).D (show 0≤(bB r.Rating (at_ - v)).N + (bB r.Rating (at_ - v)).D - 1 by omega)
   have d4:=Int.ediv_nonneg (show 0≤(bB r.Rating (at_ - v)).N + (bB r.Rating (at_ - v)).D - 1 by omega) (show 0≤(bB r.Rating (at_ - v)).D by omega)
   generalize (bB r.Rating (at_ - u)).N / (bB r.Rating (at_ - u)).D=x at *
   generalize ((bB r.Rating (at_ - v)).N + (bB r.Rating (at_ - v)).D - 1) / (bB r.Rating (at_ - v)).D=y at *
   rw [W_sm (n:=x) (by omega) (by omega),W_sm (n:=y) (by omega) (by omega)]
 show cond (!(aHc r day)) _ (fN N r most at_ ((adF r day:Nat):Int) (passes r))=_
 cases hm:aHc r day with
 | true=>
  have:fK r day=passes r:=by unfold fK; rw [hm,if_pos rfl]
  rw [this] at hj
  exact hj
 | false=>
  have hs:fK r day=(passes r).take (adF r day)++[(⟨-300,300⟩:aA)]++(passes r).drop (adF r day):=by unfold fK; rw [hm,if_neg (by simp)]
  have hle:=(aGk hr day).1
  rw [Bool.not_false,cond_true]
  have hc:bJ N (passes r)=some (passes r):=by
   unfold bJ
   rw [lB (by omega)]
   rfl
  rw [hc,Option.bind_some]
  have hi:bZ N (passes r) ((adN r.Gaugings day r.Gaugings.length:Nat):Int) ([(⟨(-300),300⟩:aA)]:List aA)=some (fK r day):=by
   unfold bZ insO
   rw [hs,if_pos (by simp only [List.length_singleton]; unfold adF at hle; omega),Int.toNat_natCast]
   rfl
  show Option.bind (bZ N (passes r) ((adN r.Gaugings day r.Gaugings.length:Nat):Int) _) _=_
  rw [hi,Option.bind_some]
  exact hj
end Go.Nilo
