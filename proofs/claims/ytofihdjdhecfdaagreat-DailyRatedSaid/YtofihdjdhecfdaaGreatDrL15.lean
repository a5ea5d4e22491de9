/-
  What the plain functions compute, in plain arithmetic, part 15. Conditions: what each theorem names.
-/
import Derived.Test.YtofihdjdhecfdaaGreatDrL14
set_option linter.unusedSimpArgs false
set_option linter.unusedVariables false
namespace Go.Nilo
structure GInv (l:List aE) (i:Nat) (course:List Int) (day at_:Int) (gs:List aI):Prop where
 lc:course.length=i
 lg:gs.length=i
 d:0≤day∧day≤8 + 9 * i
 a : -9 - 5 * (i:Int)≤at_∧at_≤9 + 5 * i
 g:∀ j,j < i→aHa (gs.getD j g0)∧(gs.getD j g0).Day < day∧jW l (gs.getD j g0) (course.getD j 0)=true∧-9 - 5 * (j:Int)≤course.getD j 0∧course.getD j 0≤9 + 5 * j
 up:∀ j,j + 1 < i→(gs.getD j g0).Day < (gs.getD (j + 1) g0).Day∧ap (course.getD j 0) (course.getD (j + 1) 0)≤5
 la:∀ j,j + 1=i→ap (course.getD j 0) at_≤5
theorem GInv.next {l:List aE} {i:Nat} {course:List Int} {day at_ a b:Int} {gs:List aI} {g:aI} (h:GInv l i course day at_ gs) (hi:i≤20) (hd:g.Day=day) (hg:(-2000≤g.Stage∧g.Stage≤2000)∧0≤g.Flow.Lo∧g.Flow.Lo≤g.Flow.Hi∧g.Flow.Hi≤1000000000) (hp:jW l g at_=true) (ha:1≤a∧a≤9) (hb : -5≤b∧b≤5) :
  GInv l (i + 1) (course++[at_]) (day + a) (at_ + b) (gs++[g]):=by
 obtain ⟨h1,h2,h3,h4,h5,h6,h7⟩:=h
 have hlt:∀ j,j < i→(gs++[g]).getD j g0=gs.getD j g0∧(course++[at_]).getD j 0=course.getD j 0:=fun j hj=>⟨xP (by omega),xP (by omega)⟩
 have heq:(gs++[g]).getD i g0=g∧(course++[at_]).getD i 0=at_:=by
  constructor
  ·have:=xJ (l:=gs) (x:=g) (d:=g0)
   rwa [h2] at this
  ·have:=xJ (l:=course) (x:=at_) (d:=(0:Int))
   rwa [h1] at this
 refine ⟨by simp [h1],by simp [h2],by push_cast; omega,by push_cast; omega,fun j hj=>?_,fun j hj=>?_,fun j hj=>?_⟩
 ·rcases Nat.lt_or_eq_of_le (show j≤i by omega) with c | c
  ·rw [(hlt j c).1,(hlt j c).2]
   obtain ⟨k1,k2,k3,k4⟩:=h5 j c
   exact ⟨k1,by omega,k3,k4⟩
  ·subst c
   rw [heq.1,heq.2]
   exact ⟨⟨by omega,hg.1,hg.2⟩,by omega,hp,h4⟩
 ·have c:j < i:=by omega
  rw [(hlt j c).1,(hlt j c).2]
  rcases Nat.lt_or_eq_of_le (show j + 1≤i by omega) with d | d
  ·rw [(hlt _ d).1,(hlt _ d).2]
   exact h6 j d
  ·rw [d,heq.1,heq.2]
   have:=h5 j c
   exact ⟨by omega,h7 j d⟩
 ·obtain rfl:j=i:=by omega
  rw [heq.2]
  unfold ap
  omega
structure Gd (r:aH) (c:List Int) (most:Nat):Prop where
 mad:aGd r.Rating
 g1:1≤r.Gaugings.length
 gm:r.Gaugings.length≤most
 len:c.length=r.Gaugings.length
 g:∀ j,j < r.Gaugings.length→aHa (r.Gaugings.getD j g0)∧(r.Gaugings.getD j g0).Day≤8 + 9 * (r.Gaugings.length:Int)∧jW r.Rating (r.Gaugings.getD j g0) (c.getD j 0)=true∧-9 - 5 * (j:Int)≤c.getD j 0∧c.getD j 0≤9 + 5 * j
 up:∀ j,j + 1 < r.Gaugings.length→(r.Gaugings.getD j g0).Day < (r.Gaugings.getD (j + 1) g0).Day∧ap (c.getD j 0) (c.getD (j + 1) 0)≤5
theorem aEj {N:Nat} (hN:700≤N) {bs:List Int} (hb:yQ bs) {u m:Int} {k:Nat} (hs:SOk u m k) (hk:k≤10000) {most:Nat} (hm:1≤most∧most≤15) :
  ∃ r c u' m' k',lM N ⟨bs,u,m⟩ (most:Int)=some (r,c,u',m')∧SOk u' m' k'∧k'≤k + 200∧Gd r c most:=by
 unfold lM
 obtain ⟨l,u1,m1,k1,a1,a2,a3,hl⟩:=aE2 hN hb hs (by omega)
 rw [a1,Option.bind_some]
 obtain ⟨dy,u2,m2,b1,b2,b3,b4⟩:=rX (N:=N) hb (n:=9) a2 (by omega)
 show ∃ r c u' m' k',Option.bind (cM N ⟨bs,u1,m1⟩ 9) _=_∧_
 rw [b1,Option.bind_some]
 obtain ⟨a0,u3,m3,c1,c2,c3,c4⟩:=gZ (N:=N) hb (lo:=-9) (hi:=9) b4 (by omega) (by omega) (by omega) (by omega)
 show ∃ r c u' m' k',Option.bind (aZ N ⟨bs,u2,m2⟩ (-9) 9) _=_∧_
 rw [c1,Option.bind_some]
 obtain ⟨n,u4,m4,d1,d2,d3,d4⟩:=gZ (N:=N) hb (lo:=1) (hi:=(most:Int)) c4 (by omega) (by omega) (by omega) (by omega)
 show ∃ r c u' m' k',Option.bind (aZ N ⟨bs,u3,m3⟩ 1 (most:Int)) _=_∧_
 rw [d1]
 simp only [Option.bind_some]
 obtain ⟨n,rfl⟩:=Int.eq_ofNat_of_zero_le (show 0≤n by omega)
 have hlo:=hl.ok
 have hl2:=hlo.l2
 have hl7:=hl.l7
 obtain ⟨s',e1,e2⟩:=aAh (ρ:=aH × (List Int) × Int × Int) (fun s8:(List Int) × Int × Int × Int × Int × Int × (List aI)=>gT N ⟨bs,u,m⟩ (l,u1,m1) ((n:Int),u4,m4) s8.1 s8.2.1 s8.2.2.1 s8.2.2.2.1 s8.2.2.2.2.1 s8.2.2.2.2.2.1 s8.2.2.2.2.2.2)
  (fun i s=>GInv l i s.1 s.2.1 s.2.2.1 s.2.2.2.2.2.2∧s.2.2.2.1=(i:Int)∧SOk s.2.2.2.2.1 s.2.2.2.2.2.1 (k1 + 3 + 5 * i)) n (fun i s hi hI=>by
   obtain ⟨course,day,at_,x,v,q,gs⟩:=s
   obtain ⟨i1,i2,i3⟩:=hI
   simp only at i1 i2 i3
   subst i2
   have ilc:=i1.lc
   have ilg:=i1.lg
   have id_:=i1.d
   have ia:=i1.a
   have s1:=hl.s 0 (by omega)
   have s2:=hl.s (l.length - 1) (by omega)
   have s3:=hlo.mon (show 0≤l.length - 1 by omega) (by omega)
   obtain ⟨st,u5,m5,f1,f2,f3,f4⟩:=gZ (N:=N) hb (lo:=mS l 0) (hi:=mS l (l.length - 1)) i3 (by omega) (by omega) (by omega) (by omega)
   obtain ⟨x1,u6,m6,g1,g2,g3,g4⟩:=rX (N:=N) hb (n:=40) f4 (by omega)
   obtain ⟨x2,u7,m7,h1,h2,h3,h4⟩:=rX (N:=N) hb (n:=40) g4 (by omega)
   obtain ⟨x3,u8,m8,j1,j2,j3,j4⟩:=gZ (N:=N) hb (lo:=1) (hi:=9) h4 (by omega) (by omega) (by omega) (by omega)
   obtain ⟨x4,u9,m9,l1,l2,l3,l4⟩:=gZ (N:=N) hb (lo:=-5) (hi:=5) j4 (by omega) (by omega) (by omega) (by omega)
   obtain ⟨p1,p2,p3,-,-⟩:=gO hlo st
   have p4:=aC2 hl st
   have p5:=Int.ediv_nonneg p3 (show 0≤(bB l st).D by omega)
   have p6:=Int.mul_ediv_self_le (x:=(bB l st).N) (k:=(bB l st).D) (by omega)
   have p7:=Int.lt_mul_ediv_self_add (x:=(bB l st).N) (show 0 < (bB l st).D by omega)
   have q7:=Int.lt_mul_ediv_self_add (x:=(bB l st).N + (bB l st).D - 1) (show 0 < (bB l st).D by omega)
   have q6:=Int.mul_ediv_self_le (x:=(bB l st).N + (bB l st).D - 1) (k:=(bB l st).D) (by omega)
   have b1:(bB l st).N / (bB l st).D≤2900:=by
    refine uY (c:=(bB l st).D) ?_ (by omega)
    rw [Int.mul_comm]
    omega
   have b2:((bB l st).N + (bB l st).D - 1) / (bB l st).D≤2901:=by
    refine uY (c:=(bB l st).D) ?_ (by omega)
    rw [Int.mul_comm]
    omega
   have b3:(bB l st).N / (bB l st).D≤((bB l st).N + (bB l st).D - 1) / (bB l st).D:=Int.ediv_le_ediv (by omega) (by omega)
   have b4:(bB l st).N≤((bB l st).N + (bB l st).D - 1) / (bB l st).D * (bB l st).D:=by
    rw [Int.mul_comm]
    omega
   have b5:(bB l st).N / (bB l st).D * (bB l st).D≤(bB l st).N:=by
    rw [Int.mul_comm]
    omega
   refine ⟨(course++[at_],day + x3,at_ + x4,((i + 1:Nat):Int),u9,m9,gs++[⟨day,st + at_,⟨max 0 ((bB l st).N / (bB l st).D - x1),min 1000000000 (((bB l st).N + (bB l st).D - 1) / (bB l st).D + x2)⟩⟩]),?_,i1.next (by omega) rfl ?_ ?_ ⟨j2,j3⟩ ⟨l2,l3⟩,rfl,?_⟩
   ·show gT N ⟨bs,u,m⟩ (l,u1,m1) ((n:Int),u4,m4) course day at_ (i:Int) v q gs=_
    unfold gT
    rw [dT (show (i:Int) < (n:Int) by omega),cond_true,show (0:Int)=((0:Nat):Int) from rfl,getI_d mk0 (by show 0 < l.length; omega),Option.bind_some]
    show Option.bind (bG l (W ((l.length:Int) - 1))) _=_
    rw [W_sm (n:=(l.length:Int) - 1) (by omega) (by omega),show ((l.length:Nat):Int) - 1=((l.length - 1:Nat):Int) by omega,getI_d mk0 (by omega),Option.bind_some]
    show Option.bind (aZ N ⟨bs,v,q⟩ (mS l 0) (mS l (l.length - 1))) _=_
    rw [f1,Option.bind_some]
    show Option.bind (jB N l (W (st + at_)) at_) _=_
    rw [W_sm (n:=st + at_) (by omega) (by omega),aDx hN hlo (by omega) (by omega),Option.bind_some]
    have hst:st + at_ - at_=st:=by omega
    rw [hst]
    show cond (decide ((0:Int) < (bB l st).D)) (Option.bind (nz (bB l st).D) fun _=>Option.bind (nz (bB l st).D) fun _=>hX N ⟨bs,u,m⟩ course day at_ (i:Int) gs (st,u5,m5) (W ((bB l st).N.tdiv (bB l st).D)) (W ((W ((W ((bB l st).N + (bB l st).D)) - 1)).tdiv (bB l st).D))) _=_
    have hz:nz (bB l st).D=some ():=by unfold nz; rw [if_neg (by omega)]
    rw [dT (show (0:Int) < (bB l st).D by omega),cond_true,hz,Option.bind_some,Option.bind_some,W_sm (n:=(bB l st).N + (bB l st).D) (by omega) (by omega),W_sm (n:=(bB l st).N + (bB l st).D - 1) (by omega) (by omega),oS p3,oS (show 0≤(bB l st).N + (bB l st).D - 1 by omega)]
    generalize (bB l st).N / (bB l st).D=lo at *
    generalize ((bB l st).N + (bB l st).D - 1) / (bB l st).D=hi at *
    rw [W_sm (n:=lo) (by omega) (by omega),W_sm (n:=hi) (by omega) (by omega)]
    unfold hX
    show Option.bind (cM N ⟨bs,u5,m5⟩ 40) _=_
    rw [g1,Option.bind_some]
    show Option.bind (cM N ⟨bs,u6,m6⟩ 40) _=_
    rw [h1,Option.bind_some]
    show Option.bind (qL N (max 0 (W (lo - x1))) (min 1000000000 (W (hi + x2)))) _=_
    rw [W_sm (n:=lo - x1) (by omega) (by omega),W_sm (n:=hi + x2) (by omega) (by omega),W_sm (n:=st + at_) (by omega) (by omega)]
    unfold qL
    rw [Option.bind_some,lB (by simp; omega),Option.bind_some,lB (by simp; omega),Option.bind_some]
    show Option.bind (aZ N ⟨bs,u7,m7⟩ 1 9) _=_
    rw [j1,Option.bind_some]
    show Option.bind (aZ N ⟨bs,u8,m8⟩ (-5) 5) _=_
    rw [l1,Option.bind_some,W_sm (n:=day + x3) (by omega) (by omega),W_sm (n:=at_ + x4) (by omega) (by omega),fP (by omega)]
    rfl
   ·show (-2000≤st + at_∧st + at_≤2000)∧0≤max 0 ((bB l st).N / (bB l st).D - x1)∧max 0 ((bB l st).N / (bB l st).D - x1)≤min 1000000000 (((bB l st).N + (bB l st).D - 1) / (bB l st).D + x2)∧min 1000000000 (((bB l st).N + (bB l st).D - 1) / (bB l st).D + x2)≤1000000000
    generalize (bB l st).N / (bB l st).D=lo at *
    generalize ((bB l st).N + (bB l st).D - 1) / (bB l st).D=hi at *
    omega
   ·unfold jW
    have hst:st + at_ - at_=st:=by omega
    show (decide (max 0 ((bB l st).N / (bB l st).D - x1) * (bB l (st + at_ - at_)).D≤(bB l (st + at_ - at_)).N) && decide ((bB l (st + at_ - at_)).N≤min 1000000000 (((bB l st).N + (bB l st).D - 1) / (bB l st).D + x2) * (bB l (st + at_ - at_)).D))=true
    rw [hst,Bool.and_eq_true,decide_eq_true_eq,decide_eq_true_eq]
    generalize (bB l st).N / (bB l st).D=lo at *
    generalize ((bB l st).N + (bB l st).D - 1) / (bB l st).D=hi at *
    have w1:max 0 (lo - x1) * (bB l st).D≤lo * (bB l st).D:=gW (by omega) (by omega)
    have w2:hi * (bB l st).D≤min 1000000000 (hi + x2) * (bB l st).D:=gW (by omega) (by omega)
    omega
   ·rw [show k1 + 3 + 5 * (i + 1)=k1 + 3 + 5 * i + 1 + 1 + 1 + 1 + 1 by omega]
    exact l4) (fun s hI=>by
   obtain ⟨course,day,at_,x,v,q,gs⟩:=s
   obtain ⟨i1,i2,i3⟩:=hI
   simp only at i2
   subst i2
   show gT N ⟨bs,u,m⟩ (l,u1,m1) ((n:Int),u4,m4) course day at_ (n:Int) v q gs=_
   unfold gT
   rw [dF (by show ¬ ((n:Int) < (n:Int)); omega),cond_false]) n 0 ([],dy,a0,0,u4,m4,[]) N (by omega) (by omega) ⟨⟨rfl,rfl,(by show 0≤dy∧dy≤8 + 9 * ((0:Nat):Int); omega),(by show -9 - 5 * ((0:Nat):Int)≤a0∧a0≤9 + 5 * ((0:Nat):Int); omega),fun j hj=>by omega,fun j hj=>by omega,fun j hj=>by omega⟩,rfl,d4⟩
 obtain ⟨course,day,at_,x,v,q,gs⟩:=s'
 obtain ⟨i1,i2,i3⟩:=e2
 refine ⟨⟨l,gs⟩,course,v,q,k1 + 3 + 5 * n,?_,i3,by omega,?_⟩
 ·rw [e1,Option.bind_some]
  first | rfl | done
 ·have ilc:=i1.lc
  have ilg:=i1.lg
  have id_:=i1.d
  simp only at ilc ilg id_
  refine ⟨hl,by show 1≤gs.length; omega,by show gs.length≤most; omega,by show course.length=gs.length; omega,fun j hj=>?_,fun j hj=>?_⟩
  ·obtain ⟨w1,w2,w3,w4⟩:=i1.g j (by have:j < gs.length:=hj; omega)
   refine ⟨w1,?_,w3,w4⟩
   show (gs.getD j g0).Day≤8 + 9 * (gs.length:Int)
   have w2':(gs.getD j g0).Day < day:=w2
   omega
  ·exact i1.up j (by have:j + 1 < gs.length:=hj; omega)
theorem Gd.rcd {r:aH} {c:List Int} {most:Nat} (h:Gd r c most) (hm:most≤30):pT r:=by
 have:=h.gm
 refine ⟨h.mad.ok,h.g1,by omega,fun g hg=>?_,fun i hi=>(h.up i hi).1⟩
 obtain ⟨i,hi,rfl⟩:=List.getElem_of_mem hg
 rw [cF (d:=g0) hi]
 exact (h.g i hi).1
theorem aDf {l:List aE} {g:aI} {x:Int} (h:jW l g x=true) (h1 : -300≤x) (h2:x≤300):eD (nV l g)=true∧(nV l g).Lo≤x∧x≤(nV l g).Hi:=by
 rcases tE (jW l g) 601 with ⟨a,b,c,d,e,f⟩ | ⟨a,b,c⟩
 ·exact ⟨dT a,f x h1 (by omega) h⟩
 ·rw [c x h1 (by omega)] at h
  cases h
theorem aIm {r:aH} {c:List Int} (hlen:c.length=r.Gaugings.length) (h:∀ j,j < r.Gaugings.length→jW r.Rating (r.Gaugings.getD j g0) (c.getD j 0)=true∧-300≤c.getD j 0∧c.getD j 0≤300):(passes r).all eD=true∧Crs (passes r) c:=by
 constructor
 ·rw [List.all_eq_true]
  intro s hs
  obtain ⟨g,hg,rfl⟩:=List.mem_map.1 hs
  obtain ⟨i,hi,rfl⟩:=List.getElem_of_mem hg
  rw [cF (d:=g0) hi]
  obtain ⟨a,b,c⟩:=h i hi
  exact (aDf a b c).1
 ·refine Crs.of (by simp [passes,hlen]) fun i hi=>?_
  have hi':i < r.Gaugings.length:=by simpa [passes] using hi
  have e:(passes r).getD i s00=nV r.Rating (r.Gaugings.getD i g0):=by simp [passes,List.getD,hi']
  rw [e]
  obtain ⟨a,b,c⟩:=h i hi'
  exact (aDf a b c).2
theorem Gd.crs {r:aH} {c:List Int} {most:Nat} (h:Gd r c most) (hm:most≤30):(passes r).all eD=true∧Crs (passes r) c:=by
 have:=h.gm
 refine aIm h.len fun j hj=>?_
 obtain ⟨_,_,a,b,c⟩:=h.g j hj
 exact ⟨a,by omega,by omega⟩
theorem aF6 {k:Int} (hk:0≤k):∀ c:List Int,(∀ j,j + 1 < c.length→ap (c.getD j 0) (c.getD (j + 1) 0)≤k)→move c≤k * c.length
 | [],_=>by simp [move]
 | [_],_=>by simp [move]; exact hk
 | x::y::l,h=>by
  have ih:=aF6 hk (y::l) fun j hj=>by
   have:=h (j + 1) (by simpa using hj)
   simpa using this
  have h0:=h 0 (by simp)
  simp only [List.getD_cons_zero,List.getD_cons_succ] at h0
  rw [move]
  simp only [List.length_cons] at ih ⊢
  have:k * ((l.length + 1 + 1:Nat):Int)=k * ((l.length + 1:Nat):Int) + k:=by push_cast; grind
  omega
theorem Gd.mv {r:aH} {c:List Int} {most:Nat} (h:Gd r c most) (hm:most≤30):move c≤150:=by
 have h1:=h.gm
 have h2:=h.len
 have:=aF6 (k:=5) (by omega) c fun j hj=>(h.up j (by omega)).2
 omega
end Go.Nilo
