/-
  What the plain functions compute, in plain arithmetic, part 23. Conditions: what each theorem names.
-/
import Derived.Test.YtofihdjdhecfdaaGreatDrL20
set_option linter.unusedSimpArgs false
set_option linter.unusedVariables false
namespace Go.Nilo
theorem aLu {l:List aE} (h:aGd l) (a:Int):0≤mce l a∧mce l a≤2900:=by
 obtain ⟨a1,-,a3,-,-⟩:=gO h.ok a
 have h1:=aC2 h a
 refine ⟨Int.ediv_nonneg (by omega) (by omega),?_⟩
 have:mce l a < 2900 + 1:=by
  refine (Int.ediv_lt_iff_lt_mul (by omega)).2 ?_
  rw [Int.add_mul]
  omega
 omega
theorem aJm {l:List aE} (hl:ROk l) (a:Int):mfl l a≤mce l a:=by
 obtain ⟨a1,-,a3,-,-⟩:=gO hl a
 exact Int.ediv_le_ediv (by omega) (by omega)
structure aG6 (i:Nat) (truth:List Int) (rise fall:Int) (days:List aK):Prop where
 t:truth.length=i
 d:days.length=i
 r:0≤rise∧rise≤2900
 f:0≤fall∧fall≤2900
 v:∀ j,j < i→∃ lo hi,days.getD j Dl.dv0=⟨true,⟨lo,hi⟩⟩∧0≤lo∧lo≤truth.getD j 0∧truth.getD j 0≤hi∧hi≤2900
 s:∀ j,j + 1 < i→truth.getD (j + 1) 0≤truth.getD j 0 + rise∧truth.getD j 0≤truth.getD (j + 1) 0 + fall
theorem aG6.next {i:Nat} {truth:List Int} {rise fall:Int} {days:List aK} (h:aG6 i truth rise fall days) {lo hi x rise' fall':Int} (h0:0≤lo) (h1:lo≤x) (h2:x≤hi) (h3:hi≤2900)
  (hr:0 < i→rise'=max rise (x - truth.getD (i - 1) 0)) (hf:0 < i→fall'=max fall (truth.getD (i - 1) 0 - x)) (hr0:i=0→rise'=rise) (hf0:i=0→fall'=fall):aG6 (i + 1) (truth++[x]) rise' fall' (days++[⟨true,⟨lo,hi⟩⟩]):=by
 obtain ⟨t,d,r,f,v,s⟩:=h
 have hlt:∀ j,j < i→(truth++[x]).getD j 0=truth.getD j 0∧(days++[(⟨true,⟨lo,hi⟩⟩:aK)]).getD j Dl.dv0=days.getD j Dl.dv0:=fun j hj=>⟨xP (by omega),xP (by omega)⟩
 have heq:(truth++[x]).getD i 0=x∧(days++[(⟨true,⟨lo,hi⟩⟩:aK)]).getD i Dl.dv0=⟨true,⟨lo,hi⟩⟩:=by
  constructor
  ·rw [← t]; exact xJ
  ·rw [← d]; exact xJ
 have hb:∀ j,j < i→0≤truth.getD j 0∧truth.getD j 0≤2900:=fun j hj=>by
  obtain ⟨a,b,-,c⟩:=v j hj
  omega
 have hrf:rise≤rise'∧rise'≤2900∧fall≤fall'∧fall'≤2900∧(0 < i→x≤truth.getD (i - 1) 0 + rise'∧truth.getD (i - 1) 0≤x + fall'):=by
  rcases Nat.eq_zero_or_pos i with c | c
  ·rw [hr0 c,hf0 c]
   exact ⟨by omega,by omega,by omega,by omega,fun h=>by omega⟩
  ·have:=hb (i - 1) (by omega)
   rw [hr c,hf c]
   exact ⟨by omega,by omega,by omega,by omega,fun _=>by omega⟩
 refine ⟨by simp [t],by simp [d],by omega,by omega,fun j hj=>?_,fun j hj=>?_⟩
 ·rcases Nat.lt_or_eq_of_le (show j≤i by omega) with c | c
  ·rw [(hlt j c).1,(hlt j c).2]; exact v j c
  ·rw [c,heq.1,heq.2]; exact ⟨lo,hi,rfl,h0,h1,h2,h3⟩
 ·rcases Nat.lt_or_eq_of_le (show j + 1≤i by omega) with c | c
  ·rw [(hlt j (by omega)).1,(hlt (j + 1) c).1]
   have:=s j c
   omega
  ·have:=hrf.2.2.2.2 (by omega)
   rw [c,heq.1,(hlt j (by omega)).1]
   rw [show i - 1=j by omega] at this
   omega
theorem aG6.rok {i:Nat} {truth:List Int} {rise fall:Int} {days:List aK} (h:aG6 i truth rise fall days) (h1:1≤i) (h2:i≤60):Dl.ROk ⟨rise,fall,days⟩∧Dl.Tru (Dl.lo ⟨rise,fall,days⟩) (Dl.hi ⟨rise,fall,days⟩) rise fall i (fun j=>truth.getD j 0):=by
 obtain ⟨t,d,r,f,v,s⟩:=h
 refine ⟨⟨by show 1≤days.length; omega,by show days.length≤60; omega,⟨r.1,Int.le_trans r.2 (by decide)⟩,⟨f.1,Int.le_trans f.2 (by decide)⟩,fun x hx _=>?_⟩,⟨fun j hj=>?_,fun j hj=>s j hj⟩⟩
 ·obtain ⟨j,hj,rfl⟩:=List.getElem_of_mem hx
  have hj':j < days.length:=hj
  obtain ⟨lo,hi,e,b⟩:=v j (by omega)
  show 0≤days[j].Flow.Lo∧days[j].Flow.Lo≤days[j].Flow.Hi∧days[j].Flow.Hi≤1000000000
  rw [cF (d:=Dl.dv0) hj',e]
  show 0≤lo∧lo≤hi∧hi≤1000000000
  omega
 ·obtain ⟨lo,hi,e,b⟩:=v j (by omega)
  show (Dl.vs (days.getD j Dl.dv0)).Lo≤truth.getD j 0∧truth.getD j 0≤(Dl.vs (days.getD j Dl.dv0)).Hi
  rw [e]
  show lo≤truth.getD j 0∧truth.getD j 0≤hi
  omega
theorem aGy {numbers stages:List Int} (hb:yQ numbers) (hs:yQ stages):lO 700 numbers stages=some true:=by
 have hN:700≤700:=Nat.le_refl _
 obtain ⟨r,c,u0,m0,k0,a1,a2,a3,hg⟩:=aEj hN hb (u:=0) (m:=0) (k:=0) ⟨by omega,by omega,by omega,by omega⟩ (by omega) (most:=5) (by omega)
 have hr:=hg.rcd (by omega)
 obtain ⟨hp,hc⟩:=hg.crs (by omega)
 have hmv:=hg.mv (by omega)
 have hmn:=yW c
 have hvl:=rW hr hp
 have hle:=aI6 hvl hc
 have hg1:=hg.g1
 have hgm:=hg.gm
 have hcl:=hg.len
 have hrt:=hg.mad
 have hcb:∀ j,j < c.length→-300≤c.getD j 0∧c.getD j 0≤300:=fun j hj=>by
  obtain ⟨-,-,-,b1,b2⟩:=hg.g j (by omega)
  omega
 unfold lO
 show Option.bind (lM 700 ⟨numbers,0,0⟩ ((5:Nat):Int)) _=_
 rw [a1,Option.bind_some]
 show Option.bind (mO 700 r) (fun r_3=>Option.bind (mR 700 r c) _)=_
 rw [aFe hN hr hp,Option.bind_some,aIi hN hr hp hc hcb,Option.bind_some]
 dsimp only
 rw [bne_self_eq_false,dF (show ¬ move c < qI (passes r) by omega),Bool.or_false,Bool.or_false,cond_false,W_sm (n:=((r.Gaugings.length:Nat):Int) - 1) (by omega) (by omega),show ((r.Gaugings.length:Nat):Int) - 1=((r.Gaugings.length - 1:Nat):Int) by omega,getI_d g0 (by omega),Option.bind_some,show bG r.Gaugings 0=some (r.Gaugings.getD 0 g0) from getI_d (i:=0) g0 (by omega),Option.bind_some]
 obtain ⟨d0,hd0⟩:∃ d0,d0=(r.Gaugings.getD 0 g0).Day:=⟨_,rfl⟩
 obtain ⟨d1,hd1⟩:∃ d1,d1=(r.Gaugings.getD (r.Gaugings.length - 1) g0).Day:=⟨_,rfl⟩
 have b0:0≤d0:=by
  have:=(hg.g 0 (by omega)).1.d
  omega
 have b1:d1≤53:=by
  have:=(hg.g (r.Gaugings.length - 1) (by omega)).2.1
  omega
 have b01:d0≤d1:=by
  rcases Nat.eq_zero_or_pos (r.Gaugings.length - 1) with z | z
  ·rw [z] at hd1
   omega
  ·have:=wZ hr z (by omega)
   omega
 obtain ⟨n,hn⟩:=Int.eq_ofNat_of_zero_le (show 0≤d1 - d0 + 1 by omega)
 obtain ⟨s',e1,e2⟩:=aAh (ρ:=Bool) (fun s14:List Int × Int × Int × Int × Int × Int × List aK=>cO 700 stages (r,c,u0,m0) (move c,0) (r.Gaugings.getD (r.Gaugings.length - 1) g0) s14.1 s14.2.1 s14.2.2.1 s14.2.2.2.1 s14.2.2.2.2.1 s14.2.2.2.2.2.1 s14.2.2.2.2.2.2)
  (fun i s=>aG6 i s.1 s.2.2.2.2.1 s.2.2.2.2.2.1 s.2.2.2.2.2.2∧s.2.1=d0 + (i:Int)∧SOk s.2.2.1 s.2.2.2.1 i) n (fun i s hi hI=>by
   obtain ⟨truth,day,x,x1,x2,x3,x4⟩:=s
   obtain ⟨i1,i2,i3⟩:=hI
   simp only at i1 i2 i3
   obtain ⟨st,u1,m1,c1,c2,c3,c4⟩:=gZ (N:=700) hs (lo:=-20) (hi:=120) i3 (by omega) (by omega) (by omega) (by omega)
   obtain ⟨k,f1,f2,f3,f4⟩:=aDj (N:=700) (r:=r) (c:=c) (u:=u0) (m:=m0) (day:=day) (r.Gaugings.length - 1) 0 700 (by omega) (by omega) (by omega) (by omega)
   have hck:=hcb k (by omega)
   obtain ⟨⟨slo,shi⟩,g1,g2,g3,⟨al,g4⟩,⟨ah,g5⟩⟩:=aJf hr hp hc f2 f3 f4 st
   simp only at g2 g3 g4 g5
   obtain ⟨v1,v2,v3,-,-⟩:=gO hrt.ok (st - c.getD k 0)
   have v4:=aEf hrt.ok (st - c.getD k 0)
   have v5:=aI0 hrt.ok (st - c.getD k 0)
   have v6:=aJm hrt.ok (st - c.getD k 0)
   have v7:=aLu hrt ah
   have v8:=(aEf hrt.ok al).2.1
   have v9:=aC2 hrt (st - c.getD k 0)
   have w1:slo * (bB r.Rating (st - c.getD k 0)).D≤mfl r.Rating (st - c.getD k 0) * (bB r.Rating (st - c.getD k 0)).D:=gW g2 (by omega)
   have w2:mce r.Rating (st - c.getD k 0) * (bB r.Rating (st - c.getD k 0)).D≤shi * (bB r.Rating (st - c.getD k 0)).D:=gW g3 (by omega)
   have w3:=yM (a:=slo) (b:=(bB r.Rating (st - c.getD k 0)).D) (A:=2900) (B:=4000) (by omega) (by omega) (by omega) (by omega)
   have w4:=yM (a:=shi) (b:=(bB r.Rating (st - c.getD k 0)).D) (A:=2900) (B:=4000) (by omega) (by omega) (by omega) (by omega)
   have it:=i1.t
   have idd:=i1.d
   have hday:day≤d1:=by omega
   have hw:W ((bB r.Rating (st - c.getD k 0)).N.tdiv (bB r.Rating (st - c.getD k 0)).D)=mfl r.Rating (st - c.getD k 0):=by
    rw [oS v3]
    show W (mfl r.Rating (st - c.getD k 0))=_
    rw [W_sm (by omega) (by omega)]
   have hz:nz (bB r.Rating (st - c.getD k 0)).D=some ():=by unfold nz; rw [if_neg (by omega)]
   have hj:∀ y z:Int,dJ 700 truth day x4 (st,u1,m1) (bB r.Rating (st - c.getD k 0),0) (⟨slo,shi⟩,0) y z=some (.cont (truth++[mfl r.Rating (st - c.getD k 0)],day + 1,u1,m1,y,z,x4++[⟨true,⟨slo,shi⟩⟩])):=fun y z=>by
    unfold dJ mM nZ
    dsimp only
    rw [hw,lB (by rw [List.length_append,it,List.length_singleton]; omega),Option.bind_some,Option.bind_some,Option.bind_some,lB (by rw [List.length_append,idd,List.length_singleton]; omega),Option.bind_some,W_sm (n:=day + 1) (by omega) (by omega)]
   have hstep:cO 700 stages (r,c,u0,m0) (move c,0) (r.Gaugings.getD (r.Gaugings.length - 1) g0) truth day x x1 x2 x3 x4=cond (decide (0 < ((truth.length:Nat):Int))) (Option.bind (bG truth (W (((truth.length:Nat):Int) - 1))) fun e_7=>Option.bind (bG truth (W (((truth.length:Nat):Int) - 1))) fun e_8=>dJ 700 truth day x4 (st,u1,m1) (bB r.Rating (st - c.getD k 0),0) (⟨slo,shi⟩,0) (max x2 (W (mfl r.Rating (st - c.getD k 0) - e_7))) (max x3 (W (e_8 - mfl r.Rating (st - c.getD k 0))))) (dJ 700 truth day x4 (st,u1,m1) (bB r.Rating (st - c.getD k 0),0) (⟨slo,shi⟩,0) x2 x3):=by
    unfold cO
    rw [← hd1,dT hday,dT (show ((truth.length:Nat):Int) < 60 by omega),Bool.and_true,cond_true]
    show Option.bind (bE (fun s37=>cS 700 (r,c,u0,m0) day s37) 700 ((0:Nat):Int)) _=_
    rw [f1,Option.bind_some,eK]
    show Option.bind (aZ 700 ⟨stages,x,x1⟩ (-20) 120) _=_
    rw [c1,Option.bind_some]
    show Option.bind (bG c (k:Int)) _=_
    rw [getI_d 0 (by omega),Option.bind_some]
    show Option.bind (jB 700 r.Rating st (c.getD k 0)) _=_
    rw [aDx hN hrt.ok (by omega) (by omega),Option.bind_some]
    show Option.bind (kT 700 r (min (move c) 18000) day st) _=_
    rw [show min (move c) 18000=move c by omega,aEy hN hr hp (by omega) (by omega) (by omega),g1,Option.bind_some]
    dsimp only
    rw [bne_self_eq_false,dF (show ¬ (bB r.Rating (st - c.getD k 0)).D < 1 by omega),W_sm (n:=slo * (bB r.Rating (st - c.getD k 0)).D) (by omega) (by omega),W_sm (n:=shi * (bB r.Rating (st - c.getD k 0)).D) (by omega) (by omega),dF (show ¬ (bB r.Rating (st - c.getD k 0)).N < slo * (bB r.Rating (st - c.getD k 0)).D by omega),dF (show ¬ shi * (bB r.Rating (st - c.getD k 0)).D < (bB r.Rating (st - c.getD k 0)).N by omega)]
    simp only [Bool.or_false,cond_false]
    rw [hz,Option.bind_some,hw]
   rcases Nat.eq_zero_or_pos i with z | z
   ·refine ⟨(truth++[mfl r.Rating (st - c.getD k 0)],day + 1,u1,m1,x2,x3,x4++[⟨true,⟨slo,shi⟩⟩]),?_,i1.next (by omega) g2 (by omega) (by omega) (fun h=>by omega) (fun h=>by omega) (fun _=>rfl) (fun _=>rfl),by dsimp only; push_cast; omega,c4⟩
    show cO 700 stages (r,c,u0,m0) (move c,0) (r.Gaugings.getD (r.Gaugings.length - 1) g0) truth day x x1 x2 x3 x4=_
    rw [hstep,dF (by omega),cond_false,hj]
   ·obtain ⟨lo',hi',-,p0,p1,p2,p3⟩:=i1.v (i - 1) (by omega)
    refine ⟨(truth++[mfl r.Rating (st - c.getD k 0)],day + 1,u1,m1,max x2 (mfl r.Rating (st - c.getD k 0) - truth.getD (i - 1) 0),max x3 (truth.getD (i - 1) 0 - mfl r.Rating (st - c.getD k 0)),x4++[⟨true,⟨slo,shi⟩⟩]),?_,i1.next (by omega) g2 (by omega) (by omega) (fun _=>rfl) (fun _=>rfl) (fun h=>by omega) (fun h=>by omega),by dsimp only; push_cast; omega,c4⟩
    show cO 700 stages (r,c,u0,m0) (move c,0) (r.Gaugings.getD (r.Gaugings.length - 1) g0) truth day x x1 x2 x3 x4=_
    rw [hstep,dT (by omega),cond_true,W_sm (n:=((truth.length:Nat):Int) - 1) (by omega) (by omega),show ((truth.length:Nat):Int) - 1=((i - 1:Nat):Int) by omega,getI_d 0 (by omega),Option.bind_some,Option.bind_some,W_sm (n:=mfl r.Rating (st - c.getD k 0) - truth.getD (i - 1) 0) (by omega) (by omega),W_sm (n:=truth.getD (i - 1) 0 - mfl r.Rating (st - c.getD k 0)) (by omega) (by omega),hj]) (fun s hI=>by
   obtain ⟨truth,day,x,x1,x2,x3,x4⟩:=s
   obtain ⟨i1,i2,i3⟩:=hI
   simp only at i2
   show cO 700 stages (r,c,u0,m0) (move c,0) (r.Gaugings.getD (r.Gaugings.length - 1) g0) truth day x x1 x2 x3 x4=_
   unfold cO
   rw [← hd1,dF (show ¬ day≤d1 by omega),Bool.false_and,cond_false]) n 0 ([],d0,0,0,0,0,[]) 700 (by omega) (by omega) ⟨⟨rfl,rfl,by dsimp only; omega,by dsimp only; omega,fun j hj=>by omega,fun j hj=>by omega⟩,by dsimp only; omega,⟨by dsimp only; omega,by dsimp only; omega,by dsimp only; omega,by dsimp only; omega⟩⟩
 obtain ⟨truth,day,x,x1,x2,x3,x4⟩:=s'
 obtain ⟨i1,i2,i3⟩:=e2
 simp only at i1
 have it:=i1.t
 have idd:=i1.d
 have hn1:1≤n:=by omega
 obtain ⟨hk,ht⟩:=i1.rok hn1 (by omega)
 obtain ⟨R,hR⟩:∃ R:aF,R=⟨x2,x3,x4⟩:=⟨_,rfl⟩
 have hRd:R.Days.length=n:=by rw [hR]; exact idd
 have hRr:R.Rise=x2:=by rw [hR]
 have hRf:R.Fall=x3:=by rw [hR]
 rw [← hR] at hk ht
 have ht':Dl.Tru (Dl.lo R) (Dl.hi R) R.Rise R.Fall R.Days.length (fun j=>truth.getD j 0):=by rw [hRd,hRr,hRf]; exact ht
 have hag:Dl.agB R=true:=Dl.agB_iff.2 (ht'.agree hk.rise.1 hk.fall.1)
 have htd:=fun i (h:i < R.Days.length)=>ht'.told hk.rise.1 hk.fall.1 h
 have hbd:=Dl.tru_bd hk ht'
 have hrl:truth=Dl.rl R.Days.length fun j=>truth.getD j 0:=Dl.rl_of (by omega)
 show Option.bind (bE _ 700 ([],(r.Gaugings.getD 0 g0).Day,0,0,0,0,[])) _=_
 rw [← hd0,e1,Option.bind_some,eK]
 dsimp only
 rw [← hR,Dl.Fill_spec (by omega) (by omega),Option.bind_some,Dl.fillF_ok hk hag]
 have evol:iW 700 R 0 (W (((truth.length:Nat):Int) - 1))=some (⟨Dl.psum (Dl.tG R) 0 n,Dl.psum (Dl.tL R) 0 n⟩,0):=by
  rw [W_sm (n:=((truth.length:Nat):Int) - 1) (by omega) (by omega),show ((truth.length:Nat):Int) - 1=((n - 1:Nat):Int) by omega,Dl.Volume_spec (by omega) (by omega)]
  show some (Dl.volR R ((0:Nat):Int) ((n - 1:Nat):Int))=_
  rw [Dl.volR_ok hk hag (by omega) (by omega),show n - 1 + 1 - 0=n by omega]
 have ehold:mL 700 R truth=some (-1,0):=by
  have h1:=Dl.holds_ok hk hbd ht'
  rw [← hrl] at h1
  rw [Dl.Holds_spec (by omega) (by omega),h1]
 show Option.bind (iW 700 R 0 (W (((truth.length:Nat):Int) - 1))) _=_
 rw [evol,Option.bind_some,ehold,Option.bind_some]
 dsimp only
 rw [Dl.told_len,hRd,it,bne_self_eq_false,bne_self_eq_false,bne_self_eq_false]
 simp only [Bool.or_false,cond_false]
 have l23:=uM (ρ:=Bool) (fun i:Nat=>(i:Int)) n (fun s23=>dI 700 truth (Dl.told R,0) s23) (fun i hi=>by
  show dI 700 truth (Dl.told R,0) (i:Int)=_
  unfold dI
  have h1:=htd i (by omega)
  show cond (decide ((i:Int) < ((truth.length:Nat):Int))) (Option.bind (bG truth (i:Int)) fun e_3=>Option.bind (bG (Dl.told R) (i:Int)) _) _=_
  rw [lR (by omega),cond_true,getI_d 0 (by omega),Option.bind_some,Dl.told_get (by omega),Option.bind_some,Option.bind_some,fP (by omega)]
  show Option.bind (cond (decide (truth.getD i 0 < Dl.tG R i)) (some true) (some (decide (Dl.tL R i < truth.getD i 0)))) _=_
  unfold Dl.tG Dl.tL
  rw [dF (by omega),dF (by omega)]
  rfl) (by
  show dI 700 truth (Dl.told R,0) (n:Int)=_
  unfold dI
  rw [dF (by omega),cond_false]) (N:=700) (by omega)
 show Option.bind (bE (fun s23=>dI 700 truth (Dl.told R,0) s23) 700 ((0:Nat):Int)) _=_
 rw [l23,Option.bind_some,eK]
 have htot:=(Dl.total_rl (N:=700) (by omega) (g:=fun j=>truth.getD j 0) (a:=0) (m:=n) (fun i hi=>by
  have:=hbd i (by omega)
  rw [Nat.zero_add]
  exact this) (by omega)).1
 simp only [Nat.zero_add] at htot
 rw [← hRd,← hrl,hRd] at htot
 have hlow:=Dl.psum_mono (g:=Dl.tG R) (h:=fun j=>truth.getD j 0) (a:=0) n fun i hi=>by
  rw [Nat.zero_add]
  exact (htd i (by omega)).1
 have hupp:=Dl.psum_mono (g:=fun j=>truth.getD j 0) (h:=Dl.tL R) (a:=0) n fun i hi=>by
  rw [Nat.zero_add]
  exact (htd i (by omega)).2
 rw [htot,Option.bind_some,dT hlow,dT hupp]
 show Option.bind (Option.bind (mQ 700) _) _=_
 rw [Dl.awake_true]
 rfl
end Go.Nilo
