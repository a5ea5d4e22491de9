/-
  What the plain functions compute, in plain arithmetic, part 5. Conditions: what each theorem names.
-/
import Derived.Test.YtkcmofifepmkdaaGreatTdL4
set_option linter.unusedSimpArgs false
set_option linter.unusedVariables false
namespace Go.Nilo.Ba
def rW (e:bD) (x:Int):Wx:=⟨e.From.toNat,e.To.toNat,e.Flow.Lo,e.Flow.Hi,x⟩
def RW (R:List bD) (F:List Int):List Wx:=(List.range R.length).map fun i=>rW (R.getD i rD) (F.getD i 0)
def GW (g k:Nat) (y:Nat→Int) (sp:Nat→aF):List Wx:=(List.range k).map fun i=>⟨g,i,(sp i).Lo,(sp i).Hi,y i⟩
theorem aNs {R:List bD} {F:List Int} (h:F.length=R.length) (e:bD) (x:Int):RW (R++[e]) (F++[x])=RW R F++[rW e x]:=by
 unfold RW
 rw [List.length_append,List.length_singleton,List.range_succ,List.map_append,List.map_singleton]
 congr 1
 ·refine List.map_congr_left fun i hi=>?_
  have hi':=List.mem_range.1 hi
  rw [jV hi',jV (by omega)]
 ·rw [jS,← h,jS]
theorem aL7 {g:Nat} {y:Nat→Int} {sp:Nat→aF} {p:Nat} (hp:p ≠ g):∀ k,ovr (GW g k y sp) p=if p < k then y p else 0
 | 0=>by rw [if_neg (by omega)]; rfl
 | k + 1=>by
  unfold GW
  rw [List.range_succ,List.map_append,aB3]
  show ovr (GW g k y sp) p + (((if k=p then y k else 0) - (if g=p then y k else 0)) + 0)=_
  rw [aL7 hp k,if_neg (show ¬ g=p from fun e=>hp e.symm)]
  by_cases e:k=p
  ·subst e
   rw [if_neg (show ¬ k < k by omega),if_pos rfl,if_pos (show k < k + 1 by omega)]
   omega
  ·rw [if_neg e]
   by_cases h2:p < k
   ·rw [if_pos h2,if_pos (show p < k + 1 by omega)]; omega
   ·rw [if_neg h2,if_neg (show ¬ p < k + 1 by omega)]; rfl
def tX (n:bC) (t:cL) (i:Nat):Int:=if i < n.Reaches.length then t.Flows.getD i 0 else t.Gains.getD (i - n.Reaches.length) 0
theorem aGw (n:bC) (t:cL):wl (jM n (tX n t))=RW n.Reaches t.Flows++GW n.Gains.length n.Gains.length (fun i=>t.Gains.getD i 0) (fun i=>n.Gains.getD i sD):=by
 apply List.ext_getElem
 ·simp [wl,jM,RW,GW,nW]
 ·intro i h1 h2
  have hi:i < n.Reaches.length + n.Gains.length:=by simpa [wl,jM,nW] using h1
  by_cases h:i < n.Reaches.length
  ·rw [List.getElem_append_left (by simpa [RW] using h)]
   simp only [wl,jM,RW,List.getElem_map,List.getElem_range]
   unfold wAt tX wx rW
   rw [if_pos h,if_pos h]
  ·rw [List.getElem_append_right (by simp [RW]; omega)]
   simp only [wl,jM,RW,GW,List.getElem_map,List.getElem_range,List.length_map,List.length_range]
   unfold wAt tX wx
   rw [if_neg h,if_neg h]
   simp
structure aIe (g j:Nat) (much:List Int) (R:List bD) (F:List Int):Prop where
 m:much.length=g
 r:R.length=j
 f:F.length=j
 o:∀ p,p < g→much.getD p 0=ovr (RW R F) p
 b:∀ p,p < g→-(200 * (j:Int))≤much.getD p 0∧much.getD p 0≤200 * (j:Int)
 re:∀ i,i < j→0≤(R.getD i rD).From∧(R.getD i rD).From < g∧0≤(R.getD i rD).To∧(R.getD i rD).To < g∧(R.getD i rD).From ≠ (R.getD i rD).To
 s:∀ i,i < j→-200≤(R.getD i rD).Flow.Lo∧(R.getD i rD).Flow.Lo≤F.getD i 0∧F.getD i 0≤(R.getD i rD).Flow.Hi∧(R.getD i rD).Flow.Hi≤200
theorem aO9 {g a b:Int} (hg:2≤g∧g≤5) (ha:0≤a∧a < g) (hb:1≤b∧b≤g - 1):0≤(a + b).tmod g∧(a + b).tmod g < g∧a ≠ (a + b).tmod g:=by
 rw [sN (by omega)]
 rcases (by omega:g=2 ∨ g=3 ∨ g=4 ∨ g=5) with rfl | rfl | rfl | rfl <;> omega
theorem aEz {l:List Int} {i j:Nat} {x:Int} (hi:i < l.length):(l.set i x).getD j 0=if j=i then x else l.getD j 0:=by
 by_cases h:j=i
 ·subst h; simp [List.getD,hi]
 ·rw [if_neg h]; simp [List.getD,Ne.symm h]
theorem aIe.step {g j:Nat} {much:List Int} {R:List bD} {F:List Int} (h:aIe g j much R F) {a b:Nat} {x lo hi:Int} (ha:a < g) (hb:b < g) (hab:a ≠ b) (hx : -20≤x∧x≤120) (hlo : -200≤lo∧lo≤x) (hhi:x≤hi∧hi≤200) :
  aIe g (j + 1) ((much.set a (much.getD a 0 - x)).set b (much.getD b 0 + x)) (R++[⟨(a:Int),(b:Int),⟨lo,hi⟩⟩]) (F++[x]):=by
 have hm:=h.m
 have hr:=h.r
 have hf:=h.f
 have hv:∀ p,p < g→((much.set a (much.getD a 0 - x)).set b (much.getD b 0 + x)).getD p 0=much.getD p 0 + (if b=p then x else 0) - (if a=p then x else 0):=by
  intro p hp
  rw [aEz (by rw [List.length_set]; omega)]
  by_cases e1:p=b
  ·subst e1
   rw [if_pos rfl,if_pos rfl,if_neg hab]
   omega
  ·rw [if_neg e1,if_neg (fun e=>e1 e.symm),aEz (by omega)]
   by_cases e2:p=a
   ·subst e2
    rw [if_pos rfl,if_pos rfl]
    omega
   ·rw [if_neg e2,if_neg (fun e=>e2 e.symm)]
    omega
 refine ⟨by simp [hm],by simp [hr],by simp [hf],fun p hp=>?_,fun p hp=>?_,fun i hi'=>?_,fun i hi'=>?_⟩
 ·rw [hv p hp,aNs (by omega),aB3,h.o p hp]
  show _=ovr (RW R F) p + (((if ((b:Int)).toNat=p then x else 0) - (if ((a:Int)).toNat=p then x else 0)) + 0)
  rw [Int.toNat_natCast,Int.toNat_natCast]
  omega
 ·have:=h.b p hp
  rw [hv p hp]
  push_cast
  split <;> split <;> omega
 ·by_cases hij:i < j
  ·rw [jV (by omega)]
   exact h.re i hij
  ·obtain rfl:i=R.length:=by omega
   rw [jS]
   dsimp only
   omega
 ·by_cases hij:i < j
  ·rw [jV (by omega),jV (by omega)]
   exact h.s i hij
  ·have e1:i=R.length:=by omega
   subst e1
   rw [jS,show R.length=F.length by omega,jS]
   dsimp only
   omega
structure GInv (i:Nat) (much:List Int) (G:List aF) (T:List Int):Prop where
 g:G.length=i
 t:T.length=i
 v:∀ q,q < i→T.getD q 0 = -much.getD q 0∧T.getD q 0 - 8≤(G.getD q sD).Lo∧(G.getD q sD).Lo≤T.getD q 0∧T.getD q 0≤(G.getD q sD).Hi∧(G.getD q sD).Hi≤T.getD q 0 + 8
theorem aP7 {g j:Nat} {much:List Int} {R:List bD} {F:List Int} {G:List aF} {T:List Int} (hg:1≤g∧g≤5) (hj:j≤12) (h:aIe g j much R F) (h2:GInv g much G T):NOk ⟨G,R⟩ (tX ⟨G,R⟩ ⟨F,T⟩):=by
 have e1:=h.m
 have e2:=h.r
 have e3:=h.f
 have e4:=h2.g
 have e5:=h2.t
 have hb:∀ i,i < nW ⟨G,R⟩→-100000≤(spA ⟨G,R⟩ i).Lo∧(spA ⟨G,R⟩ i).Lo≤tX ⟨G,R⟩ ⟨F,T⟩ i∧tX ⟨G,R⟩ ⟨F,T⟩ i≤(spA ⟨G,R⟩ i).Hi∧(spA ⟨G,R⟩ i).Hi≤100000:=by
  intro i hi
  unfold nW at hi
  dsimp only at hi
  unfold spA wAt tX
  dsimp only
  by_cases hr:i < R.length
  ·rw [if_pos hr,if_pos hr]
   have:=h.s i (by omega)
   dsimp only
   omega
  ·rw [if_neg hr,if_neg hr]
   obtain ⟨a1,a2,a3,a4,a5⟩:=h2.v (i - R.length) (by omega)
   have a6:=h.b (i - R.length) (by omega)
   dsimp only
   omega
 have hre:∀ i,i < R.length→0≤(R.getD i rD).From∧(R.getD i rD).From < G.length∧0≤(R.getD i rD).To∧(R.getD i rD).To < G.length∧(R.getD i rD).From ≠ (R.getD i rD).To:=by
  intro i hi
  have:=h.re i (by omega)
  rw [e4]
  exact this
 have hz1:∀ p,p < g→ovr (wl (jM ⟨G,R⟩ (tX ⟨G,R⟩ ⟨F,T⟩))) p=0:=by
  intro p hp
  rw [aGw,aB3]
  dsimp only
  rw [aL7 (by omega),if_pos (by omega),(h2.v p hp).1,h.o p hp]
  omega
 -- the places of all ways
 have hmem:∀ w ∈ wl (jM ⟨G,R⟩ (tX ⟨G,R⟩ ⟨F,T⟩)),w.f < g + 1∧w.t < g + 1:=by
  intro w hw
  rw [aGw] at hw
  rcases List.mem_append.1 hw with hw | hw
  ·unfold RW at hw
   obtain ⟨i,hi,rfl⟩:=List.mem_map.1 hw
   have:=hre i (List.mem_range.1 hi)
   unfold rW
   dsimp only
   omega
  ·unfold GW at hw
   obtain ⟨i,hi,rfl⟩:=List.mem_map.1 hw
   have:=List.mem_range.1 hi
   dsimp only at this ⊢
   omega
 refine ⟨by dsimp only; omega,by dsimp only; omega,hre,hb,fun p=>?_⟩
 rcases Nat.lt_or_ge p g with hp | hp
 ·exact hz1 p hp
 ·rcases Nat.lt_or_ge p (g + 1) with hp2 | hp2
  ·obtain rfl:p=g:=by omega
   have hs:jE (fun p=>if (fun _=>true:Nat→Bool) p=true then ovr (wl (jM ⟨G,R⟩ (tX ⟨G,R⟩ ⟨F,T⟩))) p else 0) (p + 1)=rL (fun _=>true) (wl (jM ⟨G,R⟩ (tX ⟨G,R⟩ ⟨F,T⟩))):=xY hmem
   rw [aA7] at hs
   have hs2:jE (fun p=>if (fun _=>true:Nat→Bool) p=true then ovr (wl (jM ⟨G,R⟩ (tX ⟨G,R⟩ ⟨F,T⟩))) p else 0) p=0:=by
    rw [qR (g:=fun _=>0) fun q hq=>by rw [if_pos rfl,hz1 q hq],iN]
   have hs3:jE (fun p=>if (fun _=>true:Nat→Bool) p=true then ovr (wl (jM ⟨G,R⟩ (tX ⟨G,R⟩ ⟨F,T⟩))) p else 0) p + ovr (wl (jM ⟨G,R⟩ (tX ⟨G,R⟩ ⟨F,T⟩))) p=0:=hs
   omega
  ·exact aB7 hmem hp2
structure aOe (n:bC) (t:cL):Prop where
 ok:NOk n (tX n t)
 f:t.Flows.length=n.Reaches.length
 s:∀ i,i < n.Reaches.length→-200≤(n.Reaches.getD i rD).Flow.Lo∧(n.Reaches.getD i rD).Flow.Lo≤t.Flows.getD i 0∧t.Flows.getD i 0≤(n.Reaches.getD i rD).Flow.Hi∧(n.Reaches.getD i rD).Flow.Hi≤200
theorem aF1 {N:Nat} (hN:60≤N) {l:List Int} (hb:yJ l) {u m:Int} {k g c:Nat} {u1 m1 u2 m2:Int} (hg5:1≤g∧g≤5) (hc:c≤11) (hk:k≤10000) (s2:SOk u2 m2 (k + 2)) :
  ∃ (j:Nat) (much:List Int) (i u' m':Int) (R:List bD) (F:List Int),bN (fun s8:List Int × Int × Int × Int × List bD × List Int=>gR N ⟨l,u,m⟩ ((g:Int),u1,m1) s8.1 s8.2.1 s8.2.2.1 s8.2.2.2.1 s8.2.2.2.2.1 s8.2.2.2.2.2) N ((List.replicate g (0:Int)),(c:Int),u2,m2,([]:List bD),([]:List Int))=some (.go (much,i,u',m',R,F))∧j≤11∧aIe g j much R F∧SOk u' m' (k + 60):=by
 have h0:aIe g 0 (List.replicate g 0) [] []:=by
  refine ⟨by simp,rfl,rfl,fun p hp=>?_,fun p hp=>?_,fun i hi=>by omega,fun i hi=>by omega⟩
  ·show _=(0:Int)
   simp [List.getD,hp]
  ·have:(List.replicate g (0:Int)).getD p 0=0:=by simp [List.getD,hp]
   rw [this]
   omega
 by_cases hg:g=1
 ·refine ⟨0,List.replicate g 0,(c:Int),u2,m2,[],[],?_,by omega,h0,⟨s2.u0,by have:=s2.u1; push_cast at this ⊢; omega,s2.m0,s2.m1⟩⟩
  obtain ⟨M,rfl⟩:∃ M,N=M + 1:=⟨N - 1,by omega⟩
  unfold bN
  have:gR (M + 1) ⟨l,u,m⟩ ((g:Int),u1,m1) (List.replicate g (0:Int)) (c:Int) u2 m2 [] []=some (.brk (List.replicate g (0:Int),(c:Int),u2,m2,[],[])):=by
   unfold gR
   have:(decide (1 < (g:Int)))=false:=by simp; omega
   dsimp only
   rw [this,Bool.and_false,cond_false]
  simp only [this]
 ·obtain ⟨⟨much,i,u',m',R,F⟩,q1,-,q2,q3⟩:=kW (ρ:=bC × cL × Int × Int) (fun s8:List Int × Int × Int × Int × List bD × List Int=>gR N ⟨l,u,m⟩ ((g:Int),u1,m1) s8.1 s8.2.1 s8.2.2.1 s8.2.2.2.1 s8.2.2.2.2.1 s8.2.2.2.2.2)
   (fun j s=>s.2.1=(c:Int) - (j:Int)∧aIe g j s.1 s.2.2.2.2.1 s.2.2.2.2.2∧SOk s.2.2.1 s.2.2.2.1 (k + 2 + 5 * j)) c (by
   rintro j ⟨much,i,v,w,R,F⟩ hj ⟨rfl,hR,hS⟩
   dsimp only at hR hS
   obtain ⟨p1,v1,w1,f1,c1,d1,t1⟩:=fO (N:=N) hb (n:=(g:Int)) hS (by omega)
   obtain ⟨p2,v2,w2,f2,c2,d2,t2⟩:=mD (N:=N) hb (lo:=1) (hi:=(g:Int) - 1) t1 (by omega) (by omega) (by omega) (by omega)
   obtain ⟨p3,v3,w3,f3,c3,d3,t3⟩:=mD (N:=N) hb (lo:=-20) (hi:=120) t2 (by omega) (by omega) (by omega) (by omega)
   obtain ⟨p4,v4,w4,f4,c4,d4,t4⟩:=fO (N:=N) hb (n:=9) t3 (by omega)
   obtain ⟨p5,v5,w5,f5,c5,d5,t5⟩:=fO (N:=N) hb (n:=9) t4 (by omega)
   have hp1:p1 < (g:Int):=by omega
   obtain ⟨y1,y2,y3⟩:=aO9 (g:=(g:Int)) (a:=p1) (b:=p2) (by omega) ⟨c1,hp1⟩ ⟨c2,d2⟩
   obtain ⟨a,ha⟩:∃ a:Nat,p1=(a:Int):=⟨p1.toNat,by omega⟩
   obtain ⟨b,hbb⟩:∃ b:Nat,(p1 + p2).tmod (g:Int)=(b:Int):=⟨((p1 + p2).tmod (g:Int)).toNat,by omega⟩
   have hml:=hR.m
   have hrl:=hR.r
   have hfl:=hR.f
   have z0:decide (0 < (c:Int) - (j:Int))=true:=by simp; omega
   have z1:decide (1 < (g:Int))=true:=by simp; omega
   have hst:=hR.step (a:=a) (b:=b) (x:=p3) (lo:=p3 - p4) (hi:=p3 + p5) (by omega) (by omega) (by omega) ⟨c3,d3⟩ (by omega) (by omega)
   have bb1:=hR.b a (by omega)
   have bb2:=hR.b b (by omega)
   refine ⟨(((much.set a (much.getD a 0 - p3)).set b (much.getD b 0 + p3)),(c:Int) - ((j + 1:Nat):Int),v5,w5,R++[⟨(a:Int),(b:Int),⟨p3 - p4,p3 + p5⟩⟩],F++[p3]),?_,rfl,hst,t5⟩
   show gR N ⟨l,u,m⟩ ((g:Int),u1,m1) much ((c:Int) - (j:Int)) v w R F=_
   unfold gR
   dsimp only
   rw [z0,z1,Bool.and_true,cond_true,f1,Option.bind_some]
   dsimp only
   rw [eH (n:=(g:Int) - 1) (by omega) (by omega),f2,Option.bind_some]
   have hnz:nz (g:Int)=some ():=by unfold nz; rw [if_neg (by omega)]
   dsimp only
   rw [hnz,Option.bind_some,f3,Option.bind_some]
   dsimp only
   rw [f4,Option.bind_some]
   dsimp only
   rw [f5,Option.bind_some]
   dsimp only
   rw [eH (n:=p1 + p2) (by omega) (by omega),hbb,eH (n:=p3 - p4) (by omega) (by omega),eH (n:=p3 + p5) (by omega) (by omega),ha,gY (by simp; omega),Option.bind_some,gY (by simp; omega),Option.bind_some]
   rw [sM (show a < much.length by omega),sM (show b < much.length by omega)]
   simp only [Option.bind_some]
   rw [eH (n:=much.getD a 0 - p3) (by omega) (by omega),eH (n:=much.getD b 0 + p3) (by omega) (by omega),eH (n:=(c:Int) - (j:Int) - 1) (by omega) (by omega),Int.toNat_natCast,Int.toNat_natCast]
   have:(c:Int) - (j:Int) - 1=(c:Int) - ((j + 1:Nat):Int):=by push_cast; omega
   rw [this]) (by
   rintro ⟨much,i,v,w,R,F⟩ ⟨rfl,-⟩
   show gR N ⟨l,u,m⟩ ((g:Int),u1,m1) much ((c:Int) - (c:Int)) v w R F=_
   unfold gR
   have:decide (0 < (c:Int) - (c:Int))=false:=by simp
   rw [this,Bool.false_and,cond_false]) c 0 ((List.replicate g (0:Int)),(c:Int),u2,m2,([]:List bD),([]:List Int)) N (by omega) (by omega) ⟨by dsimp only; omega,h0,s2⟩
  dsimp only at q2 q3
  exact ⟨c,much,i,u',m',R,F,q1,hc,q2,⟨q3.u0,by have:=q3.u1; push_cast at this ⊢; omega,q3.m0,q3.m1⟩⟩
theorem aNq {N:Nat} (hN:60≤N) {l:List Int} (hb:yJ l) {u m:Int} {k:Nat} (hs:SOk u m k) (hk:k≤10000) :
  ∃ n t u' m',sQ N ⟨l,u,m⟩ 5=some (n,t,u',m')∧aOe n t∧SOk u' m' (k + 100):=by
 obtain ⟨g',u1,m1,e1,a1,b1,s1⟩:=mD (N:=N) hb (lo:=1) (hi:=5) hs (by omega) (by omega) (by omega) (by omega)
 obtain ⟨g,rfl⟩:∃ g:Nat,g'=(g:Int):=⟨g'.toNat,by omega⟩
 obtain ⟨c',u2,m2,e2,a2,b2,s2⟩:=fO (N:=N) hb (n:=12) s1 (by omega)
 obtain ⟨c,rfl⟩:∃ c:Nat,c'=(c:Int):=⟨c'.toNat,by omega⟩
 have hc:c≤11:=by omega
 have l8:=aF1 (N:=N) hN hb (u:=u) (m:=m) (u1:=u1) (m1:=m1) (g:=g) (by omega) hc hk s2
 obtain ⟨j,much,i,u3,m3,R,F,e8,hj,hR,s3⟩:=l8
 have hml:=hR.m
 obtain ⟨⟨i4,u4,m4,G,T⟩,e11,-,hG,s4⟩:=kW (ρ:=bC × cL × Int × Int) (fun s11:Int × Int × Int × List aF × List Int=>iY N ⟨l,u,m⟩ ((g:Int),u1,m1) much s11.1 s11.2.1 s11.2.2.1 s11.2.2.2.1 s11.2.2.2.2)
  (fun i s=>s.1=(i:Int)∧GInv i much s.2.2.2.1 s.2.2.2.2∧SOk s.2.1 s.2.2.1 (k + 60 + 2 * i)) g (by
  rintro i ⟨z,v,w,G,T⟩ hi ⟨rfl,hG,hS⟩
  dsimp only at hG hS
  obtain ⟨p1,v1,w1,f1,c1,d1,t1⟩:=fO (N:=N) hb (n:=9) hS (by omega)
  obtain ⟨p2,v2,w2,f2,c2,d2,t2⟩:=fO (N:=N) hb (n:=9) t1 (by omega)
  have bb:=hR.b i hi
  have hgl:=hG.g
  have htl:=hG.t
  refine ⟨(((i + 1:Nat):Int),v2,w2,G++[⟨(0 - much.getD i 0) - p1,(0 - much.getD i 0) + p2⟩],T++[0 - much.getD i 0]),?_,rfl,⟨by simp [hgl],by simp [htl],fun q hq=>?_⟩,t2⟩
  ·show iY N ⟨l,u,m⟩ ((g:Int),u1,m1) much (i:Int) v w G T=_
   unfold iY
   dsimp only
   rw [nF hi,cond_true,sM (by omega),Option.bind_some,f1,Option.bind_some]
   dsimp only
   rw [f2,Option.bind_some]
   dsimp only
   rw [eH (n:=0 - much.getD i 0) (by omega) (by omega),eH (n:=0 - much.getD i 0 - p1) (by omega) (by omega),eH (n:=0 - much.getD i 0 + p2) (by omega) (by omega),gY (by simp; omega),Option.bind_some,gY (by simp; omega),Option.bind_some,iF (by omega)]
  ·by_cases hqi:q < i
   ·rw [jV (by omega),jV (by omega)]
    exact hG.v q hqi
   ·obtain rfl:q=i:=by omega
    have e1:(T++[0 - much.getD q 0]).getD q 0=0 - much.getD q 0:=by rw [show q=T.length by omega,jS]
    have e2:(G++[(⟨(0 - much.getD q 0) - p1,(0 - much.getD q 0) + p2⟩:aF)]).getD q sD=⟨(0 - much.getD q 0) - p1,(0 - much.getD q 0) + p2⟩:=by rw [show q=G.length by omega,jS]
    rw [e1,e2]
    dsimp only
    omega) (by
  rintro ⟨z,v,w,G,T⟩ ⟨rfl,-⟩
  show iY N ⟨l,u,m⟩ ((g:Int),u1,m1) much (g:Int) v w G T=_
  unfold iY
  dsimp only
  rw [nC,cond_false]) g 0 (0,u3,m3,([]:List aF),([]:List Int)) N (by omega) (by omega) ⟨rfl,⟨rfl,rfl,fun q hq=>by omega⟩,s3⟩
 dsimp only at hG s4
 have hR1:=hR.r
 have hF1:=hR.f
 have n1:=aP7 (F:=F) (T:=T) (by omega) (by omega) hR hG
 have n2:aOe ⟨G,R⟩ ⟨F,T⟩:=by
  refine ⟨n1,?_,?_⟩
  ·show F.length=R.length
   omega
  ·intro i hi
   have hi':i < j:=by rw [← hR1]; exact hi
   exact hR.s i hi'
 have n3:SOk u4 m4 (k + 100):=by
  have z2:u4≤((k + 60 + 2 * g:Nat):Int):=s4.u1
  have z1:0≤u4:=s4.u0
  have z3:0≤m4:=s4.m0
  have z4:m4≤250:=s4.m1
  clear s4
  exact ⟨z1,by omega,z3,z4⟩
 refine ⟨⟨G,R⟩,⟨F,T⟩,u4,m4,?_,n2,n3⟩
 unfold sQ
 have hin:inM (g:Int)=some ():=by unfold inM; rw [if_pos (by omega)]
 rw [e1,Option.bind_some]
 dsimp only
 rw [hin,Option.bind_some,e2,Option.bind_some]
 dsimp only
 rw [Int.toNat_natCast,e8,Option.bind_some]
 show (Option.bind (bN (fun s11:Int × Int × Int × List aF × List Int=>iY N ⟨l,u,m⟩ ((g:Int),u1,m1) much s11.1 s11.2.1 s11.2.2.1 s11.2.2.2.1 s11.2.2.2.2) N (0,u3,m3,([]:List aF),([]:List Int))) _)=_
 rw [e11,Option.bind_some]
 rfl
end Go.Nilo.Ba
namespace Go.Nilo
open Go.Nilo.Ba in
structure YrI (c:Nat) (told narrow:List aI) (truth:List aR):Prop where
 a:told.length=c
 b:narrow.length=c
 d:truth.length=c
 ya:∀ y ∈ told,YOk y
 yb:∀ y ∈ narrow,YOk y
 w:aF0 narrow truth
 s:∀ j,j < c→(told.getD j y0).Spill=false∧(narrow.getD j y0).Spill=false
 i:∀ j,j < c→(told.getD j y0).Index.Lo≤(narrow.getD j y0).Index.Lo∧(narrow.getD j y0).Index.Hi≤(told.getD j y0).Index.Hi∧(told.getD j y0).Delivered.Lo≤(narrow.getD j y0).Delivered.Lo∧(narrow.getD j y0).Delivered.Hi≤(told.getD j y0).Delivered.Hi
theorem YrI.snoc {c:Nat} {told narrow:List aI} {truth:List aR} (h:YrI c told narrow truth) {a b:aI} {t:aR} (ha:YOk a) (hb:YOk b) (ht:TOk t) (sa:a.Spill=false) (sb:b.Spill=false)
  (hi:b.Index.Lo≤t.Index∧t.Index≤b.Index.Hi) (hd:b.Delivered.Lo≤t.Delivered∧t.Delivered≤b.Delivered.Hi) (hn:a.Index.Lo≤b.Index.Lo∧b.Index.Hi≤a.Index.Hi∧a.Delivered.Lo≤b.Delivered.Lo∧b.Delivered.Hi≤a.Delivered.Hi) :
  YrI (c + 1) (told++[a]) (narrow++[b]) (truth++[t]):=by
 have e1:=h.a
 have e2:=h.b
 have e3:=h.d
 have ga:∀ j,j < c→(told++[a]).getD j y0=told.getD j y0:=fun j hj=>jV (by omega)
 have gb:∀ j,j < c→(narrow++[b]).getD j y0=narrow.getD j y0:=fun j hj=>jV (by omega)
 have gt:∀ j,j < c→(truth++[t]).getD j t0=truth.getD j t0:=fun j hj=>jV (by omega)
 have la:(told++[a]).getD c y0=a:=by rw [← e1,jS]
 have lb:(narrow++[b]).getD c y0=b:=by rw [← e2,jS]
 have lt:(truth++[t]).getD c t0=t:=by rw [← e3,jS]
 have hl:∀ {P:Nat→Prop},(∀ j,j < c→P j)→P c→∀ j,j < c + 1→P j:=fun h1 h2 j hj=>by
  rcases Nat.lt_or_ge j c with h3 | h3
  ·exact h1 j h3
  ·obtain rfl:j=_:=Nat.le_antisymm (by omega) h3
   exact h2
 have hbl:(narrow++[b]).length=c + 1:=by simp [e2]
 refine ⟨by simp [e1],hbl,by simp [e3],?_,?_,⟨by simp [e2,e3],?_,?_,?_⟩,?_,?_⟩
 ·intro y hy
  rcases List.mem_append.1 hy with h1 | h1
  ·exact h.ya y h1
  ·rw [List.mem_singleton.1 h1]; exact ha
 ·intro y hy
  rcases List.mem_append.1 hy with h1 | h1
  ·exact h.yb y h1
  ·rw [List.mem_singleton.1 h1]; exact hb
 ·rw [hbl]
  exact hl (fun j hj=>by rw [gt j hj]; exact h.w.ok j (by omega)) (by rw [lt]; exact ht)
 ·rw [hbl]
  exact hl (fun j hj=>by rw [gt j hj,gb j hj]; exact h.w.i j (by omega)) (by rw [lt,lb]; exact hi)
 ·rw [hbl]
  exact hl (fun j hj=>by rw [gt j hj,gb j hj]; exact h.w.d j (by omega)) (by rw [lt,lb]; exact hd)
 ·exact hl (fun j hj=>by rw [ga j hj,gb j hj]; exact h.s j hj) (by rw [la,lb]; exact ⟨sa,sb⟩)
 ·exact hl (fun j hj=>by rw [ga j hj,gb j hj]; exact h.i j hj) (by rw [la,lb]; exact hn)
open Go.Nilo.Ba in
theorem aKl {N:Nat} (hN:50000000≤N) {numbers:List Int} (hb:yJ numbers) {up down:Int} (hu:0≤up∧up≤255) (hd:0≤down∧down≤255) {r3:Int × Int × Int} {told narrow:List aI} {truth:List aR} {c i k:Nat} {u m:Int} (hc:c≤40) (hi:(i:Int) < r3.1) (hi2:i < 1000)
  (h:YrI c told narrow truth) (hs:SOk u m k) (hk:k≤10000) :
  ∃ c' told' narrow' truth' u' m',kF N numbers up down r3 told narrow truth (i:Int) u m=some (.cont (told',narrow',truth',((i + 1:Nat):Int),u',m'))∧c'≤c + 1∧YrI c' told' narrow' truth'∧SOk u' m' (k + 100):=by
 obtain ⟨n,t,u',m',e1,hm,hs'⟩:=aNq (N:=N) (by omega) hb hs hk
 obtain ⟨fl,ga,e2,hl,hsp⟩:=aM2 (N:=N) hm.ok hN
 have hrl:=hm.ok.r
 have hfl:=hm.f
 have hj:∀ a b d (x y:Int),jK N (i:Int) a b d x y=some (.cont (a,b,d,((i + 1:Nat):Int),x,y)):=fun a b d x y=>by
  unfold jK
  rw [iF (by omega)]
 have hd1:decide ((i:Int) < r3.1)=true:=decide_eq_true hi
 unfold kF
 rw [hd1,cond_true,e1,Option.bind_some]
 show ∃ c' told' narrow' truth' u' m',(Option.bind (nA N n) _)=_∧_
 rw [e2,Option.bind_some]
 have hne:(((0:Int) != 0) || (((fl.length:Nat):Int) != ((n.Reaches.length:Nat):Int)))=false:=by rw [hl]; simp
 dsimp only
 rw [hne,cond_false]
 by_cases h0:n.Reaches.length=0
 ·have:(((fl.length:Nat):Int) == 0)=true:=by rw [hl,h0]; rfl
  rw [this,cond_true,hj]
  exact ⟨c,told,narrow,truth,u',m',rfl,by omega,h,hs'⟩
 ·have:(((fl.length:Nat):Int) == 0)=false:=by rw [beq_eq_false_iff_ne]; omega
  have hnz:nz ((fl.length:Nat):Int)=some ():=by unfold nz; rw [if_neg (by omega)]
  rw [this,cond_false,hnz,Option.bind_some,Option.bind_some,eH (n:=up) (by omega) (by omega),eH (n:=down) (by omega) (by omega),sN hu.1,sN hd.1]
  have u1:=Int.emod_nonneg up (show ((fl.length:Nat):Int) ≠ 0 by omega)
  have u2:=Int.emod_lt_of_pos up (show 0 < ((fl.length:Nat):Int) by omega)
  have v1:=Int.emod_nonneg down (show ((fl.length:Nat):Int) ≠ 0 by omega)
  have v2:=Int.emod_lt_of_pos down (show 0 < ((fl.length:Nat):Int) by omega)
  obtain ⟨a,ha⟩:∃ a:Nat,up % ((fl.length:Nat):Int)=(a:Int):=⟨(up % ((fl.length:Nat):Int)).toNat,by omega⟩
  obtain ⟨b,hbb⟩:∃ b:Nat,down % ((fl.length:Nat):Int)=(b:Int):=⟨(down % ((fl.length:Nat):Int)).toNat,by omega⟩
  rw [ha,hbb]
  have a1:a < n.Reaches.length:=by omega
  have b1:b < n.Reaches.length:=by omega
  rw [sM (show a < t.Flows.length by omega),Option.bind_some,sM (show b < t.Flows.length by omega),Option.bind_some]
  have hcond:(cond (decide (t.Flows.getD a 0 < 0)) (some true) (some (decide (t.Flows.getD b 0 < 0))))=some (decide (t.Flows.getD a 0 < 0) || decide (t.Flows.getD b 0 < 0)):=by cases decide (t.Flows.getD a 0 < 0) <;> rfl
  rw [hcond,Option.bind_some]
  by_cases hneg:(decide (t.Flows.getD a 0 < 0) || decide (t.Flows.getD b 0 < 0))=true
  ·rw [hneg,cond_true,hj]
   exact ⟨c,told,narrow,truth,u',m',rfl,by omega,h,hs'⟩
  ·have hneg':(decide (t.Flows.getD a 0 < 0) || decide (t.Flows.getD b 0 < 0))=false:=by simpa using hneg
   rw [Bool.or_eq_false_iff,decide_eq_false_iff_not,decide_eq_false_iff_not] at hneg'
   have hla:=h.a
   have hlb:=h.b
   have hld:=h.d
   rw [show (decide (t.Flows.getD a 0 < 0) || decide (t.Flows.getD b 0 < 0))=false by rw [decide_eq_false hneg'.1,decide_eq_false hneg'.2]; rfl,cond_false]
   rw [cF a1,Option.bind_some,cT (d:=rD) a1]
   have hw:∀ s:aF,lJ N s=some ⟨max 0 s.Lo,max 0 s.Hi⟩:=fun _=>rfl
   rw [hw,Option.bind_some,cF b1,Option.bind_some,cT (d:=rD) b1,hw,Option.bind_some,gY (by simp; omega),Option.bind_some,cF (show a < fl.length by omega),Option.bind_some,cT (d:=sD) (show a < fl.length by omega),hw,Option.bind_some,cF (show b < fl.length by omega),Option.bind_some,cT (d:=sD) (show b < fl.length by omega),hw,Option.bind_some,gY (by simp; omega),Option.bind_some,Option.bind_some,Option.bind_some,gY (by simp; omega),Option.bind_some,hj]
   have sa:=hm.s a a1
   have sb:=hm.s b b1
   have pa:=hsp a a1
   have pb:=hsp b b1
   unfold SpOk at pa pb
   have xa:spA n a=(n.Reaches.getD a rD).Flow:=by unfold spA wAt; rw [if_pos a1]
   have xb:spA n b=(n.Reaches.getD b rD).Flow:=by unfold spA wAt; rw [if_pos b1]
   have ta:tX n t a=t.Flows.getD a 0:=by unfold tX; rw [if_pos a1]
   have tb:tX n t b=t.Flows.getD b 0:=by unfold tX; rw [if_pos b1]
   rw [xa,ta] at pa
   rw [xb,tb] at pb
   refine ⟨c + 1,_,_,_,u',m',rfl,by omega,h.snoc ⟨?_,?_⟩ ⟨?_,?_⟩ ⟨?_,?_⟩ rfl rfl ?_ ?_ ?_,hs'⟩
   ·dsimp only; omega
   ·dsimp only; omega
   ·dsimp only; omega
   ·dsimp only; omega
   ·dsimp only; omega
   ·dsimp only; omega
   ·dsimp only; omega
   ·dsimp only; omega
   ·dsimp only; omega
end Go.Nilo
namespace Go.Nilo
theorem aIp:tQ 100000000=some true:=by decide +kernel
end Go.Nilo
namespace Go.Nilo
theorem xJ {b:bB} (h:BOk b) {years years':List aI} {ts ts':Nat→aR} {s s':Int} (hs:s≤s'):∀ n,(∀ j,j < n→(years.getD j y0).Spill=(years'.getD j y0).Spill)→(∀ j,j < n→(ts j).Index≤(ts' j).Index∧(ts' j).Delivered≤(ts j).Delivered)→kP b years ts s n≤kP b years' ts' s' n
 | 0,_,_=>hs
 | n + 1,hy,ht=>by
  rw [kP,kP,hy n (by omega)]
  exact aDn h (xJ h hs n (fun j hj=>hy j (by omega)) (fun j hj=>ht j (by omega))) (ht n (by omega)).1 (ht n (by omega)).2
theorem aIm {N:Nat} (hN:60≤N) {L P o:Int} {can:Nat→Int} {m:Nat} {out:List Int} (h:Paid L P o can m out) (hm:m≤40) (hb:∀ j,j≤out.length→0≤oI L P can o j∧oI L P can o j≤o) (ho:0≤o∧o≤10000000):sL N out=some (o - oI L P can o out.length):=by
 have hle:=h.le
 have l1:=aEl (ρ:=Int) (fun i:Nat=>(o - oI L P can o i,(i:Int))) out.length (fun s5:Int × Int=>kZ N out s5.1 s5.2) (by
  intro i hi
  show kZ N out (o - oI L P can o i) (i:Int)=_
  unfold kZ
  have e1:=aCf h i (by omega)
  have e2:=aCf h (i + 1) (by omega)
  rw [aCm id out i hi,e1] at e2
  have b1:=hb (i + 1) (by omega)
  rw [nF hi,cond_true,cF hi,Option.bind_some,iF (by omega)]
  have e3:o - oI L P can o i + out[i]=o - oI L P can o (i + 1):=e2
  rw [e3,eH (by omega) (by omega)]) (by
  show kZ N out _ (out.length:Int)=_
  unfold kZ
  rw [nC,cond_false]) (N:=N) (by omega)
 have e0:o - oI L P can o 0=0:=by show o - o=0; omega
 rw [e0] at l1
 unfold sL
 have l1':bN (fun s5:Int × Int=>kZ N out s5.1 s5.2) N (0,0)=_:=l1
 rw [l1',Option.bind_some]
 rfl
theorem aMk {numbers borders:List Int} (hb:yJ numbers) (hbo:yJ borders) {up down:Int} (hu:0≤up∧up≤255) (hd:0≤down∧down≤255):tP 100000000 numbers borders up down=some true:=by
 have haw:=aIp
 generalize hN0:(100000000:Nat)=N at haw ⊢
 have hN:50000000≤N:=by omega
 clear hN0
 obtain ⟨b,lo,hi,yl,yt,v0,w0,e0,hB,-⟩:=aEr (N:=N) (by omega) hbo (u:=0) (m:=0) (k:=0) ⟨by omega,by omega,by omega,by omega⟩ (by omega)
 obtain ⟨c',u1,m1,e1,a1,b1,s1⟩:=mD (N:=N) hb (u:=0) (m:=0) (lo:=1) (hi:=5) (k:=0) ⟨by omega,by omega,by omega,by omega⟩ (by omega) (by omega) (by omega) (by omega)
 obtain ⟨c,rfl⟩:∃ c:Nat,c'=(c:Int):=⟨c'.toNat,by omega⟩
 obtain ⟨⟨told,narrow,truth,x,u2,m2⟩,e8,-,n,hn,hY,-⟩:=kW (ρ:=Bool) (fun s8:List aI × List aI × List aR × Int × Int × Int=>kF N numbers up down ((c:Int),u1,m1) s8.1 s8.2.1 s8.2.2.1 s8.2.2.2.1 s8.2.2.2.2.1 s8.2.2.2.2.2)
  (fun i s=>s.2.2.2.1=(i:Int)∧∃ n,n≤i∧YrI n s.1 s.2.1 s.2.2.1∧SOk s.2.2.2.2.1 s.2.2.2.2.2 (1 + 100 * i)) c (by
  rintro i ⟨told,narrow,truth,x,v,w⟩ hi ⟨rfl,n,hn,hY,hS⟩
  dsimp only at hY hS
  obtain ⟨n',t',r',q',v',w',f1,f2,f3,f4⟩:=aKl hN hb hu hd (r3:=((c:Int),u1,m1)) (i:=i) (by omega) (by dsimp only; omega) (by omega) hY hS (by omega)
  refine ⟨_,f1,rfl,n',by omega,f3,?_⟩
  have:1 + 100 * i + 100=1 + 100 * (i + 1):=by omega
  rw [← this]
  exact f4) (by
  rintro ⟨told,narrow,truth,x,v,w⟩ ⟨rfl,-⟩
  show kF N numbers up down ((c:Int),u1,m1) told narrow truth (c:Int) v w=_
  unfold kF
  dsimp only
  rw [nC,cond_false]) c 0 ([],[],[],0,u1,m1) N (by omega) (by omega) ⟨rfl,0,by omega,⟨rfl,rfl,rfl,fun y hy=>by simp at hy,fun y hy=>by simp at hy,⟨rfl,fun j hj=>by simp at hj,fun j hj=>by simp at hj,fun j hj=>by simp at hj⟩,fun j hj=>by omega,fun j hj=>by omega⟩,s1⟩
 dsimp only at hY
 have l1:=hY.a
 have l2:=hY.b
 have l3:=hY.d
 have hn5:n≤5:=by omega
 obtain ⟨A,d1,d2,d3⟩:=aCo (N:=N) (by omega) hB (lo:=0) (hi:=0) (by decide) (years:=told) (by omega) hY.ya
 obtain ⟨C,g1,g2,g3⟩:=aCo (N:=N) (by omega) hB (lo:=0) (hi:=0) (by decide) (years:=narrow) (by omega) hY.yb
 obtain ⟨D,o1,o2,o3⟩:=aJ8 (N:=N) (by omega) hB (start:=0) (by decide) (years:=narrow) (by omega) hY.yb hY.w
 -- what is known of each year
 have hC:∀ j,j < n→(C.getD j ⟨0,0⟩).Lo≤D.getD j 0∧D.getD j 0≤(C.getD j ⟨0,0⟩).Hi∧(A.getD j ⟨0,0⟩).Lo≤(C.getD j ⟨0,0⟩).Lo∧(C.getD j ⟨0,0⟩).Hi≤(A.getD j ⟨0,0⟩).Hi∧(C.getD j ⟨0,0⟩).Hi≤10000000:=by
  intro j hj
  rw [d3 j (by omega),g3 j (by omega),o3 j (by omega)]
  dsimp only
  refine ⟨?_,?_,?_,?_,?_⟩
  ·refine yR hB (Int.le_refl _) _ fun q hq=>?_
   have i1:=hY.w.i q (by omega)
   have i2:=hY.w.d q (by omega)
   unfold aBo
   dsimp only
   omega
  ·refine yR hB (Int.le_refl _) _ fun q hq=>?_
   have i1:=hY.w.i q (by omega)
   have i2:=hY.w.d q (by omega)
   unfold uR
   dsimp only
   omega
  ·refine xJ hB (Int.le_refl _) _ (fun q hq=>?_) fun q hq=>?_
   ·obtain ⟨f1,f2⟩:=hY.s q (by omega)
    rw [f1,f2]
   ·have i1:=hY.i q (by omega)
    unfold aBo
    dsimp only
    omega
  ·refine xJ hB (Int.le_refl _) _ (fun q hq=>?_) fun q hq=>?_
   ·obtain ⟨f1,f2⟩:=hY.s q (by omega)
    rw [f1,f2]
   ·have i1:=hY.i q (by omega)
    unfold uR
    dsimp only
    omega
  ·have:=xB hB (years:=narrow) (ts:=uR narrow) (start:=0) (B:=0) (by decide) (j + 1) (fun q hq=>aC5 hY.yb (by omega))
   omega
 have l18:∃ most:Int,bN (fun s18:Int × Int=>iD N (A,0) (C,0) (D,0) s18.1 s18.2) N (0,0)=some (.go (most,(n:Int)))∧0≤most∧most≤10000000:=by
  obtain ⟨⟨most,z⟩,f1,rfl,f2,f3⟩:=kW (ρ:=Bool) (fun s18:Int × Int=>iD N (A,0) (C,0) (D,0) s18.1 s18.2)
   (fun j s=>s.2=(j:Int)∧0≤s.1∧s.1≤10000000) n (by
   rintro j ⟨most,z⟩ hj ⟨rfl,h0,h1⟩
   dsimp only at h0 h1
   obtain ⟨q1,q2,q3,q4,q5⟩:=hC j hj
   have jA:j < A.length:=by omega
   have jC:j < C.length:=by omega
   have jD:j < D.length:=by omega
   rw [← cT jD,← cT jC] at q1 q2
   rw [← cT jC,← cT jA] at q3 q4
   rw [← cT jC] at q5
   refine ⟨(max most C[j].Hi,((j + 1:Nat):Int)),?_,rfl,by dsimp only; omega,by dsimp only; omega⟩
   show iD N (A,0) (C,0) (D,0) most (j:Int)=_
   unfold iD
   dsimp only
   have t1:(!(lX D[j] C[j]))=false:=by
    unfold lX
    simp
    omega
   rw [nF jD,cond_true,cF jD,Option.bind_some,cF jC,Option.bind_some,t1,cond_false,Option.bind_some,cF jA,Option.bind_some,Option.bind_some,show decide (C[j].Lo < A[j].Lo)=false by simp; omega,cond_false,Option.bind_some,Option.bind_some,Option.bind_some,show decide (A[j].Hi < C[j].Hi)=false by simp; omega,cond_false,Option.bind_some,iF (by omega)]) (by
   rintro ⟨most,z⟩ ⟨rfl,-⟩
   show iD N (A,0) (C,0) (D,0) most (n:Int)=_
   unfold iD
   dsimp only
   rw [show D.length=n by omega,nC,cond_false]) n 0 (0,0) N (by omega) (by omega) ⟨rfl,by decide,by decide⟩
  exact ⟨most,f1,f2,f3⟩
 obtain ⟨most,e18,p0,p1⟩:=l18
 have hL:W (1 + (W (most.tdiv 7)))=1 + most / 7:=by rw [xG p0,eH (n:=most / 7) (by omega) (by omega),eH (by omega) (by omega)]
 have hV:W ((W (1 + (W (most.tdiv 7)))) + (W (most.tdiv 5)))=1 + most / 7 + most / 5:=by rw [hL,xG p0,eH (n:=most / 5) (by omega) (by omega),eH (by omega) (by omega)]
 have l22:=aEl (ρ:=Bool) (fun i:Nat=>((i:Int),List.replicate i (1 + most / 7 + most / 5))) 7 (fun s22:Int × List Int=>fZ N most s22.1 s22.2) (by
  intro i hi
  show fZ N most (i:Int) (List.replicate i (1 + most / 7 + most / 5))=_
  unfold fZ
  rw [show decide ((i:Int) < 7)=true by simp; omega,cond_true,hV,gY (by simp; omega),Option.bind_some,iF (by omega),List.replicate_succ']) (by
  show fZ N most ((7:Nat):Int) _=_
  unfold fZ
  rw [show decide (((7:Nat):Int) < 7)=false from rfl,cond_false]) (N:=N) (by omega)
 have hget:∀ j,j < (List.replicate 7 (1 + most / 7 + most / 5)).length→(List.replicate 7 (1 + most / 7 + most / 5)).getD j 0=1 + most / 7 + most / 5:=by
  intro j hj
  rw [← cT hj,List.getElem_replicate]
 obtain ⟨out,hP,hpay⟩:=aGc (N:=N) (by omega) (L:=1 + most / 7) (P:=3) (o:=most) (C:=List.replicate 7 (1 + most / 7 + most / 5)) (by omega) (by decide) ⟨p0,p1⟩ (by simp) (fun j hj=>by rw [hget j hj]; omega)
 have hcan:∀ j:Nat,j < 7→1 + most / 7≤(List.replicate 7 (1 + most / 7 + most / 5)).getD j 0:=fun j hj=>by rw [hget j (by simpa using hj)]; omega
 have hol:out.length≤7:=by have:=hP.le; simpa using this
 have hnn:∀ j,j≤out.length→0≤oI (1 + most / 7) 3 (fun j=>(List.replicate 7 (1 + most / 7 + most / 5)).getD j 0) most j∧oI (1 + most / 7) 3 (fun j=>(List.replicate 7 (1 + most / 7 + most / 5)).getD j 0) most j≤most:=fun j hj=>by
  have q1:=aCa (L:=1 + most / 7) (P:=3) (can:=fun j=>(List.replicate 7 (1 + most / 7 + most / 5)).getD j 0) (o:=most) (by omega) (by decide) p0 j (fun i hi=>hcan i (by omega))
  have q2:=aB8 (L:=1 + most / 7) (P:=3) (can:=fun j=>(List.replicate 7 (1 + most / 7 + most / 5)).getD j 0) (o:=most) (by omega) (by decide) p0 j (fun i hi=>hcan i (by omega))
  have q3:0≤(1 + most / 7) * (j:Int):=Int.mul_nonneg (by omega) (by omega)
  omega
 have hz:oI (1 + most / 7) 3 (fun j=>(List.replicate 7 (1 + most / 7 + most / 5)).getD j 0) most out.length=0:=by
  rcases hP.fin with q | q
  ·exact q
  ·have q':out.length=7:=by simpa using q
   have q2:=aB8 (L:=1 + most / 7) (P:=3) (can:=fun j=>(List.replicate 7 (1 + most / 7 + most / 5)).getD j 0) (o:=most) (by omega) (by decide) p0 7 (fun i hi=>hcan i hi)
   have q1:=(hnn out.length (Nat.le_refl _)).1
   rw [q'] at q1 ⊢
   have q3:oI (1 + most / 7) 3 (fun j=>(List.replicate 7 (1 + most / 7 + most / 5)).getD j 0) most 7≤max 0 (most - (1 + most / 7) * 7):=q2
   omega
 have hsum:=aIm (N:=N) (by omega) hP (by simp) hnn ⟨p0,p1⟩
 rw [hz] at hsum
 unfold tP aAh
 rw [Option.bind_some,Option.bind_some]
 dsimp only
 rw [e0,Option.bind_some,e1,Option.bind_some,e8,Option.bind_some]
 show (Option.bind (mC N b ⟨0,0⟩ told) fun r_4=>Option.bind (mC N b ⟨0,0⟩ narrow) fun r_5=>Option.bind (qT N b 0 narrow truth) _)=_
 rw [d1,Option.bind_some,g1,Option.bind_some,o1,Option.bind_some]
 have hne:(((((((0:Int) != 0) || ((0:Int) != 0)) || ((0:Int) != 0)) || (((A.length:Nat):Int) != ((truth.length:Nat):Int))) || (((C.length:Nat):Int) != ((truth.length:Nat):Int))) || (((D.length:Nat):Int) != ((truth.length:Nat):Int)))=false:=by
  rw [show A.length=truth.length by omega,show C.length=truth.length by omega,show D.length=truth.length by omega]
  simp
 dsimp only
 rw [hne,cond_false,e18,Option.bind_some]
 have l22':bN (fun s22:Int × List Int=>fZ N most s22.1 s22.2) N (0,([]:List Int))=_:=l22
 show (Option.bind (bN (fun s22:Int × List Int=>fZ N most s22.1 s22.2) N (0,([]:List Int))) _)=_
 rw [l22',Option.bind_some]
 show (Option.bind (mY N most ⟨W (1 + (W (most.tdiv 7))),3,List.replicate 7 (1 + most / 7 + most / 5)⟩) _)=_
 rw [hL,hpay,Option.bind_some,hz]
 show (Option.bind (cond ((0:Int) == 0) (Option.bind (sL N out) fun r_8=>some (r_8 == most)) (some false)) _)=_
 rw [show ((0:Int) == 0)=true from rfl,cond_true,hsum,Option.bind_some,Option.bind_some,show (most - 0 == most)=true by simp,cond_true,haw]
 rfl
end Go.Nilo
