/-
  What the plain functions compute, in plain arithmetic, part 16. Conditions: what each theorem names.
-/
import Derived.Test.YtpfmkhhhamdpeaaGreatRuL15
set_option linter.unusedSimpArgs false
set_option linter.unusedVariables false
namespace Go.Nilo
theorem yZ {N:Nat} (hN:40≤N) {r:aB} (h:Sml r) (hc:chk r ≠ 0):kB N r=some (.inl (chk r)):=by
 unfold kB
 rw [aIn hN h,Option.bind_some,bne_iff_ne.2 hc,cond_true]
theorem aG5 {N:Nat} (hN:200≤N) {r:aB} (h:Sml r) {b:List Int} (hb:b.length≤20):∃ x,kD N r b=some x∧jY N (rR r) b=some (rB x):=by
 by_cases hc:chk r=0
 ·have hr:=zM.1 hc
  have hp2:=hr.p2
  have hs2:=hr.s2
  by_cases hok:AOk r b
  ·exact ⟨_,aK9 (by omega) hr hok,aJx (by omega) h hr hok⟩
  ·refine ⟨(⟨0,0⟩,2),?_,?_⟩
   ·obtain ⟨rank,h1,h2⟩:=xV (N:=N) (by omega) hr
    unfold kD
    rw [h1,Option.bind_some]
    simp only [aB0,bne_self_eq_false,cond_false]
    have c1:fS N b r=some (b.all fun x=>inB x (-1) ((r.Stations.length:Int) - 1)):=by
     unfold fS dI eI
     refine uP (f:=fun x=>eO x r) (fun x=>?_) (by omega) (by omega) _ fun x=>rfl
     unfold eO nK aE inB
     rw [zK (by omega) (by omega)]
    rw [c1]
    by_cases hl:b.length=r.People.length
    ·rw [hl,bne_self_eq_false]
     cases ha:b.all fun x=>inB x (-1) ((r.Stations.length:Int) - 1) with
     | false=>rfl
     | true=>
      refine absurd ⟨hl,fun p hp=>?_⟩ hok
      have:=List.all_eq_true.1 ha _ (aFa (-1) hp.1 (by rw [hl]; exact hp.2))
      unfold inB at this
      rw [Bool.and_eq_true,decide_eq_true_eq,decide_eq_true_eq] at this
      show Asg b p = -1 ∨ inS r (Asg b p)
      unfold Asg inS
      omega
    ·rw [show (((b.length:Nat):Int) != ((r.People.length:Nat):Int))=true from bne_iff_ne.2 (by omega)]
     rfl
   ·have hsl:(rR r).Stations.length=r.Stations.length:=List.length_map ..
    unfold jY
    rw [tY (by omega) h,hc,Option.bind_some,bne_self_eq_false,cond_false]
    by_cases hl:b.length=r.People.length
    ·rw [show (((b.length:Nat):Int) != (((rR r).People.length:Nat):Int))=false by rw [show (rR r).People.length=b.length from hl.symm,bne_self_eq_false],cond_false]
     rw [aMb (ρ:=aP × Int) (N:=N) (l:=b) (bad:=fun e=>cB e (-1) (W ((((rR r).Stations.length:Nat):Int) - 1))) (ok:=fun x=>inB x (-1) ((r.Stations.length:Int) - 1)) (v:=(⟨0,0⟩,2)) (fun x=>by
      unfold cB inB
      rw [hsl,zK (by omega) (by omega),Bool.eq_iff_iff]
      simp only [Bool.or_eq_true,decide_eq_true_eq,Bool.not_eq_true',Bool.and_eq_false_iff,decide_eq_false_iff_not]
      omega) (by omega) (by omega) (fun s11=>fO N (rR r) b s11) fun x=>rfl,Option.bind_some]
     cases ha:b.all fun x=>inB x (-1) ((r.Stations.length:Int) - 1) with
     | false=>rfl
     | true=>
      refine absurd ⟨hl,fun p hp=>?_⟩ hok
      have:=List.all_eq_true.1 ha _ (aFa (-1) hp.1 (by rw [hl]; exact hp.2))
      unfold inB at this
      rw [Bool.and_eq_true,decide_eq_true_eq,decide_eq_true_eq] at this
      show Asg b p = -1 ∨ inS r (Asg b p)
      unfold Asg inS
      omega
    ·rw [show (((b.length:Nat):Int) != (((rR r).People.length:Nat):Int))=true from bne_iff_ne.2 (by show ((b.length:Nat):Int) ≠ ((r.People.length:Nat):Int); omega)]
     rfl
 ·refine ⟨(⟨0,0⟩,chk r),?_,?_⟩
  ·unfold kD
   rw [yZ (by omega) h hc,Option.bind_some]
   show cond (chk r != 0) _ _=_
   rw [bne_iff_ne.2 hc,cond_true]
  ·unfold jY
   rw [tY (by omega) h,Option.bind_some,bne_iff_ne.2 hc,cond_true]
   rfl
theorem aIt {N:Nat} (hN:200≤N) {r:aB} (h:Sml r) {l:List aC} (hl:l.length≤150):∃ x,mS N r l=some x∧lG N (rR r) (l.map rF)=some x:=by
 by_cases hc:chk r=0
 ·exact ⟨_,aMg hN (zM.1 hc) hl,aH2 hN h (zM.1 hc) hl⟩
 ·refine ⟨(false,chk r),?_,?_⟩
  ·unfold mS
   rw [yZ (by omega) h hc,Option.bind_some]
   show cond (chk r != 0) _ _=_
   rw [bne_iff_ne.2 hc,cond_true]
  ·unfold lG
   rw [tY (by omega) h,Option.bind_some,bne_iff_ne.2 hc,cond_true]
theorem aDx {r:aB} {b:List Int} {l:List aC} (h:Sml r) (hb:b.length≤20) (hl:l.length≤150) : 
  (Option.bind (kI 700 r) fun r_1=>
 Option.bind (hZ 700 b) fun r_2=>
 Option.bind (iN 700 l) fun r_3=>
 Option.bind (nD 700 r_1) fun r_4=>
 Option.bind (fM 700 r) fun r_5=>
 Option.bind (lF 700 r_5) fun r_6=>
 cond (r_4 != r_6)
 (some false)
 (Option.bind (kD 700 r_1 r_2) fun r_7=>
 Option.bind (fM 700 r) fun r_8=>
 Option.bind (jY 700 r_8 b) fun r_9=>
 cond ((!(r_7.1.Person == r_9.1.Person && r_7.1.Station == r_9.1.Station)) || (r_7.2 != r_9.2))
 (some false)
 (Option.bind (mS 700 r_1 r_3) fun r_10=>
 Option.bind (fM 700 r) fun r_11=>
 Option.bind (kK 700 l) fun r_12=>
 Option.bind (lG 700 r_11 r_12) fun r_13=>
 cond ((r_10.1 != r_13.1) || (r_10.2 != r_13.2))
 (some false)
 (Option.bind (lI 700 r_1) fun r_14=>
 Option.bind (fM 700 r) fun r_15=>
 Option.bind (lP 700 r_15) fun r_16=>
 Option.bind (gG 700 r_14.1 r_16.1) fun r_17=>
 cond ((!r_17) || (r_14.2 != r_16.2))
 (some false)
 (Option.bind (kC 700 r_1) fun r_18=>
 Option.bind (cond ((r_18.2 != r_16.2) || ((r_18.2 != 0) && (decide (0 < ((r_18.1.length:Nat):Int))))) (some true) (Option.bind (cond (r_18.2 == 0) (Option.bind (nW 700 r r_16.1 r_18.1) fun r_19=>
 some (!r_19)) (some false)) fun t_1=>
 some t_1)) fun t_2=>
 cond t_2
 (some false)
 (Option.bind (rC 700 r_1 r) fun r_20=>
 Option.bind (cond r_20 (Option.bind (gG 700 r_2 b) fun r_21=>
 some r_21) (some false)) fun t_3=>
 Option.bind (cond t_3 (Option.bind (fZ 700 r_3 l) fun r_22=>
 some r_22) (some false)) fun t_4=>
 Option.bind (cond t_4 (Option.bind (lK 700) fun r_23=>
 some r_23) (some false)) fun t_5=>
 some t_5))))))=some true:=by
 obtain ⟨x,x1,x2⟩:=aG5 (N:=700) (by omega) h hb
 obtain ⟨y,y1,y2⟩:=aIt (N:=700) (by omega) h hl
 unfold hZ iN
 rw [aJo (by omega) h,Option.bind_some,qA (by omega),qA (by omega),Option.bind_some,Option.bind_some,Option.bind_some,Option.bind_some,aIn (by omega) h,Option.bind_some,aEm (by omega) h]
 simp only [Option.bind_some]
 rw [tY (by omega) h,Option.bind_some,bne_self_eq_false,cond_false,x1,Option.bind_some,x2,Option.bind_some]
 rw [show ((!(x.1.Person == (rB x).1.Person && x.1.Station == (rB x).1.Station)) || (x.2 != (rB x).2))=false by
  show ((!(x.1.Person == x.1.Person && x.1.Station == x.1.Station)) || (x.2 != x.2))=false
  rw [beq_self_eq_true,beq_self_eq_true,bne_self_eq_false]; rfl,cond_false,y1,Option.bind_some,aBv hl (by omega),Option.bind_some,y2,Option.bind_some,bne_self_eq_false,bne_self_eq_false,Bool.or_false,cond_false]
 have data:∃ (a:List Int) (e:Int) (z:List aC),a.length≤100∧lI 700 r=some (a,e)∧lP 700 (rR r)=some (a,e)∧kC 700 r=some (z,e)∧(e=0→nW 700 r a z=some true)∧(e ≠ 0→z.length=0):=by
  by_cases hc:chk r=0
  ·have hr:=zM.1 hc
   obtain ⟨asg,z,w1,w2,w3⟩:=aIr (N:=700) (by omega) (fun k h1 h2=>aIp h1 h2) hr
   obtain ⟨a2,z2,v1,v2⟩:=aK3 (N:=700) (by omega) h hr
   have he:=aFb hr w3 v2
   subst he
   obtain ⟨ks,hS⟩:=w3
   have hp2:=hr.p2
   exact ⟨asg,0,z,by rw [hS.al]; omega,w1,v1,w2,fun _=>aMh (by omega) h hr hS,fun k=>absurd rfl k⟩
  ·have hb:=yZ (N:=700) (by omega) h hc
   refine ⟨[],chk r,[],by simp,?_,?_,?_,fun k=>absurd k hc,fun _=>rfl⟩
   ·unfold lI
    rw [hb,Option.bind_some]
    show cond (chk r != 0) _ _=_
    rw [bne_iff_ne.2 hc,cond_true]
   ·unfold lP
    rw [tY (by omega) h,Option.bind_some,bne_iff_ne.2 hc,cond_true]
   ·unfold kC
    rw [hb,Option.bind_some]
    show cond (chk r != 0) _ _=_
    rw [bne_iff_ne.2 hc,cond_true]
 obtain ⟨a,e,z,hl2,w1,w2,w3,w4,w5⟩:=data
 rw [w1,Option.bind_some,w2,Option.bind_some,zU (l:=a) (by omega) (by omega),Option.bind_some,bne_self_eq_false,Bool.not_true,Bool.or_false,cond_false,w3,Option.bind_some,bne_self_eq_false,Bool.false_or,aMa (by omega) h,zU (l:=b) (by omega) (by omega),aJy (by omega) (by omega),vV]
 by_cases he:e=0
 ·rw [he]
  show Option.bind (Option.bind (Option.bind (nW 700 r a z) _) _) _=_
  rw [w4 he]; rfl
 ·show Option.bind (cond ((e != 0) && (decide (0 < ((z.length:Nat):Int)))) _ (Option.bind (cond (e == 0) _ _) _)) _=_
  rw [w5 he,bne_iff_ne.2 he,beq_eq_false_iff_ne.2 he]; rfl
theorem aB9 (r:aB) (b:List Int) (l:List aC):nP 700 r b l=some true:=by
 unfold nP
 by_cases h1:r.People.length≤15∧r.Stations.length≤15∧b.length≤20∧l.length≤150
 ·obtain ⟨p1,s1,b1,l1⟩:=h1
  rw [decide_eq_false (p:=15 < ((r.People.length:Nat):Int)) (by omega),decide_eq_false (p:=15 < ((r.Stations.length:Nat):Int)) (by omega),decide_eq_false (p:=20 < ((b.length:Nat):Int)) (by omega),decide_eq_false (p:=150 < ((l.length:Nat):Int)) (by omega)]
  have l7:=rW (ρ:=Bool) (fun i:Nat=>(i:Int)) (fun j=>cond (decide ((r.People.getD j []).length≤15)) none (some true)) r.People.length (fun s7=>dV 700 r s7) (fun i hi=>by
   show dV 700 r (i:Int)=_
   unfold dV
   rw [cM hi,cond_true,bS hi,Option.bind_some,vV,cI (by omega),dP (d:=[]) hi]
   by_cases hh:(r.People.getD i []).length≤15
   ·rw [decide_eq_false (p:=15 < _) (by omega),decide_eq_true hh]; rfl
   ·rw [decide_eq_true (p:=15 < _) (by omega),decide_eq_false hh]; rfl) (by
   show dV 700 r (r.People.length:Int)=_
   unfold dV
   rw [cJ,cond_false]) r.People.length 0 700 (by omega) (by omega)
  have l10:=rW (ρ:=Bool) (fun i:Nat=>(i:Int)) (fun j=>cond (decide ((r.Stations.getD j ⟨0,[]⟩).Order.length≤15)) none (some true)) r.Stations.length (fun s10=>dJ 700 r s10) (fun i hi=>by
   show dJ 700 r (i:Int)=_
   unfold dJ
   rw [cM hi,cond_true,bS hi,Option.bind_some,vV,cI (by omega),dP (d:=⟨0,[]⟩) hi]
   by_cases hh:(r.Stations.getD i ⟨0,[]⟩).Order.length≤15
   ·rw [decide_eq_false (p:=15 < _) (by omega),decide_eq_true hh]; rfl
   ·rw [decide_eq_true (p:=15 < _) (by omega),decide_eq_false hh]; rfl) (by
   show dJ 700 r (r.Stations.length:Int)=_
   unfold dJ
   rw [cJ,cond_false]) r.Stations.length 0 700 (by omega) (by omega)
  show Option.bind (aS (fun s7=>dV 700 r s7) 700 ((0:Nat):Int)) (fun x7=>exK x7 (fun s7=>Option.bind (aS (fun s10=>dJ 700 r s10) 700 ((0:Nat):Int)) fun x10=>exK x10 _ some) some)=_
  rw [l7,l10,pH (p:=fun x:List Int=>decide (x.length≤15)) (d:=[]) r.People.length 0 (by omega),pH (p:=fun x:aG=>decide (x.Order.length≤15)) (d:=⟨0,[]⟩) r.Stations.length 0 (by omega),List.drop_zero,List.drop_zero]
  cases hA:r.People.all fun x=>decide (x.length≤15) with
  | false=>rfl
  | true=>
   cases hB:r.Stations.all fun x=>decide (x.Order.length≤15) with
   | false=>rfl
   | true=>exact aDx ⟨p1,s1,fun x hx=>of_decide_eq_true (List.all_eq_true.1 hA x hx),fun x hx=>of_decide_eq_true (List.all_eq_true.1 hB x hx)⟩ b1 l1
 ·have:((((decide (15 < ((r.People.length:Nat):Int))) || (decide (15 < ((r.Stations.length:Nat):Int)))) || (decide (20 < ((b.length:Nat):Int)))) || (decide (150 < ((l.length:Nat):Int))))=true:=by
   simp only [Bool.or_eq_true,decide_eq_true_eq]
   omega
  rw [this,cond_true,vV]
  rfl
end Go.Nilo
