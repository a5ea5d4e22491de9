/-
  What the plain functions compute, in plain arithmetic, part 15. Conditions: what each theorem names.
-/
import Derived.Test.YtpfmkhhhamdpeaaGreatRuL14
set_option linter.unusedSimpArgs false
set_option linter.unusedVariables false
namespace Go.Nilo
theorem aFv {N:Nat} {l:List (List Int)} (hl:l.length≤15) (hN:40≤N) (h:∀ x ∈ l,x.length≤15):jP N l=some l:=by
 have hrun:=vS (ρ:=List (List Int)) (fun i:Nat=>(l.take i,(i:Int))) l.length (fun s5=>dW N l s5.1 s5.2) (fun i hi=>by
  show dW N l (l.take i) (i:Int)=_
  unfold dW hZ
  have h1:=h _ (List.getElem_mem hi)
  rw [cM hi,cond_true,bS hi,Option.bind_some,qA (by omega),Option.bind_some,Option.bind_some,List.take_append_getElem hi,qA (by rw [List.length_take]; omega),Option.bind_some,cI (by omega)]) (by
  show dW N l _ (l.length:Int)=_
  unfold dW
  rw [cJ,cond_false]) (N:=N) (by omega)
 unfold jP
 show Option.bind (aS (fun s5=>dW N l s5.1 s5.2) N (l.take 0,((0:Nat):Int))) _=_
 rw [hrun,Option.bind_some]
 simp only [exK]
 rw [List.take_length]
theorem aJo {N:Nat} (hN:40≤N) {r:aB} (h:Sml r):kI N r=some r:=by
 have hs:=h.s
 have hrun:=vS (ρ:=aB) (fun i:Nat=>((i:Int),r.Stations.take i)) r.Stations.length (fun s5=>eP N r s5.1 s5.2) (fun i hi=>by
  show eP N r (i:Int) (r.Stations.take i)=_
  unfold eP hZ
  have h1:=h.sl _ (List.getElem_mem hi)
  rw [cM hi,cond_true,bS hi,Option.bind_some,qA (by omega),Option.bind_some,Option.bind_some,show (⟨r.Stations[i].Places,r.Stations[i].Order⟩:aG)=r.Stations[i] from rfl,List.take_append_getElem hi,qA (by rw [List.length_take]; omega),Option.bind_some,cI (by omega)]) (by
  show eP N r (r.Stations.length:Int) _=_
  unfold eP
  rw [cJ,cond_false]) (N:=N) (by omega)
 unfold kI
 rw [aFv h.p hN h.pl,Option.bind_some]
 show Option.bind (aS (fun s5=>eP N r s5.1 s5.2) N (((0:Nat):Int),r.Stations.take 0)) _=_
 rw [hrun,Option.bind_some]
 simp only [exK]
 rw [List.take_length]
theorem aEm {N:Nat} (hN:40≤N) {r:aB} (h:Sml r):fM N r=some (rR r):=by
 have hs:=h.s
 have hrun:=vS (ρ:=bE) (fun i:Nat=>((i:Int),(r.Stations.take i).map rS)) r.Stations.length (fun s5=>iE N r s5.1 s5.2) (fun i hi=>by
  show iE N r (i:Int) ((r.Stations.take i).map rS)=_
  unfold iE hZ
  have h1:=h.sl _ (List.getElem_mem hi)
  rw [cM hi,cond_true,bS hi,Option.bind_some,qA (by omega),Option.bind_some,Option.bind_some,show [(⟨r.Stations[i].Places,r.Stations[i].Order⟩:aY)]=[r.Stations[i]].map rS from rfl,← List.map_append,List.take_append_getElem hi,qA (by rw [List.length_map,List.length_take]; omega),Option.bind_some,cI (by omega)]) (by
  show iE N r (r.Stations.length:Int) _=_
  unfold iE
  rw [cJ,cond_false]) (N:=N) (by omega)
 unfold fM
 rw [aFv h.p hN h.pl,Option.bind_some]
 show Option.bind (aS (fun s5=>iE N r s5.1 s5.2) N (((0:Nat):Int),(r.Stations.take 0).map rS)) _=_
 rw [hrun,Option.bind_some]
 simp only [exK]
 rw [List.take_length]
 rfl
theorem aBv {N:Nat} {l:List aC} (hl:l.length≤150) (hN:200≤N):kK N l=some (l.map rF):=by
 have hrun:=vS (ρ:=List aP) (fun i:Nat=>((l.take i).map rF,(i:Int))) l.length (fun s5=>fT N l s5.1 s5.2) (fun i hi=>by
  show fT N l ((l.take i).map rF) (i:Int)=_
  unfold fT
  rw [cM hi,cond_true,bS hi,Option.bind_some,show [(⟨l[i].Person,l[i].Station⟩:aP)]=[l[i]].map rF from rfl,← List.map_append,List.take_append_getElem hi,qA (by rw [List.length_map,List.length_take]; omega),Option.bind_some,cI (by omega)]) (by
  show fT N l _ (l.length:Int)=_
  unfold fT
  rw [cJ,cond_false]) (N:=N) (by omega)
 unfold kK
 show Option.bind (aS (fun s5=>fT N l s5.1 s5.2) N ((l.take 0).map rF,((0:Nat):Int))) _=_
 rw [hrun,Option.bind_some]
 simp only [exK]
 rw [List.take_length]
theorem zU {N:Nat} {l:List Int} (hl:l.length≤1000) (hN:l.length < N):gG N l l=some true:=by
 unfold gG
 rw [bne_self_eq_false,cond_false,aAa l (by omega) (fun s7=>nI N l l s7) (fun i hi=>by
  unfold nI
  simp only [cM hi,cond_true,bS hi,Option.bind_some,bne_self_eq_false,cond_false]
  rw [cI (by omega)]) (by
  unfold nI
  rw [cJ]; rfl) hN]
 rfl
theorem aJy {N:Nat} {l:List aC} (hl:l.length≤1000) (hN:l.length < N):fZ N l l=some true:=by
 unfold fZ
 rw [bne_self_eq_false,cond_false,aAa l (by omega) (fun s7=>gF N l l s7) (fun i hi=>by
  unfold gF
  simp only [cM hi,cond_true,bS hi,Option.bind_some,beq_self_eq_true,Bool.and_self,Bool.not_true,cond_false]
  rw [cI (by omega)]) (by
  unfold gF
  rw [cJ]; rfl) hN]
 rfl
theorem aMa {N:Nat} (hN:40≤N) {r:aB} (h:Sml r):rC N r r=some true:=by
 have hp:=h.p
 have hs:=h.s
 have e1:lO N r.People r.People=some true:=by
  unfold lO
  rw [bne_self_eq_false,cond_false,aAa r.People (by omega) (fun s7=>jD N r.People r.People s7) (fun i hi=>by
   have h1:=h.pl _ (List.getElem_mem hi)
   unfold jD
   simp only [cM hi,cond_true,bS hi,Option.bind_some]
   rw [zU (by omega) (by omega),Option.bind_some,cI (by omega)]
   rfl) (by
   unfold jD
   rw [cJ]; rfl) (by omega)]
  rfl
 unfold rC
 rw [e1,Option.bind_some,bne_self_eq_false]
 rw [aAa r.Stations (by omega) (fun s7=>oS N r r s7) (fun i hi=>by
  have h1:=h.sl _ (List.getElem_mem hi)
  unfold oS
  simp only [cM hi,cond_true,bS hi,Option.bind_some,bne_self_eq_false,cond_false]
  rw [zU (by omega) (by omega),Option.bind_some,cI (by omega)]
  rfl) (by
  unfold oS
  rw [cJ]; rfl) (by omega)]
 rfl
theorem aBq {ρ:Type} {g:Nat→Option ρ}:∀ m i,(∀ j,i≤j→j < i + m→g j=none)→eX g i m=none
 | 0,_,_=>rfl
 | m + 1,i,h=>by
  unfold eX
  rw [h i (Nat.le_refl _) (by omega)]
  exact aBq m (i + 1) fun j h1 h2=>h j (by omega) (by omega)
theorem aE7 {r:aB} (hr:gY r) {b:List Int} {l:List aC} {ks:List (List Int)} (h:SI r (fun _=>True) l b ks):hres r l=(true,0):=by
 have hl:=h.len hr
 unfold hres
 rw [decide_eq_false (by omega),cond_false,List.all_eq_true.2 fun x hx=>zZ.2 ⟨(h.refp x hx).1,(h.refp x hx).2.1⟩,cond_true,aBq l.length 0 fun i _ hi=>by
  have hi:i < l.length:=by omega
  rw [← dP hi]
  have:hldB r (l.take i) l[i]=true:=by
   obtain ⟨qs,q1,q2,q3⟩:=h.just i hi
   have hle:=pP q1 (l':=((ppl r).take r.People.length).filter (okQ r (l.take i) l[i])) fun q hq=>by
    obtain ⟨k1,k2,k3,k4⟩:=q3 q hq
    rw [List.take_of_length_le (l:=ppl r) (by simp [ppl]),List.mem_filter,aIc]
    refine ⟨k1,?_⟩
    unfold okQ
    rw [decide_eq_true k2,decide_eq_true k3,aC4.2 k4]
    rfl
   unfold hldB cnt
   rw [decide_eq_true (p:=(sta r l[i].Station).Places≤_) (by omega),Bool.or_true]
  rw [this,cond_true]]
theorem aJu {l:List Int} (hn:l.Nodup) {v t:Int} (h:t ∈ l.takeWhile fun x=>!(x == v)):t ∈ l∧(v ∈ l→oE l t < oE l v):=by
 have hpre:=List.takeWhile_prefix (l:=l) fun x=>!(x == v)
 refine ⟨hpre.subset h,fun hv=>?_⟩
 obtain ⟨i,hi,rfl⟩:=List.getElem_of_mem h
 obtain ⟨j,hj,hje⟩:=List.getElem_of_mem hv
 have hil:i < l.length:=Nat.lt_of_lt_of_le hi hpre.length_le
 rw [hpre.getElem hi,iM hn hil,← hje,iM hn hj]
 have:¬ j < (l.takeWhile fun x=>!(x == v)).length:=fun hc=>by
  have hm:=List.getElem_mem hc
  have:=List.all_eq_true.1 (List.all_takeWhile (l:=l) (p:=fun x=>!(x == v))) _ hm
  rw [hpre.getElem hc,hje,beq_self_eq_true] at this
  cases this
 omega
theorem aMh {N:Nat} (hN:200≤N) {r:aB} (hm:Sml r) (hr:gY r) {b:List Int} {l:List aC} {ks:List (List Int)} (h:SI r (fun _=>True) l b ks):nW N r b l=some true:=by
 have hl:=h.len hr
 have hal:=h.al
 have hp2:=hr.p2
 have l8:=vS (ρ:=Bool) (fun i:Nat=>(i:Int)) l.length (fun s8=>kE N l s8) (fun i hi=>by
  show kE N l (i:Int)=_
  have l50:=vS (ρ:=bK Int Bool) (fun j:Nat=>(j:Int)) i (fun s50=>jC N l (i:Int) l[i] s50) (fun j hj=>by
   show jC N l (i:Int) l[i] (j:Int)=_
   unfold jC
   have:(l[j].Person == l[i].Person && l[j].Station == l[i].Station)=false:=by
    rw [Bool.eq_false_iff]
    intro hc
    rw [Bool.and_eq_true,beq_iff_eq,beq_iff_eq] at hc
    have he:l[j]=l[i]:=by
     rcases hx:l[j] with ⟨a1,a2⟩
     rcases hy:l[i] with ⟨b1,b2⟩
     rw [hx,hy] at hc
     obtain ⟨rfl,rfl⟩:=hc
     rfl
    have:=(List.getElem_inj h.refn (h₀:=by omega) (h₁:=hi)).1 he
    omega
   rw [cM hj,cond_true,bS (by omega),Option.bind_some,this,cond_false,cI (by omega)]) (by
   show jC N l (i:Int) l[i] (i:Int)=_
   unfold jC
   rw [cJ,cond_false]) (N:=N) (by omega)
  unfold kE
  rw [cM hi,cond_true,bS hi,Option.bind_some]
  show Option.bind (aS (fun s50=>jC N l (i:Int) l[i] s50) N ((0:Nat):Int)) _=_
  rw [l50,Option.bind_some,cI (by omega)]
  rfl) (by
  show kE N l (l.length:Int)=_
  unfold kE
  rw [cJ,cond_false]) (N:=N) (by omega)
 have l11:=vS (ρ:=Bool) (fun i:Nat=>(i:Int)) r.People.length (fun s11=>jE N r b l s11) (fun p hp=>by
  have hpP:inP r (p:Int):=⟨by omega,by omega⟩
  have hnd:=hr.pn _ (kQ hpP)
  have hpl:=hr.pf_len (kQ hpP)
  have gp:aU r.People (p:Int)=some (pf r (p:Int)):=hQ [] hpP.1 hpP.2
  have gb:aU b (p:Int)=some (Asg b (p:Int)):=hQ (-1) (by omega) (by omega)
  show jE N r b l (p:Int)=_
  obtain ⟨k,hk⟩:=aJ5 (ρ:=bK Int Bool) (fun j:Nat=>(j:Int)) (pf r (p:Int)) (fun x=>x == Asg b (p:Int)) (fun s=>!(!decide ((p:Int) ∈ (sta r s).Order) || pJ l (p:Int) s)) (fun _=>.ret false) (fun s19=>jF N r b l (p:Int) (pf r (p:Int)) s19) (fun j hj=>by
   show jF N r b l (p:Int) (pf r (p:Int)) (j:Int)=_
   have hS:=pZ hr hpP (List.getElem_mem hj)
   have hol:=hr.or_len (aCb hS)
   have gs:aU r.Stations (pf r (p:Int))[j]=some (sta r (pf r (p:Int))[j]):=hQ _ hS.1 hS.2
   have l29:=vS (ρ:=bK Int (bK Int Bool)) (fun i:Nat=>(((sta r (pf r (p:Int))[j]).Order.take i).any fun x=>x == (p:Int),(i:Int))) (sta r (pf r (p:Int))[j]).Order.length (fun s29=>jB N (p:Int) (sta r (pf r (p:Int))[j]) s29.1 s29.2) (fun i hi=>by
    show jB N (p:Int) (sta r (pf r (p:Int))[j]) (((sta r (pf r (p:Int))[j]).Order.take i).any fun x=>x == (p:Int)) (i:Int)=_
    unfold jB
    rw [cM hi,cond_true,bS hi,Option.bind_some,wV hi,cI (by omega)]) (by
    show jB N (p:Int) (sta r (pf r (p:Int))[j]) _ ((sta r (pf r (p:Int))[j]).Order.length:Int)=_
    unfold jB
    rw [cJ,cond_false]) (N:=N) (by omega)
   have l33:∀ m:Bool,aS (fun s33=>hP N l (p:Int) (pf r (p:Int))[j] s33.1 s33.2) N (m,((0:Nat):Int))=some (.go ((m || pJ l (p:Int) (pf r (p:Int))[j]),(l.length:Int))):=fun m=>by
    have:=vS (ρ:=bK Int (bK Int Bool)) (fun i:Nat=>((m || pJ (l.take i) (p:Int) (pf r (p:Int))[j]),(i:Int))) l.length (fun s33=>hP N l (p:Int) (pf r (p:Int))[j] s33.1 s33.2) (fun i hi=>by
     show hP N l (p:Int) (pf r (p:Int))[j] (m || pJ (l.take i) (p:Int) (pf r (p:Int))[j]) (i:Int)=_
     unfold hP
     have ht:pJ (l.take (i + 1)) (p:Int) (pf r (p:Int))[j]=(pJ (l.take i) (p:Int) (pf r (p:Int))[j] || (l[i].Person == (p:Int) && l[i].Station == (pf r (p:Int))[j])):=by
      unfold pJ
      exact wV hi
     rw [cM hi,cond_true,bS hi,Option.bind_some,ht,← Bool.or_assoc,cI (by omega)]) (by
     show hP N l (p:Int) (pf r (p:Int))[j] _ (l.length:Int)=_
     unfold hP
     rw [cJ,cond_false]) (N:=N) (by omega)
    have h0:(m || pJ (l.take 0) (p:Int) (pf r (p:Int))[j])=m:=by rw [List.take_zero]; unfold pJ; rw [List.any_nil,Bool.or_false]
    simp only [h0,List.take_length] at this
    exact this
   have hany:(((sta r (pf r (p:Int))[j]).Order.take (sta r (pf r (p:Int))[j]).Order.length).any fun x=>x == (p:Int))=decide ((p:Int) ∈ (sta r (pf r (p:Int))[j]).Order):=by
    rw [List.take_length,Bool.eq_iff_iff,List.any_eq_true,decide_eq_true_eq]
    constructor
    ·rintro ⟨x,h1,h2⟩; have e:=beq_iff_eq.1 h2; rw [e] at h1; exact h1
    ·intro h1; exact ⟨_,h1,beq_self_eq_true _⟩
   unfold jF
   rw [cM hj,cond_true,bS hj,Option.bind_some,gb,Option.bind_some,gs,Option.bind_some]
   show cond _ _ (Option.bind (aS (fun s29=>jB N (p:Int) (sta r (pf r (p:Int))[j]) s29.1 s29.2) N (((sta r (pf r (p:Int))[j]).Order.take 0).any fun x=>x == (p:Int),((0:Nat):Int))) _)=_
   rw [l29,Option.bind_some,aEx]
   show cond _ _ (Option.bind (aS (fun s33=>hP N l (p:Int) (pf r (p:Int))[j] s33.1 s33.2) N (!(((sta r (pf r (p:Int))[j]).Order.take (sta r (pf r (p:Int))[j]).Order.length).any fun x=>x == (p:Int)),((0:Nat):Int))) _)=_
   rw [hany,l33,Option.bind_some,aEx,cI (by omega)]
   dsimp only
   cases (pf r (p:Int))[j] == Asg b (p:Int) with
   | true=>rfl
   | false=>cases !(!decide ((p:Int) ∈ (sta r (pf r (p:Int))[j]).Order) || pJ l (p:Int) (pf r (p:Int))[j]) <;> rfl) (by
   show jF N r b l (p:Int) (pf r (p:Int)) ((pf r (p:Int)).length:Int)=_
   unfold jF
   rw [cJ,cond_false]) (pf r (p:Int)).length 0 N (by omega) (by omega)
  have hno:(((pf r (p:Int)).drop 0).takeWhile fun x=>!(x == Asg b (p:Int))).find? (fun s=>!(!decide ((p:Int) ∈ (sta r s).Order) || pJ l (p:Int) s))=none:=by
   rw [List.find?_eq_none]
   intro t ht
   rw [List.drop_zero] at ht
   obtain ⟨t1,t2⟩:=aJu hnd ht
   by_cases ho:(p:Int) ∈ (sta r t).Order
   ·have hR:Ref l (p:Int) t:=by
     by_cases ha:Asg b (p:Int) = -1
     ·exact h.free _ hpP trivial ha t t1 ⟨ho,t1⟩
     ·obtain ⟨g1,g2,g3⟩:=h.good _ hpP ha
      exact g3 t t1 (t2 g1.2) ⟨ho,t1⟩
    rw [aC8.2 hR]
    simp
   ·rw [decide_eq_false ho]
    simp
  rw [hno] at hk
  unfold jE
  rw [cM hp,cond_true,gp,Option.bind_some]
  show Option.bind (aS (fun s19=>jF N r b l (p:Int) (pf r (p:Int)) s19) N ((0:Nat):Int)) _=_
  rw [hk,Option.bind_some,cI (by omega)]
  rfl) (by
  show jE N r b l (r.People.length:Int)=_
  unfold jE
  rw [cJ,cond_false]) (N:=N) (by omega)
 unfold nW
 rw [aEm (by omega) hm,Option.bind_some,aBv (by omega) hN,Option.bind_some,aH2 hN hm hr (by omega),Option.bind_some,aE7 hr h,hal,bne_self_eq_false,bne_self_eq_false]
 show Option.bind (aS (fun s8=>kE N l s8) N ((0:Nat):Int)) (fun x8=>exK x8 (fun s8=>Option.bind (aS (fun s11=>jE N r b l s11) N ((0:Nat):Int)) _) some)=_
 rw [l8,l11]
 rfl
end Go.Nilo
