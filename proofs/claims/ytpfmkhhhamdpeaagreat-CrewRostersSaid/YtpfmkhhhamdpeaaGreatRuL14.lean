/-
  What the plain functions compute, in plain arithmetic, part 14. Conditions: what each theorem names.
-/
import Derived.Test.YtpfmkhhhamdpeaaGreatRuL13
set_option linter.unusedSimpArgs false
set_option linter.unusedVariables false
namespace Go.Nilo
theorem aBl {r:aB} {l:List aC} {a nx:List Int} {ks:List (List Int)} (h:RI r l a nx ks) {p s:Int} (hp:inP r p) (hs:inS r s) (ha:Asg a p = -1) {q:Int} (hq:inP r q):q ∈ Ks ks s++[p] ↔ Asg (a.set p.toNat s) q=s:=by
 rw [vU hp.1 (by rw [h.si.al]; exact hp.2) hq.1,List.mem_append,List.mem_singleton,h.si.mem s q hs hq]
 by_cases e:q=p
 ·rw [if_pos e]; exact ⟨fun _=>rfl,fun _=>.inr e⟩
 ·rw [if_neg e]; exact ⟨fun k=>k.resolve_right e,.inl⟩
theorem aFw {r:aB} {l:List aC} {a nx:List Int} {ks:List (List Int)} (h:RI r l a nx ks) {p s:Int} (hp:inP r p) (hs:inS r s) (ha:Asg a p = -1):(lN r (a.set p.toNat s) s).length=(Ks ks s++[p]).length:=by
 have hin:∀ q ∈ Ks ks s++[p],inP r q:=fun q hq=>by
  rcases List.mem_append.1 hq with k | k
  ·exact h.si.kr s hs q k
  ·rw [List.mem_singleton.1 k]; exact hp
 have hnd:(Ks ks s++[p]).Nodup:=by
  rw [List.nodup_append]
  exact ⟨h.si.kn s hs,by simp,fun x hx y hy e=>h.si.room hp hs ha (by rw [List.mem_singleton.1 hy] at e; exact e ▸ hx)⟩
 have h1:=pP (aDh r (a.set p.toNat s) s) (l':=Ks ks s++[p]) fun q hq=>by
  obtain ⟨k1,k2⟩:=pT.1 hq
  exact (aBl h hp hs ha k1).2 k2
 have h2:=pP hnd (l':=lN r (a.set p.toNat s) s) fun q hq=>pT.2 ⟨hin q hq,(aBl h hp hs ha (hin q hq)).1 hq⟩
 omega
def idle (r:aB) (a nx:List Int) (p:Int):Prop:=Asg a p ≠ -1 ∨ Nx nx p=((pf r p).length:Int)
theorem aKr {N:Nat} (hN:40≤N) {r:aB} (hr:gY r) {l:List aC} {a nx:List Int} {ks:List (List Int)} (h:RI r l a nx ks) {p:Nat} (hp:p < r.People.length) (again:Bool) :
  (idle r a nx (p:Int)∧eM N (rR r) a nx again (p:Int)=some (.cont (a,nx,again,((p + 1:Nat):Int)))) ∨
  ∃ l' a' nx' ks',eM N (rR r) a nx again (p:Int)=some (.cont (a',nx',true,((p + 1:Nat):Int)))∧RI r l' a' nx' ks'∧nx'.sum=nx.sum + 1:=by
 have hpP:inP r (p:Int):=⟨by omega,by omega⟩
 have hp2:=hr.p2
 have hal:=h.si.al
 have hnl:=h.nl
 have hpl:=hr.pf_len (kQ hpP)
 have ga:aU a (p:Int)=some (Asg a (p:Int)):=hQ (-1) (by omega) (by omega)
 have gn:aU nx (p:Int)=some (Nx nx (p:Int)):=hQ 0 (by omega) (by omega)
 unfold eM iS
 show (_∧cond (decide ((p:Int) < ((r.People.length:Nat):Int))) _ _=_) ∨ ∃ l' a' nx' ks',cond (decide ((p:Int) < ((r.People.length:Nat):Int))) _ _=_∧_
 rw [cM hp,cond_true,ga,gn,rpp hpP,cI (by omega)]
 simp only [Option.bind_some]
 by_cases h1:Asg a (p:Int) = -1
 ·rw [show (Asg a (p:Int) != -1)=false by rw [h1]; rfl,cond_false,Option.bind_some]
  by_cases h2:Nx nx (p:Int)=((pf r (p:Int)).length:Int)
  ·left
   rw [h2,beq_self_eq_true,cond_true]
   exact ⟨.inr h2,rfl⟩
  ·right
   have h3:=h.n0 _ hpP
   obtain ⟨j,hj0⟩:=Int.eq_ofNat_of_zero_le h3.1
   have hj:j < (pf r (p:Int)).length:=by omega
   have hS:=pZ hr hpP (List.getElem_mem hj)
   have hsum:(nx.set (p:Int).toNat ((j + 1:Nat):Int)).sum=nx.sum + 1:=by
    have hs:=aFz nx p (by omega)
    unfold Nx at hj0
    rw [Int.toNat_natCast] at hj0
    rw [hj0] at hs
    rw [Int.toNat_natCast,← hs]
    rfl
   rw [beq_eq_false_iff_ne.2 h2,cond_false,hj0,bS hj,Option.bind_some,aEf hN hr hS hpP,Option.bind_some,cI (by omega)]
   by_cases h4:kF r (p:Int) (pf r (p:Int))[j]
   ·rw [decide_eq_true h4,Bool.not_true,cond_false,aGr hN hr (by rw [List.length_set]; exact hal),Option.bind_some,rst hS,Option.bind_some,aFw h hpP hS h1]
    show ∃ l' a' nx' ks',cond (decide (((((Ks ks (pf r (p:Int))[j]++[(p:Int)]).length:Nat)):Int)≤(sta r (pf r (p:Int))[j]).Places)) _ _=_∧_
    by_cases hc:((((Ks ks (pf r (p:Int))[j]++[(p:Int)]).length:Nat)):Int)≤(sta r (pf r (p:Int))[j]).Places
    ·rw [decide_eq_true hc,cond_true]
     exact ⟨_,_,_,_,rfl,h.take hr hpP hj hj0 h1 h4 hc,hsum⟩
    ·rw [decide_eq_false hc,cond_false]
     generalize hse:(pf r (p:Int))[j]=s at *
     obtain ⟨s38,g1,g2,g3,g4⟩:=tV (ρ:=bK ((List Int) × (List Int) × Bool × Int) (bK ((List Int) × (List Int) × Bool) ((List Int) × Int))) (fun s38=>iR N (rR r) a (p:Int) s s38.1 s38.2) (fun i s38=>s38.2=(i:Int)∧s38.1 ∈ Ks ks s++[(p:Int)]∧∀ o ∈ Ks ks s++[(p:Int)],o < (i:Int)→rk r s o≤rk r s s38.1) r.People.length (fun i s38 hi hJ=>by
      obtain ⟨q,y⟩:=s38
      obtain ⟨rfl,k1,k2⟩:=hJ
      dsimp only at k1 k2
      have hiP:inP r (i:Int):=⟨by omega,by omega⟩
      have gq:aU (a.set (p:Int).toNat s) (i:Int)=some (Asg (a.set (p:Int).toNat s) (i:Int)):=hQ (-1) (by omega) (by rw [List.length_set]; omega)
      have hb:iR N (rR r) a (p:Int) s q (i:Int)=some (.cont (if (i:Int) ∈ Ks ks s++[(p:Int)]∧rk r s q < rk r s (i:Int) then (i:Int) else q,((i + 1:Nat):Int))):=by
       unfold iR mH
       show cond (decide ((i:Int) < ((r.People.length:Nat):Int))) _ _=_
       rw [cM hi,cond_true,gq,Option.bind_some,rst hS,Option.bind_some,aI7 hr hN hS,Option.bind_some,Option.bind_some,aI7 hr hN hS,Option.bind_some,cI (by omega)]
       have hmm:=aBl h hpP hS h1 hiP
       by_cases h5:(i:Int) ∈ Ks ks s++[(p:Int)]
       ·rw [beq_iff_eq.2 (hmm.1 h5),cond_true,Option.bind_some]
        by_cases h6:rk r s q < rk r s (i:Int)
        ·rw [decide_eq_true h6,cond_true,if_pos ⟨h5,h6⟩]
        ·rw [decide_eq_false h6,cond_false,if_neg (fun e=>h6 e.2)]
       ·rw [beq_eq_false_iff_ne.2 (fun e=>h5 (hmm.2 e)),cond_false,Option.bind_some,cond_false,if_neg (fun e=>h5 e.1)]
      refine ⟨_,hb,rfl,?_,fun o ho hlt=>?_⟩
      ·dsimp only; split
       ·rename_i h5; exact h5.1
       ·exact k1
      ·dsimp only
       by_cases h5:o=(i:Int)
       ·subst h5
        split
        ·exact Int.le_refl _
        ·rename_i h6
         have:¬ rk r s q < rk r s (i:Int):=fun e=>h6 ⟨ho,e⟩
         omega
       ·have:=k2 o ho (by push_cast at hlt; omega)
        split
        ·rename_i h6; omega
        ·exact this) (fun s38 hJ=>by
      show iR N (rR r) a (p:Int) s s38.1 s38.2=_
      unfold iR
      rw [hJ.1]
      show cond (decide (((r.People.length:Nat):Int) < ((r.People.length:Nat):Int))) _ _=_
      rw [cJ,cond_false,← hJ.1]) r.People.length 0 ((p:Int),0) N (by omega) (by omega) ⟨rfl,List.mem_append_right _ (List.mem_singleton.2 rfl),fun o ho hlt=>by
       rcases List.mem_append.1 ho with h5 | h5
       ·have:=(h.si.kr s hS o h5).1; omega
       ·rw [List.mem_singleton.1 h5] at hlt; omega⟩
     have hmax:∀ o ∈ Ks ks s++[(p:Int)],rk r s o≤rk r s s38.1:=fun o ho=>g4 o ho (by
      rcases List.mem_append.1 ho with h5 | h5
      ·exact (h.si.kr s hS o h5).2
      ·rw [List.mem_singleton.1 h5]; exact hpP.2)
     have hov:=h.over hr hpP hj hj0 h1 (by rw [hse]; exact h4) (by rw [hse]; omega) (q:=s38.1) (by rw [hse]; exact g3) (by rw [hse]; exact hmax)
     rw [hse] at hov
     obtain ⟨hqP,hRI⟩:=hov
     have gw:aU (a.set (p:Int).toNat s) s38.1=some (Asg (a.set (p:Int).toNat s) s38.1):=hQ (-1) hqP.1 (by rw [List.length_set,hal]; exact hqP.2)
     rw [g1,Option.bind_some]
     simp only [exK]
     rw [gw,Option.bind_some]
     exact ⟨_,_,_,_,rfl,hRI,hsum⟩
   ·rw [decide_eq_false h4,Bool.not_false,cond_true]
    exact ⟨_,_,_,_,rfl,h.skip hr hpP hj hj0 h4,hsum⟩
 ·left
  rw [bne_iff_ne.2 h1,cond_true,Option.bind_some,cond_true]
  exact ⟨.inl h1,rfl⟩
def RId (r:aB) (a nx:List Int):Prop:=∃ l ks,RI r l a nx ks
theorem aKy {N:Nat} (hN:40≤N) {r:aB} (hr:gY r) {a nx:List Int} (h:RId r a nx) :
  ∃ s:List Int × List Int × Bool × Int,aS (fun s21=>eM N (rR r) s21.1 s21.2.1 s21.2.2.1 s21.2.2.2) N (a,nx,false,0)=some (.go s)∧RId r s.1 s.2.1 ∧
   ((s.2.2.1=false∧s.2.1=nx∧∀ p,inP r p→idle r s.1 s.2.1 p) ∨ (s.2.2.1=true∧nx.sum < s.2.1.sum)):=by
 have hp2:=hr.p2
 obtain ⟨s,g1,g2,g3,g4⟩:=tV (ρ:=bK ((List Int) × (List Int) × Bool) ((List Int) × Int)) (fun s21=>eM N (rR r) s21.1 s21.2.1 s21.2.2.1 s21.2.2.2)
  (fun i s=>s.2.2.2=(i:Int)∧RId r s.1 s.2.1∧((s.2.2.1=false∧s.2.1=nx∧∀ p,inP r p→p < (i:Int)→idle r s.1 s.2.1 p) ∨ (s.2.2.1=true∧nx.sum < s.2.1.sum))) r.People.length (fun i s hi hI=>by
  obtain ⟨a1,n1,ag,y⟩:=s
  obtain ⟨rfl,⟨l,ks,hR⟩,hI⟩:=hI
  dsimp only at hR hI
  show ∃ s',eM N (rR r) a1 n1 ag (i:Int)=_∧_
  rcases aKr hN hr hR hi ag with ⟨k1,k2⟩ | ⟨l',a',n',ks',k1,k2,k3⟩
  ·refine ⟨_,k2,rfl,⟨l,ks,hR⟩,?_⟩
   rcases hI with ⟨e1,e2,e3⟩ | e
   ·refine .inl ⟨e1,e2,fun p hp hlt=>?_⟩
    by_cases h4:p=(i:Int)
    ·subst h4; exact k1
    ·exact e3 p hp (by push_cast at hlt; omega)
   ·exact .inr e
  ·refine ⟨_,k1,rfl,⟨l',ks',k2⟩,.inr ⟨rfl,?_⟩⟩
   dsimp only
   rcases hI with ⟨-,e2,-⟩ | ⟨-,e⟩
   ·rw [k3,e2]; omega
   ·rw [k3]; omega) (fun s hI=>by
  show eM N (rR r) s.1 s.2.1 s.2.2.1 s.2.2.2=_
  unfold eM
  rw [hI.1]
  show cond (decide (((r.People.length:Nat):Int) < ((r.People.length:Nat):Int))) _ _=_
  rw [cJ,cond_false,← hI.1]) r.People.length 0 (a,nx,false,0) N (by omega) (by omega) ⟨rfl,h,.inl ⟨rfl,rfl,fun p hp hlt=>by have:=hp.1; omega⟩⟩
 refine ⟨s,g1,g3,?_⟩
 rcases g4 with ⟨e1,e2,e3⟩ | e
 ·exact .inl ⟨e1,e2,fun p hp=>e3 p hp hp.2⟩
 ·exact .inr e
theorem aLa:∀ {l:List Int},(∀ x ∈ l,0≤x)→0≤l.sum
 | [],_=>by simp
 | x::l,h=>by
  have h1:=h x List.mem_cons_self
  have h2:=aLa (l:=l) fun y hy=>h y (List.mem_cons_of_mem _ hy)
  rw [List.sum_cons]
  omega
theorem aMi {N:Nat} (hN:200≤N) {r:aB} (hr:gY r) {a nx:List Int} (h:RId r a nx) :
  ∃ s:List Int × List Int × Bool,aS (fun s13=>gP N (rR r) s13.1 s13.2.1 s13.2.2) N (a,nx,true)=some (.go s)∧∃ l,sQ r s.1 l:=by
 have hsum:∀ {a nx},RId r a nx→0≤nx.sum∧nx.sum≤144:=fun {a nx} h=>by
  obtain ⟨l,ks,h⟩:=h
  refine ⟨aLa fun x hx=>?_,h.sum hr⟩
  obtain ⟨i,hi,rfl⟩:=List.getElem_of_mem hx
  have h2:=(h.n0 (i:Int) ⟨by omega,by have:=h.nl; omega⟩).1
  unfold Nx at h2
  rw [Int.toNat_natCast,← dP hi] at h2
  exact h2
 obtain ⟨s,g1,g2⟩:=aHi (ρ:=List Int × Int) (f:=fun s13:List Int × List Int × Bool=>gP N (rR r) s13.1 s13.2.1 s13.2.2)
  (fun s=>RId r s.1 s.2.1∧(s.2.2=false→∀ p,inP r p→idle r s.1 s.2.1 p)) (fun s=>∃ l,sQ r s.1 l) (fun s=>cond s.2.2 (1 + (144 - s.2.1.sum).toNat) 0) (fun s hI=>by
  obtain ⟨a1,n1,ag⟩:=s
  obtain ⟨hR,hI⟩:=hI
  dsimp only at hR hI
  show (∃ s',gP N (rR r) a1 n1 ag=_∧_) ∨ (∃ s',gP N (rR r) a1 n1 ag=_∧_)
  unfold gP
  cases ag with
  | false=>
   left
   obtain ⟨l,ks,hR⟩:=hR
   exact ⟨_,rfl,l,hR.settled hr (hI rfl)⟩
  | true=>
   right
   obtain ⟨s,g1,g2,g3⟩:=aKy (N:=N) (by omega) hr hR
   rw [cond_true,g1,Option.bind_some]
   simp only [exK]
   refine ⟨_,rfl,⟨g2,fun e=>?_⟩,?_⟩
   ·rcases g3 with ⟨-,-,k⟩ | ⟨k,-⟩
    ·exact k
    ·dsimp only at e; rw [k] at e; cases e
   ·have b1:=hsum hR
    have b2:=hsum g2
    dsimp only
    rw [cond_true]
    rcases g3 with ⟨k,-⟩ | ⟨k,k2⟩
    ·rw [k,cond_false]; omega
    ·rw [k,cond_true]; omega) N (a,nx,true) ⟨h,fun e=>by cases e⟩ (by have:=hsum h; dsimp only; rw [cond_true]; omega)
 exact ⟨s,g1,g2⟩
theorem aK3 {N:Nat} (hN:200≤N) {r:aB} (hm:Sml r) (hr:gY r):∃ b l,lP N (rR r)=some (b,0)∧sQ r b l:=by
 have hp2:=hr.p2
 have eA:∀ p,Asg (List.replicate r.People.length (-1)) p = -1:=fun p=>by
  unfold Asg
  simp only [List.getD,List.getElem?_replicate]
  split <;> rfl
 have eN:∀ p,Nx (List.replicate r.People.length 0) p=0:=fun p=>by
  unfold Nx
  simp only [List.getD,List.getElem?_replicate]
  split <;> rfl
 have hR0:RId r (List.replicate r.People.length (-1)) (List.replicate r.People.length 0):=by
  refine ⟨[],_,(aGi hr).congr fun p hp=>?_,by simp,fun p hp=>?_,fun p hp t ht hlt hpo=>?_,fun p hp t hRf=>?_,fun p hp hne=>absurd (eA p) hne⟩
  ·rw [eA]; have:=hp.1; exact ⟨fun k=>by omega,fun k=>absurd rfl k⟩
  ·rw [eN]; omega
  ·rw [eN] at hlt
   obtain ⟨i,hi,rfl⟩:=List.getElem_of_mem ht
   rw [iM (hr.pn _ (kQ hp)) hi] at hlt
   omega
  ·exact absurd hRf List.not_mem_nil
 obtain ⟨s,g1,l,g2⟩:=aMi hN hr hR0
 have l10:=vS (ρ:=List Int × Int) (fun i:Nat=>(List.replicate i (-1:Int)++List.replicate (r.People.length - i) 0,(i:Int))) r.People.length (fun s10=>gV N (rR r) s10.1 s10.2) (fun i hi=>by
  show gV N (rR r) (List.replicate i (-1:Int)++List.replicate (r.People.length - i) 0) (i:Int)=_
  unfold gV
  show cond (decide ((i:Int) < ((r.People.length:Nat):Int))) _ _=_
  have e1:List.replicate (r.People.length - i) (0:Int)=0::List.replicate (r.People.length - (i + 1)) 0:=by
   rw [show r.People.length - i=(r.People.length - (i + 1)) + 1 by omega,List.replicate_succ]
  have hs:=aH8 (List.replicate i (-1:Int)) (List.replicate (r.People.length - (i + 1)) 0) 0 (-1)
  rw [List.length_replicate] at hs
  rw [cM hi,cond_true,e1,bS (by rw [List.length_append,List.length_replicate,List.length_cons]; omega),Option.bind_some,cI (by omega),Int.toNat_natCast,hs,List.replicate_succ',List.append_assoc]
  rfl) (by
  show gV N (rR r) _ (r.People.length:Int)=_
  unfold gV
  show cond (decide (((r.People.length:Nat):Int) < ((r.People.length:Nat):Int))) _ _=_
  rw [cJ,cond_false]) (N:=N) (by omega)
 refine ⟨s.1,l,?_,g2⟩
 unfold lP
 rw [tY (by omega) hm,zM.2 hr,Option.bind_some,bne_self_eq_false,cond_false]
 show Option.bind (inM ((r.People.length:Nat):Int)) (fun un=>Option.bind (inM ((r.People.length:Nat):Int)) fun un_1=>Option.bind (aS (fun s10=>gV N (rR r) s10.1 s10.2) N (List.replicate (((r.People.length:Nat):Int)).toNat (0:Int),((0:Nat):Int))) fun x10=>exK x10 (fun s10=>Option.bind (aS (fun s13=>gP N (rR r) s13.1 s13.2.1 s13.2.2) N (s10.1,List.replicate (((r.People.length:Nat):Int)).toNat (0:Int),true)) _) some)=_
 rw [aKx (by omega),Option.bind_some,Option.bind_some,Int.toNat_natCast]
 have e0:(List.replicate r.People.length (0:Int),((0:Nat):Int))=(List.replicate 0 (-1:Int)++List.replicate (r.People.length - 0) 0,((0:Nat):Int)):=rfl
 rw [e0,l10,Option.bind_some]
 simp only [exK]
 rw [Nat.sub_self,List.replicate_zero,List.append_nil,g1,Option.bind_some]
end Go.Nilo
