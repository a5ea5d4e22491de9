/-
  What the plain functions compute, in plain arithmetic, part 5. Conditions: what each theorem names.
-/
import Derived.Test.YtakhbnnlhoninacGreatCmL4
set_option linter.unusedSimpArgs false
set_option linter.unusedVariables false
namespace Go.Nilo
theorem SI.room {r:aB} {d:Int→Prop} {l:List aE} {asg:List Int} {ks:List (List Int)} (h:SI r d l asg ks) {p s:Int} (hp:inP r p) (hs:inS r s) (ha:Asg asg p = -1):p ∉ Ks ks s:=fun hm=>by
 have:=(h.mem s p hs hp).1 hm
 have:=hs.1
 omega
theorem SI.take {r:aB} {d:Int→Prop} {l:List aE} {asg:List Int} {ks:List (List Int)} (h:SI r d l asg ks) {p s:Int} (hp:inP r p) (hs:inS r s) (ha:Asg asg p = -1) (hpo:jR r p s) (hR:¬ Ref l p s) (hB:Bet r l p s)
  (hc:(((Ks ks s++[p]).length:Nat):Int)≤(sta r s).Places):SI r (fun q=>d q ∨ q=p) l (asg.set p.toNat s) (ks.set s.toNat (Ks ks s++[p])):=by
 have hpk:=h.room hp hs ha
 have eA:∀ x,0≤x→Asg (asg.set p.toNat s) x=if x=p then s else Asg asg x:=fun x hx=>aB5 hp.1 (by rw [h.al]; exact hp.2) hx
 have eK:∀ x,0≤x→Ks (ks.set s.toNat (Ks ks s++[p])) x=if x=s then Ks ks s++[p] else Ks ks x:=fun x hx=>aEe hs.1 (by rw [h.kl]; exact hs.2) hx
 refine ⟨by rw [List.length_set]; exact h.al,by rw [List.length_set]; exact h.kl,fun t x ht hx=>?_,fun t ht x hx=>?_,fun t ht=>?_,fun t ht=>?_,fun x hx=>?_,fun x hx hne=>?_,fun x hx hd hne=>?_,fun x hx hd=>?_,h.refp,h.refn,h.just⟩
 ·rw [eA x hx.1,eK t ht.1]
  by_cases h1:t=s
  ·subst h1
   rw [if_pos rfl,List.mem_append,List.mem_singleton]
   by_cases h2:x=p
   ·rw [if_pos h2]; exact ⟨fun _=>rfl,fun _=>Or.inr h2⟩
   ·rw [if_neg h2,h.mem t x hs hx]
    exact ⟨fun h3=>h3.resolve_right h2,Or.inl⟩
  ·rw [if_neg h1]
   by_cases h2:x=p
   ·subst h2
    rw [if_pos rfl]
    exact ⟨fun h3=>absurd h3 (h.room hp ht ha),fun h3=>absurd h3.symm h1⟩
   ·rw [if_neg h2]; exact h.mem t x ht hx
 ·rw [eK t ht.1] at hx
  split at hx
  ·rcases List.mem_append.1 hx with h1 | h1
   ·exact h.kr s hs x h1
   ·rw [List.mem_singleton.1 h1]; exact hp
  ·exact h.kr t ht x hx
 ·rw [eK t ht.1]
  split
  ·rw [List.nodup_append]
   exact ⟨h.kn s hs,by simp,fun a haa b hb e=>hpk (by rw [List.mem_singleton.1 hb] at e; exact e ▸ haa)⟩
  ·exact h.kn t ht
 ·rw [eK t ht.1]
  by_cases h1:t=s
  ·subst h1; rw [if_pos rfl]; exact hc
  ·rw [if_neg h1]; exact h.cap t ht
 ·rw [eA x hx.1]
  split
  ·exact Or.inr hs
  ·exact h.asr x hx
 ·rw [eA x hx.1] at hne ⊢
  by_cases h1:x=p
  ·subst h1; rw [if_pos rfl]; exact ⟨hpo,hR,hB⟩
  ·rw [if_neg h1] at hne ⊢; exact h.good x hx hne
 ·rw [eA x hx.1] at hne
  by_cases h1:x=p
  ·rw [if_pos h1] at hne; have:=hs.1; omega
  ·rw [if_neg h1] at hne; exact h.free x hx (hd.resolve_right h1) hne
 ·rw [eA x hx.1,if_neg (fun e=>hd (Or.inr e))]
  exact h.fresh x hx fun e=>hd (Or.inl e)
theorem SI.over {r:aB} {d:Int→Prop} {l:List aE} {asg:List Int} {ks:List (List Int)} (h:SI r d l asg ks) {p s q:Int} (hp:inP r p) (hs:inS r s) (ha:Asg asg p = -1) (hpo:jR r p s) (hR:¬ Ref l p s) (hB:Bet r l p s)
  (hc:(sta r s).Places < (((Ks ks s++[p]).length:Nat):Int)) (hq:q ∈ Ks ks s++[p]) (hm:∀ o ∈ Ks ks s++[p],rk r s o≤rk r s q) :
  inP r q∧SI r (fun x=>(d x ∨ x=p)∧x ≠ q) (l++[⟨q,s⟩]) ((asg.set p.toNat s).set q.toNat (-1)) (ks.set s.toNat ((Ks ks s++[p]).erase q))∧(q=p ∨ Asg asg q ≠ -1):=by
 have hpk:=h.room hp hs ha
 have hin:∀ x ∈ Ks ks s++[p],inP r x∧jR r x s∧¬ Ref l x s∧Bet r l x s:=fun x hx=>by
  rcases List.mem_append.1 hx with h1 | h1
  ·have hx':=h.kr s hs x h1
   have he:=(h.mem s x hs hx').1 h1
   have hg:=h.good x hx' (by have:=hs.1; omega)
   rw [he] at hg
   exact ⟨hx',hg⟩
  ·rw [List.mem_singleton.1 h1]; exact ⟨hp,hpo,hR,hB⟩
 obtain ⟨hqp,hqpo,hqR,hqB⟩:=hin q hq
 have hnd:(Ks ks s++[p]).Nodup:=by
  rw [List.nodup_append]
  exact ⟨h.kn s hs,by simp,fun a haa b hb e=>hpk (by rw [List.mem_singleton.1 hb] at e; exact e ▸ haa)⟩
 have eA:∀ x,0≤x→Asg ((asg.set p.toNat s).set q.toNat (-1)) x=if x=q then -1 else if x=p then s else Asg asg x:=fun x hx=>by
  rw [aB5 hqp.1 (by rw [List.length_set,h.al]; exact hqp.2) hx,aB5 hp.1 (by rw [h.al]; exact hp.2) hx]
 have eK:∀ x,0≤x→Ks (ks.set s.toNat ((Ks ks s++[p]).erase q)) x=if x=s then (Ks ks s++[p]).erase q else Ks ks x:=fun x hx=>aEe hs.1 (by rw [h.kl]; exact hs.2) hx
 have hme:∀ x,x ∈ (Ks ks s++[p]).erase q ↔ x ≠ q∧x ∈ Ks ks s++[p]:=fun x=>hnd.mem_erase_iff
 have hR2:∀ x t,Ref l x t→Ref (l++[⟨q,s⟩]) x t:=fun x t h1=>List.mem_append_left _ h1
 have hB2:∀ x t,Bet r l x t→Bet r (l++[⟨q,s⟩]) x t:=fun x t h1 u hu hlt hpu=>hR2 _ _ (h1 u hu hlt hpu)
 have hlen:((Ks ks s++[p]).erase q).length=(Ks ks s).length:=by
  rw [List.length_erase_of_mem hq,List.length_append]; rfl
 refine ⟨hqp,⟨by rw [List.length_set,List.length_set]; exact h.al,by rw [List.length_set]; exact h.kl,fun t x ht hx=>?_,fun t ht x hx=>?_,fun t ht=>?_,fun t ht=>?_,fun x hx=>?_,fun x hx hne=>?_,fun x hx hd hne=>?_,fun x hx hd=>?_,fun x hx=>?_,?_,fun k hk=>?_⟩,?_⟩
 ·rw [eA x hx.1,eK t ht.1]
  by_cases h1:t=s
  ·subst h1
   rw [if_pos rfl,hme,List.mem_append,List.mem_singleton]
   by_cases h2:x=q
   ·rw [if_pos h2]
    exact ⟨fun h3=>absurd h2 h3.1,fun h3=>by have:=ht.1; omega⟩
   ·rw [if_neg h2]
    by_cases h3:x=p
    ·rw [if_pos h3]; exact ⟨fun _=>rfl,fun _=>⟨h2,Or.inr h3⟩⟩
    ·rw [if_neg h3,h.mem t x ht hx]
     exact ⟨fun h4=>h4.2.resolve_right h3,fun h4=>⟨h2,Or.inl h4⟩⟩
  ·rw [if_neg h1]
   by_cases h2:x=q
   ·rw [if_pos h2]
    constructor
    ·intro h3
     exfalso
     have h4:=(h.mem t x ht hx).1 h3
     rcases List.mem_append.1 hq with h5 | h5
     ·have h6:=(h.mem s q hs hqp).1 h5
      rw [h2] at h4
      exact h1 (h4.symm.trans h6)
     ·rw [h2,List.mem_singleton.1 h5,ha] at h4
      have:=ht.1
      omega
    ·intro h3; have:=ht.1; omega
   ·rw [if_neg h2]
    by_cases h3:x=p
    ·subst h3
     rw [if_pos rfl]
     exact ⟨fun h4=>absurd h4 (h.room hp ht ha),fun h4=>absurd h4.symm h1⟩
    ·rw [if_neg h3]; exact h.mem t x ht hx
 ·rw [eK t ht.1] at hx
  split at hx
  ·exact (hin x ((hme x).1 hx).2).1
  ·exact h.kr t ht x hx
 ·rw [eK t ht.1]
  split
  ·exact hnd.erase q
  ·exact h.kn t ht
 ·rw [eK t ht.1]
  by_cases h1:t=s
  ·subst h1
   rw [if_pos rfl,hlen]
   exact h.cap t ht
  ·rw [if_neg h1]; exact h.cap t ht
 ·rw [eA x hx.1]
  split
  ·exact Or.inl rfl
  ·split
   ·exact Or.inr hs
   ·exact h.asr x hx
 ·rw [eA x hx.1] at hne ⊢
  by_cases h1:x=q
  ·rw [if_pos h1] at hne; exact absurd rfl hne
  ·rw [if_neg h1] at hne ⊢
   have hnr:∀ t,¬ Ref l x t→¬ Ref (l++[⟨q,s⟩]) x t:=fun t h2 h3=>by
    rcases List.mem_append.1 h3 with h4 | h4
    ·exact h2 h4
    ·have:=List.mem_singleton.1 h4
     injection this with e1 e2
     exact h1 e1
   by_cases h2:x=p
   ·subst h2; rw [if_pos rfl]; exact ⟨hpo,hnr _ hR,hB2 _ _ hB⟩
   ·rw [if_neg h2] at hne ⊢
    obtain ⟨g1,g2,g3⟩:=h.good x hx hne
    exact ⟨g1,hnr _ g2,hB2 _ _ g3⟩
 ·rw [eA x hx.1,if_neg hd.2] at hne
  by_cases h2:x=p
  ·rw [if_pos h2] at hne; have:=hs.1; omega
  ·rw [if_neg h2] at hne
   intro t ht hpt
   exact hR2 _ _ (h.free x hx (hd.1.resolve_right h2) hne t ht hpt)
 ·rw [eA x hx.1]
  by_cases h1:x=q
  ·rw [if_pos h1]
  ·rw [if_neg h1,if_neg (fun e=>hd ⟨Or.inr e,h1⟩)]
   exact h.fresh x hx fun e=>hd ⟨Or.inl e,h1⟩
 ·rcases List.mem_append.1 hx with h1 | h1
  ·exact h.refp x h1
  ·rw [List.mem_singleton.1 h1]; exact ⟨hqp,hs,hqpo⟩
 ·rw [List.nodup_append]
  exact ⟨h.refn,by simp,fun a haa b hb e=>hqR (by rw [List.mem_singleton.1 hb] at e; unfold Ref; rw [← e]; exact haa)⟩
 ·by_cases hkl:k < l.length
  ·rw [List.take_append_of_le_length (by omega),List.getElem_append_left hkl]
   exact h.just k hkl
  ·have hk':k=l.length:=by rw [List.length_append] at hk; simp at hk; omega
   subst hk'
   rw [List.take_append_of_le_length (Nat.le_refl _),List.take_length,List.getElem_append_right (Nat.le_refl _)]
   simp only [Nat.sub_self,List.getElem_cons_zero]
   refine ⟨(Ks ks s++[p]).erase q,hnd.erase q,?_,fun x hx=>?_⟩
   ·rw [hlen]
    rw [List.length_append,List.length_cons,List.length_nil] at hc
    dsimp only
    omega
   ·obtain ⟨h1,h2⟩:=(hme x).1 hx
    obtain ⟨g1,g2,g3,g4⟩:=hin x h2
    refine ⟨g1,g2,?_,g4⟩
    have hle:=hm x h2
    have hne:rk r s x ≠ rk r s q:=fun e=>h1 (zM g2.1 e)
    dsimp only
    omega
 ·rcases List.mem_append.1 hq with h1 | h1
  ·right
   rw [(h.mem s q hs hqp).1 h1]
   have:=hs.1
   omega
  ·left; exact List.mem_singleton.1 h1
theorem aG9 {r:aB} {rank:Nat→Int} (hw:WOk r rank):∀ (N:Nat) (d:Int→Prop) (l:List aE) (asg:List Int) (ks:List (List Int)) (p:Int),SI r d l asg ks→inP r p→¬ d p→400≤N + l.length →
  ∃ l' asg' ks',cA N p ⟨r,rank⟩ l asg (gB ks)=some (l',asg',gB ks')∧SI r (fun q=>d q ∨ q=p) l' asg' ks'
 | 0,d,l,asg,ks,p,h,hp,hd,hN=>by have:=h.len hw.ok; omega
 | N + 1,d,l,asg,ks,p,h,hp,hd,hN=>by
  have hll:=h.len hw.ok
  have ha:=h.fresh p hp hd
  have hnp:=hw.ok.p2
  have hns:=hw.ok.s2
  obtain ⟨x3,h1,st,h2,h3⟩:=aEd (N:=N) (by omega) hw (than:=-1) hp (rY (fun (zz:(List aE) × (List Int) × (List (Option (List (Int × Bool))))) (ix_:Int)=>bS N (cA N) p ⟨r,rank⟩ zz.1 zz.2.1 zz.2.2 ix_))
   (fun i sg=>sg=.go (l,asg,gB ks)∧∀ j (hj:j < (pf r p).length),j < i→jR r p (pf r p)[j]→Ref l p (pf r p)[j])
   (fun sg=>∃ st:(List aE) × (List Int) × (List (Option (List (Int × Bool)))),(sg=.go st ∨ sg=.ret st)∧∃ l' asg' ks',st=(l',asg',gB ks')∧SI r (fun q=>d q ∨ q=p) l' asg' ks')
   (fun i hi sg hI hne hpo=>by
    obtain ⟨rfl,hI⟩:=hI
    have hs:inS r (pf r p)[i]:=hw.ok.pr _ (rN hp) _ (List.getElem_mem hi)
    have hnd:=hw.ok.pn _ (rN hp)
    obtain ⟨b,b1,b2⟩:=aEo (N:=N) (l:=l) (p:=p) (s:=(pf r p)[i]) (by omega) (by omega)
    have hB:Bet r l p (pf r p)[i]:=fun t ht hlt hpt=>by
     obtain ⟨j,hj,rfl⟩:=List.getElem_of_mem ht
     rw [wM hnd hj,wM hnd hi] at hlt
     exact hI j hj (by omega) hpt
    cases b with
    | true=>
     refine ⟨.go (l,asg,gB ks),true,?_,fun _=>⟨rfl,fun j hj hji hpj=>?_⟩,(fun e=>by cases e)⟩
     ·unfold rY bS
      dsimp only
      rw [b1,Option.bind_some]
      rfl
     ·by_cases h4:j=i
      ·subst h4; exact b2.1 rfl
      ·exact hI j hj (by omega) hpj
    | false=>
     have hR:¬ Ref l p (pf r p)[i]:=fun e=>by have:=b2.2 e; cases this
     generalize hsx:(pf r p)[i]=s at hs hne hpo b1 hB hR
     have hpk:=h.room hp hs ha
     have hg1:bH asg p=some (Asg asg p):=sR (-1) hp.1 (by rw [h.al]; exact hp.2)
     have hg2:=aE8 (ks:=ks) hs.1 (by rw [h.kl]; exact hs.2)
     have hset:(gB ks).set s.toNat (some (eP ((Ks ks s).map fun p=>(p,true)) p true))=gB (ks.set s.toNat (Ks ks s++[p])):=by rw [aI9 hpk,aFj]
     have hK:Ks (ks.set s.toNat (Ks ks s++[p])) s=Ks ks s++[p]:=by rw [aEe hs.1 (by rw [h.kl]; exact hs.2) hs.1,if_pos rfl]
     have hg3:bH (gB (ks.set s.toNat (Ks ks s++[p]))) s=some (some ((Ks ks s++[p]).map fun p=>(p,true))):=by
      rw [aE8 hs.1 (by rw [List.length_set,h.kl]; exact hs.2),hK]
     have hg4:bH r.Stations s=some (sta r s):=sR _ hs.1 hs.2
     have hr3:∀ X,bS N (cA N) p ⟨r,rank⟩ l asg (gB ks) s=X→rY (fun (zz:(List aE) × (List Int) × (List (Option (List (Int × Bool))))) (ix_:Int)=>bS N (cA N) p ⟨r,rank⟩ zz.1 zz.2.1 zz.2.2 ix_) (.go (l,asg,gB ks)) s=X.map fun r=>(r,r.on):=fun X hX=>by rw [← hX]; rfl
     by_cases hc:(((Ks ks s++[p]).length:Nat):Int)≤(sta r s).Places
     ·refine ⟨.ret (l,asg.set p.toNat s,gB (ks.set s.toNat (Ks ks s++[p]))),false,?_,(fun e=>by cases e),fun _=>⟨_,Or.inr rfl,_,_,_,rfl,h.take hp hs ha hpo hR hB hc⟩⟩
      refine (hr3 (some (.ret (l,asg.set p.toNat s,gB (ks.set s.toNat (Ks ks s++[p]))))) ?_).trans rfl
      unfold bS
      rw [b1,Option.bind_some,cond_false,hg1,Option.bind_some,hg2,Option.bind_some,Option.bind_some,hset,hg3,Option.bind_some,Option.bind_some]
      dsimp only
      rw [hg4,Option.bind_some,List.length_map,decide_eq_true hc,cond_true]
     ·-- the one whom it likes least
      obtain ⟨s14,g1,g2,g3,g4⟩:=oH (ρ:=Rs ((List aE) × (List Int) × (List (Option (List (Int × Bool)))))) (fun s14=>dB N p ⟨r,rank⟩ (gB ks) s ((Ks ks s).map fun p=>(p,true)) s14.1 s14.2) (fun i s14=>s14.2=(i:Int)∧s14.1 ∈ Ks ks s++[p]∧∀ o ∈ Ks ks s++[p],o < (i:Int)→rk r s o≤rk r s s14.1) r.People.length (fun j s14 hj hJ=>by
       obtain ⟨q,y⟩:=s14
       obtain ⟨rfl,k1,k2⟩:=hJ
       dsimp only at k1 k2
       have hqp:inP r q:=by
        rcases List.mem_append.1 k1 with h5 | h5
        ·exact h.kr s hs q h5
        ·rw [List.mem_singleton.1 h5]; exact hp
       have hjp:inP r (j:Int):=⟨by omega,by omega⟩
       have hb:dB N p ⟨r,rank⟩ (gB ks) s ((Ks ks s).map fun p=>(p,true)) q (j:Int)=some (.cont (if (j:Int) ∈ Ks ks s++[p]∧rk r s q < rk r s (j:Int) then (j:Int) else q,((j + 1:Nat):Int))):=by
        unfold dB fJ
        dsimp only
        rw [kH hj,cond_true,hset,hg3,Option.bind_some,Option.bind_some,lk_in,jZ (by omega)]
        by_cases h5:(j:Int) ∈ Ks ks s++[p]
        ·rw [decide_eq_true h5,cond_true,aA4 hs.1 (by have:=hs.2; omega),aA4 hjp.1 (by omega),aA4 hqp.1 (by have:=hqp.2; omega),Option.bind_some,Option.bind_some,Option.bind_some,Option.bind_some]
         simp only [hw.get hs hqp,hw.get hs hjp]
         by_cases h6:rk r s q < rk r s (j:Int)
         ·rw [decide_eq_true h6,cond_true,if_pos ⟨h5,h6⟩]
         ·rw [decide_eq_false h6,cond_false,if_neg (fun e=>h6 e.2)]
        ·rw [decide_eq_false h5,cond_false,Option.bind_some,cond_false,if_neg (fun e=>h5 e.1)]
       refine ⟨_,hb,rfl,?_,fun o ho hlt=>?_⟩
       ·dsimp only; split
        ·rename_i h5; exact h5.1
        ·exact k1
       ·dsimp only
        by_cases h5:o=(j:Int)
        ·subst h5
         split
         ·exact Int.le_refl _
         ·rename_i h6
          have:¬ rk r s q < rk r s (j:Int):=fun e=>h6 ⟨ho,e⟩
          omega
        ·have:=k2 o ho (by push_cast at hlt; omega)
         split
         ·rename_i h6; omega
         ·exact this) (fun s14 hJ=>by
       show dB N p ⟨r,rank⟩ (gB ks) s ((Ks ks s).map fun p=>(p,true)) s14.1 s14.2=_
       unfold dB
       dsimp only
       rw [hJ.1,iE,cond_false,← hJ.1]) r.People.length 0 (p,0) N (by omega) (by omega) ⟨rfl,List.mem_append_right _ (List.mem_singleton.2 rfl),fun o ho hlt=>by
        rcases List.mem_append.1 ho with h5 | h5
        ·have:=(h.kr s hs o h5).1; omega
        ·rw [List.mem_singleton.1 h5] at hlt; have:=hp.1; omega⟩
      have hmax:∀ o ∈ Ks ks s++[p],rk r s o≤rk r s s14.1:=fun o ho=>g4 o ho (by
       rcases List.mem_append.1 ho with h5 | h5
       ·exact (h.kr s hs o h5).2
       ·rw [List.mem_singleton.1 h5]; exact hp.2)
      obtain ⟨hqp,hSI,hq2⟩:=h.over hp hs ha hpo hR hB (by omega) g3 hmax
      obtain ⟨l',asg',ks',r1,r2⟩:=aG9 hw N _ _ _ _ s14.1 hSI hqp (fun e=>e.2 rfl) (by rw [List.length_append,List.length_cons,List.length_nil]; omega)
      refine ⟨.ret (l',asg',gB ks'),false,?_,(fun e=>by cases e),fun _=>⟨_,Or.inr rfl,_,_,_,rfl,r2.congr fun x hx=>?_⟩⟩
      ·refine (hr3 (some (.ret (l',asg',gB ks'))) ?_).trans rfl
       unfold bS
       have hga:bH (asg.set p.toNat s) s14.1=some (Asg (asg.set p.toNat s) s14.1):=sR (-1) hqp.1 (by rw [List.length_set,h.al]; exact hqp.2)
       have hdel:(gB (ks.set s.toNat (Ks ks s++[p]))).set s.toNat (some (vV ((Ks ks s++[p]).map fun p=>(p,true)) s14.1))=gB (ks.set s.toNat ((Ks ks s++[p]).erase s14.1)):=by
        rw [aEt,aFj,List.set_set]
       rw [b1,Option.bind_some,cond_false,hg1,Option.bind_some,hg2,Option.bind_some,Option.bind_some,g1,hset,hg3,Option.bind_some,Option.bind_some]
       dsimp only
       rw [hg4,Option.bind_some,List.length_map,decide_eq_false hc,cond_false,Option.bind_some]
       simp only [exK]
       rw [Option.bind_some,Option.bind_some,hga,Option.bind_some,mH (by rw [List.length_append,List.length_cons,List.length_nil]; omega),Option.bind_some,hdel,r1,Option.bind_some]
      ·constructor
       ·rintro (h5 | h5)
        ·exact h5.1
        ·rcases hq2 with h6 | h6
         ·exact Or.inr (h5.trans h6)
         ·left
          rw [h5]
          exact Classical.byContradiction fun h7=>h6 (h.fresh _ hqp h7)
       ·intro h5
        by_cases h6:x=s14.1
        ·exact Or.inr h6
        ·exact Or.inl ⟨h5,h6⟩)
   (fun i hi sg hI _ hnp=>⟨hI.1,fun j hj hji hpj=>by
    by_cases h4:j=i
    ·subst h4; exact absurd hpj hnp
    ·exact hI.2 j hj (by omega) hpj⟩)
   (fun i hi sg hI ht=>by
    have hs:inS r (pf r p)[i]:=hw.ok.pr _ (rN hp) _ (List.getElem_mem hi)
    rw [ht] at hs
    have:=hs.1
    omega)
   (fun sg hI=>by
    refine ⟨_,Or.inl hI.1,_,_,_,rfl,⟨h.al,h.kl,h.mem,h.kr,h.kn,h.cap,h.asr,h.good,fun x hx hd' hne=>?_,fun x hx hd'=>h.fresh x hx fun e=>hd' (Or.inl e),h.refp,h.refn,h.just⟩⟩
    rcases hd' with h4 | h4
    ·exact h.free x hx h4 hne
    ·subst h4
     intro t ht hpt
     obtain ⟨j,hj,rfl⟩:=List.getElem_of_mem ht
     exact hI.2 j hj hj hpt) (.go (l,asg,gB ks)) ⟨rfl,fun j hj hji=>by omega⟩
  obtain ⟨l',asg',ks',rfl,h4⟩:=h3
  refine ⟨l',asg',ks',?_,h4⟩
  rw [show cA (N + 1) p ⟨r,rank⟩ l asg (gB ks)=Option.bind (gA N (⟨r,rank⟩:aT) p (-1)) fun r_1=>Option.bind (dQ N (⟨r,rank⟩:aT) r_1.1 r_1.2 (rY (fun (zz:(List aE) × (List Int) × (List (Option (List (Int × Bool))))) (ix_:Int)=>bS N (cA N) p ⟨r,rank⟩ zz.1 zz.2.1 zz.2.2 ix_)) (.go (l,asg,gB ks))) fun x3=>rsK x3 (fun zz3=>some (zz3.1,zz3.2.1,zz3.2.2)) (fun zz3=>some (zz3.1,zz3.2.1,zz3.2.2)) from rfl]
  unfold gA
  rw [Option.bind_some,h1,Option.bind_some]
  rcases h2 with rfl | rfl <;> rfl
end Go.Nilo
