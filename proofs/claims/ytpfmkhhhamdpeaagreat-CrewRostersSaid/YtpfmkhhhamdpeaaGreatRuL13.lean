/-
  What the plain functions compute, in plain arithmetic, part 13. Conditions: what each theorem names.
-/
import Derived.Test.YtpfmkhhhamdpeaaGreatRuL12
set_option linter.unusedSimpArgs false
set_option linter.unusedVariables false
namespace Go.Nilo
theorem aDr {r:aB} (hr:gY r) {l:List aC} {asg:List Int} {ks:List (List Int)} (h:SI r (fun _=>True) l asg ks) {b:List Int} (hb:aG6 r b) {p:Int} (hp:inP r p) (hne:Asg b p ≠ -1):Asg asg p ≠ -1∧oE (pf r p) (Asg asg p)≤oE (pf r p) (Asg b p):=by
 have hpo:=(hb.f p hp hne).1
 have hno:¬ Ref l p (Asg b p):=fun hR=>by
  obtain ⟨k,hk,he⟩:=List.getElem_of_mem hR
  have:=yH hr h.just h.refp hb (k + 1) k (by omega) hk
  rw [he] at this
  exact this rfl
 by_cases ha:Asg asg p = -1
 ·exact absurd (h.free p hp trivial ha _ hpo.2 hpo) hno
 ·refine ⟨ha,?_⟩
  rcases Int.lt_or_le (oE (pf r p) (Asg b p)) (oE (pf r p) (Asg asg p)) with h1 | h1
  ·exact absurd ((h.good p hp ha).2.2 _ hpo.2 h1 hpo) hno
  ·exact h1
theorem aFb {r:aB} (hr:gY r) {a b:List Int} {l l':List aC} (ha:sQ r a l) (hb:sQ r b l'):a=b:=by
 have sa:=wW hr ha
 have sb:=wW hr hb
 obtain ⟨ks,ha⟩:=ha
 obtain ⟨ks',hb⟩:=hb
 have hp:∀ p,inP r p→Asg a p=Asg b p:=fun p hp=>by
  by_cases h1:Asg a p = -1
  ·by_cases h2:Asg b p = -1
   ·rw [h1,h2]
   ·exact absurd h1 (aDr hr ha sb hp h2).1
  ·have h2:=aDr hr hb sa hp h1
   have h3:=aDr hr ha sb hp h2.1
   have:=(sa.f p hp h1).1.2
   exact aCa this (by omega)
 refine List.ext_getElem (by rw [ha.al,hb.al]) fun i h1 h2=>?_
 have:=hp (i:Int) ⟨by omega,by have:=ha.al; omega⟩
 unfold Asg at this
 rw [Int.toNat_natCast] at this
 rw [dP (d:=(-1:Int)) h1,dP (d:=(-1:Int)) h2,this]
abbrev Nx (nx:List Int) (p:Int):Int:=nx.getD p.toNat 0
structure RI (r:aB) (l:List aC) (a nx:List Int) (ks:List (List Int)):Prop where
 si:SI r (fun q=>Asg a q ≠ -1) l a ks
 nl:nx.length=r.People.length
 n0:∀ p,inP r p→0≤Nx nx p∧Nx nx p≤((pf r p).length:Int)
 tri:∀ p,inP r p→∀ t ∈ pf r p,oE (pf r p) t < Nx nx p→kF r p t→Ref l p t ∨ Asg a p=t
 asked:∀ p,inP r p→∀ t,Ref l p t→oE (pf r p) t < Nx nx p
 has:∀ p,inP r p→Asg a p ≠ -1→oE (pf r p) (Asg a p) < Nx nx p
theorem aG7 {nx:List Int} {p x v:Int} (h0:0≤p) (h1:p < (nx.length:Int)) (hx:0≤x):Nx (nx.set p.toNat v) x=if x=p then v else Nx nx x:=by
 unfold Nx
 rw [aAl (by omega)]
 by_cases h:x=p
 ·rw [if_pos h,if_pos (by omega)]
 ·rw [if_neg h,if_neg (by omega)]
theorem RI.skip {r:aB} {l:List aC} {a nx:List Int} {ks:List (List Int)} (h:RI r l a nx ks) {p:Int} {j:Nat} (hr:gY r) (hp:inP r p) (hj:j < (pf r p).length) (hn:Nx nx p=(j:Int)) (hno:¬ kF r p (pf r p)[j]):RI r l a (nx.set p.toNat ((j + 1:Nat):Int)) ks:=by
 have hnd:=hr.pn _ (kQ hp)
 have eN:∀ x,0≤x→Nx (nx.set p.toNat ((j + 1:Nat):Int)) x=if x=p then ((j + 1:Nat):Int) else Nx nx x:=fun x hx=>aG7 hp.1 (by rw [h.nl]; exact hp.2) hx
 refine ⟨h.si,by rw [List.length_set]; exact h.nl,fun q hq=>?_,fun q hq t ht hlt hpo=>?_,fun q hq t hR=>?_,fun q hq hne=>?_⟩
 ·rw [eN q hq.1]
  split
  ·rename_i e; subst e; omega
  ·exact h.n0 q hq
 ·rw [eN q hq.1] at hlt
  by_cases e:q=p
  ·subst e
   rw [if_pos rfl] at hlt
   obtain ⟨i,hi,rfl⟩:=List.getElem_of_mem ht
   rw [iM hnd hi] at hlt
   by_cases e2:i=j
   ·subst e2; exact absurd hpo hno
   ·exact h.tri q hq _ ht (by rw [iM hnd hi,hn]; omega) hpo
  ·rw [if_neg e] at hlt; exact h.tri q hq t ht hlt hpo
 ·rw [eN q hq.1]
  have:=h.asked q hq t hR
  split
  ·rename_i e; subst e; omega
  ·exact this
 ·rw [eN q hq.1]
  have:=h.has q hq hne
  split
  ·rename_i e; subst e; omega
  ·exact this
theorem RI.ready {r:aB} {l:List aC} {a nx:List Int} {ks:List (List Int)} (h:RI r l a nx ks) {p:Int} {j:Nat} (hr:gY r) (hp:inP r p) (hj:j < (pf r p).length) (hn:Nx nx p=(j:Int)) (ha:Asg a p = -1):¬ Ref l p (pf r p)[j]∧Bet r l p (pf r p)[j]:=by
 have hnd:=hr.pn _ (kQ hp)
 refine ⟨fun hR=>?_,fun t ht hlt hpo=>?_⟩
 ·have:=h.asked p hp _ hR
  rw [iM hnd hj] at this
  omega
 ·rw [iM hnd hj] at hlt
  rcases h.tri p hp t ht (by omega) hpo with h1 | h1
  ·exact h1
  ·have:=(pZ hr hp ht).1; omega
theorem RI.take {r:aB} {l:List aC} {a nx:List Int} {ks:List (List Int)} (h:RI r l a nx ks) {p:Int} {j:Nat} (hr:gY r) (hp:inP r p) (hj:j < (pf r p).length) (hn:Nx nx p=(j:Int)) (ha:Asg a p = -1) (hpo:kF r p (pf r p)[j])
  (hc:(((Ks ks (pf r p)[j]++[p]).length:Nat):Int)≤(sta r (pf r p)[j]).Places):RI r l (a.set p.toNat (pf r p)[j]) (nx.set p.toNat ((j + 1:Nat):Int)) (ks.set (pf r p)[j].toNat (Ks ks (pf r p)[j]++[p])):=by
 have hnd:=hr.pn _ (kQ hp)
 have hs:=pZ hr hp (List.getElem_mem hj)
 obtain ⟨hR,hB⟩:=h.ready hr hp hj hn ha
 have eN:∀ x,0≤x→Nx (nx.set p.toNat ((j + 1:Nat):Int)) x=if x=p then ((j + 1:Nat):Int) else Nx nx x:=fun x hx=>aG7 hp.1 (by rw [h.nl]; exact hp.2) hx
 have eA:∀ x,0≤x→Asg (a.set p.toNat (pf r p)[j]) x=if x=p then (pf r p)[j] else Asg a x:=fun x hx=>vU hp.1 (by rw [h.si.al]; exact hp.2) hx
 refine ⟨(h.si.take hp hs ha hpo hR hB hc).congr fun q hq=>?_,by rw [List.length_set]; exact h.nl,fun q hq=>?_,fun q hq t ht hlt hpt=>?_,fun q hq t hR=>?_,fun q hq hne=>?_⟩
 ·rw [eA q hq.1]
  by_cases e:q=p
  ·rw [if_pos e]; exact ⟨fun _=>by have:=hs.1; omega,fun _=>.inr e⟩
  ·rw [if_neg e]; exact ⟨fun k=>k.resolve_right e,.inl⟩
 ·rw [eN q hq.1]
  split
  ·rename_i e; subst e; omega
  ·exact h.n0 q hq
 ·rw [eN q hq.1] at hlt
  rw [eA q hq.1]
  by_cases e:q=p
  ·subst e
   rw [if_pos rfl] at hlt ⊢
   obtain ⟨i,hi,rfl⟩:=List.getElem_of_mem ht
   rw [iM hnd hi] at hlt
   by_cases e2:i=j
   ·subst e2; exact .inr rfl
   ·rcases h.tri q hq _ ht (by rw [iM hnd hi,hn]; omega) hpt with k | k
    ·exact .inl k
    ·have:=(pZ hr hp ht).1; omega
  ·rw [if_neg e] at hlt ⊢; exact h.tri q hq t ht hlt hpt
 ·rw [eN q hq.1]
  have:=h.asked q hq t hR
  split
  ·rename_i e; subst e; omega
  ·exact this
 ·rw [eA q hq.1] at hne ⊢
  rw [eN q hq.1]
  by_cases e:q=p
  ·subst e; rw [if_pos rfl,if_pos rfl,iM hnd hj]; omega
  ·rw [if_neg e] at hne ⊢; rw [if_neg e]; exact h.has q hq hne
theorem RI.over {r:aB} {l:List aC} {a nx:List Int} {ks:List (List Int)} (h:RI r l a nx ks) {p:Int} {j:Nat} (hr:gY r) (hp:inP r p) (hj:j < (pf r p).length) (hn:Nx nx p=(j:Int)) (ha:Asg a p = -1) (hpo:kF r p (pf r p)[j])
  (hc:(sta r (pf r p)[j]).Places < (((Ks ks (pf r p)[j]++[p]).length:Nat):Int)) {q:Int} (hq:q ∈ Ks ks (pf r p)[j]++[p]) (hm:∀ o ∈ Ks ks (pf r p)[j]++[p],rk r (pf r p)[j] o≤rk r (pf r p)[j] q) :
  inP r q∧RI r (l++[⟨q,(pf r p)[j]⟩]) ((a.set p.toNat (pf r p)[j]).set q.toNat (-1)) (nx.set p.toNat ((j + 1:Nat):Int)) (ks.set (pf r p)[j].toNat ((Ks ks (pf r p)[j]++[p]).erase q)):=by
 have hnd:=hr.pn _ (kQ hp)
 have hs:=pZ hr hp (List.getElem_mem hj)
 obtain ⟨hR,hB⟩:=h.ready hr hp hj hn ha
 obtain ⟨hqp,hSI,hq2⟩:=h.si.over hp hs ha hpo hR hB hc hq hm
 have eN:∀ x,0≤x→Nx (nx.set p.toNat ((j + 1:Nat):Int)) x=if x=p then ((j + 1:Nat):Int) else Nx nx x:=fun x hx=>aG7 hp.1 (by rw [h.nl]; exact hp.2) hx
 have eA:∀ x,0≤x→Asg ((a.set p.toNat (pf r p)[j]).set q.toNat (-1)) x=if x=q then -1 else if x=p then (pf r p)[j] else Asg a x:=fun x hx=>by
  rw [vU hqp.1 (by rw [List.length_set,h.si.al]; exact hqp.2) hx,vU hp.1 (by rw [h.si.al]; exact hp.2) hx]
 have hqs:q ≠ p→Asg a q=(pf r p)[j]:=fun hne=>by
  rcases List.mem_append.1 hq with k | k
  ·exact (h.si.mem _ q hs hqp).1 k
  ·exact absurd (List.mem_singleton.1 k) hne
 have href:∀ {x t:Int},Ref (l++[⟨q,(pf r p)[j]⟩]) x t ↔ Ref l x t ∨ (x=q∧t=(pf r p)[j]):=fun {x t}=>by
  unfold Ref
  rw [List.mem_append,List.mem_singleton]
  constructor
  ·rintro (k | k)
   ·exact .inl k
   ·injection k with k1 k2; exact .inr ⟨k1,k2⟩
  ·rintro (k | ⟨rfl,rfl⟩)
   ·exact .inl k
   ·exact .inr rfl
 have hge:∀ x,inP r x→Nx nx x≤Nx (nx.set p.toNat ((j + 1:Nat):Int)) x:=fun x hx=>by
  rw [eN x hx.1]
  split
  ·rename_i e; subst e; omega
  ·exact Int.le_refl _
 refine ⟨hqp,hSI.congr fun x hx=>?_,by rw [List.length_set]; exact h.nl,fun x hx=>?_,fun x hx t ht hlt hpt=>?_,fun x hx t hR=>?_,fun x hx hne=>?_⟩
 ·rw [eA x hx.1]
  by_cases e:x=q
  ·rw [if_pos e]; exact ⟨fun k=>absurd e k.2,fun k=>absurd rfl k⟩
  ·rw [if_neg e]
   by_cases e2:x=p
   ·rw [if_pos e2]; exact ⟨fun _=>by have:=hs.1; omega,fun _=>⟨.inr e2,e⟩⟩
   ·rw [if_neg e2]; exact ⟨fun k=>k.1.resolve_right e2,fun k=>⟨.inl k,e⟩⟩
 ·rw [eN x hx.1]
  split
  ·rename_i e; subst e; omega
  ·exact h.n0 x hx
 ·rw [href,eA x hx.1]
  have old:oE (pf r x) t < Nx nx x→(Ref l x t ∨ (x=q∧t=(pf r p)[j])) ∨ (if x=q then -1 else if x=p then (pf r p)[j] else Asg a x)=t:=fun hl=>by
   rcases h.tri x hx t ht hl hpt with k | k
   ·exact .inl (.inl k)
   ·by_cases e:x=q
    ·by_cases e2:q=p
     ·rw [e,e2,ha] at k
      have:=(pZ hr hx ht).1
      omega
     ·rw [e,hqs e2] at k
      exact .inl (.inr ⟨e,k.symm⟩)
    ·by_cases e2:x=p
     ·rw [e2,ha] at k
      have:=(pZ hr hx ht).1
      omega
     ·right; rw [if_neg e,if_neg e2]; exact k
  rw [eN x hx.1] at hlt
  by_cases e:x=p
  ·rw [if_pos e] at hlt
   subst e
   obtain ⟨i,hi,rfl⟩:=List.getElem_of_mem ht
   rw [iM hnd hi] at hlt
   by_cases e2:i=j
   ·subst e2
    by_cases e3:x=q
    ·exact .inl (.inr ⟨e3,rfl⟩)
    ·right; rw [if_neg e3,if_pos rfl]
   ·exact old (by rw [iM hnd hi,hn]; omega)
  ·rw [if_neg e] at hlt; exact old hlt
 ·rcases href.1 hR with k | ⟨rfl,rfl⟩
  ·have:=h.asked x hx t k
   have:=hge x hx
   omega
  ·by_cases e:x=p
   ·subst e
    rw [eN x hx.1,if_pos rfl,iM hnd hj]
    omega
   ·have k1:=hqs e
    have k2:=h.has x hx (by rw [k1]; have:=hs.1; omega)
    rw [k1] at k2
    have:=hge x hx
    omega
 ·rw [eA x hx.1] at hne ⊢
  by_cases e:x=q
  ·rw [if_pos e] at hne; exact absurd rfl hne
  ·rw [if_neg e] at hne ⊢
   by_cases e2:x=p
   ·subst e2; rw [if_pos rfl,eN x hx.1,if_pos rfl,iM hnd hj]; omega
   ·rw [if_neg e2] at hne ⊢
    have:=h.has x hx hne
    have:=hge x hx
    omega
theorem RI.settled {r:aB} {l:List aC} {a nx:List Int} {ks:List (List Int)} (h:RI r l a nx ks) (hr:gY r) (hi:∀ p,inP r p→Asg a p ≠ -1 ∨ Nx nx p=((pf r p).length:Int)):sQ r a l:=by
 refine ⟨ks,h.si.al,h.si.kl,h.si.mem,h.si.kr,h.si.kn,h.si.cap,h.si.asr,h.si.good,fun p hp _ ha t ht hpo=>?_,fun p hp hn=>absurd trivial hn,h.si.refp,h.si.refn,h.si.just⟩
 rcases hi p hp with k | k
 ·exact absurd ha k
 ·obtain ⟨i,hi',rfl⟩:=List.getElem_of_mem ht
  rcases h.tri p hp _ ht (by rw [iM (hr.pn _ (kQ hp)) hi',k]; omega) hpo with k2 | k2
  ·exact k2
  ·have:=(pZ hr hp ht).1; omega
theorem aFz:∀ (l:List Int) (i:Nat),i < l.length→(l.set i (l.getD i 0 + 1)).sum=l.sum + 1
 | [],i,h=>by simp at h
 | x::l,0,_=>by simp; omega
 | x::l,i + 1,h=>by
  have:=aFz l i (by simpa using h)
  simp only [List.set_cons_succ,List.sum_cons,List.getD_cons_succ]
  omega
theorem aLj {B:Int}:∀ {l:List Int},(∀ x ∈ l,x≤B)→l.sum≤B * (l.length:Int)
 | [],_=>by simp
 | x::l,h=>by
  have h1:=h x List.mem_cons_self
  have h2:=aLj (l:=l) fun y hy=>h y (List.mem_cons_of_mem _ hy)
  rw [List.sum_cons,List.length_cons]
  push_cast
  rw [Int.mul_add]
  omega
theorem RI.sum {r:aB} (hr:gY r) {l:List aC} {a nx:List Int} {ks:List (List Int)} (h:RI r l a nx ks):nx.sum≤144:=by
 have h1:=aLj (B:=12) (l:=nx) fun x hx=>by
  obtain ⟨i,hi,rfl⟩:=List.getElem_of_mem hx
  have hiP:inP r (i:Int):=⟨by omega,by have:=h.nl; omega⟩
  have h2:=(h.n0 (i:Int) hiP).2
  unfold Nx at h2
  rw [Int.toNat_natCast,← dP hi] at h2
  have:=hr.pf_len (kQ hiP)
  omega
 have:=h.nl
 have:=hr.p2
 omega
end Go.Nilo
