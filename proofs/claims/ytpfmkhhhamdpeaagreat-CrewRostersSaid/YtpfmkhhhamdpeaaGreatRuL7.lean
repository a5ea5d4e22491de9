/-
  What the plain functions compute, in plain arithmetic, part 7. Conditions: what each theorem names.
-/
import Derived.Test.YtpfmkhhhamdpeaaGreatRuL6
set_option linter.unusedSimpArgs false
set_option linter.unusedVariables false
namespace Go.Nilo
def ppl (r:aB):List Int:=(List.range r.People.length).map fun i:Nat=>(i:Int)
theorem aIc {r:aB} {p:Int}:p ∈ ppl r ↔ inP r p:=by
 unfold ppl
 rw [List.mem_map]
 constructor
 ·rintro ⟨i,h1,rfl⟩
  have:=List.mem_range.1 h1
  exact ⟨by omega,by omega⟩
 ·intro h
  have h0:=h.1
  have h1:=h.2
  exact ⟨p.toNat,List.mem_range.2 (by omega),by omega⟩
theorem aIx (r:aB):(ppl r).Nodup:=by
 unfold ppl
 rw [List.nodup_iff_pairwise_ne,List.pairwise_map]
 exact (List.nodup_iff_pairwise_ne.1 List.nodup_range).imp fun h=>by omega
def lN (r:aB) (b:List Int) (s:Int):List Int:=(ppl r).filter fun p=>Asg b p == s
theorem pT {r:aB} {b:List Int} {s p:Int}:p ∈ lN r b s ↔ inP r p∧Asg b p=s:=by
 unfold lN
 rw [List.mem_filter,aIc,beq_iff_eq]
theorem aDh (r:aB) (b:List Int) (s:Int):(lN r b s).Nodup:=(aIx r).filter _
structure AOk (r:aB) (b:List Int):Prop where
 len:b.length=r.People.length
 rng:∀ p,inP r p→Asg b p = -1 ∨ inS r (Asg b p)
def Feas (r:aB) (b:List Int):Prop:=∀ p,inP r p→Asg b p ≠ -1→kF r p (Asg b p)∧((lN r b (Asg b p)).length:Int)≤(sta r (Asg b p)).Places
def bfr (r:aB) (b:List Int) (p s:Int):Prop:=s ∈ pf r p∧(Asg b p ∉ pf r p ∨ oE (pf r p) s < oE (pf r p) (Asg b p))
def Wants (r:aB) (b:List Int) (p s:Int):Prop:=((lN r b s).length:Int) < (sta r s).Places ∨ ∃ q ∈ lN r b s,rk r s p < rk r s q
def NoBlk (r:aB) (b:List Int):Prop:=∀ p s,inP r p→bfr r b p s→kF r p s→¬ Wants r b p s
structure aG6 (r:aB) (b:List Int):Prop where
 a:AOk r b
 f:Feas r b
 n:NoBlk r b
theorem pZ {r:aB} (h:gY r) {p s:Int} (hp:inP r p) (hs:s ∈ pf r p):inS r s:=h.pr _ (kQ hp) s hs
theorem aD6 {r:aB} {l:List aC} {s:Int}:∀ (n:Nat) (p:Int),Ref l p s→(rk r s p + 1).toNat≤n→∃ p',Ref l p' s∧rk r s p'≤rk r s p∧∀ q,Ref l q s→0≤rk r s q→rk r s p'≤rk r s q
 | 0,p,h,hn=>⟨p,h,Int.le_refl _,fun q _ h0=>by omega⟩
 | n + 1,p,h,hn=>by
  by_cases hc:∃ q,Ref l q s∧0≤rk r s q∧rk r s q < rk r s p
  ·obtain ⟨q,h1,h2,h3⟩:=hc
   obtain ⟨p',k1,k2,k3⟩:=aD6 (r:=r) n q h1 (by omega)
   exact ⟨p',k1,by omega,k3⟩
  ·refine ⟨p,h,Int.le_refl _,fun q hq h0=>?_⟩
   rcases Int.lt_or_le (rk r s q) (rk r s p) with h4 | h4
   ·exact absurd ⟨q,hq,h0,h4⟩ hc
   ·exact h4
theorem aI2 {r:aB} {p s:Int} (h:kF r p s):0≤rk r s p:=by
 obtain ⟨i,h1,-⟩:=xX h.1
 unfold rk
 omega
theorem SI.members {r:aB} {d:Int→Prop} {l:List aC} {asg:List Int} {ks:List (List Int)} (h:SI r d l asg ks) {s:Int} (hs:inS r s):((lN r asg s).length:Int)≤(sta r s).Places:=by
 have h1:=pP (aDh r asg s) (l':=Ks ks s) fun x hx=>by
  obtain ⟨h1,h2⟩:=pT.1 hx
  exact (h.mem s x hs h1).2 h2
 have:=h.cap s hs
 omega
theorem SI.full {r:aB} (hr:gY r) {l:List aC} {asg:List Int} {ks:List (List Int)} (h:SI r (fun _=>True) l asg ks) {p s:Int} (hR:Ref l p s):(sta r s).Places≤((lN r asg s).length:Int)∧∀ q ∈ lN r asg s,rk r s q < rk r s p:=by
 obtain ⟨p0,h1,h2,h3⟩:=aD6 (r:=r) _ p hR (Nat.le_refl _)
 obtain ⟨k,hk,he⟩:=List.getElem_of_mem h1
 obtain ⟨qs,q1,q2,q3⟩:=h.just k hk
 rw [he] at q2 q3
 dsimp only at q2 q3
 obtain ⟨-,hs,-⟩:=h.refp _ h1
 dsimp only at hs
 have hsub:∀ q ∈ qs,q ∈ lN r asg s:=fun q hq=>by
  obtain ⟨g1,g2,g3,g4⟩:=q3 q hq
  refine pT.2 ⟨g1,?_⟩
  have hnr:¬ Ref l q s:=fun e=>by
   have:=h3 q e (aI2 g2)
   omega
  by_cases ha:Asg asg q = -1
  ·exact absurd (h.free q g1 trivial ha s g2.2 g2) hnr
  ·obtain ⟨a1,a2,a3⟩:=h.good q g1 ha
   rcases Int.lt_trichotomy (oE (pf r q) s) (oE (pf r q) (Asg asg q)) with h5 | h5 | h5
   ·exact absurd (a3 s g2.2 h5 g2) hnr
   ·exact (aCa g2.2 h5).symm
   ·exact absurd (List.mem_of_mem_take (g4 _ a1.2 h5 a1)) a2
 have hle:=pP q1 hsub
 have hcap:=h.members hs
 refine ⟨by omega,fun q hq=>?_⟩
 have hin:q ∈ qs:=Decidable.byContradiction fun hc=>by
  have:=pP (l:=q::qs) (List.nodup_cons.2 ⟨hc,q1⟩) (l':=lN r asg s) fun x hx=>by
   rcases List.mem_cons.1 hx with rfl | hx
   ·exact hq
   ·exact hsub x hx
  rw [List.length_cons] at this
  omega
 have:=(q3 q hin).2.2.1
 omega
theorem wW {r:aB} (hr:gY r) {asg:List Int} {l:List aC} (h:sQ r asg l):aG6 r asg:=by
 obtain ⟨ks,h⟩:=h
 refine ⟨⟨h.al,h.asr⟩,fun p hp hne=>?_,fun p s hp hb hpo hw=>?_⟩
 ·obtain ⟨g1,g2,g3⟩:=h.good p hp hne
  exact ⟨g1,h.members (pZ hr hp g1.2)⟩
 ·have hR:Ref l p s:=by
   by_cases ha:Asg asg p = -1
   ·exact h.free p hp trivial ha s hb.1 hpo
   ·obtain ⟨g1,g2,g3⟩:=h.good p hp ha
    exact g3 s hb.1 (hb.2.resolve_left fun e=>e g1.2) hpo
  obtain ⟨f1,f2⟩:=h.full hr hR
  rcases hw with hw | ⟨q,hq,hlt⟩
  ·omega
  ·have:=f2 q hq; omega
theorem yH {r:aB} (hr:gY r) {l:List aC} (hj:∀ k (h:k < l.length),Just r (l.take k) l[k]) (hp:∀ x ∈ l,inP r x.Person∧inS r x.Station∧kF r x.Person x.Station) {b:List Int} (hb:aG6 r b):∀ (n k:Nat),k < n→∀ h:k < l.length,Asg b l[k].Person ≠ l[k].Station
 | n + 1,k,hkn,hk=>by
  intro he
  obtain ⟨qs,q1,q2,q3⟩:=hj k hk
  obtain ⟨p1,p2,p3⟩:=hp _ (List.getElem_mem hk)
  have hmem:l[k].Person ∈ lN r b l[k].Station:=pT.2 ⟨p1,he⟩
  have hne:Asg b l[k].Person ≠ -1:=by rw [he]; have:=p2.1; omega
  have hcap:=(hb.f _ p1 hne).2
  rw [he] at hcap
  have hpq:l[k].Person ∉ qs:=fun e=>by have:=(q3 _ e).2.2.1; omega
  have hex:∃ q ∈ qs,Asg b q ≠ l[k].Station:=by
   refine Decidable.byContradiction fun hc=>?_
   have:=pP (l:=l[k].Person::qs) (List.nodup_cons.2 ⟨hpq,q1⟩) (l':=lN r b l[k].Station) fun x hx=>by
    rcases List.mem_cons.1 hx with rfl | hx
    ·exact hmem
    ·refine pT.2 ⟨(q3 x hx).1,Decidable.byContradiction fun hn=>hc ⟨x,hx,hn⟩⟩
   rw [List.length_cons] at this
   omega
  obtain ⟨q,hq,hqn⟩:=hex
  obtain ⟨g1,g2,g3,g4⟩:=q3 q hq
  have hbf:bfr r b q l[k].Station:=by
   refine ⟨g2.2,?_⟩
   by_cases hin:Asg b q ∈ pf r q
   ·right
    rcases Int.lt_trichotomy (oE (pf r q) l[k].Station) (oE (pf r q) (Asg b q)) with h5 | h5 | h5
    ·exact h5
    ·exact absurd (aCa g2.2 h5).symm hqn
    ·exfalso
     have hran:=pZ hr g1 hin
     have hqb:=(hb.f q g1 (by have:=hran.1; omega)).1
     have hR:=g4 _ hin h5 hqb
     obtain ⟨j,hj',hje⟩:=List.getElem_of_mem hR
     rw [List.length_take] at hj'
     rw [List.getElem_take] at hje
     have:=yH hr hj hp hb n j (by omega) (by omega)
     rw [hje] at this
     exact this rfl
   ·left; exact hin
  exact hb.n q _ g1 hbf g2 (Or.inr ⟨_,hmem,g3⟩)
end Go.Nilo
