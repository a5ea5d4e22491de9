/-
  What the plain functions compute, in plain arithmetic, part 8. Conditions: what each theorem names.
-/
import Derived.Test.YtakhbnnlhoninacGreatCmL7
set_option linter.unusedSimpArgs false
set_option linter.unusedVariables false
namespace Go.Nilo
structure aBq (r r':aB):Prop where
 hP:∀ p s,inP r p→jR r p s→inP r' p
 hS:∀ p s,inS r s→jR r p s→inS r' s
 hpf:∀ p,inP r p→inP r' p→pf r' p=pf r p
 hpl:∀ p s,inS r s→jR r p s→(sta r' s).Places≤(sta r s).Places
 hrk:∀ s p q,inS r s→jR r p s→jR r q s→rk r s q < rk r s p→rk r' s q < rk r' s p
 hpo:∀ s p,inS r s→inP r p→jR r p s→jR r' p s
 hpo':∀ s p,inP r p→inP r' p→jR r' p s→jR r p s
theorem aHo {r r':aB} (hr:fW r) (hw:aBq r r') {l:List aE} (hj:∀ k (h:k < l.length),Just r (l.take k) l[k]) (hp:∀ x ∈ l,inP r x.Person∧inS r x.Station∧jR r x.Person x.Station) {b:List Int} (hb:aD3 r' b):∀ (n k:Nat),k < n→∀ h:k < l.length,Asg b l[k].Person ≠ l[k].Station
 | n + 1,k,hkn,hk=>by
  intro he
  obtain ⟨qs,q1,q2,q3⟩:=hj k hk
  obtain ⟨p1,p2,p3⟩:=hp _ (List.getElem_mem hk)
  have p1':=hw.hP _ _ p1 p3
  have hmem:l[k].Person ∈ xQ r' b l[k].Station:=xB.2 ⟨p1',he⟩
  have hne:Asg b l[k].Person ≠ -1:=by rw [he]; have:=p2.1; omega
  have hcap:=(hb.f _ p1' hne).2
  rw [he] at hcap
  have hpl:=hw.hpl _ _ p2 p3
  have hpq:l[k].Person ∉ qs:=fun e=>by have:=(q3 _ e).2.2.1; omega
  have hex:∃ q ∈ qs,Asg b q ≠ l[k].Station:=by
   refine Decidable.byContradiction fun hc=>?_
   have:=sA (l:=l[k].Person::qs) (List.nodup_cons.2 ⟨hpq,q1⟩) (l':=xQ r' b l[k].Station) fun x hx=>by
    rcases List.mem_cons.1 hx with rfl | hx
    ·exact hmem
    ·exact xB.2 ⟨hw.hP _ _ (q3 x hx).1 (q3 x hx).2.1,Decidable.byContradiction fun hn=>hc ⟨x,hx,hn⟩⟩
   rw [List.length_cons] at this
   omega
  obtain ⟨q,hq,hqn⟩:=hex
  obtain ⟨g1,g2,g3,g4⟩:=q3 q hq
  have g1':=hw.hP _ _ g1 g2
  have epf:=hw.hpf q g1 g1'
  have hbf:bfr r' b q l[k].Station:=by
   unfold bfr
   rw [epf]
   refine ⟨g2.2,?_⟩
   by_cases hin:Asg b q ∈ pf r q
   ·right
    rcases Int.lt_trichotomy (mO (pf r q) l[k].Station) (mO (pf r q) (Asg b q)) with h5 | h5 | h5
    ·exact h5
    ·exact absurd (zM g2.2 h5).symm hqn
    ·exfalso
     have hran:=yE hr g1 hin
     have hqb:=hw.hpo' _ _ g1 g1' (hb.f q g1' (by have:=hran.1; omega)).1
     have hR:=g4 _ hin h5 hqb
     obtain ⟨j,hj',hje⟩:=List.getElem_of_mem hR
     rw [List.length_take] at hj'
     rw [List.getElem_take] at hje
     have:=aHo hr hw hj hp hb n j (by omega) (by omega)
     rw [hje] at this
     exact this rfl
   ·left; exact hin
  exact hb.n q _ g1' hbf (hw.hpo _ _ p2 g1 g2) (Or.inr ⟨_,hmem,hw.hrk _ _ _ p2 p3 g2 g3⟩)
theorem aDy {r r':aB} (hr:fW r) (hw:aBq r r') {l:List aE} {asg:List Int} {ks:List (List Int)} (h:SI r (fun _=>True) l asg ks) {b:List Int} (hb:aD3 r' b) {p:Int} (hp:inP r p) (hp':inP r' p) (hne:Asg b p ≠ -1):Asg asg p ≠ -1∧mO (pf r p) (Asg asg p)≤mO (pf r p) (Asg b p)∧jR r p (Asg b p):=by
 have hpo:=hw.hpo' _ _ hp hp' (hb.f p hp' hne).1
 have hno:¬ Ref l p (Asg b p):=fun hR=>by
  obtain ⟨k,hk,he⟩:=List.getElem_of_mem hR
  have:=aHo hr hw h.just h.refp hb (k + 1) k (by omega) hk
  rw [he] at this
  exact this rfl
 by_cases ha:Asg asg p = -1
 ·exact absurd (h.free p hp trivial ha _ hpo.2 hpo) hno
 ·refine ⟨ha,?_,hpo⟩
  rcases Int.lt_or_le (mO (pf r p) (Asg b p)) (mO (pf r p) (Asg asg p)) with h1 | h1
  ·exact absurd ((h.good p hp ha).2.2 _ hpo.2 h1 hpo) hno
  ·exact h1
end Go.Nilo
