/-
  What the plain functions compute, in plain arithmetic, part 7. Conditions: what each theorem names.
-/
import Derived.Test.YtakhbnnlhoninacGreatCmL6
set_option linter.unusedSimpArgs false
set_option linter.unusedVariables false
namespace Go.Nilo
def ppl (r:aB):List Int:=(List.range r.People.length).map fun i:Nat=>(i:Int)
theorem aJe {r:aB} {p:Int}:p ∈ ppl r ↔ inP r p:=by
 unfold ppl
 rw [List.mem_map]
 constructor
 ·rintro ⟨i,h1,rfl⟩
  have:=List.mem_range.1 h1
  exact ⟨by omega,by omega⟩
 ·intro h
  have h0:=h.1
  have h1:=h.2
  exact ⟨p.toNat,List.mem_range.2 (by omega),by omega⟩
theorem aF2 (r:aB):(ppl r).Nodup:=by
 unfold ppl
 rw [List.nodup_iff_pairwise_ne,List.pairwise_map]
 exact (List.nodup_iff_pairwise_ne.1 List.nodup_range).imp fun h=>by omega
def xQ (r:aB) (b:List Int) (s:Int):List Int:=(ppl r).filter fun p=>Asg b p == s
theorem xB {r:aB} {b:List Int} {s p:Int}:p ∈ xQ r b s ↔ inP r p∧Asg b p=s:=by
 unfold xQ
 rw [List.mem_filter,aJe,beq_iff_eq]
theorem aEj (r:aB) (b:List Int) (s:Int):(xQ r b s).Nodup:=(aF2 r).filter _
structure AOk (r:aB) (b:List Int):Prop where
 len:b.length=r.People.length
 rng:∀ p,inP r p→Asg b p = -1 ∨ inS r (Asg b p)
def Feas (r:aB) (b:List Int):Prop:=∀ p,inP r p→Asg b p ≠ -1→jR r p (Asg b p)∧((xQ r b (Asg b p)).length:Int)≤(sta r (Asg b p)).Places
def bfr (r:aB) (b:List Int) (p s:Int):Prop:=s ∈ pf r p∧(Asg b p ∉ pf r p ∨ mO (pf r p) s < mO (pf r p) (Asg b p))
def Wants (r:aB) (b:List Int) (p s:Int):Prop:=((xQ r b s).length:Int) < (sta r s).Places ∨ ∃ q ∈ xQ r b s,rk r s p < rk r s q
def NoBlk (r:aB) (b:List Int):Prop:=∀ p s,inP r p→bfr r b p s→jR r p s→¬ Wants r b p s
structure aD3 (r:aB) (b:List Int):Prop where
 a:AOk r b
 f:Feas r b
 n:NoBlk r b
theorem yE {r:aB} (h:fW r) {p s:Int} (hp:inP r p) (hs:s ∈ pf r p):inS r s:=h.pr _ (rN hp) s hs
theorem aBu {r:aB} {l:List aE} {s:Int}:∀ (n:Nat) (p:Int),Ref l p s→(rk r s p + 1).toNat≤n→∃ p',Ref l p' s∧rk r s p'≤rk r s p∧∀ q,Ref l q s→0≤rk r s q→rk r s p'≤rk r s q
 | 0,p,h,hn=>⟨p,h,Int.le_refl _,fun q _ h0=>by omega⟩
 | n + 1,p,h,hn=>by
  by_cases hc:∃ q,Ref l q s∧0≤rk r s q∧rk r s q < rk r s p
  ·obtain ⟨q,h1,h2,h3⟩:=hc
   obtain ⟨p',k1,k2,k3⟩:=aBu (r:=r) n q h1 (by omega)
   exact ⟨p',k1,by omega,k3⟩
  ·refine ⟨p,h,Int.le_refl _,fun q hq h0=>?_⟩
   rcases Int.lt_or_le (rk r s q) (rk r s p) with h4 | h4
   ·exact absurd ⟨q,hq,h0,h4⟩ hc
   ·exact h4
theorem aF0 {r:aB} {p s:Int} (h:jR r p s):0≤rk r s p:=by
 obtain ⟨i,h1,-⟩:=sW h.1
 unfold rk
 omega
theorem SI.members {r:aB} {d:Int→Prop} {l:List aE} {asg:List Int} {ks:List (List Int)} (h:SI r d l asg ks) {s:Int} (hs:inS r s):((xQ r asg s).length:Int)≤(sta r s).Places:=by
 have h1:=sA (aEj r asg s) (l':=Ks ks s) fun x hx=>by
  obtain ⟨h1,h2⟩:=xB.1 hx
  exact (h.mem s x hs h1).2 h2
 have:=h.cap s hs
 omega
theorem SI.full {r:aB} (hr:fW r) {l:List aE} {asg:List Int} {ks:List (List Int)} (h:SI r (fun _=>True) l asg ks) {p s:Int} (hR:Ref l p s):(sta r s).Places≤((xQ r asg s).length:Int)∧∀ q ∈ xQ r asg s,rk r s q < rk r s p:=by
 obtain ⟨p0,h1,h2,h3⟩:=aBu (r:=r) _ p hR (Nat.le_refl _)
 obtain ⟨k,hk,he⟩:=List.getElem_of_mem h1
 obtain ⟨qs,q1,q2,q3⟩:=h.just k hk
 rw [he] at q2 q3
 dsimp only at q2 q3
 obtain ⟨-,hs,-⟩:=h.refp _ h1
 dsimp only at hs
 have hsub:∀ q ∈ qs,q ∈ xQ r asg s:=fun q hq=>by
  obtain ⟨g1,g2,g3,g4⟩:=q3 q hq
  refine xB.2 ⟨g1,?_⟩
  have hnr:¬ Ref l q s:=fun e=>by
   have:=h3 q e (aF0 g2)
   omega
  by_cases ha:Asg asg q = -1
  ·exact absurd (h.free q g1 trivial ha s g2.2 g2) hnr
  ·obtain ⟨a1,a2,a3⟩:=h.good q g1 ha
   rcases Int.lt_trichotomy (mO (pf r q) s) (mO (pf r q) (Asg asg q)) with h5 | h5 | h5
   ·exact absurd (a3 s g2.2 h5 g2) hnr
   ·exact (zM g2.2 h5).symm
   ·exact absurd (List.mem_of_mem_take (g4 _ a1.2 h5 a1)) a2
 have hle:=sA q1 hsub
 have hcap:=h.members hs
 refine ⟨by omega,fun q hq=>?_⟩
 have hin:q ∈ qs:=Decidable.byContradiction fun hc=>by
  have:=sA (l:=q::qs) (List.nodup_cons.2 ⟨hc,q1⟩) (l':=xQ r asg s) fun x hx=>by
   rcases List.mem_cons.1 hx with rfl | hx
   ·exact hq
   ·exact hsub x hx
  rw [List.length_cons] at this
  omega
 have:=(q3 q hin).2.2.1
 omega
theorem lF {r:aB} (hr:fW r) {asg:List Int} {l:List aE} (h:aCn r asg l):aD3 r asg:=by
 obtain ⟨ks,h⟩:=h
 refine ⟨⟨h.al,h.asr⟩,fun p hp hne=>?_,fun p s hp hb hpo hw=>?_⟩
 ·obtain ⟨g1,g2,g3⟩:=h.good p hp hne
  exact ⟨g1,h.members (yE hr hp g1.2)⟩
 ·have hR:Ref l p s:=by
   by_cases ha:Asg asg p = -1
   ·exact h.free p hp trivial ha s hb.1 hpo
   ·obtain ⟨g1,g2,g3⟩:=h.good p hp ha
    exact g3 s hb.1 (hb.2.resolve_left fun e=>e g1.2) hpo
  obtain ⟨f1,f2⟩:=h.full hr hR
  rcases hw with hw | ⟨q,hq,hlt⟩
  ·omega
  ·have:=f2 q hq; omega
end Go.Nilo
