/-
  What the plain functions compute, in plain arithmetic, part 11. Conditions: what each theorem names.
-/
import Derived.Test.YtpfmkhhhamdpeaaGreatRuL10
set_option linter.unusedSimpArgs false
set_option linter.unusedVariables false
namespace Go.Nilo
theorem aNg {σ ρ:Type} (st:Nat→σ) (g:Nat→Option σ) (n:Nat) (b:σ→Option (bK σ ρ))
  (hb:∀ (i:Nat),i < n→b (st i)=some (match g i with | some r=>.brk r | none=>.cont (st (i + 1)))) (hend:b (st n)=some (.brk (st n))) :
  ∀ (m i N:Nat),i + m=n→m < N→aS b N (st i)=some (.go (match eX g i m with | some r=>r | none=>st n))
 | m,i,0,_,h=>by omega
 | 0,i,N + 1,hi,_=>by
  obtain rfl:i=n:=by omega
  unfold aS
  rw [hend]
  rfl
 | m + 1,i,N + 1,hi,hN=>by
  unfold aS eX
  rw [hb i (by omega)]
  cases hf:g i with
  | some r=>rfl
  | none=>exact aNg st g n b hb hend m (i + 1) N (by omega) (by omega)
theorem yT {α β:Type} {g:Nat→Option α} {f:α→β}:∀ m i,eX (fun j=>(g j).map f) i m=(eX g i m).map f
 | 0,_=>rfl
 | m + 1,i=>by
  unfold eX
  cases g i with
  | some x=>rfl
  | none=>exact yT m (i + 1)
theorem aEn {ρ:Type} {P:Nat→Bool} {v:ρ}:∀ m i,(eX (fun j=>cond (P j) (some v) none) i m=some v∧∃ j,i≤j∧j < i + m∧P j=true) ∨ (eX (fun j=>cond (P j) (some v) none) i m=none∧∀ j,i≤j→j < i + m→P j=false)
 | 0,i=>.inr ⟨rfl,fun j h1 h2=>by omega⟩
 | m + 1,i=>by
  unfold eX
  cases hp:P i with
  | true=>exact .inl ⟨rfl,i,Nat.le_refl _,by omega,hp⟩
  | false=>
   rcases aEn (P:=P) (v:=v) m (i + 1) with ⟨h1,j,h2,h3,h4⟩ | ⟨h1,h2⟩
   ·exact .inl ⟨h1,j,by omega,by omega,h4⟩
   ·refine .inr ⟨h1,fun j h3 h4=>?_⟩
    by_cases h:j=i
    ·rw [h]; exact hp
    ·exact h2 j (by omega) (by omega)
theorem aJ5 {σ ρ:Type} (st:Nat→σ) (l:List Int) (stop hit:Int→Bool) (v:Int→ρ) (b:σ→Option (bK σ ρ))
  (hb:∀ i (hi:i < l.length),b (st i)=some (cond (stop l[i]) (.brk (st i)) (cond (hit l[i]) (.ret (v l[i])) (.cont (st (i + 1)))))) (hend:b (st l.length)=some (.brk (st l.length))) :
  ∀ (m i N:Nat),i + m=l.length→m < N→∃ k,aS b N (st i)=some (match ((l.drop i).takeWhile fun x=>!stop x).find? hit with | some x=>.out (v x) | none=>.go (st k))
 | m,i,0,_,h=>by omega
 | 0,i,N + 1,hi,_=>by
  obtain rfl:i=l.length:=by omega
  refine ⟨l.length,?_⟩
  unfold aS
  rw [hend,List.drop_length]
  rfl
 | m + 1,i,N + 1,hi,hN=>by
  have hil:i < l.length:=by omega
  unfold aS
  rw [hb i hil,List.drop_eq_getElem_cons hil,List.takeWhile_cons]
  cases hs:stop l[i] with
  | true=>exact ⟨i,rfl⟩
  | false=>
   cases hh:hit l[i] with
   | true=>
    refine ⟨0,?_⟩
    rw [show (!false)=true from rfl,if_pos rfl,List.find?_cons,hh]
    rfl
   | false=>
    obtain ⟨k,hk⟩:=aJ5 st l stop hit v b hb hend m (i + 1) N (by omega) (by omega)
    refine ⟨k,?_⟩
    rw [show (!false)=true from rfl,if_pos rfl,List.find?_cons,hh]
    exact hk
theorem rst {r:aB} {s:Int} (hs:inS r s):aU (rR r).Stations s=some (rS (sta r s)):=by
 obtain ⟨n,rfl⟩:=Int.eq_ofNat_of_zero_le hs.1
 have hn:n < r.Stations.length:=by have:=hs.2; omega
 rw [bS (l:=(rR r).Stations) (i:=n) (by show n < (r.Stations.map rS).length; rw [List.length_map]; exact hn),show (rR r).Stations[n]'(by show n < (r.Stations.map rS).length; rw [List.length_map]; exact hn)=rS r.Stations[n] from List.getElem_map ..]
 unfold sta
 rw [Int.toNat_natCast,← dP hn]
theorem rpp {r:aB} {p:Int} (hp:inP r p):aU (rR r).People p=some (pf r p):=hQ [] hp.1 hp.2
theorem aMu {l:List Int} {v:Int}:(oE l v != -1)=decide (v ∈ l):=by
 by_cases h:v ∈ l
 ·rw [decide_eq_true h,bne_iff_ne]; exact aCi.2 h
 ·rw [decide_eq_false h,aDi h]; rfl
theorem aEf {N:Nat} (hN:40≤N) {r:aB} (hr:gY r) {s p:Int} (hs:inS r s) (hp:inP r p):eF N (rR r) p s=some (decide (kF r p s)):=by
 have h1:=hr.pf_len (kQ hp)
 have h2:=hr.or_len (aCb hs)
 unfold eF
 rw [rpp hp,Option.bind_some,aDk (by omega) (by omega),Option.bind_some,rst hs,Option.bind_some,aDk (l:=(rS (sta r s)).Order) (by show (sta r s).Order.length≤_; omega) (by show (sta r s).Order.length < _; omega),Option.bind_some,aMu,aMu]
 by_cases h3:s ∈ pf r p
 ·rw [decide_eq_true h3,cond_true,Option.bind_some]
  congr 1
  exact decide_eq_decide.2 ⟨fun h=>⟨h,h3⟩,fun h=>h.1⟩
 ·rw [decide_eq_false h3,cond_false,Option.bind_some]
  congr 1
  symm
  exact decide_eq_false fun h=>h3 h.2
theorem aGr {N:Nat} (hN:40≤N) {r:aB} (hr:gY r) {b:List Int} (hb:b.length=r.People.length) {s:Int}:oB N b s=some ((lN r b s).length:Int):=by
 have hp:=hr.p2
 have hpl:(ppl r).length=r.People.length:=by simp [ppl]
 have hrun:=vS (ρ:=Int) (fun i:Nat=>(((((ppl r).take i).filter fun p=>Asg b p == s).length:Int),(i:Int))) b.length (fun s5=>iZ N b s s5.1 s5.2) (fun i hi=>by
  show iZ N b s ((((ppl r).take i).filter fun p=>Asg b p == s).length:Int) (i:Int)=_
  unfold iZ oH
  have hle:=List.length_filter_le (fun p=>Asg b p == s) ((ppl r).take i)
  rw [List.length_take] at hle
  have he:aU b (i:Int)=some (Asg b (i:Int)):=hQ (-1) (by omega) (by omega)
  rw [cM hi,cond_true,he,Option.bind_some,aC0 (by omega),cI (by omega),cI (by omega)]
  by_cases h:Asg b (i:Int)=s
  ·rw [beq_iff_eq.2 h,if_pos h,List.length_append]; rfl
  ·rw [beq_eq_false_iff_ne.2 h,if_neg h,List.append_nil]; rfl) (by
  show iZ N b s _ (b.length:Int)=_
  unfold iZ
  rw [cJ,cond_false]) (N:=N) (by omega)
 unfold oB
 show Option.bind (aS (fun s5=>iZ N b s s5.1 s5.2) N (((((ppl r).take 0).filter fun p=>Asg b p == s).length:Int),((0:Nat):Int))) _=_
 rw [hrun,Option.bind_some]
 show some ((((ppl r).take b.length).filter fun p=>Asg b p == s).length:Int)=_
 rw [List.take_of_length_le (by omega)]
 rfl
theorem aI7 {N:Nat} {r:aB} (hr:gY r) (hN:40≤N) {s q:Int} (hs:inS r s):dB N (rS (sta r s)).Order q=some (rk r s q):=by
 have h2:=hr.or_len (aCb hs)
 exact aDk (l:=(sta r s).Order) (by omega) (by omega)
theorem aN3 {N:Nat} (hN:40≤N) {r:aB} (hr:gY r) {b:List Int} (hb:b.length=r.People.length) {p s:Int} (hs:inS r s):sA N (rR r) b p s=some (xC r b p s):=by
 have hp2:=hr.p2
 have hl:=rW (ρ:=Bool) (fun i:Nat=>(i:Int)) (fun j=>cond (decide (Asg b (j:Int)=s∧rk r s p < rk r s (j:Int))) (some true) none) b.length (fun s7=>jG N (rR r) b p s s7) (fun i hi=>by
  show jG N (rR r) b p s (i:Int)=_
  unfold jG
  have he:aU b (i:Int)=some (Asg b (i:Int)):=hQ (-1) (by omega) (by omega)
  rw [cM hi,cond_true,he,Option.bind_some,rst hs,Option.bind_some,aI7 hr hN hs,Option.bind_some,Option.bind_some,aI7 hr hN hs,Option.bind_some,cI (by omega)]
  by_cases h1:Asg b (i:Int)=s
  ·rw [beq_iff_eq.2 h1,cond_true,Option.bind_some]
   by_cases h2:rk r s p < rk r s (i:Int)
   ·rw [decide_eq_true h2,decide_eq_true ⟨h1,h2⟩]; rfl
   ·rw [decide_eq_false h2,decide_eq_false (p:=Asg b (i:Int)=s∧rk r s p < rk r s (i:Int)) fun h=>h2 h.2]; rfl
  ·rw [beq_eq_false_iff_ne.2 h1,decide_eq_false (p:=Asg b (i:Int)=s∧rk r s p < rk r s (i:Int)) fun h=>h1 h.1]; rfl) (by
  show jG N (rR r) b p s (b.length:Int)=_
  unfold jG
  rw [cJ,cond_false]) b.length 0 N (by omega) (by omega)
 unfold sA
 rw [aGr hN hr hb,Option.bind_some,rst hs,Option.bind_some]
 unfold xC
 show cond (decide (((lN r b s).length:Int) < (sta r s).Places)) _ (Option.bind (aS (fun s7=>jG N (rR r) b p s s7) N ((0:Nat):Int)) _)=_
 rw [hl]
 cases decide (((lN r b s).length:Int) < (sta r s).Places) with
 | true=>rfl
 | false=>
  rcases aEn (P:=fun j=>decide (Asg b (j:Int)=s∧rk r s p < rk r s (j:Int))) (v:=true) b.length 0 with ⟨h1,j,h2,h3,h4⟩ | ⟨h1,h2⟩
  ·rw [h1]
   have h4:=of_decide_eq_true h4
   have:((lN r b s).any fun q=>decide (rk r s p < rk r s q))=true:=List.any_eq_true.2 ⟨(j:Int),pT.2 ⟨⟨by omega,by omega⟩,h4.1⟩,decide_eq_true h4.2⟩
   rw [this]
   rfl
  ·rw [h1]
   have:((lN r b s).any fun q=>decide (rk r s p < rk r s q))=false:=List.any_eq_false.2 fun q hq=>by
    have hq:=pT.1 hq
    obtain ⟨j,rfl⟩:=Int.eq_ofNat_of_zero_le hq.1.1
    have h3:=of_decide_eq_false (h2 j (Nat.zero_le _) (by have:=hq.1.2; omega))
    simp only [decide_eq_true_eq]
    exact fun h=>h3 ⟨hq.2,h⟩
   rw [this]
   rfl
def aEz (r:aB) (b:List Int) (i:Nat):Bool:=decide (Asg b (i:Int) ≠ -1∧¬ (kF r (i:Int) (Asg b (i:Int))∧((lN r b (Asg b (i:Int))).length:Int)≤(sta r (Asg b (i:Int))).Places))
def aF4 (r:aB) (b:List Int) (p s:Int):Bool:=decide (kF r p s) && xC r b p s
def fnd (r:aB) (b:List Int) (p:Int) (i:Nat):Option Int:=(((pf r p).drop i).takeWhile fun x=>!(x == Asg b p)).find? (aF4 r b p)
def aGv (r:aB) (b:List Int) (i:Nat):Option (aC × Int):=cond (aEz r b i) (some (⟨0,0⟩,7)) none
def aC1 (r:aB) (b:List Int) (i:Nat):Option (aC × Int):=(fnd r b (i:Int) 0).map fun s=>(⟨(i:Int),s⟩,0)
def bres (r:aB) (b:List Int):aC × Int :=
 match eX (aGv r b) 0 r.People.length with
 | some x=>x
 | none=>match eX (aC1 r b) 0 r.People.length with
  | some x=>x
  | none=>(⟨0,0⟩,5)
theorem aFx {N:Nat} (hN:40≤N) {ς:Type} {r:aB} {rank:Nat→Int} (h:WOk r rank) {b:List Int} {p:Int} (hp:inP r p) (g:ς→Int→Option (Rs ς)) (v:Int→ς) (z:ς)
  (hg:∀ s,s ∈ pf r p→kF r p s→g z s=some (cond (xC r b p s) (.ret (v s)) (.go z))) :
  dC N ⟨r,rank⟩ p (Asg b p) (rY g) (.go z)=some (match fnd r b p 0 with | some s=>.ret (v s) | none=>.go z):=by
 have hf:∀ i (hi:i < (pf r p).length),fnd r b p i=cond ((pf r p)[i] == Asg b p) none (cond (aF4 r b p (pf r p)[i]) (some (pf r p)[i]) (fnd r b p (i + 1))):=fun i hi=>by
  unfold fnd
  rw [List.drop_eq_getElem_cons hi,List.takeWhile_cons]
  cases (pf r p)[i] == Asg b p with
  | true=>rfl
  | false=>
   rw [show (!false)=true from rfl,if_pos rfl,List.find?_cons]
   cases aF4 r b p (pf r p)[i] <;> rfl
 obtain ⟨x,h1,h2⟩:=yS hN h (than:=Asg b p) hp (rY g) (fun i sg=>sg=.go z∧fnd r b p 0=fnd r b p i) (fun sg=>sg=match fnd r b p 0 with | some s=>.ret (v s) | none=>.go z)
  (fun i hi sg hI hne hpo=>by
   obtain ⟨rfl,hI⟩:=hI
   have:=hg _ (List.getElem_mem hi) hpo
   rw [hf i hi,beq_eq_false_iff_ne.2 hne,cond_false] at hI
   unfold aF4 at hI
   rw [decide_eq_true hpo,Bool.true_and] at hI
   refine ⟨_,_,by show (g z (pf r p)[i]).map _=_; rw [this]; rfl,fun hb=>?_,fun hb=>?_⟩
   ·cases hw:xC r b p (pf r p)[i] with
    | true=>rw [hw] at hb; cases hb
    | false=>rw [hw] at hI; exact ⟨rfl,hI⟩
   ·cases hw:xC r b p (pf r p)[i] with
    | true=>rw [hw,cond_true] at hI; rw [hI]; rfl
    | false=>rw [hw] at hb; cases hb)
  (fun i hi sg hI hne hpo=>by
   obtain ⟨rfl,hI⟩:=hI
   rw [hf i hi,beq_eq_false_iff_ne.2 hne,cond_false] at hI
   unfold aF4 at hI
   rw [decide_eq_false hpo,Bool.false_and] at hI
   exact ⟨rfl,hI⟩)
  (fun i hi sg hI he=>by
   obtain ⟨rfl,hI⟩:=hI
   rw [hf i hi,beq_iff_eq.2 he,cond_true] at hI
   rw [hI])
  (fun sg hI=>by
   obtain ⟨rfl,hI⟩:=hI
   have:fnd r b p (pf r p).length=none:=by unfold fnd; rw [List.drop_length]; rfl
   rw [hI,this]) (.go z) ⟨rfl,rfl⟩
 rw [h1,h2]
theorem aK9 {N:Nat} (hN:60≤N) {r:aB} (hr:gY r) {b:List Int} (hb:AOk r b):kD N r b=some (bres r b):=by
 obtain ⟨rank,h1,h2⟩:=xV (N:=N) (by omega) hr
 have hw:WOk r rank:=⟨hr,h2⟩
 have hp2:=hr.p2
 have hs2:=hr.s2
 have hbl:=hb.len
 obtain ⟨had,d1,d2,d3⟩:=aN2 (N:=N) (rank:=rank) (by omega) hr hb
 have hgb:∀ i,i < r.People.length→aU b (i:Int)=some (Asg b (i:Int)):=fun i hi=>hQ (-1) (by omega) (by omega)
 unfold kD
 rw [h1,Option.bind_some]
 simp only [aB0,bne_self_eq_false,cond_false]
 have c1:fS N b r=some true:=by
  unfold fS dI eI
  refine qY (l:=b) (by omega) (by omega) _ (fun i hi=>?_) (by unfold fC; rw [cJ,cond_false])
  unfold fC
  have hv:b[i]=Asg b (i:Int):=by unfold Asg; rw [Int.toNat_natCast,← dP hi]
  have hran:=hb.rng (i:Int) ⟨by omega,by omega⟩
  have:eO b[i] r=false:=by
   unfold eO nK aE
   rw [hv,zK (by omega) (by omega),decide_eq_true (by omega),decide_eq_true (by omega)]
   rfl
  rw [cM hi,cond_true,bS hi,Option.bind_some,this,cond_false]
 have c2:(((b.length:Nat):Int) != ((r.People.length:Nat):Int))=false:=by rw [hbl,bne_self_eq_false]
 rw [c2,cond_false,c1]
 simp only [Option.bind_some,Bool.not_true,cond_false]
 rw [d1,Option.bind_some,show wS 12 had=some () by unfold wS; rw [if_pos d2],Option.bind_some]
 have l1:=rW (ρ:=aC × Int) (fun i:Nat=>(i:Int)) (aGv r b) r.People.length (fun s36=>iD N r b (rank,0) had s36) (fun i hi=>by
  have hiP:inP r (i:Int):=⟨by omega,by omega⟩
  show iD N r b (rank,0) had (i:Int)=_
  unfold iD aGv
  rw [hbl,cM hi,cond_true,hgb i hi,Option.bind_some,cI (by omega)]
  by_cases hn:Asg b (i:Int) = -1
  ·rw [show (Asg b (i:Int) != -1)=false by rw [hn]; rfl,cond_false,Option.bind_some,cond_false,show aEz r b i=false from decide_eq_false fun e=>e.1 hn]; rfl
  ·have hS:=(hb.rng _ hiP).resolve_left hn
   rw [bne_iff_ne.2 hn,cond_true,tW (by omega) hw hS hiP,Option.bind_some]
   by_cases hpo:kF r (i:Int) (Asg b (i:Int))
   ·rw [decide_eq_true hpo,Bool.not_true,cond_false,pW hS.1 (by have:=hS.2; omega),Option.bind_some,d3 _ hS,Option.bind_some,show aU r.Stations (Asg b (i:Int))=some (sta r (Asg b (i:Int))) from hQ _ hS.1 hS.2,Option.bind_some,Option.bind_some,Option.bind_some]
    by_cases hc:((lN r b (Asg b (i:Int))).length:Int)≤(sta r (Asg b (i:Int))).Places
    ·rw [decide_eq_false (show ¬ (sta r (Asg b (i:Int))).Places < _ by omega),cond_false,show aEz r b i=false from decide_eq_false fun e=>e.2 ⟨hpo,hc⟩]; rfl
    ·rw [decide_eq_true (show (sta r (Asg b (i:Int))).Places < ((lN r b (Asg b (i:Int))).length:Int) by omega),cond_true,show aEz r b i=true from decide_eq_true ⟨hn,fun e=>hc e.2⟩]; rfl
   ·rw [decide_eq_false hpo,Bool.not_false,cond_true,Option.bind_some,Option.bind_some,cond_true,show aEz r b i=true from decide_eq_true ⟨hn,fun e=>hpo e.1⟩]; rfl) (by
  show iD N r b (rank,0) had (r.People.length:Int)=_
  unfold iD
  rw [hbl,cJ,cond_false]) r.People.length 0 N (by omega) (by omega)
 have l2:=aNg (ρ:=aC × Int) (fun i:Nat=>((i:Int),(5:Int),(0:Int),(0:Int))) (fun i=>(aC1 r b i).map fun x=>((i:Int),x.2,x.1.Person,x.1.Station)) r.People.length (fun s41=>iI N r b (rank,0) had s41.1 s41.2.1 s41.2.2.1 s41.2.2.2) (fun i hi=>by
  have hiP:inP r (i:Int):=⟨by omega,by omega⟩
  show iI N r b (rank,0) had (i:Int) 5 0 0=_
  unfold iI fK
  rw [hbl,cM hi,cond_true,hgb i hi,Option.bind_some,Option.bind_some,aFx (N:=N) (by omega) hw (b:=b) hiP _ (fun s=>(0,(i:Int),s)) (5,0,0) (fun s hs hpo=>by
   have hS:=pZ hr hiP hs
   show lD N r (rank,0) had (i:Int) 5 0 0 s=_
   unfold lD
   rw [pW hS.1 (by have:=hS.2; omega),Option.bind_some,d3 _ hS,Option.bind_some,show aU r.Stations s=some (sta r s) from hQ _ hS.1 hS.2,Option.bind_some,aK1 (by omega) hw hiP hS]
   unfold xC
   cases decide (((lN r b s).length:Int) < (sta r s).Places) <;> cases ((lN r b s).any fun q=>decide (rk r s (i:Int) < rk r s q)) <;> rfl),Option.bind_some,cI (by omega)]
  unfold aC1
  cases fnd r b (i:Int) 0 <;> rfl) (by
  show iI N r b (rank,0) had (r.People.length:Int) 5 0 0=_
  unfold iI
  rw [hbl,cJ,cond_false]) r.People.length 0 N (by omega) (by omega)
 show Option.bind (aS (fun s36=>iD N r b (rank,0) had s36) N ((0:Nat):Int)) (fun x36=>exK x36 (fun s36=>Option.bind (aS (fun s41=>iI N r b (rank,0) had s41.1 s41.2.1 s41.2.2.1 s41.2.2.2) N (((0:Nat):Int),5,0,0)) _) some)=_
 rw [l1,l2,Option.bind_some,Option.bind_some]
 unfold bres
 cases eX (aGv r b) 0 r.People.length with
 | some x=>rfl
 | none=>
  have hk:∀ m i,eX (fun i=>(aC1 r b i).map fun x=>((i:Int),x.2,x.1.Person,x.1.Station)) i m=none∧eX (aC1 r b) i m=none ∨ ∃ k x,eX (fun i=>(aC1 r b i).map fun x=>((i:Int),x.2,x.1.Person,x.1.Station)) i m=some (k,x.2,x.1.Person,x.1.Station)∧eX (aC1 r b) i m=some x:=by
   intro m
   induction m with
   | zero=>intro i; exact .inl ⟨rfl,rfl⟩
   | succ m ih=>
    intro i
    unfold eX
    cases aC1 r b i with
    | none=>exact ih (i + 1)
    | some x=>exact .inr ⟨_,x,rfl,rfl⟩
  rcases hk r.People.length 0 with ⟨e1,e2⟩ | ⟨k,x,e1,e2⟩
  ·rw [e1,e2]; rfl
  ·rw [e1,e2]; rfl
def rB (x:aC × Int):aP × Int:=(⟨x.1.Person,x.1.Station⟩,x.2)
theorem aJx {N:Nat} (hN:60≤N) {r:aB} (hm:Sml r) (hr:gY r) {b:List Int} (hb:AOk r b):jY N (rR r) b=some (rB (bres r b)):=by
 have hp2:=hr.p2
 have hs2:=hr.s2
 have hbl:=hb.len
 have hsl:(rR r).Stations.length=r.Stations.length:=List.length_map ..
 have hgb:∀ i,i < r.People.length→aU b (i:Int)=some (Asg b (i:Int)):=fun i hi=>hQ (-1) (by omega) (by omega)
 unfold jY
 rw [tY (by omega) hm,zM.2 hr,Option.bind_some,bne_self_eq_false,cond_false]
 have c2:(((b.length:Nat):Int) != (((rR r).People.length:Nat):Int))=false:=by rw [show (rR r).People.length=b.length from hbl.symm,bne_self_eq_false]
 rw [c2,cond_false]
 have l0:=vS (ρ:=aP × Int) (fun i:Nat=>(i:Int)) r.People.length (fun s11=>fO N (rR r) b s11) (fun i hi=>by
  show fO N (rR r) b (i:Int)=_
  unfold fO cB
  have hran:=hb.rng (i:Int) ⟨by omega,by omega⟩
  rw [hbl,cM hi,cond_true,hgb i hi,Option.bind_some,hsl,zK (by omega) (by omega),decide_eq_false (show ¬ Asg b (i:Int) < -1 by omega),decide_eq_false (show ¬ ((r.Stations.length:Nat):Int) - 1 < Asg b (i:Int) by omega),cI (by omega)]
  rfl) (by
  show fO N (rR r) b (r.People.length:Int)=_
  unfold fO
  rw [hbl,cJ,cond_false]) (N:=N) (by omega)
 have l1:=rW (ρ:=aP × Int) (fun i:Nat=>(i:Int)) (fun i=>(aGv r b i).map rB) r.People.length (fun s14=>gQ N (rR r) b s14) (fun i hi=>by
  have hiP:inP r (i:Int):=⟨by omega,by omega⟩
  show gQ N (rR r) b (i:Int)=_
  unfold gQ aGv
  rw [hbl,cM hi,cond_true,hgb i hi,Option.bind_some,cI (by omega)]
  by_cases hn:Asg b (i:Int) = -1
  ·rw [show (Asg b (i:Int) != -1)=false by rw [hn]; rfl,cond_false,Option.bind_some,cond_false,show aEz r b i=false from decide_eq_false fun e=>e.1 hn]; rfl
  ·have hS:=(hb.rng _ hiP).resolve_left hn
   rw [bne_iff_ne.2 hn,cond_true,aEf (by omega) hr hS hiP,Option.bind_some]
   by_cases hpo:kF r (i:Int) (Asg b (i:Int))
   ·rw [decide_eq_true hpo,Bool.not_true,cond_false,aGr (by omega) hr hbl,Option.bind_some,rst hS,Option.bind_some,Option.bind_some,Option.bind_some]
    show cond (decide ((sta r (Asg b (i:Int))).Places < _)) _ _=_
    by_cases hc:((lN r b (Asg b (i:Int))).length:Int)≤(sta r (Asg b (i:Int))).Places
    ·rw [decide_eq_false (show ¬ (sta r (Asg b (i:Int))).Places < ((lN r b (Asg b (i:Int))).length:Int) by omega),cond_false,show aEz r b i=false from decide_eq_false fun e=>e.2 ⟨hpo,hc⟩]; rfl
    ·rw [decide_eq_true (show (sta r (Asg b (i:Int))).Places < ((lN r b (Asg b (i:Int))).length:Int) by omega),cond_true,show aEz r b i=true from decide_eq_true ⟨hn,fun e=>hc e.2⟩]; rfl
   ·rw [decide_eq_false hpo,Bool.not_false,cond_true,Option.bind_some,Option.bind_some,cond_true,show aEz r b i=true from decide_eq_true ⟨hn,fun e=>hpo e.1⟩]; rfl) (by
  show gQ N (rR r) b (r.People.length:Int)=_
  unfold gQ
  rw [hbl,cJ,cond_false]) r.People.length 0 N (by omega) (by omega)
 have l2:=rW (ρ:=aP × Int) (fun i:Nat=>(i:Int)) (fun i=>(aC1 r b i).map rB) r.People.length (fun s17=>gR N (rR r) b s17) (fun i hi=>by
  have hiP:inP r (i:Int):=⟨by omega,by omega⟩
  have hpl:=hr.pf_len (kQ hiP)
  show gR N (rR r) b (i:Int)=_
  unfold gR
  obtain ⟨k,hk⟩:=aJ5 (ρ:=bK Int (aP × Int)) (fun j:Nat=>(j:Int)) (pf r (i:Int)) (fun x=>x == Asg b (i:Int)) (aF4 r b (i:Int)) (fun s=>.ret (⟨(i:Int),s⟩,0)) (fun s24=>iV N (rR r) b (i:Int) s24) (fun j hj=>by
   show iV N (rR r) b (i:Int) (j:Int)=_
   unfold iV
   have hS:=pZ hr hiP (List.getElem_mem hj)
   rw [rpp hiP,Option.bind_some,Option.bind_some,cM hj,cond_true,bS hj,Option.bind_some,hgb i hi,Option.bind_some,aEf (by omega) hr hS hiP,Option.bind_some,aN3 (by omega) hr hbl hS,cI (by omega)]
   unfold aF4
   cases (pf r (i:Int))[j] == Asg b (i:Int) with
   | true=>rfl
   | false=>cases decide (kF r (i:Int) (pf r (i:Int))[j]) with
    | false=>rfl
    | true=>cases xC r b (i:Int) (pf r (i:Int))[j] <;> rfl) (by
   show iV N (rR r) b (i:Int) ((pf r (i:Int)).length:Int)=_
   unfold iV
   rw [rpp hiP,Option.bind_some,cJ,cond_false]) (pf r (i:Int)).length 0 N (by omega) (by omega)
  rw [hbl,cM hi,cond_true,show (0:Int)=((0:Nat):Int) from rfl,hk,Option.bind_some,cI (by omega)]
  unfold aC1 fnd
  cases (((pf r (i:Int)).drop 0).takeWhile fun x=>!(x == Asg b (i:Int))).find? (aF4 r b (i:Int)) <;> rfl) (by
  show gR N (rR r) b (r.People.length:Int)=_
  unfold gR
  rw [hbl,cJ,cond_false]) r.People.length 0 N (by omega) (by omega)
 show Option.bind (aS (fun s11=>fO N (rR r) b s11) N ((0:Nat):Int)) (fun x11=>exK x11 (fun s11=>Option.bind (aS (fun s14=>gQ N (rR r) b s14) N ((0:Nat):Int)) fun x14=>exK x14 (fun s14=>Option.bind (aS (fun s17=>gR N (rR r) b s17) N ((0:Nat):Int)) fun x17=>exK x17 _ some) some) some)=_
 rw [l0,l1,l2,yT,yT]
 unfold bres
 cases eX (aGv r b) 0 r.People.length with
 | some x=>rfl
 | none=>cases eX (aC1 r b) 0 r.People.length <;> rfl
end Go.Nilo
