/-
  What the plain functions compute, in plain arithmetic, part 4. Conditions: what each theorem names.
-/
import Derived.Test.YtakhbnnlhoninacGreatCmL3
set_option linter.unusedSimpArgs false
set_option linter.unusedVariables false
namespace Go.Nilo
def jR (r:aB) (p s:Int):Prop:=p ∈ (sta r s).Order∧s ∈ pf r p
instance (r:aB) (p s:Int):Decidable (jR r p s):=inferInstanceAs (Decidable (_∧_))
structure WOk (r:aB) (rank:Nat→Int):Prop where
 ok:fW r
 rk:∀ s p:Nat,s < r.Stations.length→p < r.People.length→rank (s * 12 + p)=rk r (s:Int) (p:Int)
abbrev inP (r:aB) (p:Int):Prop:=0≤p∧p < (r.People.length:Int)
abbrev inS (r:aB) (s:Int):Prop:=0≤s∧s < (r.Stations.length:Int)
theorem WOk.get {r:aB} {rank:Nat→Int} (h:WOk r rank) {s p:Int} (hs:inS r s) (hp:inP r p):rank (s * 12 + p).toNat=Go.Nilo.rk r s p:=by
 have:=h.rk s.toNat p.toNat (by omega) (by omega)
 rw [show (s * 12 + p).toNat=s.toNat * 12 + p.toNat by omega,this,Int.toNat_of_nonneg hs.1,Int.toNat_of_nonneg hp.1]
theorem aA4 {i:Int} {n:Nat} (h0:0≤i) (h1:i < (n:Int)):inR i n=some ():=by unfold inR; rw [if_pos ⟨h0,h1⟩]
theorem rN {r:aB} {p:Int} (hp:inP r p):pf r p ∈ r.People:=aGt [] hp.1 hp.2
theorem vH {r:aB} {s:Int} (hs:inS r s):sta r s ∈ r.Stations:=aGt _ hs.1 hs.2
theorem aC2 {N:Nat} (hN:40≤N) {r:aB} {rank:Nat→Int} (h:WOk r rank) {s p:Int} (hs:inS r s) (hp:inP r p):dP N ⟨r,rank⟩ p s=some (decide (jR r p s)):=by
 have h2:=h.ok.s2
 have h3:=h.ok.p2
 have hl:=h.ok.pf_len (rN hp)
 have hget:bH r.People p=some (pf r p):=sR [] hp.1 hp.2
 unfold dP
 rw [aA4 hs.1 (by omega),aA4 hp.1 (by omega),Option.bind_some,Option.bind_some]
 dsimp only
 rw [h.get hs hp,hget,Option.bind_some,yM (by omega) (by omega),Option.bind_some]
 by_cases hm:p ∈ (sta r s).Order
 ·have h1:(Go.Nilo.rk r s p != -1)=true:=by rw [bne_iff_ne]; exact aCo.2 hm
  rw [h1,cond_true,Option.bind_some]
  congr 1
  rw [decide_eq_decide]
  unfold jR
  simp only [hm,true_and]
 ·have h1:(Go.Nilo.rk r s p != -1)=false:=by
   unfold Go.Nilo.rk
   rw [aAa hm]
   rfl
  rw [h1,cond_false,Option.bind_some]
  congr 1
  symm
  rw [decide_eq_false_iff_not]
  exact fun h=>hm h.1
theorem aEd {N:Nat} (hN:40≤N) {σ:Type} {r:aB} {rank:Nat→Int} (h:WOk r rank) {p than:Int} (hp:inP r p) (y:σ→Int→Option (σ × Bool)) (Inv:Nat→σ→Prop) (Post:σ→Prop)
  (hstep:∀ i (hi:i < (pf r p).length) sg,Inv i sg→(pf r p)[i] ≠ than→jR r p (pf r p)[i]→∃ sg' b,y sg (pf r p)[i]=some (sg',b)∧(b=true→Inv (i + 1) sg')∧(b=false→Post sg'))
  (hskip:∀ i (hi:i < (pf r p).length) sg,Inv i sg→(pf r p)[i] ≠ than→¬ jR r p (pf r p)[i]→Inv (i + 1) sg)
  (hthan:∀ i (hi:i < (pf r p).length) sg,Inv i sg→(pf r p)[i]=than→Post sg)
  (hend:∀ sg,Inv (pf r p).length sg→Post sg) (sg0:σ) (h0:Inv 0 sg0):∃ sg',dQ N ⟨r,rank⟩ p than y sg0=some sg'∧Post sg':=by
 have hl:=h.ok.pf_len (rN hp)
 have hpr:=h.ok.pr _ (rN hp)
 have hget:bH r.People p=some (pf r p):=sR [] hp.1 hp.2
 have key:∀ (m i M:Nat) (sg:σ),i + m=(pf r p).length→m < M→Inv i sg→∃ x,bE (fun s3=>eI N ⟨r,rank⟩ p than y (pf r p) s3.1 s3.2) M ((i:Int),sg)=some x∧∃ sg',exK x (fun s3=>some s3.2) some=some sg'∧Post sg':=by
  intro m
  induction m with
  | zero=>
   intro i M sg hi hM hI
   obtain ⟨M,rfl⟩:∃ M',M=M' + 1:=⟨M - 1,by omega⟩
   obtain rfl:i=(pf r p).length:=by omega
   refine ⟨.go (((pf r p).length:Int),sg),?_,sg,rfl,hend _ hI⟩
   unfold bE
   dsimp only
   unfold eI
   rw [iE,cond_false]
  | succ m ih=>
   intro i M sg hi hM hI
   obtain ⟨M,rfl⟩:∃ M',M=M' + 1:=⟨M - 1,by omega⟩
   have hil:i < (pf r p).length:=by omega
   have hs:=hpr _ (List.getElem_mem hil)
   unfold bE
   dsimp only
   have hb:eI N ⟨r,rank⟩ p than y (pf r p) (i:Int) sg=cond ((pf r p)[i] == than) (some (.ret sg)) (cond (decide (jR r p (pf r p)[i])) (Option.bind (y sg (pf r p)[i]) fun ry=>cond (!ry.2) (some (.ret ry.1)) (some (.cont (((i + 1:Nat):Int),ry.1)))) (some (.cont (((i + 1:Nat):Int),sg)))):=by
    unfold eI fY
    rw [kH hil,cond_true,eM hil,Option.bind_some,aC2 hN h hs hp,Option.bind_some,jZ (by omega)]
   rw [hb]
   by_cases ht:(pf r p)[i]=than
   ·rw [beq_iff_eq.2 ht,cond_true]
    exact ⟨_,rfl,sg,rfl,hthan i hil sg hI ht⟩
   ·rw [beq_eq_false_iff_ne.2 ht,cond_false]
    by_cases hpo:jR r p (pf r p)[i]
    ·rw [decide_eq_true hpo,cond_true]
     obtain ⟨sg',b,h1,h2,h3⟩:=hstep i hil sg hI ht hpo
     rw [h1,Option.bind_some]
     cases b with
     | true=>exact ih (i + 1) M sg' (by omega) (by omega) (h2 rfl)
     | false=>exact ⟨_,rfl,sg',rfl,h3 rfl⟩
    ·rw [decide_eq_false hpo,cond_false]
     exact ih (i + 1) M sg (by omega) (by omega) (hskip i hil sg hI ht hpo)
 unfold dQ
 dsimp only
 rw [hget,Option.bind_some]
 obtain ⟨x,h1,h2⟩:=key (pf r p).length 0 N sg0 (by omega) (by omega) h0
 rw [show (0:Int)=((0:Nat):Int) from rfl,h1,Option.bind_some]
 exact h2
abbrev Asg (asg:List Int) (p:Int):Int:=asg.getD p.toNat (-1)
abbrev Ks (ks:List (List Int)) (s:Int):List Int:=ks.getD s.toNat []
def gB (ks:List (List Int)):List (Option (List (Int × Bool))):=ks.map fun k=>some (k.map fun p=>(p,true))
def Ref (l:List aE) (p s:Int):Prop:=(⟨p,s⟩:aE) ∈ l
def Bet (r:aB) (l:List aE) (p s:Int):Prop:=∀ t ∈ pf r p,mO (pf r p) t < mO (pf r p) s→jR r p t→Ref l p t
def Just (r:aB) (ahead:List aE) (x:aE):Prop:=∃ qs:List Int,qs.Nodup∧(sta r x.Station).Places≤(qs.length:Int)∧∀ q ∈ qs,inP r q∧jR r q x.Station∧rk r x.Station q < rk r x.Station x.Person∧Bet r ahead q x.Station
structure SI (r:aB) (done:Int→Prop) (l:List aE) (asg:List Int) (ks:List (List Int)):Prop where
 al:asg.length=r.People.length
 kl:ks.length=r.Stations.length
 mem:∀ s p,inS r s→inP r p→(p ∈ Ks ks s ↔ Asg asg p=s)
 kr:∀ s,inS r s→∀ p ∈ Ks ks s,inP r p
 kn:∀ s,inS r s→(Ks ks s).Nodup
 cap:∀ s,inS r s→((Ks ks s).length:Int)≤(sta r s).Places
 asr:∀ p,inP r p→Asg asg p = -1 ∨ inS r (Asg asg p)
 good:∀ p,inP r p→Asg asg p ≠ -1→jR r p (Asg asg p)∧¬ Ref l p (Asg asg p)∧Bet r l p (Asg asg p)
 free:∀ p,inP r p→done p→Asg asg p = -1→∀ t ∈ pf r p,jR r p t→Ref l p t
 fresh:∀ p,inP r p→¬ done p→Asg asg p = -1
 refp:∀ x ∈ l,inP r x.Person∧inS r x.Station∧jR r x.Person x.Station
 refn:l.Nodup
 just:∀ k (h:k < l.length),Just r (l.take k) l[k]
theorem SI.congr {r:aB} {d d':Int→Prop} {l:List aE} {asg:List Int} {ks:List (List Int)} (h:SI r d l asg ks) (hd:∀ p,inP r p→(d p ↔ d' p)):SI r d' l asg ks :=
 ⟨h.al,h.kl,h.mem,h.kr,h.kn,h.cap,h.asr,h.good,fun p hp h1=>h.free p hp ((hd p hp).2 h1),fun p hp h1=>h.fresh p hp fun e=>h1 ((hd p hp).1 e),h.refp,h.refn,h.just⟩
theorem tU {α:Type} {l:List α} {i j:Nat} {v d:α} (hi:i < l.length):(l.set i v).getD j d=if j=i then v else l.getD j d:=by
 by_cases h:j=i
 ·subst h
  simp [List.getD,List.getElem?_set,hi]
 ·rw [if_neg h]
  simp [List.getD,List.getElem?_set,Ne.symm h]
theorem aB5 {asg:List Int} {p x v:Int} (h0:0≤p) (h1:p < (asg.length:Int)) (hx:0≤x):Asg (asg.set p.toNat v) x=if x=p then v else Asg asg x:=by
 unfold Asg
 rw [tU (by omega)]
 by_cases h:x=p
 ·subst h; rw [if_pos rfl,if_pos rfl]
 ·rw [if_neg h,if_neg (by omega)]
theorem aEe {ks:List (List Int)} {p x:Int} {v:List Int} (h0:0≤p) (h1:p < (ks.length:Int)) (hx:0≤x):Ks (ks.set p.toNat v) x=if x=p then v else Ks ks x:=by
 unfold Ks
 rw [tU (by omega)]
 by_cases h:x=p
 ·subst h; rw [if_pos rfl,if_pos rfl]
 ·rw [if_neg h,if_neg (by omega)]
theorem SI.len {r:aB} (hr:fW r) {d:Int→Prop} {l:List aE} {asg:List Int} {ks:List (List Int)} (h:SI r d l asg ks):l.length≤144:=by
 have h2:=hr.p2
 have h3:=hr.s2
 have hn:(l.map fun x=>x.Station * 12 + x.Person).Nodup:=by
  rw [List.nodup_iff_pairwise_ne,List.pairwise_map]
  refine List.Pairwise.imp_of_mem ?_ (List.nodup_iff_pairwise_ne.1 h.refn)
  intro a b ha hb hne he
  obtain ⟨a1,a2,-⟩:=h.refp a ha
  obtain ⟨b1,b2,-⟩:=h.refp b hb
  apply hne
  cases a; cases b
  dsimp only at *
  congr 1 <;> omega
 have:=uW (n:=144) hn fun x hx=>by
  obtain ⟨a,ha,rfl⟩:=List.mem_map.1 hx
  obtain ⟨a1,a2,-⟩:=h.refp a ha
  omega
 simpa using this
theorem aE8 {ks:List (List Int)} {s:Int} (h0:0≤s) (h1:s < (ks.length:Int)):bH (gB ks) s=some (some ((Ks ks s).map fun p=>(p,true))):=by
 obtain ⟨n,rfl⟩:=Int.eq_ofNat_of_zero_le h0
 have hn:n < ks.length:=by omega
 rw [eM (by unfold gB; simpa using hn)]
 unfold gB Ks
 rw [Int.toNat_natCast,← wF hn,List.getElem_map]
theorem aFj {ks:List (List Int)} {n:Nat} {v:List Int}:(gB ks).set n (some (v.map fun p=>(p,true)))=gB (ks.set n v):=by
 unfold gB
 rw [List.map_set]
theorem aI9 {k:List Int} {p:Int} (h:p ∉ k):eP (k.map fun p=>(p,true)) p true=(k++[p]).map fun p=>(p,true):=by
 unfold eP
 rw [if_neg,List.map_append]
 ·rfl
 ·rw [List.any_eq_true]
  rintro ⟨x,hx,he⟩
  obtain ⟨q,hq,rfl⟩:=List.mem_map.1 hx
  rw [beq_iff_eq] at he
  exact h (he ▸ hq)
theorem aEt {q:Int}:∀ k:List Int,vV (k.map fun p=>(p,true)) q=(k.erase q).map fun p=>(p,true)
 | []=>rfl
 | a::k=>by
  have ih:=aEt (q:=q) k
  unfold vV at ih ⊢
  rw [List.map_cons,List.eraseP_cons,List.erase_cons]
  by_cases h:a=q
  ·subst h; simp
  ·have:(a == q)=false:=by rw [beq_eq_false_iff_ne]; exact h
   simp only [this,Bool.false_eq_true,if_false,cond_false,List.map_cons,ih]
theorem lk_in {k:List Int} {p:Int}:(lkA (k.map fun p=>(p,true)) p).getD false=decide (p ∈ k):=by
 unfold lkA
 induction k with
 | nil=>simp
 | cons a k ih=>
  rw [List.map_cons,List.find?_cons]
  by_cases h:a=p
  ·subst h; simp
  ·have h1:(a == p)=false:=by rw [beq_eq_false_iff_ne]; exact h
   dsimp only
   rw [h1]
   dsimp only
   rw [ih,decide_eq_decide,List.mem_cons]
   constructor
   ·intro h2; exact Or.inr h2
   ·rintro (h2 | h2)
    ·exact absurd h2.symm h
    ·exact h2
theorem aEo {N:Nat} {l:List aE} {p s:Int} (hl:l.length≤1000) (hN:l.length < N):∃ b,bJ N l p s=some b∧(b=true ↔ Ref l p s):=by
 unfold bJ cC
 have hany:l.any (fun x=>dV x p s)=true ↔ Ref l p s:=by
  rw [List.any_eq_true]
  unfold dV Ref
  constructor
  ·rintro ⟨x,h1,h2⟩
   rw [Bool.and_eq_true,beq_iff_eq,beq_iff_eq] at h2
   obtain ⟨rfl,rfl⟩:=h2
   exact h1
  ·intro h; exact ⟨_,h,by simp⟩
 rcases aBo (fun x=>dV x p s) l (by omega) (fun s4=>cM N l p s s4) (fun x=>rfl) l.length 0 N (by omega) hN with ⟨k,h1,h2,h3⟩ | ⟨h1,h2⟩
 ·rw [show ((0:Nat):Int)=0 from rfl] at h1
  rw [List.drop_zero] at h3
  refine ⟨true,?_,by simp only [true_iff]; exact hany.1 h3⟩
  rw [h1]
  simp [exK,h2]
 ·rw [show ((0:Nat):Int)=0 from rfl] at h1
  rw [List.drop_zero] at h2
  refine ⟨false,by rw [h1]; rfl,?_⟩
  rw [← hany,h2]
end Go.Nilo
