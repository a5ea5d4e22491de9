/-
  What the plain functions compute, in plain arithmetic, part 3. Conditions: what each theorem names.
-/
import Derived.Test.YtpfmkhhhamdpeaaGreatRuL2
set_option linter.unusedSimpArgs false
set_option linter.unusedVariables false
namespace Go.Nilo
def oE (l:List Int) (v:Int):Int:=if l.findIdx (fun e=>v == e) < l.length then ((l.findIdx (fun e=>v == e):Nat):Int) else -1
theorem aJe {N:Nat} {l:List Int} {v:Int} (hl:l.length≤1000000) (hN:l.length < N):fW N l v=some (oE l v):=by
 unfold fW oE
 have:=aAy (fun e=>v == e) l hl (fun s4=>lS N l v s4) (fun x=>rfl) l.length 0 N (by omega) hN (fun j h hj=>by omega)
 rw [show ((0:Nat):Int)=0 from rfl] at this
 rcases this with ⟨h1,h2⟩ | ⟨h1,h2⟩
 ·rw [if_pos h1,h2]; rfl
 ·rw [if_neg (by omega),h2]; rfl
theorem aCi {l:List Int} {v:Int}:oE l v ≠ -1 ↔ v ∈ l:=by
 unfold oE
 rw [← List.findIdx_lt_length.trans (show (∃ x ∈ l,(v == x)=true) ↔ v ∈ l by
  constructor
  ·rintro ⟨x,h1,h2⟩; rw [beq_iff_eq] at h2; exact h2 ▸ h1
  ·intro h; exact ⟨v,h,by simp⟩)]
 split
 ·rename_i h; constructor
  ·intro _; exact h
  ·intro _; omega
 ·rename_i h; constructor
  ·intro h2; exact absurd rfl h2
  ·intro h2; exact absurd h2 h
theorem xX {l:List Int} {v:Int} (h:v ∈ l):∃ i:Nat,oE l v=(i:Int)∧∃ hi:i < l.length,l[i]=v:=by
 have h1:l.findIdx (fun e=>v == e) < l.length:=List.findIdx_lt_length.2 ⟨v,h,by simp⟩
 refine ⟨l.findIdx (fun e=>v == e),by unfold oE; rw [if_pos h1],h1,?_⟩
 have:=List.findIdx_getElem (w:=h1)
 rw [beq_iff_eq] at this
 exact this.symm
theorem aDi {l:List Int} {v:Int} (h:v ∉ l):oE l v = -1:=Decidable.byContradiction fun hc=>h (aCi.1 hc)
theorem aCa {l:List Int} {v w:Int} (hv:v ∈ l) (h:oE l v=oE l w):v=w:=by
 obtain ⟨i,h1,h2,h3⟩:=xX hv
 have hw:w ∈ l:=aCi.1 (by omega)
 obtain ⟨j,k1,k2,k3⟩:=xX hw
 have:i=j:=by omega
 subst this
 rw [← h3,← k3]
theorem iM {l:List Int} (hn:l.Nodup) {i:Nat} (hi:i < l.length):oE l l[i]=(i:Int):=by
 obtain ⟨j,h1,h2,h3⟩:=xX (List.getElem_mem hi)
 have:=(List.getElem_inj hn (h₀:=h2) (h₁:=hi)).1 h3
 omega
theorem wX {N:Nat} {l:List Int} {v:Int} (hl:l.length≤1000000) (hN:l.length < N):eL N l v=some (decide (v ∈ l)):=by
 unfold eL
 rw [aJe hl hN,Option.bind_some]
 congr 1
 rw [decide_eq_decide]
 by_cases h:v ∈ l
 ·obtain ⟨i,h1,-⟩:=xX h
  constructor
  ·intro _; exact h
  ·intro _; omega
 ·rw [aDi h]
  constructor
  ·intro h2; omega
  ·intro h2; exact absurd h2 h
abbrev np (r:aB):Int:=(r.People.length:Int)
abbrev ns (r:aB):Int:=(r.Stations.length:Int)
def pf (r:aB) (p:Int):List Int:=r.People.getD p.toNat []
def sta (r:aB) (s:Int):aG:=r.Stations.getD s.toNat ⟨0,[]⟩
def rk (r:aB) (s p:Int):Int:=oE (sta r s).Order p
structure gY (r:aB):Prop where
 p1:1≤r.People.length
 p2:r.People.length≤12
 s1:1≤r.Stations.length
 s2:r.Stations.length≤12
 pn:∀ l ∈ r.People,l.Nodup
 pr:∀ l ∈ r.People,∀ s ∈ l,0≤s∧s < ns r
 sp:∀ x ∈ r.Stations,1≤x.Places∧x.Places≤12
 sn:∀ x ∈ r.Stations,x.Order.Nodup
 sr:∀ x ∈ r.Stations,∀ p ∈ x.Order,0≤p∧p < np r
theorem pP:∀ {l l':List Int},l.Nodup→(∀ x ∈ l,x ∈ l')→l.length≤l'.length
 | [],_,_,_=>Nat.zero_le _
 | a::l,l',hn,h=>by
  have ha:a ∈ l':=h a List.mem_cons_self
  have hn':=List.nodup_cons.1 hn
  have:=pP (l:=l) (l':=l'.erase a) hn'.2 fun x hx=>by
   refine (List.mem_erase_of_ne ?_).2 (h x (List.mem_cons_of_mem _ hx))
   rintro rfl
   exact hn'.1 hx
  rw [List.length_erase_of_mem ha] at this
  have:0 < l'.length:=List.length_pos_of_mem ha
  rw [List.length_cons]
  omega
theorem aA6 {l:List Int} {n:Nat} (hn:l.Nodup) (h:∀ x ∈ l,0≤x∧x < (n:Int)):l.length≤n:=by
 have:=pP (l:=l) (l':=(List.range n).map fun i:Nat=>(i:Int)) hn fun x hx=>by
  have:=h x hx
  exact List.mem_map.2 ⟨x.toNat,List.mem_range.2 (by omega),by omega⟩
 simpa using this
theorem gY.pf_len {r:aB} (h:gY r) {l:List Int} (hl:l ∈ r.People):l.length≤12:=Nat.le_trans (aA6 (h.pn l hl) (h.pr l hl)) h.s2
theorem gY.or_len {r:aB} (h:gY r) {x:aG} (hx:x ∈ r.Stations):x.Order.length≤12:=Nat.le_trans (aA6 (h.sn x hx) (h.sr x hx)) h.p2
theorem hQ {α:Type} {l:List α} {i:Int} (d:α) (h0:0≤i) (h1:i < (l.length:Int)):aU l i=some (l.getD i.toNat d):=by
 obtain ⟨n,rfl⟩:=Int.eq_ofNat_of_zero_le h0
 have hn:n < l.length:=by omega
 rw [bS hn,Int.toNat_natCast,dP (d:=d) hn]
theorem aFa {α:Type} {l:List α} {i:Int} (d:α) (h0:0≤i) (h1:i < (l.length:Int)):l.getD i.toNat d ∈ l:=by
 have hn:i.toNat < l.length:=by omega
 rw [← dP (d:=d) hn]
 exact List.getElem_mem hn
theorem aIj {N:Nat} {l:List Int} (hl:l.length≤1000) (hN:l.length < N) (hn:l.Nodup):pI N l=some true:=by
 unfold pI
 have hrun:=vS (ρ:=Bool) (fun i:Nat=>(i:Int)) l.length (fun s4=>gM N l s4) (fun i hi=>by
  show gM N l (i:Int)=_
  unfold gM
  have hsub:yP l 0 (i:Int)=some (l.take i):=by
   unfold yP
   rw [if_pos ⟨by omega,by omega,by omega⟩]
   simp
  rw [cM hi,cond_true,bS hi,Option.bind_some,hsub,Option.bind_some,wX (by rw [List.length_take]; omega) (by rw [List.length_take]; omega),Option.bind_some]
  have:decide (l[i] ∈ l.take i)=false:=by
   rw [decide_eq_false_iff_not]
   intro hm
   obtain ⟨j,hj,he⟩:=List.getElem_of_mem hm
   rw [List.length_take] at hj
   rw [List.getElem_take] at he
   have:=(List.getElem_inj hn (h₀:=by omega) (h₁:=hi)).1 he
   omega
  rw [this,cond_false,cI (by omega)]) (by
  show gM N l _=_
  unfold gM
  rw [cJ,cond_false]) hN
 rw [show (0:Int)=((0:Nat):Int) from rfl,hrun]
 rfl
theorem qY {N:Nat} {α:Type} {l:List α} (hl:l.length≤1000) (hN:l.length < N) (b:Int→Option (bK Int Int)) (hb:∀ i (h:i < l.length),b (i:Int)=some (.cont (W ((i:Int) + 1)))) (hend:b (l.length:Int)=some (.brk (l.length:Int))) :
  (Option.bind (Option.bind (Option.bind (aS b N 0) fun x4=>exK x4 (fun _=>some (-1)) some) fun r=>some (decide (0≤r))) fun r=>some (!r))=some true:=by
 have hrun:=vS (ρ:=Int) (fun i:Nat=>(i:Int)) l.length b (fun i hi=>by rw [hb i hi,cI (by omega)]) hend hN
 rw [show (0:Int)=((0:Nat):Int) from rfl,hrun]
 rfl
theorem aI9 {N:Nat} (hN:40≤N) {r:aB} (h:gY r):nD N r=some 0:=by
 obtain ⟨p1,p2,s1,s2,pn,pr,sp,sn,sr⟩:=id h
 have hin:∀ {n a b:Int},a≤n→n≤b→aE n a b=true:=fun h1 h2=>by unfold aE; rw [decide_eq_true h1,decide_eq_true h2]; rfl
 unfold nD
 have c1:jT N r.People r=some true:=by
  unfold jT dR eW
  refine qY (l:=r.People) (by omega) (by omega) _ (fun i hi=>?_) (by unfold fN; rw [cJ,cond_false])
  unfold fN
  have hm:=List.getElem_mem hi
  have hlen:=h.pf_len hm
  have e:hO N r.People[i] r=some false:=by
   unfold hO qC kO eD fQ
   rw [qY (l:=r.People[i]) (by omega) (by omega) _ (fun j hj=>?_) (by unfold gI; rw [cJ,cond_false])]
   ·rfl
   ·unfold gI
    have hs:0≤r.People[i][j]∧r.People[i][j] < (r.Stations.length:Int):=pr _ hm _ (List.getElem_mem hj)
    have:gT r.People[i][j] ⟨r.People,r.Stations⟩=false:=by
     unfold gT mD
     rw [hin hs.1 (by dsimp only; rw [zK (by omega) (by omega)]; omega)]
     rfl
    rw [cM hj,cond_true,bS hj,Option.bind_some,this,cond_false]
  rw [cM hi,cond_true,bS hi,Option.bind_some,e]
  rfl
 have c2:dN N r.Stations r=some true:=by
  unfold dN bU cA
  refine qY (l:=r.Stations) (by omega) (by omega) _ (fun i hi=>?_) (by unfold cN; rw [cJ,cond_false])
  unfold cN
  have hm:=List.getElem_mem hi
  have hlen:=h.or_len hm
  have e:cY N r.Stations[i] r=some false:=by
   unfold cY qD hY dH eE
   have hpl:=sp _ hm
   rw [hin hpl.1 hpl.2,cond_true,qY (l:=r.Stations[i].Order) (by omega) (by omega) _ (fun j hj=>?_) (by unfold fD; rw [cJ,cond_false])]
   ·rfl
   ·unfold fD
    have hs:0≤r.Stations[i].Order[j]∧r.Stations[i].Order[j] < (r.People.length:Int):=sr _ hm _ (List.getElem_mem hj)
    have:eS r.Stations[i].Order[j] ⟨r.People,r.Stations⟩=false:=by
     unfold eS mM
     rw [hin hs.1 (by dsimp only; rw [zK (by omega) (by omega)]; omega)]
     rfl
    rw [cM hj,cond_true,bS hj,Option.bind_some,this,cond_false]
  rw [cM hi,cond_true,bS hi,Option.bind_some,e]
  rfl
 have c3:gO N r.People=some true:=by
  unfold gO cW dO
  refine qY (l:=r.People) (by omega) (by omega) _ (fun i hi=>?_) (by unfold eJ; rw [cJ,cond_false])
  unfold eJ gS
  have hm:=List.getElem_mem hi
  have hlen:=h.pf_len hm
  rw [cM hi,cond_true,bS hi,Option.bind_some,aIj (by omega) (by omega) (pn _ hm)]
  rfl
 have c4:cV N r.Stations=some true:=by
  unfold cV bO bT
  refine qY (l:=r.Stations) (by omega) (by omega) _ (fun i hi=>?_) (by unfold cF; rw [cJ,cond_false])
  unfold cF cZ qG
  have hm:=List.getElem_mem hi
  have hlen:=h.or_len hm
  rw [cM hi,cond_true,bS hi,Option.bind_some,aIj (by omega) (by omega) (sn _ hm)]
  rfl
 rw [hin (by omega) (by omega),hin (by omega) (by omega),c1,c2,c3,c4]
 rfl
theorem xV {N:Nat} (hN:40≤N) {r:aB} (h:gY r):∃ rank:Nat→Int,kB N r=some (.inr (rank,0))∧∀ s p:Nat,s < r.Stations.length→p < r.People.length→rank (s * 12 + p)=rk r (s:Int) (p:Int):=by
 have hp2:=h.p2
 have hs2:=h.s2
 unfold kB
 rw [aI9 hN h,Option.bind_some]
 simp only [bne_self_eq_false,cond_false]
 obtain ⟨s,hs,hI⟩:=tV (ρ:=Int ⊕ ((Nat→Int) × Int)) (fun s9=>kN N r s9.1 s9.2) (fun i s=>s.1=(i:Int)∧∀ a b:Nat,a < i→b < r.People.length→s.2 (a * 12 + b)=rk r (a:Int) (b:Int)) r.Stations.length (fun i s hi hI=>by
  obtain ⟨x,f⟩:=s
  obtain ⟨rfl,hf⟩:=hI
  dsimp only at hf
  have hm:=List.getElem_mem hi
  have hol:=h.or_len hm
  obtain ⟨s2,g0,g1,g2⟩:=tV (ρ:=bK (Int × (Nat→Int)) (Int ⊕ ((Nat→Int) × Int))) (fun s17=>jQ N r (i:Int) r.Stations[i] s17.1 s17.2) (fun j s=>s.1=(j:Int)∧∀ a b:Nat,(a < i∧b < r.People.length) ∨ (a=i∧b < j)→s.2 (a * 12 + b)=rk r (a:Int) (b:Int)) r.People.length (fun j s hj hJ=>by
   obtain ⟨y,g⟩:=s
   obtain ⟨rfl,hg⟩:=hJ
   dsimp only at hg
   have hr1:inR (i:Int) 12=some ():=by unfold inR; rw [if_pos ⟨by omega,by omega⟩]
   have hr2:inR (j:Int) 12=some ():=by unfold inR; rw [if_pos ⟨by omega,by omega⟩]
   refine ⟨(W ((j:Int) + 1),aAp g ((i:Int) * 12 + (j:Int)).toNat (oE r.Stations[i].Order (j:Int))),?_,cI (by omega),fun a b hab=>?_⟩
   ·show jQ N r (i:Int) r.Stations[i] (j:Int) g=_
    unfold jQ
    rw [cM hj,cond_true,aJe (by omega) (by omega),Option.bind_some,hr1,Option.bind_some,hr2,Option.bind_some]
   ·dsimp only
    have e:((i:Int) * 12 + (j:Int)).toNat=i * 12 + j:=by omega
    rw [e]
    unfold aAp
    by_cases hij:a=i∧b=j
    ·obtain ⟨rfl,rfl⟩:=hij
     rw [Nat.beq_refl,cond_true]
     unfold rk sta
     rw [Int.toNat_natCast,← dP hi]
    ·have hne:Nat.beq (a * 12 + b) (i * 12 + j)=false:=by
      cases hb:Nat.beq (a * 12 + b) (i * 12 + j) with
      | false=>rfl
      | true=>have:=Nat.eq_of_beq_eq_true hb; rcases hab with hab | hab <;> omega
     rw [hne,cond_false]
     refine hg a b ?_
     rcases hab with hab | hab
     ·exact Or.inl hab
     ·exact Or.inr ⟨hab.1,by omega⟩) (fun s hJ=>by
   show jQ N r (i:Int) r.Stations[i] s.1 s.2=_
   unfold jQ
   rw [hJ.1,cJ,cond_false,← hJ.1]) r.People.length 0 (0,f) N (by omega) (by omega) ⟨rfl,fun a b hab=>by
    rcases hab with hab | hab
    ·exact hf a b hab.1 hab.2
    ·omega⟩
  refine ⟨(W ((i:Int) + 1),s2.2),?_,cI (by omega),fun a b ha hb=>?_⟩
  ·show kN N r (i:Int) f=_
   unfold kN
   rw [cM hi,cond_true,bS hi,Option.bind_some,g0,Option.bind_some]
   rfl
  ·refine g2 a b ?_
   by_cases h:a < i
   ·exact Or.inl ⟨h,hb⟩
   ·exact Or.inr ⟨by omega,hb⟩) (fun s hI=>by
  show kN N r s.1 s.2=_
  unfold kN
  rw [hI.1,cJ,cond_false,← hI.1]) r.Stations.length 0 (0,fun _=>0) N (by omega) (by omega) ⟨rfl,fun a b ha=>by omega⟩
 refine ⟨s.2,?_,fun a b ha hb=>hI.2 a b ha hb⟩
 rw [hs]
 rfl
end Go.Nilo
