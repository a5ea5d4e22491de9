/-
  What the plain functions compute, in plain arithmetic, part 3. Conditions: what each theorem names.
-/
import Derived.Test.YtakhbnnlhoninacGreatCmL2
set_option linter.unusedSimpArgs false
set_option linter.unusedVariables false
namespace Go.Nilo
def mO (l:List Int) (v:Int):Int:=if l.findIdx (fun e=>v == e) < l.length then ((l.findIdx (fun e=>v == e):Nat):Int) else -1
theorem aEl {N:Nat} {l:List Int} {v:Int} (hl:l.length≤1000000) (hN:l.length < N):dI N l v=some (mO l v):=by
 unfold dI mO
 have:=aB0 (fun e=>v == e) l hl (fun s4=>iU N l v s4) (fun x=>rfl) l.length 0 N (by omega) hN (fun j h hj=>by omega)
 rw [show ((0:Nat):Int)=0 from rfl] at this
 rcases this with ⟨h1,h2⟩ | ⟨h1,h2⟩
 ·rw [if_pos h1,h2]; rfl
 ·rw [if_neg (by omega),h2]; rfl
theorem aCo {l:List Int} {v:Int}:mO l v ≠ -1 ↔ v ∈ l:=by
 unfold mO
 rw [← List.findIdx_lt_length.trans (show (∃ x ∈ l,(v == x)=true) ↔ v ∈ l by
  constructor
  ·rintro ⟨x,h1,h2⟩; rw [beq_iff_eq] at h2; exact h2 ▸ h1
  ·intro h; exact ⟨v,h,by simp⟩)]
 split
 ·rename_i h; constructor
  ·intro _; exact h
  ·intro _; omega
 ·rename_i h; constructor
  ·intro h2; exact absurd rfl h2
  ·intro h2; exact absurd h2 h
theorem sW {l:List Int} {v:Int} (h:v ∈ l):∃ i:Nat,mO l v=(i:Int)∧∃ hi:i < l.length,l[i]=v:=by
 have h1:l.findIdx (fun e=>v == e) < l.length:=List.findIdx_lt_length.2 ⟨v,h,by simp⟩
 refine ⟨l.findIdx (fun e=>v == e),by unfold mO; rw [if_pos h1],h1,?_⟩
 have:=List.findIdx_getElem (w:=h1)
 rw [beq_iff_eq] at this
 exact this.symm
theorem aAa {l:List Int} {v:Int} (h:v ∉ l):mO l v = -1:=Decidable.byContradiction fun hc=>h (aCo.1 hc)
theorem zM {l:List Int} {v w:Int} (hv:v ∈ l) (h:mO l v=mO l w):v=w:=by
 obtain ⟨i,h1,h2,h3⟩:=sW hv
 have hw:w ∈ l:=aCo.1 (by omega)
 obtain ⟨j,k1,k2,k3⟩:=sW hw
 have:i=j:=by omega
 subst this
 rw [← h3,← k3]
theorem wM {l:List Int} (hn:l.Nodup) {i:Nat} (hi:i < l.length):mO l l[i]=(i:Int):=by
 obtain ⟨j,h1,h2,h3⟩:=sW (List.getElem_mem hi)
 have:=(List.getElem_inj hn (h₀:=h2) (h₁:=hi)).1 h3
 omega
theorem yM {N:Nat} {l:List Int} {v:Int} (hl:l.length≤1000000) (hN:l.length < N):dF N l v=some (decide (v ∈ l)):=by
 unfold dF
 rw [aEl hl hN,Option.bind_some]
 congr 1
 rw [decide_eq_decide]
 by_cases h:v ∈ l
 ·obtain ⟨i,h1,-⟩:=sW h
  constructor
  ·intro _; exact h
  ·intro _; omega
 ·rw [aAa h]
  constructor
  ·intro h2; omega
  ·intro h2; exact absurd h2 h
abbrev np (r:aB):Int:=(r.People.length:Int)
abbrev ns (r:aB):Int:=(r.Stations.length:Int)
def pf (r:aB) (p:Int):List Int:=r.People.getD p.toNat []
def sta (r:aB) (s:Int):aC:=r.Stations.getD s.toNat ⟨0,[]⟩
def rk (r:aB) (s p:Int):Int:=mO (sta r s).Order p
structure fW (r:aB):Prop where
 p1:1≤r.People.length
 p2:r.People.length≤12
 s1:1≤r.Stations.length
 s2:r.Stations.length≤12
 pn:∀ l ∈ r.People,l.Nodup
 pr:∀ l ∈ r.People,∀ s ∈ l,0≤s∧s < ns r
 sp:∀ x ∈ r.Stations,1≤x.Places∧x.Places≤12
 sn:∀ x ∈ r.Stations,x.Order.Nodup
 sr:∀ x ∈ r.Stations,∀ p ∈ x.Order,0≤p∧p < np r
theorem sA:∀ {l l':List Int},l.Nodup→(∀ x ∈ l,x ∈ l')→l.length≤l'.length
 | [],_,_,_=>Nat.zero_le _
 | a::l,l',hn,h=>by
  have ha:a ∈ l':=h a List.mem_cons_self
  have hn':=List.nodup_cons.1 hn
  have:=sA (l:=l) (l':=l'.erase a) hn'.2 fun x hx=>by
   refine (List.mem_erase_of_ne ?_).2 (h x (List.mem_cons_of_mem _ hx))
   rintro rfl
   exact hn'.1 hx
  rw [List.length_erase_of_mem ha] at this
  have:0 < l'.length:=List.length_pos_of_mem ha
  rw [List.length_cons]
  omega
theorem uW {l:List Int} {n:Nat} (hn:l.Nodup) (h:∀ x ∈ l,0≤x∧x < (n:Int)):l.length≤n:=by
 have:=sA (l:=l) (l':=(List.range n).map fun i:Nat=>(i:Int)) hn fun x hx=>by
  have:=h x hx
  exact List.mem_map.2 ⟨x.toNat,List.mem_range.2 (by omega),by omega⟩
 simpa using this
theorem fW.pf_len {r:aB} (h:fW r) {l:List Int} (hl:l ∈ r.People):l.length≤12:=Nat.le_trans (uW (h.pn l hl) (h.pr l hl)) h.s2
theorem fW.or_len {r:aB} (h:fW r) {x:aC} (hx:x ∈ r.Stations):x.Order.length≤12:=Nat.le_trans (uW (h.sn x hx) (h.sr x hx)) h.p2
theorem sR {α:Type} {l:List α} {i:Int} (d:α) (h0:0≤i) (h1:i < (l.length:Int)):bH l i=some (l.getD i.toNat d):=by
 obtain ⟨n,rfl⟩:=Int.eq_ofNat_of_zero_le h0
 have hn:n < l.length:=by omega
 rw [eM hn,Int.toNat_natCast,wF (d:=d) hn]
theorem aGt {α:Type} {l:List α} {i:Int} (d:α) (h0:0≤i) (h1:i < (l.length:Int)):l.getD i.toNat d ∈ l:=by
 have hn:i.toNat < l.length:=by omega
 rw [← wF (d:=d) hn]
 exact List.getElem_mem hn
theorem aFr {N:Nat} {l:List Int} (hl:l.length≤1000) (hN:l.length < N) (hn:l.Nodup):pZ N l=some true:=by
 unfold pZ
 have hrun:=aF8 (ρ:=Bool) (fun i:Nat=>(i:Int)) l.length (fun s4=>kF N l s4) (fun i hi=>by
  show kF N l (i:Int)=_
  unfold kF
  have hsub:xE l 0 (i:Int)=some (l.take i):=by
   unfold xE
   rw [if_pos ⟨by omega,by omega,by omega⟩]
   simp
  rw [kH hi,cond_true,eM hi,Option.bind_some,hsub,Option.bind_some,yM (by rw [List.length_take]; omega) (by rw [List.length_take]; omega),Option.bind_some]
  have:decide (l[i] ∈ l.take i)=false:=by
   rw [decide_eq_false_iff_not]
   intro hm
   obtain ⟨j,hj,he⟩:=List.getElem_of_mem hm
   rw [List.length_take] at hj
   rw [List.getElem_take] at he
   have:=(List.getElem_inj hn (h₀:=by omega) (h₁:=hi)).1 he
   omega
  rw [this,cond_false,jZ (by omega)]) (by
  show kF N l _=_
  unfold kF
  rw [iE,cond_false]) hN
 rw [show (0:Int)=((0:Nat):Int) from rfl,hrun]
 rfl
theorem qA {N:Nat} {α:Type} {l:List α} (hl:l.length≤1000) (hN:l.length < N) (b:Int→Option (cK Int Int)) (hb:∀ i (h:i < l.length),b (i:Int)=some (.cont (W ((i:Int) + 1)))) (hend:b (l.length:Int)=some (.brk (l.length:Int))) :
  (Option.bind (Option.bind (Option.bind (bE b N 0) fun x4=>exK x4 (fun _=>some (-1)) some) fun r=>some (decide (0≤r))) fun r=>some (!r))=some true:=by
 have hrun:=aF8 (ρ:=Int) (fun i:Nat=>(i:Int)) l.length b (fun i hi=>by rw [hb i hi,jZ (by omega)]) hend hN
 rw [show (0:Int)=((0:Nat):Int) from rfl,hrun]
 rfl
theorem aGd {N:Nat} (hN:40≤N) {r:aB} (h:fW r):qR N r=some 0:=by
 obtain ⟨p1,p2,s1,s2,pn,pr,sp,sn,sr⟩:=id h
 have hin:∀ {n a b:Int},a≤n→n≤b→aH n a b=true:=fun h1 h2=>by unfold aH; rw [decide_eq_true h1,decide_eq_true h2]; rfl
 unfold qR
 have c1:kO N r.People r=some true:=by
  unfold kO dZ fA
  refine qA (l:=r.People) (by omega) (by omega) _ (fun i hi=>?_) (by unfold dY; rw [iE,cond_false])
  unfold dY
  have hm:=List.getElem_mem hi
  have hlen:=h.pf_len hm
  have e:iI N r.People[i] r=some false:=by
   unfold iI pV nH eO fT
   rw [qA (l:=r.People[i]) (by omega) (by omega) _ (fun j hj=>?_) (by unfold eR; rw [iE,cond_false])]
   ·rfl
   ·unfold eR
    have hs:0≤r.People[i][j]∧r.People[i][j] < (r.Stations.length:Int):=pr _ hm _ (List.getElem_mem hj)
    have:gW r.People[i][j] ⟨r.People,r.Stations⟩=false:=by
     unfold gW lO
     rw [hin hs.1 (by dsimp only; rw [pR (by omega) (by omega)]; omega)]
     rfl
    rw [kH hj,cond_true,eM hj,Option.bind_some,this,cond_false]
  rw [kH hi,cond_true,eM hi,Option.bind_some,e]
  rfl
 have c2:eY N r.Stations r=some true:=by
  unfold eY bX cB
  refine qA (l:=r.Stations) (by omega) (by omega) _ (fun i hi=>?_) (by unfold bV; rw [iE,cond_false])
  unfold bV
  have hm:=List.getElem_mem hi
  have hlen:=h.or_len hm
  have e:eE N r.Stations[i] r=some false:=by
   unfold eE pJ kX dN eQ
   have hpl:=sp _ hm
   rw [hin hpl.1 hpl.2,cond_true,qA (l:=r.Stations[i].Order) (by omega) (by omega) _ (fun j hj=>?_) (by unfold dO; rw [iE,cond_false])]
   ·rfl
   ·unfold dO
    have hs:0≤r.Stations[i].Order[j]∧r.Stations[i].Order[j] < (r.People.length:Int):=sr _ hm _ (List.getElem_mem hj)
    have:fL r.Stations[i].Order[j] ⟨r.People,r.Stations⟩=false:=by
     unfold fL lD
     rw [hin hs.1 (by dsimp only; rw [pR (by omega) (by omega)]; omega)]
     rfl
    rw [kH hj,cond_true,eM hj,Option.bind_some,this,cond_false]
  rw [kH hi,cond_true,eM hi,Option.bind_some,e]
  rfl
 have c3:hC N r.People=some true:=by
  unfold hC dD eB
  refine qA (l:=r.People) (by omega) (by omega) _ (fun i hi=>?_) (by unfold dC; rw [iE,cond_false])
  unfold dC iH
  have hm:=List.getElem_mem hi
  have hlen:=h.pf_len hm
  rw [kH hi,cond_true,eM hi,Option.bind_some,aFr (by omega) (by omega) (pn _ hm)]
  rfl
 have c4:dS N r.Stations=some true:=by
  unfold dS bQ bW
  refine qA (l:=r.Stations) (by omega) (by omega) _ (fun i hi=>?_) (by unfold bR; rw [iE,cond_false])
  unfold bR eS pH
  have hm:=List.getElem_mem hi
  have hlen:=h.or_len hm
  rw [kH hi,cond_true,eM hi,Option.bind_some,aFr (by omega) (by omega) (sn _ hm)]
  rfl
 rw [hin (by omega) (by omega),hin (by omega) (by omega),c1,c2,c3,c4]
 rfl
theorem aGa {N:Nat} (hN:40≤N) {r:aB} (h:fW r):∃ rank:Nat→Int,lH N r=some (.inr (rank,0))∧∀ s p:Nat,s < r.Stations.length→p < r.People.length→rank (s * 12 + p)=rk r (s:Int) (p:Int):=by
 have hp2:=h.p2
 have hs2:=h.s2
 unfold lH
 rw [aGd hN h,Option.bind_some]
 simp only [bne_self_eq_false,cond_false]
 obtain ⟨s,hs,hI⟩:=oH (ρ:=Int ⊕ ((Nat→Int) × Int)) (fun s9=>gZ N r s9.1 s9.2) (fun i s=>s.1=(i:Int)∧∀ a b:Nat,a < i→b < r.People.length→s.2 (a * 12 + b)=rk r (a:Int) (b:Int)) r.Stations.length (fun i s hi hI=>by
  obtain ⟨x,f⟩:=s
  obtain ⟨rfl,hf⟩:=hI
  dsimp only at hf
  have hm:=List.getElem_mem hi
  have hol:=h.or_len hm
  obtain ⟨s2,g0,g1,g2⟩:=oH (ρ:=cK (Int × (Nat→Int)) (Int ⊕ ((Nat→Int) × Int))) (fun s17=>gO N r (i:Int) r.Stations[i] s17.1 s17.2) (fun j s=>s.1=(j:Int)∧∀ a b:Nat,(a < i∧b < r.People.length) ∨ (a=i∧b < j)→s.2 (a * 12 + b)=rk r (a:Int) (b:Int)) r.People.length (fun j s hj hJ=>by
   obtain ⟨y,g⟩:=s
   obtain ⟨rfl,hg⟩:=hJ
   dsimp only at hg
   have hr1:inR (i:Int) 12=some ():=by unfold inR; rw [if_pos ⟨by omega,by omega⟩]
   have hr2:inR (j:Int) 12=some ():=by unfold inR; rw [if_pos ⟨by omega,by omega⟩]
   refine ⟨(W ((j:Int) + 1),wY g ((i:Int) * 12 + (j:Int)).toNat (mO r.Stations[i].Order (j:Int))),?_,jZ (by omega),fun a b hab=>?_⟩
   ·show gO N r (i:Int) r.Stations[i] (j:Int) g=_
    unfold gO
    rw [kH hj,cond_true,aEl (by omega) (by omega),Option.bind_some,hr1,Option.bind_some,hr2,Option.bind_some]
   ·dsimp only
    have e:((i:Int) * 12 + (j:Int)).toNat=i * 12 + j:=by omega
    rw [e]
    unfold wY
    by_cases hij:a=i∧b=j
    ·obtain ⟨rfl,rfl⟩:=hij
     rw [Nat.beq_refl,cond_true]
     unfold rk sta
     rw [Int.toNat_natCast,← wF hi]
    ·have hne:Nat.beq (a * 12 + b) (i * 12 + j)=false:=by
      cases hb:Nat.beq (a * 12 + b) (i * 12 + j) with
      | false=>rfl
      | true=>have:=Nat.eq_of_beq_eq_true hb; rcases hab with hab | hab <;> omega
     rw [hne,cond_false]
     refine hg a b ?_
     rcases hab with hab | hab
     ·exact Or.inl hab
     ·exact Or.inr ⟨hab.1,by omega⟩) (fun s hJ=>by
   show gO N r (i:Int) r.Stations[i] s.1 s.2=_
   unfold gO
   rw [hJ.1,iE,cond_false,← hJ.1]) r.People.length 0 (0,f) N (by omega) (by omega) ⟨rfl,fun a b hab=>by
    rcases hab with hab | hab
    ·exact hf a b hab.1 hab.2
    ·omega⟩
  refine ⟨(W ((i:Int) + 1),s2.2),?_,jZ (by omega),fun a b ha hb=>?_⟩
  ·show gZ N r (i:Int) f=_
   unfold gZ
   rw [kH hi,cond_true,eM hi,Option.bind_some,g0,Option.bind_some]
   rfl
  ·refine g2 a b ?_
   by_cases h:a < i
   ·exact Or.inl ⟨h,hb⟩
   ·exact Or.inr ⟨by omega,hb⟩) (fun s hI=>by
  show gZ N r s.1 s.2=_
  unfold gZ
  rw [hI.1,iE,cond_false,← hI.1]) r.Stations.length 0 (0,fun _=>0) N (by omega) (by omega) ⟨rfl,fun a b ha=>by omega⟩
 refine ⟨s.2,?_,fun a b ha hb=>hI.2 a b ha hb⟩
 rw [hs]
 rfl
end Go.Nilo
