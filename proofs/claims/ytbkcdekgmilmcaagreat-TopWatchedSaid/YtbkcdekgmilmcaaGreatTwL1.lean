/-
  What the plain functions compute, in plain arithmetic, part 1. Conditions: what each theorem names.
-/
import Derived.Test.YtbkcdekgmilmcaaGreatTw5
set_option linter.unusedSimpArgs false
set_option linter.unusedVariables false
namespace Go.Nilo

theorem uW {n:Int} (h1 : -9223372036854775808≤n) (h2:n≤9223372036854775807):W n=n:=by
 unfold W
 rw [IntKind.wrap_i64]
 omega

theorem vY {α:Type} (f:α→Bool) (l:List α) (hl:l.length≤4611686018427387904) (b:Int→Option (bY Int Int))
  (hb:∀ x,b x=cond (decide (x < ((l.length:Nat):Int))) (Option.bind (bE l x) fun e=>cond (f e) (some (.ret x)) (some (.cont (W (x + 1))))) (some (.brk x))) :
  ∀ (m i N:Nat),i + m=l.length→m < N→(∃ k:Int,aX b N (i:Int)=some (.out k)∧0≤k∧(l.drop i).any f=true) ∨ (aX b N (i:Int)=some (.go ((l.length:Nat):Int))∧(l.drop i).any f=false)
 | m,i,0,_,h=>by omega
 | 0,i,N + 1,hi,_=>by
  right
  have hd:l.drop i=[]:=List.drop_eq_nil_of_le (by omega)
  have:(decide ((i:Int) < ((l.length:Nat):Int)))=false:=by simp; omega
  unfold aX
  rw [hb,this,hd]
  simp; omega
 | m + 1,i,N + 1,hi,hN=>by
  have hil:i < l.length:=by omega
  have h1:(decide ((i:Int) < ((l.length:Nat):Int)))=true:=by simp; omega
  have hg:bE l (i:Int)=some l[i]:=by unfold bE; simp [hil]
  have hdr:l.drop i=l[i]::l.drop (i + 1):=List.drop_eq_getElem_cons hil
  unfold aX
  rw [hb,h1,hg,hdr]
  cases hf:f l[i] with
  | true=>left; exact ⟨i,by simp only [cond_true,Option.bind_some,hf],by omega,by rw [List.any_cons,hf]; rfl⟩
  | false=>
   have hw:W ((i:Int) + 1)=((i + 1:Nat):Int):=by rw [uW (by omega) (by omega)]; push_cast; rfl
   rcases vY f l hl b hb m (i + 1) N (by omega) (by omega) with ⟨k,h2,h3,h4⟩ | ⟨h2,h3⟩
   ·left; exact ⟨k,by simp only [cond_true,cond_false,Option.bind_some,hf,hw]; exact h2,h3,by rw [List.any_cons,hf,h4]; rfl⟩
   ·right; exact ⟨by simp only [cond_true,cond_false,Option.bind_some,hf,hw]; exact h2,by rw [List.any_cons,hf,h3]; rfl⟩

theorem xS {a b:Int} (h:0≤a):a.tmod b=a % b:=Int.tmod_eq_emod_of_nonneg h
theorem aMj {a b:Int} (h:0≤a):a.tdiv b=a / b:=Int.tdiv_eq_ediv_of_nonneg h

theorem qA {σ ρ:Type} (b:σ→Option (bY σ ρ)) (Inv:Nat→σ→Prop) (n:Nat) (hstep:∀ i s,i < n→Inv i s→∃ s',b s=some (.cont s')∧Inv (i + 1) s') (hend:∀ s,Inv n s→b s=some (.brk s)) :
  ∀ (m i:Nat) (s:σ) (N:Nat),i + m=n→m < N→Inv i s→∃ s',aX b N s=some (.go s')∧Inv n s'
 | m,i,s,0,_,h,_=>by omega
 | 0,i,s,N + 1,hi,_,hs=>by
  obtain rfl:i=n:=by omega
  exact ⟨s,by unfold aX; rw [hend s hs],hs⟩
 | m + 1,i,s,N + 1,hi,hN,hs=>by
  obtain ⟨s',h1,h2⟩:=hstep i s (by omega) hs
  obtain ⟨s'',h3,h4⟩:=qA b Inv n hstep hend m (i + 1) s' N (by omega) (by omega) h2
  exact ⟨s'',by unfold aX; rw [h1]; exact h3,h4⟩

theorem cS {α:Type} {l:List α} {i:Nat} (h:i < l.length):bE l (i:Int)=some l[i]:=by unfold bE; simp [h]
theorem fF {i:Nat} (h:i < 9223372036854775807):W ((i:Int) + 1)=((i + 1:Nat):Int):=by rw [uW (by omega) (by omega)]; push_cast; rfl

def aD4 {α:Type} (f:α→Int) (l:List α):Int:=(l.map f).sum
theorem aJk {α:Type} (f:α→Int) (l:List α) (i:Nat) (h:i < l.length):aD4 f (l.take (i + 1))=aD4 f (l.take i) + f l[i]:=by
 unfold aD4
 rw [List.take_succ_eq_append_getElem h,List.map_append,List.sum_append,List.map_cons,List.map_nil,List.sum_cons,List.sum_nil,Int.add_zero]

theorem aJp {α:Type} (f:α→Int) (l:List α) (x:α):aD4 f (l++[x])=aD4 f l + f x:=by unfold aD4; simp

theorem kF {n:Nat} (h:n≤1000000):room n=some ():=by unfold room; rw [if_pos h]
theorem aOo {α:Type} {l:List α} {x d:α} {j:Nat} (h:j < l.length):(l++[x]).getD j d=l.getD j d:=by simp [List.getD,List.getElem?_append_left h]
theorem aOw {α:Type} {l:List α} {x d:α}:(l++[x]).getD l.length d=x:=by simp [List.getD]
theorem mB {α:Type} {l:List α} {d:α} {j:Nat} (h:j < l.length):l[j]=l.getD j d:=by simp [List.getD,h]

theorem aFv {α:Type} (f:α→Bool) (l:List α) (hl:l.length≤1000000) (b:Int→Option (bY Int Int))
  (hb:∀ x,b x=cond (decide (x < ((l.length:Nat):Int))) (Option.bind (bE l x) fun e=>cond (f e) (some (.ret x)) (some (.cont (W (x + 1))))) (some (.brk x))) :
  ∀ (m i N:Nat),i + m=l.length→m < N→(∀ j (h:j < l.length),j < i→f l[j]=false) →
   (l.findIdx f < l.length∧aX b N (i:Int)=some (.out ((l.findIdx f:Nat):Int))) ∨ (l.findIdx f=l.length∧aX b N (i:Int)=some (.go ((l.length:Nat):Int)))
 | m,i,0,_,h,_=>by omega
 | 0,i,N + 1,hi,_,hf=>by
  right
  have hall:l.findIdx f=l.length:=by
   rw [List.findIdx_eq_length]
   intro x hx
   obtain ⟨j,hj,rfl⟩:=List.getElem_of_mem hx
   exact hf j hj (by omega)
  have hd:(decide ((i:Int) < ((l.length:Nat):Int)))=false:=by simp; omega
  refine ⟨hall,?_⟩
  unfold aX
  rw [hb,hd]
  simp; omega
 | m + 1,i,N + 1,hi,hN,hf=>by
  have hil:i < l.length:=by omega
  have h1:(decide ((i:Int) < ((l.length:Nat):Int)))=true:=by simp; omega
  unfold aX
  rw [hb,h1,cS hil]
  cases hfi:f l[i] with
  | true=>
   left
   have he:l.findIdx f=i:=(List.findIdx_eq hil).2 ⟨hfi,fun j hj=>hf j (by omega) hj⟩
   exact ⟨by omega,by simp only [cond_true,Option.bind_some,hfi,he]⟩
  | false=>
   have ih:=aFv f l hl b hb m (i + 1) N (by omega) (by omega) (fun j h hj=>by
    by_cases hji:j=i
    ·subst hji; exact hfi
    ·exact hf j h (by omega))
   simp only [cond_true,cond_false,Option.bind_some,hfi,fF (i:=i) (by omega)]
   exact ih

theorem aEu {α ρ:Type} (f:α→Option ρ) (l:List α) (hl:l.length≤1000000) (b:Int→Option (bY Int ρ))
  (hb:∀ (i:Nat) (h:i < l.length),b (i:Int)=some (match f l[i] with | some r=>.ret r | none=>.cont (((i + 1:Nat):Int)))) (hend:b (l.length:Int)=some (.brk (l.length:Int))) :
  ∀ (m i N:Nat),i + m=l.length→m < N→aX b N (i:Int)=some (match (l.drop i).findSome? f with | some r=>.out r | none=>.go (l.length:Int))
 | m,i,0,_,h=>by omega
 | 0,i,N + 1,hi,_=>by
  obtain rfl:i=l.length:=by omega
  unfold aX
  rw [hend,List.drop_eq_nil_of_le (Nat.le_refl _)]
  rfl
 | m + 1,i,N + 1,hi,hN=>by
  have hil:i < l.length:=by omega
  unfold aX
  rw [hb i hil,List.drop_eq_getElem_cons hil,List.findSome?_cons]
  cases hf:f l[i] with
  | some r=>rfl
  | none=>exact aEu f l hl b hb hend m (i + 1) N (by omega) (by omega)
theorem gD {i n:Nat} (h:i < n):decide ((i:Int) < (n:Int))=true:=by simp; omega
theorem gC {n:Nat}:decide ((n:Int) < (n:Int))=false:=by simp
theorem aM5 {α:Type} (l:List α) (hl:l.length≤1000000) (b:Int→Option (bY Int Bool)) (hb:∀ (i:Nat) (_:i < l.length),b (i:Int)=some (.cont (((i + 1:Nat):Int)))) (hend:b (l.length:Int)=some (.brk (l.length:Int))) {N:Nat} (hN:l.length < N) :
  aX b N 0=some (.go (l.length:Int)):=by
 have:=aEu (fun _=>(none:Option Bool)) l hl b (fun i h=>hb i h) hend l.length 0 N (by omega) hN
 rw [show ((0:Nat):Int)=0 from rfl] at this
 rw [this,List.findSome?_eq_none_iff.2 (fun _ _=>rfl)]
def aGu {ρ:Type} (g:Nat→Option ρ):Nat→Nat→Option ρ
 | _,0=>none
 | i,m + 1=>match g i with
  | some r=>some r
  | none=>aGu g (i + 1) m
theorem aPt {σ ρ:Type} (st:Nat→σ) (g:Nat→Option ρ) (n:Nat) (b:σ→Option (bY σ ρ))
  (hb:∀ (i:Nat),i < n→b (st i)=some (match g i with | some r=>.ret r | none=>.cont (st (i + 1)))) (hend:b (st n)=some (.brk (st n))) :
  ∀ (m i N:Nat),i + m=n→m < N→aX b N (st i)=some (match aGu g i m with | some r=>.out r | none=>.go (st n))
 | m,i,0,_,h=>by omega
 | 0,i,N + 1,hi,_=>by
  obtain rfl:i=n:=by omega
  unfold aX
  rw [hend]
  rfl
 | m + 1,i,N + 1,hi,hN=>by
  unfold aX aGu
  rw [hb i (by omega)]
  cases hf:g i with
  | some r=>rfl
  | none=>exact aPt st g n b hb hend m (i + 1) N (by omega) (by omega)
theorem aEo {σ ρ:Type} (st:Nat→σ) (n:Nat) (b:σ→Option (bY σ ρ)) (hb:∀ (i:Nat),i < n→b (st i)=some (.cont (st (i + 1)))) (hend:b (st n)=some (.brk (st n))) {N:Nat} (hN:n < N):aX b N (st 0)=some (.go (st n)):=by
 have hno:∀ (m i:Nat),aGu (fun _=>(none:Option ρ)) i m=none:=by
  intro m
  induction m with
  | zero=>intro i; rfl
  | succ m ih=>intro i; exact ih (i + 1)
 have:=aPt st (fun _=>(none:Option ρ)) n b (fun i h=>hb i h) hend n 0 N (by omega) hN
 rw [this,hno]


theorem aCt {N:Nat} {α:Type} {l:List α} {f ok:α→Bool} (hf:∀ x,f x = !ok x) (hl:l.length < N) (hl':l.length≤1000000) (b:Int→Option (bY Int Int))
  (hb:∀ x,b x=cond (decide (x < ((l.length:Nat):Int))) (Option.bind (bE l x) fun e=>cond (f e) (some (.ret x)) (some (.cont (W (x + 1))))) (some (.brk x))) :
  (Option.bind (Option.bind (Option.bind (aX b N 0) fun x4=>exK x4 (fun _=>some (-1)) some) fun r=>some (decide (0≤r))) fun r=>some (!r))=some (l.all ok):=by
 have hany:l.any f = !l.all ok:=by
  rw [List.all_eq_not_any_not,Bool.not_not]
  congr 1
  exact funext hf
 rcases vY f l (by omega) b hb l.length 0 N (by omega) (by omega) with ⟨k,a1,a2,a3⟩ | ⟨a1,a2⟩
 ·rw [List.drop_zero,hany] at a3
  rw [show ((0:Nat):Int)=0 from rfl] at a1
  rw [a1]
  have:l.all ok=false:=by simpa using a3
  rw [this]
  simp [exK,a2]
 ·rw [List.drop_zero,hany] at a2
  rw [show ((0:Nat):Int)=0 from rfl] at a1
  rw [a1]
  have:l.all ok=true:=by simpa using a2
  rw [this]
  simp [exK]
end Go.Nilo
namespace Go.Nilo
def xO (l:List Int) (v:Int):Int:=if l.findIdx (fun e=>v == e) < l.length then ((l.findIdx (fun e=>v == e):Nat):Int) else -1
theorem aL5 {N:Nat} {l:List Int} {v:Int} (hl:l.length≤1000000) (hN:l.length < N):fY N l v=some (xO l v):=by
 unfold fY xO
 have:=aFv (fun e=>v == e) l hl (fun s4=>fS N l v s4) (fun x=>rfl) l.length 0 N (by omega) hN (fun j h hj=>by omega)
 rw [show ((0:Nat):Int)=0 from rfl] at this
 rcases this with ⟨h1,h2⟩ | ⟨h1,h2⟩
 ·rw [if_pos h1,h2]; rfl
 ·rw [if_neg (by omega),h2]; rfl
theorem aGw {l:List Int} {v:Int}:xO l v ≠ -1 ↔ v ∈ l:=by
 unfold xO
 rw [← List.findIdx_lt_length.trans (show (∃ x ∈ l,(v == x)=true) ↔ v ∈ l by
  constructor
  ·rintro ⟨x,h1,h2⟩; rw [beq_iff_eq] at h2; exact h2 ▸ h1
  ·intro h; exact ⟨v,h,by simp⟩)]
 split
 ·rename_i h; constructor
  ·intro _; exact h
  ·intro _; omega
 ·rename_i h; constructor
  ·intro h2; exact absurd rfl h2
  ·intro h2; exact absurd h2 h
theorem aB5 {l:List Int} {v:Int} (h:v ∈ l):∃ i:Nat,xO l v=(i:Int)∧∃ hi:i < l.length,l[i]=v:=by
 have h1:l.findIdx (fun e=>v == e) < l.length:=List.findIdx_lt_length.2 ⟨v,h,by simp⟩
 refine ⟨l.findIdx (fun e=>v == e),by unfold xO; rw [if_pos h1],h1,?_⟩
 have:=List.findIdx_getElem (w:=h1)
 rw [beq_iff_eq] at this
 exact this.symm
theorem aHj {l:List Int} {v:Int} (h:v ∉ l):xO l v = -1:=Decidable.byContradiction fun hc=>h (aGw.1 hc)
theorem aKt {l:List Int} {v w:Int} (hv:v ∈ l) (h:xO l v=xO l w):v=w:=by
 obtain ⟨i,h1,h2,h3⟩:=aB5 hv
 have hw:w ∈ l:=aGw.1 (by omega)
 obtain ⟨j,k1,k2,k3⟩:=aB5 hw
 have:i=j:=by omega
 subst this
 rw [← h3,← k3]
theorem aJv {l:List Int} (hn:l.Nodup) {i:Nat} (hi:i < l.length):xO l l[i]=(i:Int):=by
 obtain ⟨j,h1,h2,h3⟩:=aB5 (List.getElem_mem hi)
 have:=(List.getElem_inj hn (h₀:=h2) (h₁:=hi)).1 h3
 omega
theorem aDe {N:Nat} {l:List Int} {v:Int} (hl:l.length≤1000000) (hN:l.length < N):bB N l v=some (decide (v ∈ l)):=by
 unfold bB
 rw [aL5 hl hN,Option.bind_some]
 congr 1
 rw [decide_eq_decide]
 by_cases h:v ∈ l
 ·obtain ⟨i,h1,-⟩:=aB5 h
  constructor
  ·intro _; exact h
  ·intro _; omega
 ·rw [aHj h]
  constructor
  ·intro h2; omega
  ·intro h2; exact absurd h2 h
abbrev np (r:aE):Int:=(r.People.length:Int)
abbrev ns (r:aE):Int:=(r.Stations.length:Int)
def pf (r:aE) (p:Int):List Int:=r.People.getD p.toNat []
def sta (r:aE) (s:Int):aJ:=r.Stations.getD s.toNat ⟨0,[]⟩
def rk (r:aE) (s p:Int):Int:=xO (sta r s).Order p
structure rZ (r:aE):Prop where
 p1:1≤r.People.length
 p2:r.People.length≤12
 s1:1≤r.Stations.length
 s2:r.Stations.length≤12
 pn:∀ l ∈ r.People,l.Nodup
 pr:∀ l ∈ r.People,∀ s ∈ l,0≤s∧s < ns r
 sp:∀ x ∈ r.Stations,1≤x.Places∧x.Places≤12
 sn:∀ x ∈ r.Stations,x.Order.Nodup
 sr:∀ x ∈ r.Stations,∀ p ∈ x.Order,0≤p∧p < np r
theorem wC:∀ {l l':List Int},l.Nodup→(∀ x ∈ l,x ∈ l')→l.length≤l'.length
 | [],_,_,_=>Nat.zero_le _
 | a::l,l',hn,h=>by
  have ha:a ∈ l':=h a List.mem_cons_self
  have hn':=List.nodup_cons.1 hn
  have:=wC (l:=l) (l':=l'.erase a) hn'.2 fun x hx=>by
   refine (List.mem_erase_of_ne ?_).2 (h x (List.mem_cons_of_mem _ hx))
   rintro rfl
   exact hn'.1 hx
  rw [List.length_erase_of_mem ha] at this
  have:0 < l'.length:=List.length_pos_of_mem ha
  rw [List.length_cons]
  omega
theorem tX {l:List Int} {n:Nat} (hn:l.Nodup) (h:∀ x ∈ l,0≤x∧x < (n:Int)):l.length≤n:=by
 have:=wC (l:=l) (l':=(List.range n).map fun i:Nat=>(i:Int)) hn fun x hx=>by
  have:=h x hx
  exact List.mem_map.2 ⟨x.toNat,List.mem_range.2 (by omega),by omega⟩
 simpa using this
theorem rZ.pf_len {r:aE} (h:rZ r) {l:List Int} (hl:l ∈ r.People):l.length≤12:=Nat.le_trans (tX (h.pn l hl) (h.pr l hl)) h.s2
theorem rZ.or_len {r:aE} (h:rZ r) {x:aJ} (hx:x ∈ r.Stations):x.Order.length≤12:=Nat.le_trans (tX (h.sn x hx) (h.sr x hx)) h.p2
theorem aBh {α:Type} {l:List α} {i:Int} (d:α) (h0:0≤i) (h1:i < (l.length:Int)):bE l i=some (l.getD i.toNat d):=by
 obtain ⟨n,rfl⟩:=Int.eq_ofNat_of_zero_le h0
 have hn:n < l.length:=by omega
 rw [cS hn,Int.toNat_natCast,mB (d:=d) hn]
theorem aM8 {α:Type} {l:List α} {i:Int} (d:α) (h0:0≤i) (h1:i < (l.length:Int)):l.getD i.toNat d ∈ l:=by
 have hn:i.toNat < l.length:=by omega
 rw [← mB (d:=d) hn]
 exact List.getElem_mem hn
theorem aKw {N:Nat} {l:List Int} (hl:l.length≤1000) (hN:l.length < N) (hn:l.Nodup):tT N l=some true:=by
 unfold tT
 have hrun:=aEo (ρ:=Bool) (fun i:Nat=>(i:Int)) l.length (fun s4=>nW N l s4) (fun i hi=>by
  show nW N l (i:Int)=_
  unfold nW
  have hsub:rH l 0 (i:Int)=some (l.take i):=by
   unfold rH
   rw [if_pos ⟨by omega,by omega,by omega⟩]
   simp
  rw [gD hi,cond_true,cS hi,Option.bind_some,hsub,Option.bind_some,aDe (by rw [List.length_take]; omega) (by rw [List.length_take]; omega),Option.bind_some]
  have:decide (l[i] ∈ l.take i)=false:=by
   rw [decide_eq_false_iff_not]
   intro hm
   obtain ⟨j,hj,he⟩:=List.getElem_of_mem hm
   rw [List.length_take] at hj
   rw [List.getElem_take] at he
   have:=(List.getElem_inj hn (h₀:=by omega) (h₁:=hi)).1 he
   omega
  rw [this,cond_false,fF (by omega)]) (by
  show nW N l _=_
  unfold nW
  rw [gC,cond_false]) hN
 rw [show (0:Int)=((0:Nat):Int) from rfl,hrun]
 rfl
theorem tR {N:Nat} {α:Type} {l:List α} (hl:l.length≤1000) (hN:l.length < N) (b:Int→Option (bY Int Int)) (hb:∀ i (h:i < l.length),b (i:Int)=some (.cont (W ((i:Int) + 1)))) (hend:b (l.length:Int)=some (.brk (l.length:Int))) :
  (Option.bind (Option.bind (Option.bind (aX b N 0) fun x4=>exK x4 (fun _=>some (-1)) some) fun r=>some (decide (0≤r))) fun r=>some (!r))=some true:=by
 have hrun:=aEo (ρ:=Int) (fun i:Nat=>(i:Int)) l.length b (fun i hi=>by rw [hb i hi,fF (by omega)]) hend hN
 rw [show (0:Int)=((0:Nat):Int) from rfl,hrun]
 rfl
theorem aLr {N:Nat} (hN:40≤N) {r:aE} (h:rZ r):uJ N r=some 0:=by
 obtain ⟨p1,p2,s1,s2,pn,pr,sp,sn,sr⟩:=id h
 have hin:∀ {n a b:Int},a≤n→n≤b→jC n a b=true:=fun h1 h2=>by unfold jC; rw [decide_eq_true h1,decide_eq_true h2]; rfl
 unfold uJ
 have c1:oD N r.People r=some true:=by
  unfold oD hH iZ
  refine tR (l:=r.People) (by omega) (by omega) _ (fun i hi=>?_) (by unfold hO; rw [gC,cond_false])
  unfold hO
  have hm:=List.getElem_mem hi
  have hlen:=h.pf_len hm
  have e:mR N r.People[i] r=some false:=by
   unfold mR tO qV gM iL
   rw [tR (l:=r.People[i]) (by omega) (by omega) _ (fun j hj=>?_) (by unfold gL; rw [gC,cond_false])]
   ·rfl
   ·unfold gL
    have hs:0≤r.People[i][j]∧r.People[i][j] < (r.Stations.length:Int):=pr _ hm _ (List.getElem_mem hj)
    have:lC r.People[i][j] ⟨r.People,r.Stations⟩=false:=by
     unfold lC oW
     rw [hin hs.1 (by dsimp only; rw [uW (by omega) (by omega)]; omega)]
     rfl
    rw [gD hj,cond_true,cS hj,Option.bind_some,this,cond_false]
  rw [gD hi,cond_true,cS hi,Option.bind_some,e]
  rfl
 have c2:iW N r.Stations r=some true:=by
  unfold iW dK eG
  refine tR (l:=r.Stations) (by omega) (by omega) _ (fun i hi=>?_) (by unfold dL; rw [gC,cond_false])
  unfold dL
  have hm:=List.getElem_mem hi
  have hlen:=h.or_len hm
  have e:hZ N r.Stations[i] r=some false:=by
   unfold hZ tJ oI gJ iM
   have hpl:=sp _ hm
   rw [hin hpl.1 hpl.2,cond_true,tR (l:=r.Stations[i].Order) (by omega) (by omega) _ (fun j hj=>?_) (by unfold gK; rw [gC,cond_false])]
   ·rfl
   ·unfold gK
    have hs:0≤r.Stations[i].Order[j]∧r.Stations[i].Order[j] < (r.People.length:Int):=sr _ hm _ (List.getElem_mem hj)
    have:jP r.Stations[i].Order[j] ⟨r.People,r.Stations⟩=false:=by
     unfold jP oR
     rw [hin hs.1 (by dsimp only; rw [uW (by omega) (by omega)]; omega)]
     rfl
    rw [gD hj,cond_true,cS hj,Option.bind_some,this,cond_false]
  rw [gD hi,cond_true,cS hi,Option.bind_some,e]
  rfl
 have c3:lJ N r.People=some true:=by
  unfold lJ fR gZ
  refine tR (l:=r.People) (by omega) (by omega) _ (fun i hi=>?_) (by unfold fQ; rw [gC,cond_false])
  unfold fQ mU
  have hm:=List.getElem_mem hi
  have hlen:=h.pf_len hm
  rw [gD hi,cond_true,cS hi,Option.bind_some,aKw (by omega) (by omega) (pn _ hm)]
  rfl
 have c4:gO N r.Stations=some true:=by
  unfold gO cV dM
  refine tR (l:=r.Stations) (by omega) (by omega) _ (fun i hi=>?_) (by unfold cU; rw [gC,cond_false])
  unfold cU iN tP
  have hm:=List.getElem_mem hi
  have hlen:=h.or_len hm
  rw [gD hi,cond_true,cS hi,Option.bind_some,aKw (by omega) (by omega) (sn _ hm)]
  rfl
 rw [hin (by omega) (by omega),hin (by omega) (by omega),c1,c2,c3,c4]
 rfl
theorem opened_ok {N:Nat} (hN:40≤N) {r:aE} (h:rZ r):∃ rank:Nat→Int,sR N r=some (.inr (rank,0))∧∀ s p:Nat,s < r.Stations.length→p < r.People.length→rank (s * 12 + p)=rk r (s:Int) (p:Int):=by
 have hp2:=h.p2
 have hs2:=h.s2
 unfold sR
 rw [aLr hN h,Option.bind_some]
 simp only [bne_self_eq_false,cond_false]
 obtain ⟨s,hs,hI⟩:=qA (ρ:=Int ⊕ ((Nat→Int) × Int)) (fun s9=>lI N r s9.1 s9.2) (fun i s=>s.1=(i:Int)∧∀ a b:Nat,a < i→b < r.People.length→s.2 (a * 12 + b)=rk r (a:Int) (b:Int)) r.Stations.length (fun i s hi hI=>by
  obtain ⟨x,f⟩:=s
  obtain ⟨rfl,hf⟩:=hI
  dsimp only at hf
  have hm:=List.getElem_mem hi
  have hol:=h.or_len hm
  obtain ⟨s2,g0,g1,g2⟩:=qA (ρ:=bY (Int × (Nat→Int)) (Int ⊕ ((Nat→Int) × Int))) (fun s17=>kP N r (i:Int) r.Stations[i] s17.1 s17.2) (fun j s=>s.1=(j:Int)∧∀ a b:Nat,(a < i∧b < r.People.length) ∨ (a=i∧b < j)→s.2 (a * 12 + b)=rk r (a:Int) (b:Int)) r.People.length (fun j s hj hJ=>by
   obtain ⟨y,g⟩:=s
   obtain ⟨rfl,hg⟩:=hJ
   dsimp only at hg
   have hr1:inR (i:Int) 12=some ():=by unfold inR; rw [if_pos ⟨by omega,by omega⟩]
   have hr2:inR (j:Int) 12=some ():=by unfold inR; rw [if_pos ⟨by omega,by omega⟩]
   refine ⟨(W ((j:Int) + 1),rT g ((i:Int) * 12 + (j:Int)).toNat (xO r.Stations[i].Order (j:Int))),?_,fF (by omega),fun a b hab=>?_⟩
   ·show kP N r (i:Int) r.Stations[i] (j:Int) g=_
    unfold kP
    rw [gD hj,cond_true,aL5 (by omega) (by omega),Option.bind_some,hr1,Option.bind_some,hr2,Option.bind_some]
   ·dsimp only
    have e:((i:Int) * 12 + (j:Int)).toNat=i * 12 + j:=by omega
    rw [e]
    unfold rT
    by_cases hij:a=i∧b=j
    ·obtain ⟨rfl,rfl⟩:=hij
     rw [Nat.beq_refl,cond_true]
     unfold rk sta
     rw [Int.toNat_natCast,← mB hi]
    ·have hne:Nat.beq (a * 12 + b) (i * 12 + j)=false:=by
      cases hb:Nat.beq (a * 12 + b) (i * 12 + j) with
      | false=>rfl
      | true=>have:=Nat.eq_of_beq_eq_true hb; rcases hab with hab | hab <;> omega
     rw [hne,cond_false]
     refine hg a b ?_
     rcases hab with hab | hab
     ·exact Or.inl hab
     ·exact Or.inr ⟨hab.1,by omega⟩) (fun s hJ=>by
   show kP N r (i:Int) r.Stations[i] s.1 s.2=_
   unfold kP
   rw [hJ.1,gC,cond_false,← hJ.1]) r.People.length 0 (0,f) N (by omega) (by omega) ⟨rfl,fun a b hab=>by
    rcases hab with hab | hab
    ·exact hf a b hab.1 hab.2
    ·omega⟩
  refine ⟨(W ((i:Int) + 1),s2.2),?_,fF (by omega),fun a b ha hb=>?_⟩
  ·show lI N r (i:Int) f=_
   unfold lI
   rw [gD hi,cond_true,cS hi,Option.bind_some,g0,Option.bind_some]
   rfl
  ·refine g2 a b ?_
   by_cases h:a < i
   ·exact Or.inl ⟨h,hb⟩
   ·exact Or.inr ⟨by omega,hb⟩) (fun s hI=>by
  show lI N r s.1 s.2=_
  unfold lI
  rw [hI.1,gC,cond_false,← hI.1]) r.Stations.length 0 (0,fun _=>0) N (by omega) (by omega) ⟨rfl,fun a b ha=>by omega⟩
 refine ⟨s.2,?_,fun a b ha hb=>hI.2 a b ha hb⟩
 rw [hs]
 rfl
end Go.Nilo
namespace Go.Nilo
def wR (r:aE) (p s:Int):Prop:=p ∈ (sta r s).Order∧s ∈ pf r p
instance (r:aE) (p s:Int):Decidable (wR r p s):=inferInstanceAs (Decidable (_∧_))
structure WOk (r:aE) (rank:Nat→Int):Prop where
 ok:rZ r
 rk:∀ s p:Nat,s < r.Stations.length→p < r.People.length→rank (s * 12 + p)=rk r (s:Int) (p:Int)
abbrev inP (r:aE) (p:Int):Prop:=0≤p∧p < (r.People.length:Int)
abbrev inS (r:aE) (s:Int):Prop:=0≤s∧s < (r.Stations.length:Int)
theorem WOk.get {r:aE} {rank:Nat→Int} (h:WOk r rank) {s p:Int} (hs:inS r s) (hp:inP r p):rank (s * 12 + p).toNat=Go.Nilo.rk r s p:=by
 have:=h.rk s.toNat p.toNat (by omega) (by omega)
 rw [show (s * 12 + p).toNat=s.toNat * 12 + p.toNat by omega,this,Int.toNat_of_nonneg hs.1,Int.toNat_of_nonneg hp.1]
theorem aD5 {i:Int} {n:Nat} (h0:0≤i) (h1:i < (n:Int)):inR i n=some ():=by unfold inR; rw [if_pos ⟨h0,h1⟩]
theorem wO {r:aE} {p:Int} (hp:inP r p):pf r p ∈ r.People:=aM8 [] hp.1 hp.2
theorem aG8 {r:aE} {s:Int} (hs:inS r s):sta r s ∈ r.Stations:=aM8 _ hs.1 hs.2
theorem aH8 {N:Nat} (hN:40≤N) {r:aE} {rank:Nat→Int} (h:WOk r rank) {s p:Int} (hs:inS r s) (hp:inP r p):lE N ⟨r,rank⟩ p s=some (decide (wR r p s)):=by
 have h2:=h.ok.s2
 have h3:=h.ok.p2
 have hl:=h.ok.pf_len (wO hp)
 have hget:bE r.People p=some (pf r p):=aBh [] hp.1 hp.2
 unfold lE
 rw [aD5 hs.1 (by omega),aD5 hp.1 (by omega),Option.bind_some,Option.bind_some]
 dsimp only
 rw [h.get hs hp,hget,Option.bind_some,aDe (by omega) (by omega),Option.bind_some]
 by_cases hm:p ∈ (sta r s).Order
 ·have h1:(Go.Nilo.rk r s p != -1)=true:=by rw [bne_iff_ne]; exact aGw.2 hm
  rw [h1,cond_true,Option.bind_some]
  congr 1
  rw [decide_eq_decide]
  unfold wR
  simp only [hm,true_and]
 ·have h1:(Go.Nilo.rk r s p != -1)=false:=by
   unfold Go.Nilo.rk
   rw [aHj hm]
   rfl
  rw [h1,cond_false,Option.bind_some]
  congr 1
  symm
  rw [decide_eq_false_iff_not]
  exact fun h=>hm h.1
theorem aI4 {N:Nat} (hN:40≤N) {σ:Type} {r:aE} {rank:Nat→Int} (h:WOk r rank) {p than:Int} (hp:inP r p) (y:σ→Int→Option (σ × Bool)) (Inv:Nat→σ→Prop) (Post:σ→Prop)
  (hstep:∀ i (hi:i < (pf r p).length) sg,Inv i sg→(pf r p)[i] ≠ than→wR r p (pf r p)[i]→∃ sg' b,y sg (pf r p)[i]=some (sg',b)∧(b=true→Inv (i + 1) sg')∧(b=false→Post sg'))
  (hskip:∀ i (hi:i < (pf r p).length) sg,Inv i sg→(pf r p)[i] ≠ than→¬ wR r p (pf r p)[i]→Inv (i + 1) sg)
  (hthan:∀ i (hi:i < (pf r p).length) sg,Inv i sg→(pf r p)[i]=than→Post sg)
  (hend:∀ sg,Inv (pf r p).length sg→Post sg) (sg0:σ) (h0:Inv 0 sg0):∃ sg',jY N ⟨r,rank⟩ p than y sg0=some sg'∧Post sg':=by
 have hl:=h.ok.pf_len (wO hp)
 have hpr:=h.ok.pr _ (wO hp)
 have hget:bE r.People p=some (pf r p):=aBh [] hp.1 hp.2
 have key:∀ (m i M:Nat) (sg:σ),i + m=(pf r p).length→m < M→Inv i sg→∃ x,aX (fun s3=>iG N ⟨r,rank⟩ p than y (pf r p) s3.1 s3.2) M ((i:Int),sg)=some x∧∃ sg',exK x (fun s3=>some s3.2) some=some sg'∧Post sg':=by
  intro m
  induction m with
  | zero=>
   intro i M sg hi hM hI
   obtain ⟨M,rfl⟩:∃ M',M=M' + 1:=⟨M - 1,by omega⟩
   obtain rfl:i=(pf r p).length:=by omega
   refine ⟨.go (((pf r p).length:Int),sg),?_,sg,rfl,hend _ hI⟩
   unfold aX
   dsimp only
   unfold iG
   rw [gC,cond_false]
  | succ m ih=>
   intro i M sg hi hM hI
   obtain ⟨M,rfl⟩:∃ M',M=M' + 1:=⟨M - 1,by omega⟩
   have hil:i < (pf r p).length:=by omega
   have hs:=hpr _ (List.getElem_mem hil)
   unfold aX
   dsimp only
   have hb:iG N ⟨r,rank⟩ p than y (pf r p) (i:Int) sg=cond ((pf r p)[i] == than) (some (.ret sg)) (cond (decide (wR r p (pf r p)[i])) (Option.bind (y sg (pf r p)[i]) fun ry=>cond (!ry.2) (some (.ret ry.1)) (some (.cont (((i + 1:Nat):Int),ry.1)))) (some (.cont (((i + 1:Nat):Int),sg)))):=by
    unfold iG jW
    rw [gD hil,cond_true,cS hil,Option.bind_some,aH8 hN h hs hp,Option.bind_some,fF (by omega)]
   rw [hb]
   by_cases ht:(pf r p)[i]=than
   ·rw [beq_iff_eq.2 ht,cond_true]
    exact ⟨_,rfl,sg,rfl,hthan i hil sg hI ht⟩
   ·rw [beq_eq_false_iff_ne.2 ht,cond_false]
    by_cases hpo:wR r p (pf r p)[i]
    ·rw [decide_eq_true hpo,cond_true]
     obtain ⟨sg',b,h1,h2,h3⟩:=hstep i hil sg hI ht hpo
     rw [h1,Option.bind_some]
     cases b with
     | true=>exact ih (i + 1) M sg' (by omega) (by omega) (h2 rfl)
     | false=>exact ⟨_,rfl,sg',rfl,h3 rfl⟩
    ·rw [decide_eq_false hpo,cond_false]
     exact ih (i + 1) M sg (by omega) (by omega) (hskip i hil sg hI ht hpo)
 unfold jY
 dsimp only
 rw [hget,Option.bind_some]
 obtain ⟨x,h1,h2⟩:=key (pf r p).length 0 N sg0 (by omega) (by omega) h0
 rw [show (0:Int)=((0:Nat):Int) from rfl,h1,Option.bind_some]
 exact h2
abbrev Asg (asg:List Int) (p:Int):Int:=asg.getD p.toNat (-1)
abbrev Ks (ks:List (List Int)) (s:Int):List Int:=ks.getD s.toNat []
def jZ (ks:List (List Int)):List (Option (List (Int × Bool))):=ks.map fun k=>some (k.map fun p=>(p,true))
def Ref (l:List aO) (p s:Int):Prop:=(⟨p,s⟩:aO) ∈ l
def Bet (r:aE) (l:List aO) (p s:Int):Prop:=∀ t ∈ pf r p,xO (pf r p) t < xO (pf r p) s→wR r p t→Ref l p t
def Just (r:aE) (ahead:List aO) (x:aO):Prop:=∃ qs:List Int,qs.Nodup∧(sta r x.Station).Places≤(qs.length:Int)∧∀ q ∈ qs,inP r q∧wR r q x.Station∧rk r x.Station q < rk r x.Station x.Person∧Bet r ahead q x.Station
structure SI (r:aE) (done:Int→Prop) (l:List aO) (asg:List Int) (ks:List (List Int)):Prop where
 al:asg.length=r.People.length
 kl:ks.length=r.Stations.length
 mem:∀ s p,inS r s→inP r p→(p ∈ Ks ks s ↔ Asg asg p=s)
 kr:∀ s,inS r s→∀ p ∈ Ks ks s,inP r p
 kn:∀ s,inS r s→(Ks ks s).Nodup
 cap:∀ s,inS r s→((Ks ks s).length:Int)≤(sta r s).Places
 asr:∀ p,inP r p→Asg asg p = -1 ∨ inS r (Asg asg p)
 good:∀ p,inP r p→Asg asg p ≠ -1→wR r p (Asg asg p)∧¬ Ref l p (Asg asg p)∧Bet r l p (Asg asg p)
 free:∀ p,inP r p→done p→Asg asg p = -1→∀ t ∈ pf r p,wR r p t→Ref l p t
 fresh:∀ p,inP r p→¬ done p→Asg asg p = -1
 refp:∀ x ∈ l,inP r x.Person∧inS r x.Station∧wR r x.Person x.Station
 refn:l.Nodup
 just:∀ k (h:k < l.length),Just r (l.take k) l[k]
theorem SI.congr {r:aE} {d d':Int→Prop} {l:List aO} {asg:List Int} {ks:List (List Int)} (h:SI r d l asg ks) (hd:∀ p,inP r p→(d p ↔ d' p)):SI r d' l asg ks :=
 ⟨h.al,h.kl,h.mem,h.kr,h.kn,h.cap,h.asr,h.good,fun p hp h1=>h.free p hp ((hd p hp).2 h1),fun p hp h1=>h.fresh p hp fun e=>h1 ((hd p hp).1 e),h.refp,h.refn,h.just⟩
theorem aIb {α:Type} {l:List α} {i j:Nat} {v d:α} (hi:i < l.length):(l.set i v).getD j d=if j=i then v else l.getD j d:=by
 by_cases h:j=i
 ·subst h
  simp [List.getD,List.getElem?_set,hi]
 ·rw [if_neg h]
  simp [List.getD,List.getElem?_set,Ne.symm h]
theorem aGl {asg:List Int} {p x v:Int} (h0:0≤p) (h1:p < (asg.length:Int)) (hx:0≤x):Asg (asg.set p.toNat v) x=if x=p then v else Asg asg x:=by
 unfold Asg
 rw [aIb (by omega)]
 by_cases h:x=p
 ·subst h; rw [if_pos rfl,if_pos rfl]
 ·rw [if_neg h,if_neg (by omega)]
theorem aJf {ks:List (List Int)} {p x:Int} {v:List Int} (h0:0≤p) (h1:p < (ks.length:Int)) (hx:0≤x):Ks (ks.set p.toNat v) x=if x=p then v else Ks ks x:=by
 unfold Ks
 rw [aIb (by omega)]
 by_cases h:x=p
 ·subst h; rw [if_pos rfl,if_pos rfl]
 ·rw [if_neg h,if_neg (by omega)]
theorem SI.len {r:aE} (hr:rZ r) {d:Int→Prop} {l:List aO} {asg:List Int} {ks:List (List Int)} (h:SI r d l asg ks):l.length≤144:=by
 have h2:=hr.p2
 have h3:=hr.s2
 have hn:(l.map fun x=>x.Station * 12 + x.Person).Nodup:=by
  rw [List.nodup_iff_pairwise_ne,List.pairwise_map]
  refine List.Pairwise.imp_of_mem ?_ (List.nodup_iff_pairwise_ne.1 h.refn)
  intro a b ha hb hne he
  obtain ⟨a1,a2,-⟩:=h.refp a ha
  obtain ⟨b1,b2,-⟩:=h.refp b hb
  apply hne
  cases a; cases b
  dsimp only at *
  congr 1 <;> omega
 have:=tX (n:=144) hn fun x hx=>by
  obtain ⟨a,ha,rfl⟩:=List.mem_map.1 hx
  obtain ⟨a1,a2,-⟩:=h.refp a ha
  omega
 simpa using this
theorem aKr {ks:List (List Int)} {s:Int} (h0:0≤s) (h1:s < (ks.length:Int)):bE (jZ ks) s=some (some ((Ks ks s).map fun p=>(p,true))):=by
 obtain ⟨n,rfl⟩:=Int.eq_ofNat_of_zero_le h0
 have hn:n < ks.length:=by omega
 rw [cS (by unfold jZ; simpa using hn)]
 unfold jZ Ks
 rw [Int.toNat_natCast,← mB hn,List.getElem_map]
theorem aK0 {ks:List (List Int)} {n:Nat} {v:List Int}:(jZ ks).set n (some (v.map fun p=>(p,true)))=jZ (ks.set n v):=by
 unfold jZ
 rw [List.map_set]
theorem aOn {k:List Int} {p:Int} (h:p ∉ k):kE (k.map fun p=>(p,true)) p true=(k++[p]).map fun p=>(p,true):=by
 unfold kE
 rw [if_neg,List.map_append]
 ·rfl
 ·rw [List.any_eq_true]
  rintro ⟨x,hx,he⟩
  obtain ⟨q,hq,rfl⟩:=List.mem_map.1 hx
  rw [beq_iff_eq] at he
  exact h (he ▸ hq)
theorem aKd {q:Int}:∀ k:List Int,aA9 (k.map fun p=>(p,true)) q=(k.erase q).map fun p=>(p,true)
 | []=>rfl
 | a::k=>by
  have ih:=aKd (q:=q) k
  unfold aA9 at ih ⊢
  rw [List.map_cons,List.eraseP_cons,List.erase_cons]
  by_cases h:a=q
  ·subst h; simp
  ·have:(a == q)=false:=by rw [beq_eq_false_iff_ne]; exact h
   simp only [this,Bool.false_eq_true,if_false,cond_false,List.map_cons,ih]
theorem lk_in {k:List Int} {p:Int}:(lkA (k.map fun p=>(p,true)) p).getD false=decide (p ∈ k):=by
 unfold lkA
 induction k with
 | nil=>simp
 | cons a k ih=>
  rw [List.map_cons,List.find?_cons]
  by_cases h:a=p
  ·subst h; simp
  ·have h1:(a == p)=false:=by rw [beq_eq_false_iff_ne]; exact h
   dsimp only
   rw [h1]
   dsimp only
   rw [ih,decide_eq_decide,List.mem_cons]
   constructor
   ·intro h2; exact Or.inr h2
   ·rintro (h2 | h2)
    ·exact absurd h2.symm h
    ·exact h2
theorem aJb {N:Nat} {l:List aO} {p s:Int} (hl:l.length≤1000) (hN:l.length < N):∃ b,cC N l p s=some b∧(b=true ↔ Ref l p s):=by
 unfold cC eH
 have hany:l.any (fun x=>gU x p s)=true ↔ Ref l p s:=by
  rw [List.any_eq_true]
  unfold gU Ref
  constructor
  ·rintro ⟨x,h1,h2⟩
   rw [Bool.and_eq_true,beq_iff_eq,beq_iff_eq] at h2
   obtain ⟨rfl,rfl⟩:=h2
   exact h1
  ·intro h; exact ⟨_,h,by simp⟩
 rcases vY (fun x=>gU x p s) l (by omega) (fun s4=>eV N l p s s4) (fun x=>rfl) l.length 0 N (by omega) hN with ⟨k,h1,h2,h3⟩ | ⟨h1,h2⟩
 ·rw [show ((0:Nat):Int)=0 from rfl] at h1
  rw [List.drop_zero] at h3
  refine ⟨true,?_,by simp only [true_iff]; exact hany.1 h3⟩
  rw [h1]
  simp [exK,h2]
 ·rw [show ((0:Nat):Int)=0 from rfl] at h1
  rw [List.drop_zero] at h2
  refine ⟨false,by rw [h1]; rfl,?_⟩
  rw [← hany,h2]
end Go.Nilo
namespace Go.Nilo
theorem SI.room {r:aE} {d:Int→Prop} {l:List aO} {asg:List Int} {ks:List (List Int)} (h:SI r d l asg ks) {p s:Int} (hp:inP r p) (hs:inS r s) (ha:Asg asg p = -1):p ∉ Ks ks s:=fun hm=>by
 have:=(h.mem s p hs hp).1 hm
 have:=hs.1
 omega
theorem SI.take {r:aE} {d:Int→Prop} {l:List aO} {asg:List Int} {ks:List (List Int)} (h:SI r d l asg ks) {p s:Int} (hp:inP r p) (hs:inS r s) (ha:Asg asg p = -1) (hpo:wR r p s) (hR:¬ Ref l p s) (hB:Bet r l p s)
  (hc:(((Ks ks s++[p]).length:Nat):Int)≤(sta r s).Places):SI r (fun q=>d q ∨ q=p) l (asg.set p.toNat s) (ks.set s.toNat (Ks ks s++[p])):=by
 have hpk:=h.room hp hs ha
 have eA:∀ x,0≤x→Asg (asg.set p.toNat s) x=if x=p then s else Asg asg x:=fun x hx=>aGl hp.1 (by rw [h.al]; exact hp.2) hx
 have eK:∀ x,0≤x→Ks (ks.set s.toNat (Ks ks s++[p])) x=if x=s then Ks ks s++[p] else Ks ks x:=fun x hx=>aJf hs.1 (by rw [h.kl]; exact hs.2) hx
 refine ⟨by rw [List.length_set]; exact h.al,by rw [List.length_set]; exact h.kl,fun t x ht hx=>?_,fun t ht x hx=>?_,fun t ht=>?_,fun t ht=>?_,fun x hx=>?_,fun x hx hne=>?_,fun x hx hd hne=>?_,fun x hx hd=>?_,h.refp,h.refn,h.just⟩
 ·rw [eA x hx.1,eK t ht.1]
  by_cases h1:t=s
  ·subst h1
   rw [if_pos rfl,List.mem_append,List.mem_singleton]
   by_cases h2:x=p
   ·rw [if_pos h2]; exact ⟨fun _=>rfl,fun _=>Or.inr h2⟩
   ·rw [if_neg h2,h.mem t x hs hx]
    exact ⟨fun h3=>h3.resolve_right h2,Or.inl⟩
  ·rw [if_neg h1]
   by_cases h2:x=p
   ·subst h2
    rw [if_pos rfl]
    exact ⟨fun h3=>absurd h3 (h.room hp ht ha),fun h3=>absurd h3.symm h1⟩
   ·rw [if_neg h2]; exact h.mem t x ht hx
 ·rw [eK t ht.1] at hx
  split at hx
  ·rcases List.mem_append.1 hx with h1 | h1
   ·exact h.kr s hs x h1
   ·rw [List.mem_singleton.1 h1]; exact hp
  ·exact h.kr t ht x hx
 ·rw [eK t ht.1]
  split
  ·rw [List.nodup_append]
   exact ⟨h.kn s hs,by simp,fun a haa b hb e=>hpk (by rw [List.mem_singleton.1 hb] at e; exact e ▸ haa)⟩
  ·exact h.kn t ht
 ·rw [eK t ht.1]
  by_cases h1:t=s
  ·subst h1; rw [if_pos rfl]; exact hc
  ·rw [if_neg h1]; exact h.cap t ht
 ·rw [eA x hx.1]
  split
  ·exact Or.inr hs
  ·exact h.asr x hx
 ·rw [eA x hx.1] at hne ⊢
  by_cases h1:x=p
  ·subst h1; rw [if_pos rfl]; exact ⟨hpo,hR,hB⟩
  ·rw [if_neg h1] at hne ⊢; exact h.good x hx hne
 ·rw [eA x hx.1] at hne
  by_cases h1:x=p
  ·rw [if_pos h1] at hne; have:=hs.1; omega
  ·rw [if_neg h1] at hne; exact h.free x hx (hd.resolve_right h1) hne
 ·rw [eA x hx.1,if_neg (fun e=>hd (Or.inr e))]
  exact h.fresh x hx fun e=>hd (Or.inl e)
theorem SI.over {r:aE} {d:Int→Prop} {l:List aO} {asg:List Int} {ks:List (List Int)} (h:SI r d l asg ks) {p s q:Int} (hp:inP r p) (hs:inS r s) (ha:Asg asg p = -1) (hpo:wR r p s) (hR:¬ Ref l p s) (hB:Bet r l p s)
  (hc:(sta r s).Places < (((Ks ks s++[p]).length:Nat):Int)) (hq:q ∈ Ks ks s++[p]) (hm:∀ o ∈ Ks ks s++[p],rk r s o≤rk r s q) :
  inP r q∧SI r (fun x=>(d x ∨ x=p)∧x ≠ q) (l++[⟨q,s⟩]) ((asg.set p.toNat s).set q.toNat (-1)) (ks.set s.toNat ((Ks ks s++[p]).erase q))∧(q=p ∨ Asg asg q ≠ -1):=by
 have hpk:=h.room hp hs ha
 have hin:∀ x ∈ Ks ks s++[p],inP r x∧wR r x s∧¬ Ref l x s∧Bet r l x s:=fun x hx=>by
  rcases List.mem_append.1 hx with h1 | h1
  ·have hx':=h.kr s hs x h1
   have he:=(h.mem s x hs hx').1 h1
   have hg:=h.good x hx' (by have:=hs.1; omega)
   rw [he] at hg
   exact ⟨hx',hg⟩
  ·rw [List.mem_singleton.1 h1]; exact ⟨hp,hpo,hR,hB⟩
 obtain ⟨hqp,hqpo,hqR,hqB⟩:=hin q hq
 have hnd:(Ks ks s++[p]).Nodup:=by
  rw [List.nodup_append]
  exact ⟨h.kn s hs,by simp,fun a haa b hb e=>hpk (by rw [List.mem_singleton.1 hb] at e; exact e ▸ haa)⟩
 have eA:∀ x,0≤x→Asg ((asg.set p.toNat s).set q.toNat (-1)) x=if x=q then -1 else if x=p then s else Asg asg x:=fun x hx=>by
  rw [aGl hqp.1 (by rw [List.length_set,h.al]; exact hqp.2) hx,aGl hp.1 (by rw [h.al]; exact hp.2) hx]
 have eK:∀ x,0≤x→Ks (ks.set s.toNat ((Ks ks s++[p]).erase q)) x=if x=s then (Ks ks s++[p]).erase q else Ks ks x:=fun x hx=>aJf hs.1 (by rw [h.kl]; exact hs.2) hx
 have hme:∀ x,x ∈ (Ks ks s++[p]).erase q ↔ x ≠ q∧x ∈ Ks ks s++[p]:=fun x=>hnd.mem_erase_iff
 have hR2:∀ x t,Ref l x t→Ref (l++[⟨q,s⟩]) x t:=fun x t h1=>List.mem_append_left _ h1
 have hB2:∀ x t,Bet r l x t→Bet r (l++[⟨q,s⟩]) x t:=fun x t h1 u hu hlt hpu=>hR2 _ _ (h1 u hu hlt hpu)
 have hlen:((Ks ks s++[p]).erase q).length=(Ks ks s).length:=by
  rw [List.length_erase_of_mem hq,List.length_append]; rfl
 refine ⟨hqp,⟨by rw [List.length_set,List.length_set]; exact h.al,by rw [List.length_set]; exact h.kl,fun t x ht hx=>?_,fun t ht x hx=>?_,fun t ht=>?_,fun t ht=>?_,fun x hx=>?_,fun x hx hne=>?_,fun x hx hd hne=>?_,fun x hx hd=>?_,fun x hx=>?_,?_,fun k hk=>?_⟩,?_⟩
 ·rw [eA x hx.1,eK t ht.1]
  by_cases h1:t=s
  ·subst h1
   rw [if_pos rfl,hme,List.mem_append,List.mem_singleton]
   by_cases h2:x=q
   ·rw [if_pos h2]
    exact ⟨fun h3=>absurd h2 h3.1,fun h3=>by have:=ht.1; omega⟩
   ·rw [if_neg h2]
    by_cases h3:x=p
    ·rw [if_pos h3]; exact ⟨fun _=>rfl,fun _=>⟨h2,Or.inr h3⟩⟩
    ·rw [if_neg h3,h.mem t x ht hx]
     exact ⟨fun h4=>h4.2.resolve_right h3,fun h4=>⟨h2,Or.inl h4⟩⟩
  ·rw [if_neg h1]
   by_cases h2:x=q
   ·rw [if_pos h2]
    constructor
    ·intro h3
     exfalso
     have h4:=(h.mem t x ht hx).1 h3
     rcases List.mem_append.1 hq with h5 | h5
     ·have h6:=(h.mem s q hs hqp).1 h5
      rw [h2] at h4
      exact h1 (h4.symm.trans h6)
     ·rw [h2,List.mem_singleton.1 h5,ha] at h4
      have:=ht.1
      omega
    ·intro h3; have:=ht.1; omega
   ·rw [if_neg h2]
    by_cases h3:x=p
    ·subst h3
     rw [if_pos rfl]
     exact ⟨fun h4=>absurd h4 (h.room hp ht ha),fun h4=>absurd h4.symm h1⟩
    ·rw [if_neg h3]; exact h.mem t x ht hx
 ·rw [eK t ht.1] at hx
  split at hx
  ·exact (hin x ((hme x).1 hx).2).1
  ·exact h.kr t ht x hx
 ·rw [eK t ht.1]
  split
  ·exact hnd.erase q
  ·exact h.kn t ht
 ·rw [eK t ht.1]
  by_cases h1:t=s
  ·subst h1
   rw [if_pos rfl,hlen]
   exact h.cap t ht
  ·rw [if_neg h1]; exact h.cap t ht
 ·rw [eA x hx.1]
  split
  ·exact Or.inl rfl
  ·split
   ·exact Or.inr hs
   ·exact h.asr x hx
 ·rw [eA x hx.1] at hne ⊢
  by_cases h1:x=q
  ·rw [if_pos h1] at hne; exact absurd rfl hne
  ·rw [if_neg h1] at hne ⊢
   have hnr:∀ t,¬ Ref l x t→¬ Ref (l++[⟨q,s⟩]) x t:=fun t h2 h3=>by
    rcases List.mem_append.1 h3 with h4 | h4
    ·exact h2 h4
    ·have:=List.mem_singleton.1 h4
     injection this with e1 e2
     exact h1 e1
   by_cases h2:x=p
   ·subst h2; rw [if_pos rfl]; exact ⟨hpo,hnr _ hR,hB2 _ _ hB⟩
   ·rw [if_neg h2] at hne ⊢
    obtain ⟨g1,g2,g3⟩:=h.good x hx hne
    exact ⟨g1,hnr _ g2,hB2 _ _ g3⟩
 ·rw [eA x hx.1,if_neg hd.2] at hne
  by_cases h2:x=p
  ·rw [if_pos h2] at hne; have:=hs.1; omega
  ·rw [if_neg h2] at hne
   intro t ht hpt
   exact hR2 _ _ (h.free x hx (hd.1.resolve_right h2) hne t ht hpt)
 ·rw [eA x hx.1]
  by_cases h1:x=q
  ·rw [if_pos h1]
  ·rw [if_neg h1,if_neg (fun e=>hd ⟨Or.inr e,h1⟩)]
   exact h.fresh x hx fun e=>hd ⟨Or.inl e,h1⟩
 ·rcases List.mem_append.1 hx with h1 | h1
  ·exact h.refp x h1
  ·rw [List.mem_singleton.1 h1]; exact ⟨hqp,hs,hqpo⟩
 ·rw [List.nodup_append]
  exact ⟨h.refn,by simp,fun a haa b hb e=>hqR (by rw [List.mem_singleton.1 hb] at e; unfold Ref; rw [← e]; exact haa)⟩
 ·by_cases hkl:k < l.length
  ·rw [List.take_append_of_le_length (by omega),List.getElem_append_left hkl]
   exact h.just k hkl
  ·have hk':k=l.length:=by rw [List.length_append] at hk; simp at hk; omega
   subst hk'
   rw [List.take_append_of_le_length (Nat.le_refl _),List.take_length,List.getElem_append_right (Nat.le_refl _)]
   simp only [Nat.sub_self,List.getElem_cons_zero]
   refine ⟨(Ks ks s++[p]).erase q,hnd.erase q,?_,fun x hx=>?_⟩
   ·rw [hlen]
    rw [List.length_append,List.length_cons,List.length_nil] at hc
    dsimp only
    omega
   ·obtain ⟨h1,h2⟩:=(hme x).1 hx
    obtain ⟨g1,g2,g3,g4⟩:=hin x h2
    refine ⟨g1,g2,?_,g4⟩
    have hle:=hm x h2
    have hne:rk r s x ≠ rk r s q:=fun e=>h1 (aKt g2.1 e)
    dsimp only
    omega
 ·rcases List.mem_append.1 hq with h1 | h1
  ·right
   rw [(h.mem s q hs hqp).1 h1]
   have:=hs.1
   omega
  ·left; exact List.mem_singleton.1 h1
theorem aMq {r:aE} {rank:Nat→Int} (hw:WOk r rank):∀ (N:Nat) (d:Int→Prop) (l:List aO) (asg:List Int) (ks:List (List Int)) (p:Int),SI r d l asg ks→inP r p→¬ d p→400≤N + l.length →
  ∃ l' asg' ks',eE N p ⟨r,rank⟩ l asg (jZ ks)=some (l',asg',jZ ks')∧SI r (fun q=>d q ∨ q=p) l' asg' ks'
 | 0,d,l,asg,ks,p,h,hp,hd,hN=>by have:=h.len hw.ok; omega
 | N + 1,d,l,asg,ks,p,h,hp,hd,hN=>by
  have hll:=h.len hw.ok
  have ha:=h.fresh p hp hd
  have hnp:=hw.ok.p2
  have hns:=hw.ok.s2
  obtain ⟨x3,h1,st,h2,h3⟩:=aI4 (N:=N) (by omega) hw (than:=-1) hp (rY (fun (zz:(List aO) × (List Int) × (List (Option (List (Int × Bool))))) (ix_:Int)=>dG N (eE N) p ⟨r,rank⟩ zz.1 zz.2.1 zz.2.2 ix_))
   (fun i sg=>sg=.go (l,asg,jZ ks)∧∀ j (hj:j < (pf r p).length),j < i→wR r p (pf r p)[j]→Ref l p (pf r p)[j])
   (fun sg=>∃ st:(List aO) × (List Int) × (List (Option (List (Int × Bool)))),(sg=.go st ∨ sg=.ret st)∧∃ l' asg' ks',st=(l',asg',jZ ks')∧SI r (fun q=>d q ∨ q=p) l' asg' ks')
   (fun i hi sg hI hne hpo=>by
    obtain ⟨rfl,hI⟩:=hI
    have hs:inS r (pf r p)[i]:=hw.ok.pr _ (wO hp) _ (List.getElem_mem hi)
    have hnd:=hw.ok.pn _ (wO hp)
    obtain ⟨b,b1,b2⟩:=aJb (N:=N) (l:=l) (p:=p) (s:=(pf r p)[i]) (by omega) (by omega)
    have hB:Bet r l p (pf r p)[i]:=fun t ht hlt hpt=>by
     obtain ⟨j,hj,rfl⟩:=List.getElem_of_mem ht
     rw [aJv hnd hj,aJv hnd hi] at hlt
     exact hI j hj (by omega) hpt
    cases b with
    | true=>
     refine ⟨.go (l,asg,jZ ks),true,?_,fun _=>⟨rfl,fun j hj hji hpj=>?_⟩,(fun e=>by cases e)⟩
     ·unfold rY dG
      dsimp only
      rw [b1,Option.bind_some]
      rfl
     ·by_cases h4:j=i
      ·subst h4; exact b2.1 rfl
      ·exact hI j hj (by omega) hpj
    | false=>
     have hR:¬ Ref l p (pf r p)[i]:=fun e=>by have:=b2.2 e; cases this
     generalize hsx:(pf r p)[i]=s at hs hne hpo b1 hB hR
     have hpk:=h.room hp hs ha
     have hg1:bE asg p=some (Asg asg p):=aBh (-1) hp.1 (by rw [h.al]; exact hp.2)
     have hg2:=aKr (ks:=ks) hs.1 (by rw [h.kl]; exact hs.2)
     have hset:(jZ ks).set s.toNat (some (kE ((Ks ks s).map fun p=>(p,true)) p true))=jZ (ks.set s.toNat (Ks ks s++[p])):=by rw [aOn hpk,aK0]
     have hK:Ks (ks.set s.toNat (Ks ks s++[p])) s=Ks ks s++[p]:=by rw [aJf hs.1 (by rw [h.kl]; exact hs.2) hs.1,if_pos rfl]
     have hg3:bE (jZ (ks.set s.toNat (Ks ks s++[p]))) s=some (some ((Ks ks s++[p]).map fun p=>(p,true))):=by
      rw [aKr hs.1 (by rw [List.length_set,h.kl]; exact hs.2),hK]
     have hg4:bE r.Stations s=some (sta r s):=aBh _ hs.1 hs.2
     have hr3:∀ X,dG N (eE N) p ⟨r,rank⟩ l asg (jZ ks) s=X→rY (fun (zz:(List aO) × (List Int) × (List (Option (List (Int × Bool))))) (ix_:Int)=>dG N (eE N) p ⟨r,rank⟩ zz.1 zz.2.1 zz.2.2 ix_) (.go (l,asg,jZ ks)) s=X.map fun r=>(r,r.on):=fun X hX=>by rw [← hX]; rfl
     by_cases hc:(((Ks ks s++[p]).length:Nat):Int)≤(sta r s).Places
     ·refine ⟨.ret (l,asg.set p.toNat s,jZ (ks.set s.toNat (Ks ks s++[p]))),false,?_,(fun e=>by cases e),fun _=>⟨_,Or.inr rfl,_,_,_,rfl,h.take hp hs ha hpo hR hB hc⟩⟩
      refine (hr3 (some (.ret (l,asg.set p.toNat s,jZ (ks.set s.toNat (Ks ks s++[p]))))) ?_).trans rfl
      unfold dG
      rw [b1,Option.bind_some,cond_false,hg1,Option.bind_some,hg2,Option.bind_some,Option.bind_some,hset,hg3,Option.bind_some,Option.bind_some]
      dsimp only
      rw [hg4,Option.bind_some,List.length_map,decide_eq_true hc,cond_true]
     ·-- the one whom it likes least
      obtain ⟨s14,g1,g2,g3,g4⟩:=qA (ρ:=Rs ((List aO) × (List Int) × (List (Option (List (Int × Bool)))))) (fun s14=>fL N p ⟨r,rank⟩ (jZ ks) s ((Ks ks s).map fun p=>(p,true)) s14.1 s14.2) (fun i s14=>s14.2=(i:Int)∧s14.1 ∈ Ks ks s++[p]∧∀ o ∈ Ks ks s++[p],o < (i:Int)→rk r s o≤rk r s s14.1) r.People.length (fun j s14 hj hJ=>by
       obtain ⟨q,y⟩:=s14
       obtain ⟨rfl,k1,k2⟩:=hJ
       dsimp only at k1 k2
       have hqp:inP r q:=by
        rcases List.mem_append.1 k1 with h5 | h5
        ·exact h.kr s hs q h5
        ·rw [List.mem_singleton.1 h5]; exact hp
       have hjp:inP r (j:Int):=⟨by omega,by omega⟩
       have hb:fL N p ⟨r,rank⟩ (jZ ks) s ((Ks ks s).map fun p=>(p,true)) q (j:Int)=some (.cont (if (j:Int) ∈ Ks ks s++[p]∧rk r s q < rk r s (j:Int) then (j:Int) else q,((j + 1:Nat):Int))):=by
        unfold fL jO
        dsimp only
        rw [gD hj,cond_true,hset,hg3,Option.bind_some,Option.bind_some,lk_in,fF (by omega)]
        by_cases h5:(j:Int) ∈ Ks ks s++[p]
        ·rw [decide_eq_true h5]
         simp only [cond_true]
         rw [aD5 hs.1 (by have:=hs.2; omega),aD5 hjp.1 (by omega),aD5 hqp.1 (by have:=hqp.2; omega)]
         simp only [Option.bind_some,Bool.true_and,hw.get hs hqp,hw.get hs hjp]
         by_cases h6:rk r s q < rk r s (j:Int)
         ·rw [decide_eq_true h6,cond_true,if_pos ⟨h5,h6⟩]
         ·rw [decide_eq_false h6,cond_false,if_neg (fun e=>h6 e.2)]
        ·rw [decide_eq_false h5]
         simp only [cond_false,Option.bind_some,Bool.false_and]
         rw [if_neg (fun e=>h5 e.1)]
       refine ⟨_,hb,rfl,?_,fun o ho hlt=>?_⟩
       ·dsimp only; split
        ·rename_i h5; exact h5.1
        ·exact k1
       ·dsimp only
        by_cases h5:o=(j:Int)
        ·subst h5
         split
         ·exact Int.le_refl _
         ·rename_i h6
          have:¬ rk r s q < rk r s (j:Int):=fun e=>h6 ⟨ho,e⟩
          omega
        ·have:=k2 o ho (by push_cast at hlt; omega)
         split
         ·rename_i h6; omega
         ·exact this) (fun s14 hJ=>by
       show fL N p ⟨r,rank⟩ (jZ ks) s ((Ks ks s).map fun p=>(p,true)) s14.1 s14.2=_
       unfold fL
       dsimp only
       rw [hJ.1,gC,cond_false,← hJ.1]) r.People.length 0 (p,0) N (by omega) (by omega) ⟨rfl,List.mem_append_right _ (List.mem_singleton.2 rfl),fun o ho hlt=>by
        rcases List.mem_append.1 ho with h5 | h5
        ·have:=(h.kr s hs o h5).1; omega
        ·rw [List.mem_singleton.1 h5] at hlt; have:=hp.1; omega⟩
      have hmax:∀ o ∈ Ks ks s++[p],rk r s o≤rk r s s14.1:=fun o ho=>g4 o ho (by
       rcases List.mem_append.1 ho with h5 | h5
       ·exact (h.kr s hs o h5).2
       ·rw [List.mem_singleton.1 h5]; exact hp.2)
      obtain ⟨hqp,hSI,hq2⟩:=h.over hp hs ha hpo hR hB (by omega) g3 hmax
      obtain ⟨l',asg',ks',r1,r2⟩:=aMq hw N _ _ _ _ s14.1 hSI hqp (fun e=>e.2 rfl) (by rw [List.length_append,List.length_cons,List.length_nil]; omega)
      refine ⟨.ret (l',asg',jZ ks'),false,?_,(fun e=>by cases e),fun _=>⟨_,Or.inr rfl,_,_,_,rfl,r2.congr fun x hx=>?_⟩⟩
      ·refine (hr3 (some (.ret (l',asg',jZ ks'))) ?_).trans rfl
       unfold dG
       have hga:bE (asg.set p.toNat s) s14.1=some (Asg (asg.set p.toNat s) s14.1):=aBh (-1) hqp.1 (by rw [List.length_set,h.al]; exact hqp.2)
       have hdel:(jZ (ks.set s.toNat (Ks ks s++[p]))).set s.toNat (some (aA9 ((Ks ks s++[p]).map fun p=>(p,true)) s14.1))=jZ (ks.set s.toNat ((Ks ks s++[p]).erase s14.1)):=by
        rw [aKd,aK0,List.set_set]
       rw [b1,Option.bind_some,cond_false,hg1,Option.bind_some,hg2,Option.bind_some,Option.bind_some,g1,hset,hg3,Option.bind_some,Option.bind_some]
       dsimp only
       rw [hg4,Option.bind_some,List.length_map,decide_eq_false hc,cond_false,Option.bind_some]
       simp only [exK]
       rw [Option.bind_some,Option.bind_some,hga,Option.bind_some,kF (by rw [List.length_append,List.length_cons,List.length_nil]; omega),Option.bind_some,hdel,r1,Option.bind_some]
      ·constructor
       ·rintro (h5 | h5)
        ·exact h5.1
        ·rcases hq2 with h6 | h6
         ·exact Or.inr (h5.trans h6)
         ·left
          rw [h5]
          exact Classical.byContradiction fun h7=>h6 (h.fresh _ hqp h7)
       ·intro h5
        by_cases h6:x=s14.1
        ·exact Or.inr h6
        ·exact Or.inl ⟨h5,h6⟩)
   (fun i hi sg hI _ hnp=>⟨hI.1,fun j hj hji hpj=>by
    by_cases h4:j=i
    ·subst h4; exact absurd hpj hnp
    ·exact hI.2 j hj (by omega) hpj⟩)
   (fun i hi sg hI ht=>by
    have hs:inS r (pf r p)[i]:=hw.ok.pr _ (wO hp) _ (List.getElem_mem hi)
    rw [ht] at hs
    have:=hs.1
    omega)
   (fun sg hI=>by
    refine ⟨_,Or.inl hI.1,_,_,_,rfl,⟨h.al,h.kl,h.mem,h.kr,h.kn,h.cap,h.asr,h.good,fun x hx hd' hne=>?_,fun x hx hd'=>h.fresh x hx fun e=>hd' (Or.inl e),h.refp,h.refn,h.just⟩⟩
    rcases hd' with h4 | h4
    ·exact h.free x hx h4 hne
    ·subst h4
     intro t ht hpt
     obtain ⟨j,hj,rfl⟩:=List.getElem_of_mem ht
     exact hI.2 j hj hj hpt) (.go (l,asg,jZ ks)) ⟨rfl,fun j hj hji=>by omega⟩
  obtain ⟨l',asg',ks',rfl,h4⟩:=h3
  refine ⟨l',asg',ks',?_,h4⟩
  rw [show eE (N + 1) p ⟨r,rank⟩ l asg (jZ ks)=Option.bind (nL N (⟨r,rank⟩:dD) p (-1)) fun r_1=>Option.bind (jY N (⟨r,rank⟩:dD) r_1.1 r_1.2 (rY (fun (zz:(List aO) × (List Int) × (List (Option (List (Int × Bool))))) (ix_:Int)=>dG N (eE N) p ⟨r,rank⟩ zz.1 zz.2.1 zz.2.2 ix_)) (.go (l,asg,jZ ks))) fun x3=>rsK x3 (fun zz3=>some (zz3.1,zz3.2.1,zz3.2.2)) (fun zz3=>some (zz3.1,zz3.2.1,zz3.2.2)) from rfl]
  unfold nL
  rw [Option.bind_some,h1,Option.bind_some]
  rcases h2 with rfl | rfl <;> rfl
end Go.Nilo
namespace Go.Nilo
theorem aOv {α:Type} (A B:List α) (x y:α):(A++x::B).set A.length y=A++y::B:=by
 rw [List.set_append_right _ _ (Nat.le_refl _),Nat.sub_self]; rfl
theorem rep1:bD 700 [-1] 1=some [-1]:=by kernel_rfl
theorem rep2:bD 700 [-1] 2=some [-1,-1]:=by kernel_rfl
theorem rep3:bD 700 [-1] 3=some [-1,-1,-1]:=by kernel_rfl
theorem rep4:bD 700 [-1] 4=some [-1,-1,-1,-1]:=by kernel_rfl
theorem rep5:bD 700 [-1] 5=some [-1,-1,-1,-1,-1]:=by kernel_rfl
theorem rep6:bD 700 [-1] 6=some [-1,-1,-1,-1,-1,-1]:=by kernel_rfl
theorem rep7:bD 700 [-1] 7=some [-1,-1,-1,-1,-1,-1,-1]:=by kernel_rfl
theorem rep8:bD 700 [-1] 8=some [-1,-1,-1,-1,-1,-1,-1,-1]:=by kernel_rfl
theorem rep9:bD 700 [-1] 9=some [-1,-1,-1,-1,-1,-1,-1,-1,-1]:=by kernel_rfl
theorem rep10:bD 700 [-1] 10=some [-1,-1,-1,-1,-1,-1,-1,-1,-1,-1]:=by kernel_rfl
theorem rep11:bD 700 [-1] 11=some [-1,-1,-1,-1,-1,-1,-1,-1,-1,-1,-1]:=by kernel_rfl
theorem rep12:bD 700 [-1] 12=some [-1,-1,-1,-1,-1,-1,-1,-1,-1,-1,-1,-1]:=by kernel_rfl
theorem aLf {k:Nat} (h1:1≤k) (h2:k≤12):bD 700 [-1] (k:Int)=some (List.replicate k (-1)):=by
 have:k=1 ∨ k=2 ∨ k=3 ∨ k=4 ∨ k=5 ∨ k=6 ∨ k=7 ∨ k=8 ∨ k=9 ∨ k=10 ∨ k=11 ∨ k=12:=by omega
 rcases this with rfl | rfl | rfl | rfl | rfl | rfl | rfl | rfl | rfl | rfl | rfl | rfl
 ·exact rep1
 ·exact rep2
 ·exact rep3
 ·exact rep4
 ·exact rep5
 ·exact rep6
 ·exact rep7
 ·exact rep8
 ·exact rep9
 ·exact rep10
 ·exact rep11
 ·exact rep12
abbrev aP8 (N:Nat):Prop:=∀ k:Nat,1≤k→k≤12→bD N [-1] (k:Int)=some (List.replicate k (-1))
def aG6 (r:aE) (asg:List Int) (l:List aO):Prop:=∃ ks,SI r (fun _=>True) l asg ks
theorem aOq {N:Nat} (hN:400≤N) {r:aE} {rank:Nat→Int} (s2:r.Stations.length≤12):aX (fun s5=>eX N ⟨r,rank⟩ s5.1 s5.2) N (0,List.replicate ((r.Stations.length:Nat):Int).toNat (none:Option (List (Int × Bool))))=some (.go ((r.Stations.length:Int),jZ (List.replicate r.Stations.length []))):=by
 have hrun:=aEo (ρ:=List Int × List aO) (fun i:Nat=>((i:Int),List.replicate i (some ([]:List (Int × Bool)))++List.replicate (r.Stations.length - i) none)) r.Stations.length (fun s5=>eX N ⟨r,rank⟩ s5.1 s5.2) (fun i hi=>by
  show eX N ⟨r,rank⟩ (i:Int) (List.replicate i (some ([]:List (Int × Bool)))++List.replicate (r.Stations.length - i) none)=_
  unfold eX
  dsimp only
  have e1:List.replicate (r.Stations.length - i) (none:Option (List (Int × Bool)))=none::List.replicate (r.Stations.length - (i + 1)) none:=by
   rw [show r.Stations.length - i=(r.Stations.length - (i + 1)) + 1 by omega,List.replicate_succ]
  rw [List.length_replicate,Int.toNat_natCast,gD hi,cond_true,e1,cS (by rw [List.length_append,List.length_replicate,List.length_cons]; omega),Option.bind_some,fF (by omega),Int.toNat_natCast]
  have hs:=aOv (List.replicate i (some ([]:List (Int × Bool)))) (List.replicate (r.Stations.length - (i + 1)) none) none (some [])
  rw [List.length_replicate] at hs
  rw [hs,List.replicate_succ',List.append_assoc]
  rfl) (by
  show eX N ⟨r,rank⟩ _ _=_
  unfold eX
  dsimp only
  rw [List.length_replicate,Int.toNat_natCast,gC,cond_false]) (N:=N) (by omega)
 have hhad:List.replicate r.Stations.length (some ([]:List (Int × Bool)))++List.replicate (r.Stations.length - r.Stations.length) none=jZ (List.replicate r.Stations.length []):=by
  rw [Nat.sub_self]
  unfold jZ
  simp
 rw [hhad] at hrun
 have e0:((0:Int),List.replicate ((r.Stations.length:Nat):Int).toNat (none:Option (List (Int × Bool))))=(((0:Nat):Int),List.replicate 0 (some ([]:List (Int × Bool)))++List.replicate (r.Stations.length - 0) none):=by
  rw [Int.toNat_natCast]; rfl
 rw [e0,hrun]
theorem aNj {r:aE} (h:rZ r):SI r (fun q=>q < ((0:Nat):Int)) [] (List.replicate r.People.length (-1)) (List.replicate r.Stations.length []):=by
 have eA:∀ p,Asg (List.replicate r.People.length (-1)) p = -1:=fun p=>by
  unfold Asg
  simp only [List.getD,List.getElem?_replicate]
  split <;> rfl
 have eK:∀ s,Ks (List.replicate r.Stations.length ([]:List Int)) s=[]:=fun s=>by
  unfold Ks
  simp only [List.getD,List.getElem?_replicate]
  split <;> rfl
 refine ⟨by simp,by simp,fun s p hs hp=>?_,fun s hs p hp=>?_,fun s hs=>?_,fun s hs=>?_,fun p hp=>Or.inl (eA p),fun p hp hne=>absurd (eA p) hne,fun p hp hd=>?_,fun p hp _=>eA p,fun x hx=>(List.not_mem_nil hx).elim,List.nodup_nil,fun k hk=>absurd hk (Nat.not_lt_zero k)⟩
 ·rw [eA,eK]
  exact ⟨fun h=>(List.not_mem_nil h).elim,fun h=>by have:=hs.1; omega⟩
 ·rw [eK] at hp; exact (List.not_mem_nil hp).elim
 ·rw [eK]; exact List.nodup_nil
 ·rw [eK]
  have:=(h.sp _ (aG8 hs)).1
  simp only [List.length_nil]
  omega
 ·have:=hp.1; omega
theorem aN8 {N:Nat} (hN:400≤N) {r:aE} {rank:Nat→Int} (hw:WOk r rank):∃ s ks,aX (fun s12=>fK N ⟨r,rank⟩ s12.1 s12.2.1 s12.2.2.1 s12.2.2.2) N (0,List.replicate r.People.length (-1),[],jZ (List.replicate r.Stations.length []))=some (.go s)∧SI r (fun q=>q < (r.People.length:Int)) s.2.2.1 s.2.1 ks:=by
 have p2:=hw.ok.p2
 obtain ⟨s,hs,hI,ks,hS⟩:=qA (ρ:=List Int × List aO) (fun s12=>fK N ⟨r,rank⟩ s12.1 s12.2.1 s12.2.2.1 s12.2.2.2) (fun i s=>s.1=(i:Int)∧∃ ks,s.2.2.2=jZ ks∧SI r (fun q=>q < (i:Int)) s.2.2.1 s.2.1 ks) r.People.length (fun i s hi hI=>by
  obtain ⟨x,asg,l,had⟩:=s
  obtain ⟨rfl,ks,rfl,hS⟩:=hI
  dsimp only at hS
  obtain ⟨l',asg',ks',h1,h2⟩:=aMq hw N _ l asg ks (i:Int) hS ⟨by omega,by omega⟩ (by omega) (by omega)
  refine ⟨(W ((i:Int) + 1),asg',l',jZ ks'),?_,fF (by omega),ks',rfl,h2.congr fun p hp=>?_⟩
  ·show fK N ⟨r,rank⟩ (i:Int) asg l (jZ ks)=_
   unfold fK
   dsimp only
   rw [gD hi,cond_true,h1,Option.bind_some]
  ·push_cast; omega) (fun s hI=>by
  show fK N ⟨r,rank⟩ s.1 s.2.1 s.2.2.1 s.2.2.2=_
  unfold fK
  dsimp only
  rw [hI.1,gC,cond_false,← hI.1]) r.People.length 0 (0,List.replicate r.People.length (-1),[],jZ (List.replicate r.Stations.length [])) N (by omega) (by omega) ⟨rfl,_,rfl,aNj hw.ok⟩
 exact ⟨s,ks,hs,hS.2⟩
theorem exK_at {σ ρ τ:Type} (s:σ) (f:σ→Option τ) (g:ρ→Option τ):exK (Ex.go s) f g=f s:=rfl
theorem aRh {n:Nat} (h:n≤1000000):inM (n:Int)=some ():=by
 unfold inM
 rw [if_pos ⟨by omega,by omega⟩]
theorem aLq {N:Nat} (hN:400≤N) (hrep:aP8 N) {r:aE} {rank:Nat→Int} (hw:WOk r rank):∃ asg l,nK N ⟨r,rank⟩=some (asg,l)∧aG6 r asg l:=by
 obtain ⟨p1,p2,s1,s2,-⟩:=id hw.ok
 obtain ⟨s,ks,hs,hS⟩:=aN8 hN hw
 refine ⟨s.2.1,s.2.2.1,?_,ks,hS.congr fun p hp=>⟨fun _=>trivial,fun _=>hp.2⟩⟩
 unfold nK
 rw [show inM (((⟨r,rank⟩:dD).Roster.Stations.length:Nat):Int)=some () from aRh (show r.Stations.length≤1000000 by omega),Option.bind_some]
 rw [show aX (fun s5=>eX N ⟨r,rank⟩ s5.1 s5.2) N (0,List.replicate (((⟨r,rank⟩:dD).Roster.Stations.length:Nat):Int).toNat (none:Option (List (Int × Bool))))=_ from aOq hN s2,Option.bind_some]
 rw [exK_at]
 rw [show bD N ([(-1)]:List Int) (((⟨r,rank⟩:dD).Roster.People.length:Nat):Int)=some (List.replicate r.People.length (-1)) from hrep _ p1 p2,Option.bind_some,hs,Option.bind_some,exK_at]
theorem aI2 {N:Nat} (hN:400≤N) (hrep:aP8 N) {r:aE} (h:rZ r):∃ asg l,nS N r=some (asg,0)∧aG6 r asg l:=by
 obtain ⟨rank,h1,h2⟩:=opened_ok (N:=N) (by omega) h
 obtain ⟨asg,l,h3,h4⟩:=aLq hN hrep ⟨h,h2⟩
 refine ⟨asg,l,?_,h4⟩
 unfold nS
 rw [h1,Option.bind_some]
 simp only [aAg,bne_self_eq_false,cond_false]
 rw [h3]
 rfl
end Go.Nilo
namespace Go.Nilo
def ppl (r:aE):List Int:=(List.range r.People.length).map fun i:Nat=>(i:Int)
theorem aBp {r:aE} {p:Int}:p ∈ ppl r ↔ inP r p:=by
 unfold ppl
 rw [List.mem_map]
 constructor
 ·rintro ⟨i,h1,rfl⟩
  have:=List.mem_range.1 h1
  exact ⟨by omega,by omega⟩
 ·intro h
  have h0:=h.1
  have h1:=h.2
  exact ⟨p.toNat,List.mem_range.2 (by omega),by omega⟩
theorem aF8 (r:aE):(ppl r).Nodup:=by
 unfold ppl
 rw [List.nodup_iff_pairwise_ne,List.pairwise_map]
 exact (List.nodup_iff_pairwise_ne.1 List.nodup_range).imp fun h=>by omega
def aCv (r:aE) (b:List Int) (s:Int):List Int:=(ppl r).filter fun p=>Asg b p == s
theorem aBs {r:aE} {b:List Int} {s p:Int}:p ∈ aCv r b s ↔ inP r p∧Asg b p=s:=by
 unfold aCv
 rw [List.mem_filter,aBp,beq_iff_eq]
theorem aJq (r:aE) (b:List Int) (s:Int):(aCv r b s).Nodup:=(aF8 r).filter _
structure AOk (r:aE) (b:List Int):Prop where
 len:b.length=r.People.length
 rng:∀ p,inP r p→Asg b p = -1 ∨ inS r (Asg b p)
def Feas (r:aE) (b:List Int):Prop:=∀ p,inP r p→Asg b p ≠ -1→wR r p (Asg b p)∧((aCv r b (Asg b p)).length:Int)≤(sta r (Asg b p)).Places
def bfr (r:aE) (b:List Int) (p s:Int):Prop:=s ∈ pf r p∧(Asg b p ∉ pf r p ∨ xO (pf r p) s < xO (pf r p) (Asg b p))
def Wants (r:aE) (b:List Int) (p s:Int):Prop:=((aCv r b s).length:Int) < (sta r s).Places ∨ ∃ q ∈ aCv r b s,rk r s p < rk r s q
def NoBlk (r:aE) (b:List Int):Prop:=∀ p s,inP r p→bfr r b p s→wR r p s→¬ Wants r b p s
structure aGo (r:aE) (b:List Int):Prop where
 a:AOk r b
 f:Feas r b
 n:NoBlk r b
theorem aMn {r:aE} (h:rZ r) {p s:Int} (hp:inP r p) (hs:s ∈ pf r p):inS r s:=h.pr _ (wO hp) s hs
theorem aFx {r:aE} {l:List aO} {s:Int}:∀ (n:Nat) (p:Int),Ref l p s→(rk r s p + 1).toNat≤n→∃ p',Ref l p' s∧rk r s p'≤rk r s p∧∀ q,Ref l q s→0≤rk r s q→rk r s p'≤rk r s q
 | 0,p,h,hn=>⟨p,h,Int.le_refl _,fun q _ h0=>by omega⟩
 | n + 1,p,h,hn=>by
  by_cases hc:∃ q,Ref l q s∧0≤rk r s q∧rk r s q < rk r s p
  ·obtain ⟨q,h1,h2,h3⟩:=hc
   obtain ⟨p',k1,k2,k3⟩:=aFx (r:=r) n q h1 (by omega)
   exact ⟨p',k1,by omega,k3⟩
  ·refine ⟨p,h,Int.le_refl _,fun q hq h0=>?_⟩
   rcases Int.lt_or_le (rk r s q) (rk r s p) with h4 | h4
   ·exact absurd ⟨q,hq,h0,h4⟩ hc
   ·exact h4
theorem aK4 {r:aE} {p s:Int} (h:wR r p s):0≤rk r s p:=by
 obtain ⟨i,h1,-⟩:=aB5 h.1
 unfold rk
 omega
theorem SI.members {r:aE} {d:Int→Prop} {l:List aO} {asg:List Int} {ks:List (List Int)} (h:SI r d l asg ks) {s:Int} (hs:inS r s):((aCv r asg s).length:Int)≤(sta r s).Places:=by
 have h1:=wC (aJq r asg s) (l':=Ks ks s) fun x hx=>by
  obtain ⟨h1,h2⟩:=aBs.1 hx
  exact (h.mem s x hs h1).2 h2
 have:=h.cap s hs
 omega
theorem SI.full {r:aE} (hr:rZ r) {l:List aO} {asg:List Int} {ks:List (List Int)} (h:SI r (fun _=>True) l asg ks) {p s:Int} (hR:Ref l p s):(sta r s).Places≤((aCv r asg s).length:Int)∧∀ q ∈ aCv r asg s,rk r s q < rk r s p:=by
 obtain ⟨p0,h1,h2,h3⟩:=aFx (r:=r) _ p hR (Nat.le_refl _)
 obtain ⟨k,hk,he⟩:=List.getElem_of_mem h1
 obtain ⟨qs,q1,q2,q3⟩:=h.just k hk
 rw [he] at q2 q3
 dsimp only at q2 q3
 obtain ⟨-,hs,-⟩:=h.refp _ h1
 dsimp only at hs
 have hsub:∀ q ∈ qs,q ∈ aCv r asg s:=fun q hq=>by
  obtain ⟨g1,g2,g3,g4⟩:=q3 q hq
  refine aBs.2 ⟨g1,?_⟩
  have hnr:¬ Ref l q s:=fun e=>by
   have:=h3 q e (aK4 g2)
   omega
  by_cases ha:Asg asg q = -1
  ·exact absurd (h.free q g1 trivial ha s g2.2 g2) hnr
  ·obtain ⟨a1,a2,a3⟩:=h.good q g1 ha
   rcases Int.lt_trichotomy (xO (pf r q) s) (xO (pf r q) (Asg asg q)) with h5 | h5 | h5
   ·exact absurd (a3 s g2.2 h5 g2) hnr
   ·exact (aKt g2.2 h5).symm
   ·exact absurd (List.mem_of_mem_take (g4 _ a1.2 h5 a1)) a2
 have hle:=wC q1 hsub
 have hcap:=h.members hs
 refine ⟨by omega,fun q hq=>?_⟩
 have hin:q ∈ qs:=Decidable.byContradiction fun hc=>by
  have:=wC (l:=q::qs) (List.nodup_cons.2 ⟨hc,q1⟩) (l':=aCv r asg s) fun x hx=>by
   rcases List.mem_cons.1 hx with rfl | hx
   ·exact hq
   ·exact hsub x hx
  rw [List.length_cons] at this
  omega
 have:=(q3 q hin).2.2.1
 omega
theorem aE5 {r:aE} (hr:rZ r) {asg:List Int} {l:List aO} (h:aG6 r asg l):aGo r asg:=by
 obtain ⟨ks,h⟩:=h
 refine ⟨⟨h.al,h.asr⟩,fun p hp hne=>?_,fun p s hp hb hpo hw=>?_⟩
 ·obtain ⟨g1,g2,g3⟩:=h.good p hp hne
  exact ⟨g1,h.members (aMn hr hp g1.2)⟩
 ·have hR:Ref l p s:=by
   by_cases ha:Asg asg p = -1
   ·exact h.free p hp trivial ha s hb.1 hpo
   ·obtain ⟨g1,g2,g3⟩:=h.good p hp ha
    exact g3 s hb.1 (hb.2.resolve_left fun e=>e g1.2) hpo
  obtain ⟨f1,f2⟩:=h.full hr hR
  rcases hw with hw | ⟨q,hq,hlt⟩
  ·omega
  ·have:=f2 q hq; omega
end Go.Nilo
namespace Go.Nilo.Wa
theorem aQc:sU 700=some true:=by decide +kernel
end Go.Nilo.Wa
namespace Go.Nilo.Wa
theorem aHn {l:List Int} {n:Nat} (hn:l.Nodup) (hl:l.length=n) (h:∀ x ∈ l,0≤x∧x < (n:Int)) {s:Int} (hs:0≤s∧s < (n:Int)):s ∈ l:=by
 apply Classical.byContradiction
 intro hc
 have:=tX (l:=s::l) (n:=n) (List.nodup_cons.2 ⟨hc,hn⟩) (fun x hx=>by
  rcases List.mem_cons.1 hx with rfl | hx
  ·exact hs
  ·exact h x hx)
 rw [List.length_cons] at this
 omega
theorem aOx {b:List Int} {p:Int} (h:Asg b p ≠ -1):Asg b p ∈ b:=by
 unfold Asg at h ⊢
 by_cases hp:p.toNat < b.length
 ·rw [← mB hp]
  exact List.getElem_mem hp
 ·exact absurd (by simp [List.getD,List.getElem?_eq_none (show b.length≤p.toNat by omega)]) h
theorem aI1 {r:aE} (hr:rZ r) {b:List Int} (hst:aGo r b) (hwk:r.Stations.length≤r.People.length) (hpf:∀ p,inP r p→∀ s,inS r s→s ∈ pf r p) (hor:∀ s,inS r s→∀ p,inP r p→p ∈ (sta r s).Order)
  (hpl:∀ s,inS r s→(sta r s).Places=1) {s:Int} (hs:inS r s):s ∈ b:=by
 apply Classical.byContradiction
 intro hc
 have hno:∀ p,inP r p→Asg b p ≠ s:=fun p hp he=>by
  have hne:Asg b p ≠ -1:=by rw [he]; have:=hs.1; omega
  have:=aOx hne
  rw [he] at this
  exact hc this
 have hempty:aCv r b s=[]:=by
  apply List.eq_nil_iff_forall_not_mem.2
  intro p hp
  obtain ⟨h1,h2⟩:=aBs.1 hp
  exact hno p h1 h2
 have hin:∀ p,inP r p→inS r (Asg b p):=fun p hp=>by
  rcases hst.a.rng p hp with h1 | h1
  ·exfalso
   refine hst.n p s hp ⟨hpf p hp s hs,.inl ?_⟩ ⟨hor s hs p hp,hpf p hp s hs⟩ (.inl ?_)
   ·rw [h1]
    intro hm
    have:=(aMn hr hp hm).1
    omega
   ·rw [hempty,hpl s hs]
    decide
  ·exact h1
 have hnd:((ppl r).map (Asg b)).Nodup:=by
  rw [List.nodup_iff_pairwise_ne,List.pairwise_map]
  refine (List.Pairwise.and_mem.1 (List.nodup_iff_pairwise_ne.1 (aF8 r))).imp fun {p q} hq he=>?_
  obtain ⟨h1,h2,h3⟩:=hq
  have p1:=aBp.1 h1
  have p2:=aBp.1 h2
  have hi:=hin p p1
  have hf:=(hst.f p p1 (by have:=hi.1; omega)).2
  rw [hpl _ hi] at hf
  have:=wC (l:=[p,q]) (l':=aCv r b (Asg b p)) (by simpa using h3) (fun x hx=>by
   rw [aBs]
   rcases List.mem_cons.1 hx with rfl | hx
   ·exact ⟨p1,rfl⟩
   ·rw [List.mem_singleton.1 hx]
    exact ⟨p2,he.symm⟩)
  rw [List.length_cons,List.length_cons,List.length_nil] at this
  omega
 have hlen:=tX (l:=s::(ppl r).map (Asg b)) (n:=r.Stations.length) (List.nodup_cons.2 ⟨fun hm=>by
  obtain ⟨p,hp,he⟩:=List.mem_map.1 hm
  exact hno p (aBp.1 hp) he,hnd⟩) (fun x hx=>by
  rcases List.mem_cons.1 hx with rfl | hx
  ·exact hs
  ·obtain ⟨p,hp,rfl⟩:=List.mem_map.1 hx
   exact hin p (aBp.1 hp))
 rw [List.length_cons,List.length_map] at hlen
 have:(ppl r).length=r.People.length:=by unfold ppl; simp
 omega
theorem aJo {r:aE} {b:List Int} (hst:aGo r b) {d:Int} (hd:0≤d) (hno:∀ p,inP r p→d ∉ pf r p):d ∉ b:=by
 intro hm
 obtain ⟨i,hi,he⟩:=List.getElem_of_mem hm
 have hp:inP r (i:Int):=⟨by omega,by rw [hst.a.len] at hi; omega⟩
 have ha:Asg b (i:Int)=d:=by
  unfold Asg
  rw [Int.toNat_natCast,← mB hi,he]
 have:=(hst.f _ hp (by rw [ha]; omega)).1.2
 rw [ha] at this
 exact hno _ hp this
theorem aFm {r:aE} (h:rZ r):∃ b,nS 700 r=some (b,0)∧aGo r b∧b.length=r.People.length:=by
 obtain ⟨b,l,h1,h2⟩:=aI2 (N:=700) (by omega) (fun k h1 h2=>aLf h1 h2) h
 have hs:=aE5 h h2
 exact ⟨b,h1,hs,hs.a.len⟩
end Go.Nilo.Wa
