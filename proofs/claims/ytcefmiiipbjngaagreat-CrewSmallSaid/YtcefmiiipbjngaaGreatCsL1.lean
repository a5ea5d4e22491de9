/-
  What the plain functions compute, in plain arithmetic, part 1. Conditions: what each theorem names.
-/
import Derived.Test.YtcefmiiipbjngaaGreatCs5
set_option linter.unusedSimpArgs false
set_option linter.unusedVariables false
namespace Go.Nilo

theorem fB {n:Int} (h1 : -9223372036854775808≤n) (h2:n≤9223372036854775807):W n=n:=by
 unfold W
 rw [IntKind.wrap_i64]
 omega

theorem aCy {α:Type} (f:α→Bool) (l:List α) (hl:l.length≤4611686018427387904) (b:Int→Option (bC Int Int))
  (hb:∀ x,b x=cond (decide (x < ((l.length:Nat):Int))) (Option.bind (aQ l x) λe=>cond (f e) (some (.ret x)) (some (.cont (W (x + 1))))) (some (.brk x))) :
  ∀ (m i N:Nat),i + m=l.length→m < N→(∃ k:Int,aS b N (i:Int)=some (.out k)∧0≤k∧(l.drop i).any f=true) ∨ (aS b N (i:Int)=some (.go ((l.length:Nat):Int))∧(l.drop i).any f=false)
 | m,i,0,_,h=>by omega
 | 0,i,N + 1,hi,_=>by
  right
  have hd:l.drop i=[]:=List.drop_eq_nil_of_le (by omega)
  have:(decide ((i:Int) < ((l.length:Nat):Int)))=false:=by simp; omega
  unfold aS
  rw [hb,this,hd]
  simp; omega
 | m + 1,i,N + 1,hi,hN=>by
  have hil:i < l.length:=by omega
  have h1:(decide ((i:Int) < ((l.length:Nat):Int)))=true:=by simp; omega
  have hg:aQ l (i:Int)=some l[i]:=by unfold aQ; simp [hil]
  have hdr:l.drop i=l[i]::l.drop (i + 1):=List.drop_eq_getElem_cons hil
  unfold aS
  rw [hb,h1,hg,hdr]
  cases hf:f l[i] with
  | true=>left; exact ⟨i,by simp only [cond_true,Option.bind_some,hf],by omega,by rw [List.any_cons,hf]; rfl⟩
  | false=>
   have hw:W ((i:Int) + 1)=((i + 1:Nat):Int):=by rw [fB (by omega) (by omega)]; push_cast; rfl
   rcases aCy f l hl b hb m (i + 1) N (by omega) (by omega) with ⟨k,h2,h3,h4⟩ | ⟨h2,h3⟩
   ·left; exact ⟨k,by simp only [cond_true,cond_false,Option.bind_some,hf,hw]; exact h2,h3,by rw [List.any_cons,hf,h4]; rfl⟩
   ·right; exact ⟨by simp only [cond_true,cond_false,Option.bind_some,hf,hw]; exact h2,by rw [List.any_cons,hf,h3]; rfl⟩

theorem aQh {a b:Int} (h:0≤a):a.tmod b=a % b:=Int.tmod_eq_emod_of_nonneg h
theorem aG1 {a b:Int} (h:0≤a):a.tdiv b=a / b:=Int.tdiv_eq_ediv_of_nonneg h

theorem tY {σ ρ:Type} (b:σ→Option (bC σ ρ)) (Inv:Nat→σ→Prop) (n:Nat) (hstep:∀ i s,i < n→Inv i s→∃ s',b s=some (.cont s')∧Inv (i + 1) s') (hend:∀ s,Inv n s→b s=some (.brk s)) :
  ∀ (m i:Nat) (s:σ) (N:Nat),i + m=n→m < N→Inv i s→∃ s',aS b N s=some (.go s')∧Inv n s'
 | m,i,s,0,_,h,_=>by omega
 | 0,i,s,N + 1,hi,_,hs=>by
  obtain rfl:i=n:=by omega
  exact ⟨s,by unfold aS; rw [hend s hs],hs⟩
 | m + 1,i,s,N + 1,hi,hN,hs=>by
  obtain ⟨s',h1,h2⟩:=hstep i s (by omega) hs
  obtain ⟨s'',h3,h4⟩:=tY b Inv n hstep hend m (i + 1) s' N (by omega) (by omega) h2
  exact ⟨s'',by unfold aS; rw [h1]; exact h3,h4⟩

theorem bF {α:Type} {l:List α} {i:Nat} (h:i < l.length):aQ l (i:Int)=some l[i]:=by unfold aQ; simp [h]
theorem bP {i:Nat} (h:i < 9223372036854775807):W ((i:Int) + 1)=((i + 1:Nat):Int):=by rw [fB (by omega) (by omega)]; push_cast; rfl

def cI {α:Type} (f:α→Int) (l:List α):Int:=(l.map f).sum
theorem yZ {α:Type} (f:α→Int) (l:List α) (i:Nat) (h:i < l.length):cI f (l.take (i + 1))=cI f (l.take i) + f l[i]:=by
 unfold cI
 rw [List.take_succ_eq_append_getElem h,List.map_append,List.sum_append,List.map_cons,List.map_nil,List.sum_cons,List.sum_nil,Int.add_zero]

theorem aL4 {α:Type} (f:α→Int) (l:List α) (x:α):cI f (l++[x])=cI f l + f x:=by unfold cI; simp

theorem fQ {n:Nat} (h:n≤1000000):room n=some ():=by unfold room; rw [if_pos h]
theorem aFj {l:List Int} {i:Nat} (h:i < l.length):aQ l (i:Int)=some (l.getD i 0):=by rw [bF h]; simp [List.getD,h]

theorem aRh {α:Type} {l:List α} {x d:α}:(l++[x]).getD l.length d=x:=by simp [List.getD]
theorem cP {α:Type} {l:List α} {d:α} {j:Nat} (h:j < l.length):l[j]=l.getD j d:=by simp [List.getD,h]

theorem aCm {a b A B:Int} (h0:0≤a) (h1:0≤b) (h2:a≤A) (h3:b≤B):0≤a * b∧a * b≤A * B :=
 ⟨Int.mul_nonneg h0 h1,Int.mul_le_mul h2 h3 h1 (by omega)⟩


theorem aFh {α:Type} (f:α→Bool) (l:List α) (hl:l.length≤1000000) (b:Int→Option (bC Int Int))
  (hb:∀ x,b x=cond (decide (x < ((l.length:Nat):Int))) (Option.bind (aQ l x) λe=>cond (f e) (some (.ret x)) (some (.cont (W (x + 1))))) (some (.brk x))) :
  ∀ (m i N:Nat),i + m=l.length→m < N→(∀ j (h:j < l.length),j < i→f l[j]=false) →
   (l.findIdx f < l.length∧aS b N (i:Int)=some (.out ((l.findIdx f:Nat):Int))) ∨ (l.findIdx f=l.length∧aS b N (i:Int)=some (.go ((l.length:Nat):Int)))
 | m,i,0,_,h,_=>by omega
 | 0,i,N + 1,hi,_,hf=>by
  right
  have hall:l.findIdx f=l.length:=by
   rw [List.findIdx_eq_length]
   intro x hx
   obtain ⟨j,hj,rfl⟩:=List.getElem_of_mem hx
   exact hf j hj (by omega)
  have hd:(decide ((i:Int) < ((l.length:Nat):Int)))=false:=by simp; omega
  refine ⟨hall,?_⟩
  unfold aS
  rw [hb,hd]
  simp; omega
 | m + 1,i,N + 1,hi,hN,hf=>by
  have hil:i < l.length:=by omega
  have h1:(decide ((i:Int) < ((l.length:Nat):Int)))=true:=by simp; omega
  unfold aS
  rw [hb,h1,bF hil]
  cases hfi:f l[i] with
  | true=>
   left
   have he:l.findIdx f=i:=(List.findIdx_eq hil).2 ⟨hfi,λj hj=>hf j (by omega) hj⟩
   exact ⟨by omega,by simp only [cond_true,Option.bind_some,hfi,he]⟩
  | false=>
   have ih:=aFh f l hl b hb m (i + 1) N (by omega) (by omega) (λj h hj=>by
    by_cases hji:j=i
    ·subst hji; exact hfi
    ·exact hf j h (by omega))
   simp only [cond_true,cond_false,Option.bind_some,hfi,bP (i:=i) (by omega)]
   exact ih

theorem aLn {α ρ:Type} (f:α→Option ρ) (l:List α) (hl:l.length≤1000000) (b:Int→Option (bC Int ρ))
  (hb:∀ (i:Nat) (h:i < l.length),b (i:Int)=some (match f l[i] with | some r=>.ret r | none=>.cont (((i + 1:Nat):Int)))) (hend:b (l.length:Int)=some (.brk (l.length:Int))) :
  ∀ (m i N:Nat),i + m=l.length→m < N→aS b N (i:Int)=some (match (l.drop i).findSome? f with | some r=>.out r | none=>.go (l.length:Int))
 | m,i,0,_,h=>by omega
 | 0,i,N + 1,hi,_=>by
  obtain rfl:i=l.length:=by omega
  unfold aS
  rw [hend,List.drop_eq_nil_of_le (Nat.le_refl _)]
  rfl
 | m + 1,i,N + 1,hi,hN=>by
  have hil:i < l.length:=by omega
  unfold aS
  rw [hb i hil,List.drop_eq_getElem_cons hil,List.findSome?_cons]
  cases hf:f l[i] with
  | some r=>rfl
  | none=>exact aLn f l hl b hb hend m (i + 1) N (by omega) (by omega)
theorem bW {i n:Nat} (h:i < n):decide ((i:Int) < (n:Int))=true:=by simp; omega
theorem bU {n:Nat}:decide ((n:Int) < (n:Int))=false:=by simp
theorem vE {α:Type} (l:List α) (hl:l.length≤1000000) (b:Int→Option (bC Int Bool)) (hb:∀ (i:Nat) (_:i < l.length),b (i:Int)=some (.cont (((i + 1:Nat):Int)))) (hend:b (l.length:Int)=some (.brk (l.length:Int))) {N:Nat} (hN:l.length < N) :
  aS b N 0=some (.go (l.length:Int)):=by
 have:=aLn (λ_=>(none:Option Bool)) l hl b (λi h=>hb i h) hend l.length 0 N (by omega) hN
 rw [show ((0:Nat):Int)=0 from rfl] at this
 rw [this,List.findSome?_eq_none_iff.2 (λ_ _=>rfl)]
def eM {ρ:Type} (g:Nat→Option ρ):Nat→Nat→Option ρ
 | _,0=>none
 | i,m + 1=>match g i with
  | some r=>some r
  | none=>eM g (i + 1) m
theorem tP {σ ρ:Type} (st:Nat→σ) (g:Nat→Option ρ) (n:Nat) (b:σ→Option (bC σ ρ))
  (hb:∀ (i:Nat),i < n→b (st i)=some (match g i with | some r=>.ret r | none=>.cont (st (i + 1)))) (hend:b (st n)=some (.brk (st n))) :
  ∀ (m i N:Nat),i + m=n→m < N→aS b N (st i)=some (match eM g i m with | some r=>.out r | none=>.go (st n))
 | m,i,0,_,h=>by omega
 | 0,i,N + 1,hi,_=>by
  obtain rfl:i=n:=by omega
  unfold aS
  rw [hend]
  rfl
 | m + 1,i,N + 1,hi,hN=>by
  unfold aS eM
  rw [hb i (by omega)]
  cases hf:g i with
  | some r=>rfl
  | none=>exact tP st g n b hb hend m (i + 1) N (by omega) (by omega)
theorem rK {σ ρ:Type} (st:Nat→σ) (n:Nat) (b:σ→Option (bC σ ρ)) (hb:∀ (i:Nat),i < n→b (st i)=some (.cont (st (i + 1)))) (hend:b (st n)=some (.brk (st n))) {N:Nat} (hN:n < N):aS b N (st 0)=some (.go (st n)):=by
 have hno:∀ (m i:Nat),eM (λ_=>(none:Option ρ)) i m=none:=by
  intro m
  induction m with
  | zero=>intro i; rfl
  | succ m ih=>intro i; exact ih (i + 1)
 have:=tP st (λ_=>(none:Option ρ)) n b (λi h=>hb i h) hend n 0 N (by omega) hN
 rw [this,hno]


theorem rU {N:Nat} {α:Type} {l:List α} {f ok:α→Bool} (hf:∀ x,f x = !ok x) (hl:l.length < N) (hl':l.length≤1000000) (b:Int→Option (bC Int Int))
  (hb:∀ x,b x=cond (decide (x < ((l.length:Nat):Int))) (Option.bind (aQ l x) λe=>cond (f e) (some (.ret x)) (some (.cont (W (x + 1))))) (some (.brk x))) :
  (Option.bind (Option.bind (Option.bind (aS b N 0) λx4=>exK x4 (λ_=>some (-1)) some) λr=>some (decide (0≤r))) λr=>some (!r))=some (l.all ok):=by
 have hany:l.any f = !l.all ok:=by
  rw [List.all_eq_not_any_not,Bool.not_not]
  congr 1
  exact funext hf
 rcases aCy f l (by omega) b hb l.length 0 N (by omega) (by omega) with ⟨k,a1,a2,a3⟩ | ⟨a1,a2⟩
 ·rw [List.drop_zero,hany] at a3
  rw [show ((0:Nat):Int)=0 from rfl] at a1
  rw [a1]
  have:l.all ok=false:=by simpa using a3
  rw [this]
  simp [exK,a2]
 ·rw [List.drop_zero,hany] at a2
  rw [show ((0:Nat):Int)=0 from rfl] at a1
  rw [a1]
  have:l.all ok=true:=by simpa using a2
  rw [this]
  simp [exK]
theorem oG {α ρ:Type} {p:α→Bool} {d:α} {l:List α} {v:ρ}:∀ n i,i + n=l.length→eM (λj=>cond (p (l.getD j d)) none (some v)) i n=cond ((l.drop i).all p) none (some v)
 | 0,i,h=>by
  rw [List.drop_eq_nil_of_le (by omega)]
  rfl
 | n + 1,i,h=>by
  have hi:i < l.length:=by omega
  unfold eM
  rw [List.drop_eq_getElem_cons hi,List.all_cons,← cP (d:=d) hi]
  cases hp:p l[i] with
  | true=>
   rw [cond_true,Bool.true_and]
   exact oG n (i + 1) (by omega)
  | false=>rfl
theorem aRm {N:Nat} {ρ:Type} {l:List Int} {bad ok:Int→Bool} {v:ρ} (hf:∀ x,bad x = !ok x) (hl:l.length < N) (hl':l.length≤1000000) (b:Int→Option (bC Int ρ))
  (hb:∀ x,b x=cond (decide (x < ((l.length:Nat):Int))) (Option.bind (aQ l x) λe=>cond (bad e) (some (.ret v)) (some (.cont (W (x + 1))))) (some (.brk x))) :
  aS b N 0=some (cond (l.all ok) (.go (l.length:Int)) (.out v)):=by
 have hs:=tP (ρ:=ρ) (λi:Nat=>(i:Int)) (λj=>cond (ok (l.getD j 0)) none (some v)) l.length b (λi hi=>by
  rw [hb,bW hi,cond_true,bF hi,Option.bind_some,bP (by omega),hf,cP (d:=(0:Int)) hi]
  cases ok (l.getD i 0) <;> rfl) (by rw [hb,bU,cond_false]) l.length 0 N (by omega) (by omega)
 show aS b N ((0:Nat):Int)=_
 rw [hs,oG l.length 0 (by omega),List.drop_zero]
 cases l.all ok <;> rfl
def inB (n a b:Int):Bool:=decide (a≤n) && decide (n≤b)
end Go.Nilo
namespace Go.Nilo
theorem aRu:aIq [0,0,5]=some [0,0,5]:=by
 unfold aIq
 rw [if_pos (by decide)]
 simp [List.mergeSort]
theorem aO0:lW 5000 ⟨50,100,250,3000,[⟨0,10,⟨80,90⟩⟩,⟨5,5,⟨160,180⟩⟩]⟩=some [0,5]:=by
 unfold lW
 have h2:aS (λs5=>gF 5000 ⟨50,100,250,3000,[⟨0,10,⟨80,90⟩⟩,⟨5,5,⟨160,180⟩⟩]⟩ s5.1 s5.2) 5000 (([0]:List Int),0)=some (.go ([0,0,5],2)):=by rfl
 rw [h2,Option.bind_some]
 have h3:nQ 5000 [0,0,5]=some [0,0,5]:=by rfl
 simp only [exK,h3,Option.bind_some,lB,aRu]
 decide +kernel
theorem aN7:oN 5000 ⟨50,100,250,3000,[⟨0,10,⟨80,90⟩⟩,⟨5,5,⟨160,180⟩⟩]⟩=some (5,-1,0):=by
 unfold oN
 have h1:fF 5000 ⟨50,100,250,3000,[⟨0,10,⟨80,90⟩⟩,⟨5,5,⟨160,180⟩⟩]⟩=some 0:=by decide +kernel
 rw [h1,Option.bind_some]
 rw [show ((0:Int) != 0)=false from rfl,cond_false,aO0,Option.bind_some]
 decide +kernel
theorem oY:gC 5000=some true:=by
 unfold gC
 have h3:uE 5000=some ⟨50,100,250,3000,[⟨0,10,⟨80,90⟩⟩,⟨5,5,⟨160,180⟩⟩]⟩:=by rfl
 simp only [h3,Option.bind_some,aN7]
 decide +kernel
end Go.Nilo
namespace Go.Nilo
def sQ (l:List Int) (v:Int):Int:=if l.findIdx (λe=>v == e) < l.length then ((l.findIdx (λe=>v == e):Nat):Int) else -1
theorem aPo {N:Nat} {l:List Int} {v:Int} (hl:l.length≤1000000) (hN:l.length < N):jX N l v=some (sQ l v):=by
 unfold jX sQ
 have:=aFh (λe=>v == e) l hl (λs4=>tS N l v s4) (λx=>rfl) l.length 0 N (by omega) hN (λj h hj=>by omega)
 rw [show ((0:Nat):Int)=0 from rfl] at this
 rcases this with ⟨h1,h2⟩ | ⟨h1,h2⟩
 ·rw [if_pos h1,h2]; rfl
 ·rw [if_neg (by omega),h2]; rfl
theorem aGq {l:List Int} {v:Int}:sQ l v ≠ -1 ↔ v ∈ l:=by
 unfold sQ
 rw [← List.findIdx_lt_length.trans (show (∃ x ∈ l,(v == x)=true) ↔ v ∈ l by
  constructor
  ·rintro ⟨x,h1,h2⟩; rw [beq_iff_eq] at h2; exact h2 ▸ h1
  ·intro h; exact ⟨v,h,by simp⟩)]
 split
 ·rename_i h; constructor
  ·intro _; exact h
  ·intro _; omega
 ·rename_i h; constructor
  ·intro h2; exact absurd rfl h2
  ·intro h2; exact absurd h2 h
theorem aC8 {l:List Int} {v:Int} (h:v ∈ l):∃ i:Nat,sQ l v=(i:Int)∧∃ hi:i < l.length,l[i]=v:=by
 have h1:l.findIdx (λe=>v == e) < l.length:=List.findIdx_lt_length.2 ⟨v,h,by simp⟩
 refine ⟨l.findIdx (λe=>v == e),by unfold sQ; rw [if_pos h1],h1,?_⟩
 have:=List.findIdx_getElem (w:=h1)
 rw [beq_iff_eq] at this
 exact this.symm
theorem aHb {l:List Int} {v:Int} (h:v ∉ l):sQ l v = -1:=Decidable.byContradiction λhc=>h (aGq.1 hc)
theorem aGu {l:List Int} {v w:Int} (hv:v ∈ l) (h:sQ l v=sQ l w):v=w:=by
 obtain ⟨i,h1,h2,h3⟩:=aC8 hv
 have hw:w ∈ l:=aGq.1 (by omega)
 obtain ⟨j,k1,k2,k3⟩:=aC8 hw
 have:i=j:=by omega
 subst this
 rw [← h3,← k3]
theorem jU {l:List Int} (hn:l.Nodup) {i:Nat} (hi:i < l.length):sQ l l[i]=(i:Int):=by
 obtain ⟨j,h1,h2,h3⟩:=aC8 (List.getElem_mem hi)
 have:=(List.getElem_inj hn (h₀:=h2) (h₁:=hi)).1 h3
 omega
theorem aCt {N:Nat} {l:List Int} {v:Int} (hl:l.length≤1000000) (hN:l.length < N):hP N l v=some (decide (v ∈ l)):=by
 unfold hP
 rw [aPo hl hN,Option.bind_some]
 congr 1
 rw [decide_eq_decide]
 by_cases h:v ∈ l
 ·obtain ⟨i,h1,-⟩:=aC8 h
  constructor
  ·intro _; exact h
  ·intro _; omega
 ·rw [aHb h]
  constructor
  ·intro h2; omega
  ·intro h2; exact absurd h2 h
abbrev np (r:aB):Int:=(r.People.length:Int)
abbrev ns (r:aB):Int:=(r.Stations.length:Int)
def pf (r:aB) (p:Int):List Int:=r.People.getD p.toNat []
def sta (r:aB) (s:Int):aD:=r.Stations.getD s.toNat ⟨0,[]⟩
def rk (r:aB) (s p:Int):Int:=sQ (sta r s).Order p
structure iX (r:aB):Prop where
 p1:1≤r.People.length
 p2:r.People.length≤12
 s1:1≤r.Stations.length
 s2:r.Stations.length≤12
 pn:∀ l ∈ r.People,l.Nodup
 pr:∀ l ∈ r.People,∀ s ∈ l,0≤s∧s < ns r
 sp:∀ x ∈ r.Stations,1≤x.Places∧x.Places≤12
 sn:∀ x ∈ r.Stations,x.Order.Nodup
 sr:∀ x ∈ r.Stations,∀ p ∈ x.Order,0≤p∧p < np r
theorem vF:∀ {l l':List Int},l.Nodup→(∀ x ∈ l,x ∈ l')→l.length≤l'.length
 | [],_,_,_=>Nat.zero_le _
 | a::l,l',hn,h=>by
  have ha:a ∈ l':=h a List.mem_cons_self
  have hn':=List.nodup_cons.1 hn
  have:=vF (l:=l) (l':=l'.erase a) hn'.2 λx hx=>by
   refine (List.mem_erase_of_ne ?_).2 (h x (List.mem_cons_of_mem _ hx))
   rintro rfl
   exact hn'.1 hx
  rw [List.length_erase_of_mem ha] at this
  have:0 < l'.length:=List.length_pos_of_mem ha
  rw [List.length_cons]
  omega
theorem aFc {l:List Int} {n:Nat} (hn:l.Nodup) (h:∀ x ∈ l,0≤x∧x < (n:Int)):l.length≤n:=by
 have:=vF (l:=l) (l':=(List.range n).map λi:Nat=>(i:Int)) hn λx hx=>by
  have:=h x hx
  exact List.mem_map.2 ⟨x.toNat,List.mem_range.2 (by omega),by omega⟩
 simpa using this
theorem iX.pf_len {r:aB} (h:iX r) {l:List Int} (hl:l ∈ r.People):l.length≤12:=Nat.le_trans (aFc (h.pn l hl) (h.pr l hl)) h.s2
theorem iX.or_len {r:aB} (h:iX r) {x:aD} (hx:x ∈ r.Stations):x.Order.length≤12:=Nat.le_trans (aFc (h.sn x hx) (h.sr x hx)) h.p2
theorem jB {α:Type} {l:List α} {i:Int} (d:α) (h0:0≤i) (h1:i < (l.length:Int)):aQ l i=some (l.getD i.toNat d):=by
 obtain ⟨n,rfl⟩:=Int.eq_ofNat_of_zero_le h0
 have hn:n < l.length:=by omega
 rw [bF hn,Int.toNat_natCast,cP (d:=d) hn]
theorem aJ5 {α:Type} {l:List α} {i:Int} (d:α) (h0:0≤i) (h1:i < (l.length:Int)):l.getD i.toNat d ∈ l:=by
 have hn:i.toNat < l.length:=by omega
 rw [← cP (d:=d) hn]
 exact List.getElem_mem hn
theorem aN1 {N:Nat} {l:List Int} (hl:l.length≤1000) (hN:l.length < N) (hn:l.Nodup):wD N l=some true:=by
 unfold wD
 have hrun:=rK (ρ:=Bool) (λi:Nat=>(i:Int)) l.length (λs4=>jF N l s4) (λi hi=>by
  show jF N l (i:Int)=_
  unfold jF
  have hsub:yE l 0 (i:Int)=some (l.take i):=by
   unfold yE
   rw [if_pos ⟨by omega,by omega,by omega⟩]
   simp
  rw [bW hi,cond_true,bF hi,Option.bind_some,hsub,Option.bind_some,aCt (by rw [List.length_take]; omega) (by rw [List.length_take]; omega),Option.bind_some]
  have:decide (l[i] ∈ l.take i)=false:=by
   rw [decide_eq_false_iff_not]
   intro hm
   obtain ⟨j,hj,he⟩:=List.getElem_of_mem hm
   rw [List.length_take] at hj
   rw [List.getElem_take] at he
   have:=(List.getElem_inj hn (h₀:=by omega) (h₁:=hi)).1 he
   omega
  rw [this,cond_false,bP (by omega)]) (by
  show jF N l _=_
  unfold jF
  rw [bU,cond_false]) hN
 rw [show (0:Int)=((0:Nat):Int) from rfl,hrun]
 rfl
theorem wE {N:Nat} {α:Type} {l:List α} (hl:l.length≤1000) (hN:l.length < N) (b:Int→Option (bC Int Int)) (hb:∀ i (h:i < l.length),b (i:Int)=some (.cont (W ((i:Int) + 1)))) (hend:b (l.length:Int)=some (.brk (l.length:Int))) :
  (Option.bind (Option.bind (Option.bind (aS b N 0) λx4=>exK x4 (λ_=>some (-1)) some) λr=>some (decide (0≤r))) λr=>some (!r))=some true:=by
 have hrun:=rK (ρ:=Int) (λi:Nat=>(i:Int)) l.length b (λi hi=>by rw [hb i hi,bP (by omega)]) hend hN
 rw [show (0:Int)=((0:Nat):Int) from rfl,hrun]
 rfl
theorem aOs {N:Nat} (hN:40≤N) {r:aB} (h:iX r):nK N r=some 0:=by
 obtain ⟨p1,p2,s1,s2,pn,pr,sp,sn,sr⟩:=id h
 have hin:∀ {n a b:Int},a≤n→n≤b→aR n a b=true:=λh1 h2=>by unfold aR; rw [decide_eq_true h1,decide_eq_true h2]; rfl
 unfold nK
 have c1:oB N r.People r=some true:=by
  unfold oB gJ iS
  refine wE (l:=r.People) (by omega) (by omega) _ (λi hi=>?_) (by unfold kN; rw [bU,cond_false])
  unfold kN
  have hm:=List.getElem_mem hi
  have hlen:=h.pf_len hm
  have e:lP N r.People[i] r=some false:=by
   unfold lP xT pV iB jW
   rw [wE (l:=r.People[i]) (by omega) (by omega) _ (λj hj=>?_) (by unfold mE; rw [bU,cond_false])]
   ·rfl
   ·unfold mE
    have hs:0≤r.People[i][j]∧r.People[i][j] < (r.Stations.length:Int):=pr _ hm _ (List.getElem_mem hj)
    have:kO r.People[i][j] ⟨r.People,r.Stations⟩=false:=by
     unfold kO sS
     rw [hin hs.1 (by dsimp only; rw [fB (by omega) (by omega)]; omega)]
     rfl
    rw [bW hj,cond_true,bF hj,Option.bind_some,this,cond_false]
  rw [bW hi,cond_true,bF hi,Option.bind_some,e]
  rfl
 have c2:fU N r.Stations r=some true:=by
  unfold fU dC dI
  refine wE (l:=r.Stations) (by omega) (by omega) _ (λi hi=>?_) (by unfold eB; rw [bU,cond_false])
  unfold eB
  have hm:=List.getElem_mem hi
  have hlen:=h.or_len hm
  have e:eX N r.Stations[i] r=some false:=by
   unfold eX xS lV fY iF
   have hpl:=sp _ hm
   rw [hin hpl.1 hpl.2,cond_true,wE (l:=r.Stations[i].Order) (by omega) (by omega) _ (λj hj=>?_) (by unfold jS; rw [bU,cond_false])]
   ·rfl
   ·unfold jS
    have hs:0≤r.Stations[i].Order[j]∧r.Stations[i].Order[j] < (r.People.length:Int):=sr _ hm _ (List.getElem_mem hj)
    have:gU r.Stations[i].Order[j] ⟨r.People,r.Stations⟩=false:=by
     unfold gU sN
     rw [hin hs.1 (by dsimp only; rw [fB (by omega) (by omega)]; omega)]
     rfl
    rw [bW hj,cond_true,bF hj,Option.bind_some,this,cond_false]
  rw [bW hi,cond_true,bF hi,Option.bind_some,e]
  rfl
 have c3:kP N r.People=some true:=by
  unfold kP fG gP
  refine wE (l:=r.People) (by omega) (by omega) _ (λi hi=>?_) (by unfold iU; rw [bU,cond_false])
  unfold iU lM
  have hm:=List.getElem_mem hi
  have hlen:=h.pf_len hm
  rw [bW hi,cond_true,bF hi,Option.bind_some,aN1 (by omega) (by omega) (pn _ hm)]
  rfl
 have c4:eJ N r.Stations=some true:=by
  unfold eJ cW dF
  refine wE (l:=r.Stations) (by omega) (by omega) _ (λi hi=>?_) (by unfold dS; rw [bU,cond_false])
  unfold dS fE yC
  have hm:=List.getElem_mem hi
  have hlen:=h.or_len hm
  rw [bW hi,cond_true,bF hi,Option.bind_some,aN1 (by omega) (by omega) (sn _ hm)]
  rfl
 rw [hin (by omega) (by omega),hin (by omega) (by omega),c1,c2,c3,c4]
 rfl
theorem aCx {N:Nat} (hN:40≤N) {r:aB} (h:iX r):∃ rank:Nat→Int,oQ N r=some (.inr (rank,0))∧∀ s p:Nat,s < r.Stations.length→p < r.People.length→rank (s * 12 + p)=rk r (s:Int) (p:Int):=by
 have hp2:=h.p2
 have hs2:=h.s2
 unfold oQ
 rw [aOs hN h,Option.bind_some]
 simp only [bne_self_eq_false,cond_false]
 obtain ⟨s,hs,hI⟩:=tY (ρ:=Int ⊕ ((Nat→Int) × Int)) (λs9=>qD N r s9.1 s9.2) (λi s=>s.1=(i:Int)∧∀ a b:Nat,a < i→b < r.People.length→s.2 (a * 12 + b)=rk r (a:Int) (b:Int)) r.Stations.length (λi s hi hI=>by
  obtain ⟨x,f⟩:=s
  obtain ⟨rfl,hf⟩:=hI
  dsimp only at hf
  have hm:=List.getElem_mem hi
  have hol:=h.or_len hm
  obtain ⟨s2,g0,g1,g2⟩:=tY (ρ:=bC (Int × (Nat→Int)) (Int ⊕ ((Nat→Int) × Int))) (λs17=>oD N r (i:Int) r.Stations[i] s17.1 s17.2) (λj s=>s.1=(j:Int)∧∀ a b:Nat,(a < i∧b < r.People.length) ∨ (a=i∧b < j)→s.2 (a * 12 + b)=rk r (a:Int) (b:Int)) r.People.length (λj s hj hJ=>by
   obtain ⟨y,g⟩:=s
   obtain ⟨rfl,hg⟩:=hJ
   dsimp only at hg
   have hr1:inR (i:Int) 12=some ():=by unfold inR; rw [if_pos ⟨by omega,by omega⟩]
   have hr2:inR (j:Int) 12=some ():=by unfold inR; rw [if_pos ⟨by omega,by omega⟩]
   refine ⟨(W ((j:Int) + 1),aE5 g ((i:Int) * 12 + (j:Int)).toNat (sQ r.Stations[i].Order (j:Int))),?_,bP (by omega),λa b hab=>?_⟩
   ·show oD N r (i:Int) r.Stations[i] (j:Int) g=_
    unfold oD
    rw [bW hj,cond_true,aPo (by omega) (by omega),Option.bind_some,hr1,Option.bind_some,hr2,Option.bind_some]
   ·dsimp only
    have e:((i:Int) * 12 + (j:Int)).toNat=i * 12 + j:=by omega
    rw [e]
    unfold aE5
    by_cases hij:a=i∧b=j
    ·obtain ⟨rfl,rfl⟩:=hij
     rw [Nat.beq_refl,cond_true]
     unfold rk sta
     rw [Int.toNat_natCast,← cP hi]
    ·have hne:Nat.beq (a * 12 + b) (i * 12 + j)=false:=by
      cases hb:Nat.beq (a * 12 + b) (i * 12 + j) with
      | false=>rfl
      | true=>have:=Nat.eq_of_beq_eq_true hb; rcases hab with hab | hab <;> omega
     rw [hne,cond_false]
     refine hg a b ?_
     rcases hab with hab | hab
     ·exact Or.inl hab
     ·exact Or.inr ⟨hab.1,by omega⟩) (λs hJ=>by
   show oD N r (i:Int) r.Stations[i] s.1 s.2=_
   unfold oD
   rw [hJ.1,bU,cond_false,← hJ.1]) r.People.length 0 (0,f) N (by omega) (by omega) ⟨rfl,λa b hab=>by
    rcases hab with hab | hab
    ·exact hf a b hab.1 hab.2
    ·omega⟩
  refine ⟨(W ((i:Int) + 1),s2.2),?_,bP (by omega),λa b ha hb=>?_⟩
  ·show qD N r (i:Int) f=_
   unfold qD
   rw [bW hi,cond_true,bF hi,Option.bind_some,g0,Option.bind_some]
   rfl
  ·refine g2 a b ?_
   by_cases h:a < i
   ·exact Or.inl ⟨h,hb⟩
   ·exact Or.inr ⟨by omega,hb⟩) (λs hI=>by
  show qD N r s.1 s.2=_
  unfold qD
  rw [hI.1,bU,cond_false,← hI.1]) r.Stations.length 0 (0,λ_=>0) N (by omega) (by omega) ⟨rfl,λa b ha=>by omega⟩
 refine ⟨s.2,?_,λa b ha hb=>hI.2 a b ha hb⟩
 rw [hs]
 rfl
end Go.Nilo
namespace Go.Nilo
def mX (r:aB) (p s:Int):Prop:=p ∈ (sta r s).Order∧s ∈ pf r p
instance (r:aB) (p s:Int):Decidable (mX r p s):=inferInstanceAs (Decidable (_∧_))
structure WOk (r:aB) (rank:Nat→Int):Prop where
 ok:iX r
 rk:∀ s p:Nat,s < r.Stations.length→p < r.People.length→rank (s * 12 + p)=rk r (s:Int) (p:Int)
abbrev inP (r:aB) (p:Int):Prop:=0≤p∧p < (r.People.length:Int)
abbrev inS (r:aB) (s:Int):Prop:=0≤s∧s < (r.Stations.length:Int)
theorem WOk.get {r:aB} {rank:Nat→Int} (h:WOk r rank) {s p:Int} (hs:inS r s) (hp:inP r p):rank (s * 12 + p).toNat=Go.Nilo.rk r s p:=by
 have:=h.rk s.toNat p.toNat (by omega) (by omega)
 rw [show (s * 12 + p).toNat=s.toNat * 12 + p.toNat by omega,this,Int.toNat_of_nonneg hs.1,Int.toNat_of_nonneg hp.1]
theorem vB {i:Int} {n:Nat} (h0:0≤i) (h1:i < (n:Int)):inR i n=some ():=by unfold inR; rw [if_pos ⟨h0,h1⟩]
theorem nM {r:aB} {p:Int} (hp:inP r p):pf r p ∈ r.People:=aJ5 [] hp.1 hp.2
theorem aGr {r:aB} {s:Int} (hs:inS r s):sta r s ∈ r.Stations:=aJ5 _ hs.1 hs.2
theorem zJ {N:Nat} (hN:40≤N) {r:aB} {rank:Nat→Int} (h:WOk r rank) {s p:Int} (hs:inS r s) (hp:inP r p):iK N ⟨r,rank⟩ p s=some (decide (mX r p s)):=by
 have h2:=h.ok.s2
 have h3:=h.ok.p2
 have hl:=h.ok.pf_len (nM hp)
 have hget:aQ r.People p=some (pf r p):=jB [] hp.1 hp.2
 unfold iK
 rw [vB hs.1 (by omega),vB hp.1 (by omega),Option.bind_some,Option.bind_some]
 dsimp only
 rw [h.get hs hp,hget,Option.bind_some,aCt (by omega) (by omega),Option.bind_some]
 by_cases hm:p ∈ (sta r s).Order
 ·have h1:(Go.Nilo.rk r s p != -1)=true:=by rw [bne_iff_ne]; exact aGq.2 hm
  rw [h1,cond_true,Option.bind_some]
  congr 1
  rw [decide_eq_decide]
  unfold mX
  simp only [hm,true_and]
 ·have h1:(Go.Nilo.rk r s p != -1)=false:=by
   unfold Go.Nilo.rk
   rw [aHb hm]
   rfl
  rw [h1,cond_false,Option.bind_some]
  congr 1
  symm
  rw [decide_eq_false_iff_not]
  exact λh=>hm h.1
theorem aD0 {N:Nat} (hN:40≤N) {σ:Type} {r:aB} {rank:Nat→Int} (h:WOk r rank) {p than:Int} (hp:inP r p) (y:σ→Int→Option (σ × Bool)) (Inv:Nat→σ→Prop) (Post:σ→Prop)
  (hstep:∀ i (hi:i < (pf r p).length) sg,Inv i sg→(pf r p)[i] ≠ than→mX r p (pf r p)[i]→∃ sg' b,y sg (pf r p)[i]=some (sg',b)∧(b=true→Inv (i + 1) sg')∧(b=false→Post sg'))
  (hskip:∀ i (hi:i < (pf r p).length) sg,Inv i sg→(pf r p)[i] ≠ than→¬ mX r p (pf r p)[i]→Inv (i + 1) sg)
  (hthan:∀ i (hi:i < (pf r p).length) sg,Inv i sg→(pf r p)[i]=than→Post sg)
  (hend:∀ sg,Inv (pf r p).length sg→Post sg) (sg0:σ) (h0:Inv 0 sg0):∃ sg',fA N ⟨r,rank⟩ p than y sg0=some sg'∧Post sg':=by
 have hl:=h.ok.pf_len (nM hp)
 have hpr:=h.ok.pr _ (nM hp)
 have hget:aQ r.People p=some (pf r p):=jB [] hp.1 hp.2
 have key:∀ (m i M:Nat) (sg:σ),i + m=(pf r p).length→m < M→Inv i sg→∃ x,aS (λs3=>kB N ⟨r,rank⟩ p than y (pf r p) s3.1 s3.2) M ((i:Int),sg)=some x∧∃ sg',exK x (λs3=>some s3.2) some=some sg'∧Post sg':=by
  intro m
  induction m with
  | zero=>
   intro i M sg hi hM hI
   obtain ⟨M,rfl⟩:∃ M',M=M' + 1:=⟨M - 1,by omega⟩
   obtain rfl:i=(pf r p).length:=by omega
   refine ⟨.go (((pf r p).length:Int),sg),?_,sg,rfl,hend _ hI⟩
   unfold aS
   dsimp only
   unfold kB
   rw [bU,cond_false]
  | succ m ih=>
   intro i M sg hi hM hI
   obtain ⟨M,rfl⟩:∃ M',M=M' + 1:=⟨M - 1,by omega⟩
   have hil:i < (pf r p).length:=by omega
   have hs:=hpr _ (List.getElem_mem hil)
   unfold aS
   dsimp only
   have hb:kB N ⟨r,rank⟩ p than y (pf r p) (i:Int) sg=cond ((pf r p)[i] == than) (some (.ret sg)) (cond (decide (mX r p (pf r p)[i])) (Option.bind (y sg (pf r p)[i]) λry=>cond (!ry.2) (some (.ret ry.1)) (some (.cont (((i + 1:Nat):Int),ry.1)))) (some (.cont (((i + 1:Nat):Int),sg)))):=by
    unfold kB jZ
    rw [bW hil,cond_true,bF hil,Option.bind_some,zJ hN h hs hp,Option.bind_some,bP (by omega)]
   rw [hb]
   by_cases ht:(pf r p)[i]=than
   ·rw [beq_iff_eq.2 ht,cond_true]
    exact ⟨_,rfl,sg,rfl,hthan i hil sg hI ht⟩
   ·rw [beq_eq_false_iff_ne.2 ht,cond_false]
    by_cases hpo:mX r p (pf r p)[i]
    ·rw [decide_eq_true hpo,cond_true]
     obtain ⟨sg',b,h1,h2,h3⟩:=hstep i hil sg hI ht hpo
     rw [h1,Option.bind_some]
     cases b with
     | true=>exact ih (i + 1) M sg' (by omega) (by omega) (h2 rfl)
     | false=>exact ⟨_,rfl,sg',rfl,h3 rfl⟩
    ·rw [decide_eq_false hpo,cond_false]
     exact ih (i + 1) M sg (by omega) (by omega) (hskip i hil sg hI ht hpo)
 unfold fA
 dsimp only
 rw [hget,Option.bind_some]
 obtain ⟨x,h1,h2⟩:=key (pf r p).length 0 N sg0 (by omega) (by omega) h0
 rw [show (0:Int)=((0:Nat):Int) from rfl,h1,Option.bind_some]
 exact h2
abbrev Asg (asg:List Int) (p:Int):Int:=asg.getD p.toNat (-1)
abbrev Ks (ks:List (List Int)) (s:Int):List Int:=ks.getD s.toNat []
def kU (ks:List (List Int)):List (Option (List (Int × Bool))):=ks.map λk=>some (k.map λp=>(p,true))
def Ref (l:List aA) (p s:Int):Prop:=(⟨p,s⟩:aA) ∈ l
def Bet (r:aB) (l:List aA) (p s:Int):Prop:=∀ t ∈ pf r p,sQ (pf r p) t < sQ (pf r p) s→mX r p t→Ref l p t
def Just (r:aB) (ahead:List aA) (x:aA):Prop:=∃ qs:List Int,qs.Nodup∧(sta r x.Station).Places≤(qs.length:Int)∧∀ q ∈ qs,inP r q∧mX r q x.Station∧rk r x.Station q < rk r x.Station x.Person∧Bet r ahead q x.Station
structure SI (r:aB) (done:Int→Prop) (l:List aA) (asg:List Int) (ks:List (List Int)):Prop where
 al:asg.length=r.People.length
 kl:ks.length=r.Stations.length
 mem:∀ s p,inS r s→inP r p→(p ∈ Ks ks s ↔ Asg asg p=s)
 kr:∀ s,inS r s→∀ p ∈ Ks ks s,inP r p
 kn:∀ s,inS r s→(Ks ks s).Nodup
 cap:∀ s,inS r s→((Ks ks s).length:Int)≤(sta r s).Places
 asr:∀ p,inP r p→Asg asg p = -1 ∨ inS r (Asg asg p)
 good:∀ p,inP r p→Asg asg p ≠ -1→mX r p (Asg asg p)∧¬ Ref l p (Asg asg p)∧Bet r l p (Asg asg p)
 free:∀ p,inP r p→done p→Asg asg p = -1→∀ t ∈ pf r p,mX r p t→Ref l p t
 fresh:∀ p,inP r p→¬ done p→Asg asg p = -1
 refp:∀ x ∈ l,inP r x.Person∧inS r x.Station∧mX r x.Person x.Station
 refn:l.Nodup
 just:∀ k (h:k < l.length),Just r (l.take k) l[k]
theorem SI.congr {r:aB} {d d':Int→Prop} {l:List aA} {asg:List Int} {ks:List (List Int)} (h:SI r d l asg ks) (hd:∀ p,inP r p→(d p ↔ d' p)):SI r d' l asg ks :=
 ⟨h.al,h.kl,h.mem,h.kr,h.kn,h.cap,h.asr,h.good,λp hp h1=>h.free p hp ((hd p hp).2 h1),λp hp h1=>h.fresh p hp λe=>h1 ((hd p hp).1 e),h.refp,h.refn,h.just⟩
theorem aE2 {α:Type} {l:List α} {i j:Nat} {v d:α} (hi:i < l.length):(l.set i v).getD j d=if j=i then v else l.getD j d:=by
 by_cases h:j=i
 ·subst h
  simp [List.getD,List.getElem?_set,hi]
 ·rw [if_neg h]
  simp [List.getD,List.getElem?_set,Ne.symm h]
theorem aA9 {asg:List Int} {p x v:Int} (h0:0≤p) (h1:p < (asg.length:Int)) (hx:0≤x):Asg (asg.set p.toNat v) x=if x=p then v else Asg asg x:=by
 unfold Asg
 rw [aE2 (by omega)]
 by_cases h:x=p
 ·subst h; rw [if_pos rfl,if_pos rfl]
 ·rw [if_neg h,if_neg (by omega)]
theorem aMa {ks:List (List Int)} {p x:Int} {v:List Int} (h0:0≤p) (h1:p < (ks.length:Int)) (hx:0≤x):Ks (ks.set p.toNat v) x=if x=p then v else Ks ks x:=by
 unfold Ks
 rw [aE2 (by omega)]
 by_cases h:x=p
 ·subst h; rw [if_pos rfl,if_pos rfl]
 ·rw [if_neg h,if_neg (by omega)]
theorem SI.len {r:aB} (hr:iX r) {d:Int→Prop} {l:List aA} {asg:List Int} {ks:List (List Int)} (h:SI r d l asg ks):l.length≤144:=by
 have h2:=hr.p2
 have h3:=hr.s2
 have hn:(l.map λx=>x.Station * 12 + x.Person).Nodup:=by
  rw [List.nodup_iff_pairwise_ne,List.pairwise_map]
  refine List.Pairwise.imp_of_mem ?_ (List.nodup_iff_pairwise_ne.1 h.refn)
  intro a b ha hb hne he
  obtain ⟨a1,a2,-⟩:=h.refp a ha
  obtain ⟨b1,b2,-⟩:=h.refp b hb
  apply hne
  cases a; cases b
  dsimp only at *
  congr 1 <;> omega
 have:=aFc (n:=144) hn λx hx=>by
  obtain ⟨a,ha,rfl⟩:=List.mem_map.1 hx
  obtain ⟨a1,a2,-⟩:=h.refp a ha
  omega
 simpa using this
theorem aNl {ks:List (List Int)} {s:Int} (h0:0≤s) (h1:s < (ks.length:Int)):aQ (kU ks) s=some (some ((Ks ks s).map λp=>(p,true))):=by
 obtain ⟨n,rfl⟩:=Int.eq_ofNat_of_zero_le h0
 have hn:n < ks.length:=by omega
 rw [bF (by unfold kU; simpa using hn)]
 unfold kU Ks
 rw [Int.toNat_natCast,← cP hn,List.getElem_map]
theorem aNj {ks:List (List Int)} {n:Nat} {v:List Int}:(kU ks).set n (some (v.map λp=>(p,true)))=kU (ks.set n v):=by
 unfold kU
 rw [List.map_set]
theorem aRp {k:List Int} {p:Int} (h:p ∉ k):kX (k.map λp=>(p,true)) p true=(k++[p]).map λp=>(p,true):=by
 unfold kX
 rw [if_neg,List.map_append]
 ·rfl
 ·rw [List.any_eq_true]
  rintro ⟨x,hx,he⟩
  obtain ⟨q,hq,rfl⟩:=List.mem_map.1 hx
  rw [beq_iff_eq] at he
  exact h (he ▸ hq)
theorem aNm {q:Int}:∀ k:List Int,aDp (k.map λp=>(p,true)) q=(k.erase q).map λp=>(p,true)
 | []=>rfl
 | a::k=>by
  have ih:=aNm (q:=q) k
  unfold aDp at ih ⊢
  rw [List.map_cons,List.eraseP_cons,List.erase_cons]
  by_cases h:a=q
  ·subst h; simp
  ·have:(a == q)=false:=by rw [beq_eq_false_iff_ne]; exact h
   simp only [this,Bool.false_eq_true,if_false,cond_false,List.map_cons,ih]
theorem lk_in {k:List Int} {p:Int}:(lkA (k.map λp=>(p,true)) p).getD false=decide (p ∈ k):=by
 unfold lkA
 induction k with
 | nil=>simp
 | cons a k ih=>
  rw [List.map_cons,List.find?_cons]
  by_cases h:a=p
  ·subst h; simp
  ·have h1:(a == p)=false:=by rw [beq_eq_false_iff_ne]; exact h
   dsimp only
   rw [h1]
   dsimp only
   rw [ih,decide_eq_decide,List.mem_cons]
   constructor
   ·intro h2; exact Or.inr h2
   ·rintro (h2 | h2)
    ·exact absurd h2.symm h
    ·exact h2
theorem aL0 {N:Nat} {l:List aA} {p s:Int} (hl:l.length≤1000) (hN:l.length < N):∃ b,dE N l p s=some b∧(b=true ↔ Ref l p s):=by
 unfold dE eR
 have hany:l.any (λx=>iL x p s)=true ↔ Ref l p s:=by
  rw [List.any_eq_true]
  unfold iL Ref
  constructor
  ·rintro ⟨x,h1,h2⟩
   rw [Bool.and_eq_true,beq_iff_eq,beq_iff_eq] at h2
   obtain ⟨rfl,rfl⟩:=h2
   exact h1
  ·intro h; exact ⟨_,h,by simp⟩
 rcases aCy (λx=>iL x p s) l (by omega) (λs4=>hH N l p s s4) (λx=>rfl) l.length 0 N (by omega) hN with ⟨k,h1,h2,h3⟩ | ⟨h1,h2⟩
 ·rw [show ((0:Nat):Int)=0 from rfl] at h1
  rw [List.drop_zero] at h3
  refine ⟨true,?_,by simp only [true_iff]; exact hany.1 h3⟩
  rw [h1]
  simp [exK,h2]
 ·rw [show ((0:Nat):Int)=0 from rfl] at h1
  rw [List.drop_zero] at h2
  refine ⟨false,by rw [h1]; rfl,?_⟩
  rw [← hany,h2]
end Go.Nilo
namespace Go.Nilo
theorem SI.room {r:aB} {d:Int→Prop} {l:List aA} {asg:List Int} {ks:List (List Int)} (h:SI r d l asg ks) {p s:Int} (hp:inP r p) (hs:inS r s) (ha:Asg asg p = -1):p ∉ Ks ks s:=λhm=>by
 have:=(h.mem s p hs hp).1 hm
 have:=hs.1
 omega
theorem SI.take {r:aB} {d:Int→Prop} {l:List aA} {asg:List Int} {ks:List (List Int)} (h:SI r d l asg ks) {p s:Int} (hp:inP r p) (hs:inS r s) (ha:Asg asg p = -1) (hpo:mX r p s) (hR:¬ Ref l p s) (hB:Bet r l p s)
  (hc:(((Ks ks s++[p]).length:Nat):Int)≤(sta r s).Places):SI r (λq=>d q ∨ q=p) l (asg.set p.toNat s) (ks.set s.toNat (Ks ks s++[p])):=by
 have hpk:=h.room hp hs ha
 have eA:∀ x,0≤x→Asg (asg.set p.toNat s) x=if x=p then s else Asg asg x:=λx hx=>aA9 hp.1 (by rw [h.al]; exact hp.2) hx
 have eK:∀ x,0≤x→Ks (ks.set s.toNat (Ks ks s++[p])) x=if x=s then Ks ks s++[p] else Ks ks x:=λx hx=>aMa hs.1 (by rw [h.kl]; exact hs.2) hx
 refine ⟨by rw [List.length_set]; exact h.al,by rw [List.length_set]; exact h.kl,λt x ht hx=>?_,λt ht x hx=>?_,λt ht=>?_,λt ht=>?_,λx hx=>?_,λx hx hne=>?_,λx hx hd hne=>?_,λx hx hd=>?_,h.refp,h.refn,h.just⟩
 ·rw [eA x hx.1,eK t ht.1]
  by_cases h1:t=s
  ·subst h1
   rw [if_pos rfl,List.mem_append,List.mem_singleton]
   by_cases h2:x=p
   ·rw [if_pos h2]; exact ⟨λ_=>rfl,λ_=>Or.inr h2⟩
   ·rw [if_neg h2,h.mem t x hs hx]
    exact ⟨λh3=>h3.resolve_right h2,Or.inl⟩
  ·rw [if_neg h1]
   by_cases h2:x=p
   ·subst h2
    rw [if_pos rfl]
    exact ⟨λh3=>absurd h3 (h.room hp ht ha),λh3=>absurd h3.symm h1⟩
   ·rw [if_neg h2]; exact h.mem t x ht hx
 ·rw [eK t ht.1] at hx
  split at hx
  ·rcases List.mem_append.1 hx with h1 | h1
   ·exact h.kr s hs x h1
   ·rw [List.mem_singleton.1 h1]; exact hp
  ·exact h.kr t ht x hx
 ·rw [eK t ht.1]
  split
  ·rw [List.nodup_append]
   exact ⟨h.kn s hs,by simp,λa haa b hb e=>hpk (by rw [List.mem_singleton.1 hb] at e; exact e ▸ haa)⟩
  ·exact h.kn t ht
 ·rw [eK t ht.1]
  by_cases h1:t=s
  ·subst h1; rw [if_pos rfl]; exact hc
  ·rw [if_neg h1]; exact h.cap t ht
 ·rw [eA x hx.1]
  split
  ·exact Or.inr hs
  ·exact h.asr x hx
 ·rw [eA x hx.1] at hne ⊢
  by_cases h1:x=p
  ·subst h1; rw [if_pos rfl]; exact ⟨hpo,hR,hB⟩
  ·rw [if_neg h1] at hne ⊢; exact h.good x hx hne
 ·rw [eA x hx.1] at hne
  by_cases h1:x=p
  ·rw [if_pos h1] at hne; have:=hs.1; omega
  ·rw [if_neg h1] at hne; exact h.free x hx (hd.resolve_right h1) hne
 ·rw [eA x hx.1,if_neg (λe=>hd (Or.inr e))]
  exact h.fresh x hx λe=>hd (Or.inl e)
theorem SI.over {r:aB} {d:Int→Prop} {l:List aA} {asg:List Int} {ks:List (List Int)} (h:SI r d l asg ks) {p s q:Int} (hp:inP r p) (hs:inS r s) (ha:Asg asg p = -1) (hpo:mX r p s) (hR:¬ Ref l p s) (hB:Bet r l p s)
  (hc:(sta r s).Places < (((Ks ks s++[p]).length:Nat):Int)) (hq:q ∈ Ks ks s++[p]) (hm:∀ o ∈ Ks ks s++[p],rk r s o≤rk r s q) :
  inP r q∧SI r (λx=>(d x ∨ x=p)∧x ≠ q) (l++[⟨q,s⟩]) ((asg.set p.toNat s).set q.toNat (-1)) (ks.set s.toNat ((Ks ks s++[p]).erase q))∧(q=p ∨ Asg asg q ≠ -1):=by
 have hpk:=h.room hp hs ha
 have hin:∀ x ∈ Ks ks s++[p],inP r x∧mX r x s∧¬ Ref l x s∧Bet r l x s:=λx hx=>by
  rcases List.mem_append.1 hx with h1 | h1
  ·have hx':=h.kr s hs x h1
   have he:=(h.mem s x hs hx').1 h1
   have hg:=h.good x hx' (by have:=hs.1; omega)
   rw [he] at hg
   exact ⟨hx',hg⟩
  ·rw [List.mem_singleton.1 h1]; exact ⟨hp,hpo,hR,hB⟩
 obtain ⟨hqp,hqpo,hqR,hqB⟩:=hin q hq
 have hnd:(Ks ks s++[p]).Nodup:=by
  rw [List.nodup_append]
  exact ⟨h.kn s hs,by simp,λa haa b hb e=>hpk (by rw [List.mem_singleton.1 hb] at e; exact e ▸ haa)⟩
 have eA:∀ x,0≤x→Asg ((asg.set p.toNat s).set q.toNat (-1)) x=if x=q then -1 else if x=p then s else Asg asg x:=λx hx=>by
  rw [aA9 hqp.1 (by rw [List.length_set,h.al]; exact hqp.2) hx,aA9 hp.1 (by rw [h.al]; exact hp.2) hx]
 have eK:∀ x,0≤x→Ks (ks.set s.toNat ((Ks ks s++[p]).erase q)) x=if x=s then (Ks ks s++[p]).erase q else Ks ks x:=λx hx=>aMa hs.1 (by rw [h.kl]; exact hs.2) hx
 have hme:∀ x,x ∈ (Ks ks s++[p]).erase q ↔ x ≠ q∧x ∈ Ks ks s++[p]:=λx=>hnd.mem_erase_iff
 have hR2:∀ x t,Ref l x t→Ref (l++[⟨q,s⟩]) x t:=λx t h1=>List.mem_append_left _ h1
 have hB2:∀ x t,Bet r l x t→Bet r (l++[⟨q,s⟩]) x t:=λx t h1 u hu hlt hpu=>hR2 _ _ (h1 u hu hlt hpu)
 have hlen:((Ks ks s++[p]).erase q).length=(Ks ks s).length:=by
  rw [List.length_erase_of_mem hq,List.length_append]; rfl
 refine ⟨hqp,⟨by rw [List.length_set,List.length_set]; exact h.al,by rw [List.length_set]; exact h.kl,λt x ht hx=>?_,λt ht x hx=>?_,λt ht=>?_,λt ht=>?_,λx hx=>?_,λx hx hne=>?_,λx hx hd hne=>?_,λx hx hd=>?_,λx hx=>?_,?_,λk hk=>?_⟩,?_⟩
 ·rw [eA x hx.1,eK t ht.1]
  by_cases h1:t=s
  ·subst h1
   rw [if_pos rfl,hme,List.mem_append,List.mem_singleton]
   by_cases h2:x=q
   ·rw [if_pos h2]
    exact ⟨λh3=>absurd h2 h3.1,λh3=>by have:=ht.1; omega⟩
   ·rw [if_neg h2]
    by_cases h3:x=p
    ·rw [if_pos h3]; exact ⟨λ_=>rfl,λ_=>⟨h2,Or.inr h3⟩⟩
    ·rw [if_neg h3,h.mem t x ht hx]
     exact ⟨λh4=>h4.2.resolve_right h3,λh4=>⟨h2,Or.inl h4⟩⟩
  ·rw [if_neg h1]
   by_cases h2:x=q
   ·rw [if_pos h2]
    constructor
    ·intro h3
     exfalso
     have h4:=(h.mem t x ht hx).1 h3
     rcases List.mem_append.1 hq with h5 | h5
     ·have h6:=(h.mem s q hs hqp).1 h5
      rw [h2] at h4
      exact h1 (h4.symm.trans h6)
     ·rw [h2,List.mem_singleton.1 h5,ha] at h4
      have:=ht.1
      omega
    ·intro h3; have:=ht.1; omega
   ·rw [if_neg h2]
    by_cases h3:x=p
    ·subst h3
     rw [if_pos rfl]
     exact ⟨λh4=>absurd h4 (h.room hp ht ha),λh4=>absurd h4.symm h1⟩
    ·rw [if_neg h3]; exact h.mem t x ht hx
 ·rw [eK t ht.1] at hx
  split at hx
  ·exact (hin x ((hme x).1 hx).2).1
  ·exact h.kr t ht x hx
 ·rw [eK t ht.1]
  split
  ·exact hnd.erase q
  ·exact h.kn t ht
 ·rw [eK t ht.1]
  by_cases h1:t=s
  ·subst h1
   rw [if_pos rfl,hlen]
   exact h.cap t ht
  ·rw [if_neg h1]; exact h.cap t ht
 ·rw [eA x hx.1]
  split
  ·exact Or.inl rfl
  ·split
   ·exact Or.inr hs
   ·exact h.asr x hx
 ·rw [eA x hx.1] at hne ⊢
  by_cases h1:x=q
  ·rw [if_pos h1] at hne; exact absurd rfl hne
  ·rw [if_neg h1] at hne ⊢
   have hnr:∀ t,¬ Ref l x t→¬ Ref (l++[⟨q,s⟩]) x t:=λt h2 h3=>by
    rcases List.mem_append.1 h3 with h4 | h4
    ·exact h2 h4
    ·have:=List.mem_singleton.1 h4
     injection this with e1 e2
     exact h1 e1
   by_cases h2:x=p
   ·subst h2; rw [if_pos rfl]; exact ⟨hpo,hnr _ hR,hB2 _ _ hB⟩
   ·rw [if_neg h2] at hne ⊢
    obtain ⟨g1,g2,g3⟩:=h.good x hx hne
    exact ⟨g1,hnr _ g2,hB2 _ _ g3⟩
 ·rw [eA x hx.1,if_neg hd.2] at hne
  by_cases h2:x=p
  ·rw [if_pos h2] at hne; have:=hs.1; omega
  ·rw [if_neg h2] at hne
   intro t ht hpt
   exact hR2 _ _ (h.free x hx (hd.1.resolve_right h2) hne t ht hpt)
 ·rw [eA x hx.1]
  by_cases h1:x=q
  ·rw [if_pos h1]
  ·rw [if_neg h1,if_neg (λe=>hd ⟨Or.inr e,h1⟩)]
   exact h.fresh x hx λe=>hd ⟨Or.inl e,h1⟩
 ·rcases List.mem_append.1 hx with h1 | h1
  ·exact h.refp x h1
  ·rw [List.mem_singleton.1 h1]; exact ⟨hqp,hs,hqpo⟩
 ·rw [List.nodup_append]
  exact ⟨h.refn,by simp,λa haa b hb e=>hqR (by rw [List.mem_singleton.1 hb] at e; unfold Ref; rw [← e]; exact haa)⟩
 ·by_cases hkl:k < l.length
  ·rw [List.take_append_of_le_length (by omega),List.getElem_append_left hkl]
   exact h.just k hkl
  ·have hk':k=l.length:=by rw [List.length_append] at hk; simp at hk; omega
   subst hk'
   rw [List.take_append_of_le_length (Nat.le_refl _),List.take_length,List.getElem_append_right (Nat.le_refl _)]
   simp only [Nat.sub_self,List.getElem_cons_zero]
   refine ⟨(Ks ks s++[p]).erase q,hnd.erase q,?_,λx hx=>?_⟩
   ·rw [hlen]
    rw [List.length_append,List.length_cons,List.length_nil] at hc
    dsimp only
    omega
   ·obtain ⟨h1,h2⟩:=(hme x).1 hx
    obtain ⟨g1,g2,g3,g4⟩:=hin x h2
    refine ⟨g1,g2,?_,g4⟩
    have hle:=hm x h2
    have hne:rk r s x ≠ rk r s q:=λe=>h1 (aGu g2.1 e)
    dsimp only
    omega
 ·rcases List.mem_append.1 hq with h1 | h1
  ·right
   rw [(h.mem s q hs hqp).1 h1]
   have:=hs.1
   omega
  ·left; exact List.mem_singleton.1 h1
theorem aPc {r:aB} {rank:Nat→Int} (hw:WOk r rank):∀ (N:Nat) (d:Int→Prop) (l:List aA) (asg:List Int) (ks:List (List Int)) (p:Int),SI r d l asg ks→inP r p→¬ d p→400≤N + l.length →
  ∃ l' asg' ks',dH N p ⟨r,rank⟩ l asg (kU ks)=some (l',asg',kU ks')∧SI r (λq=>d q ∨ q=p) l' asg' ks'
 | 0,d,l,asg,ks,p,h,hp,hd,hN=>by have:=h.len hw.ok; omega
 | N + 1,d,l,asg,ks,p,h,hp,hd,hN=>by
  have hll:=h.len hw.ok
  have ha:=h.fresh p hp hd
  have hnp:=hw.ok.p2
  have hns:=hw.ok.s2
  obtain ⟨x3,h1,st,h2,h3⟩:=aD0 (N:=N) (by omega) hw (than:=-1) hp (rY (λ(zz:(List aA) × (List Int) × (List (Option (List (Int × Bool))))) (ix_:Int)=>dA N (dH N) p ⟨r,rank⟩ zz.1 zz.2.1 zz.2.2 ix_))
   (λi sg=>sg=.go (l,asg,kU ks)∧∀ j (hj:j < (pf r p).length),j < i→mX r p (pf r p)[j]→Ref l p (pf r p)[j])
   (λsg=>∃ st:(List aA) × (List Int) × (List (Option (List (Int × Bool)))),(sg=.go st ∨ sg=.ret st)∧∃ l' asg' ks',st=(l',asg',kU ks')∧SI r (λq=>d q ∨ q=p) l' asg' ks')
   (λi hi sg hI hne hpo=>by
    obtain ⟨rfl,hI⟩:=hI
    have hs:inS r (pf r p)[i]:=hw.ok.pr _ (nM hp) _ (List.getElem_mem hi)
    have hnd:=hw.ok.pn _ (nM hp)
    obtain ⟨b,b1,b2⟩:=aL0 (N:=N) (l:=l) (p:=p) (s:=(pf r p)[i]) (by omega) (by omega)
    have hB:Bet r l p (pf r p)[i]:=λt ht hlt hpt=>by
     obtain ⟨j,hj,rfl⟩:=List.getElem_of_mem ht
     rw [jU hnd hj,jU hnd hi] at hlt
     exact hI j hj (by omega) hpt
    cases b with
    | true=>
     refine ⟨.go (l,asg,kU ks),true,?_,λ_=>⟨rfl,λj hj hji hpj=>?_⟩,(λe=>by cases e)⟩
     ·unfold rY dA
      dsimp only
      rw [b1,Option.bind_some]
      rfl
     ·by_cases h4:j=i
      ·subst h4; exact b2.1 rfl
      ·exact hI j hj (by omega) hpj
    | false=>
     have hR:¬ Ref l p (pf r p)[i]:=λe=>by have:=b2.2 e; cases this
     generalize hsx:(pf r p)[i]=s at hs hne hpo b1 hB hR
     have hpk:=h.room hp hs ha
     have hg1:aQ asg p=some (Asg asg p):=jB (-1) hp.1 (by rw [h.al]; exact hp.2)
     have hg2:=aNl (ks:=ks) hs.1 (by rw [h.kl]; exact hs.2)
     have hset:(kU ks).set s.toNat (some (kX ((Ks ks s).map λp=>(p,true)) p true))=kU (ks.set s.toNat (Ks ks s++[p])):=by rw [aRp hpk,aNj]
     have hK:Ks (ks.set s.toNat (Ks ks s++[p])) s=Ks ks s++[p]:=by rw [aMa hs.1 (by rw [h.kl]; exact hs.2) hs.1,if_pos rfl]
     have hg3:aQ (kU (ks.set s.toNat (Ks ks s++[p]))) s=some (some ((Ks ks s++[p]).map λp=>(p,true))):=by
      rw [aNl hs.1 (by rw [List.length_set,h.kl]; exact hs.2),hK]
     have hg4:aQ r.Stations s=some (sta r s):=jB _ hs.1 hs.2
     have hr3:∀ X,dA N (dH N) p ⟨r,rank⟩ l asg (kU ks) s=X→rY (λ(zz:(List aA) × (List Int) × (List (Option (List (Int × Bool))))) (ix_:Int)=>dA N (dH N) p ⟨r,rank⟩ zz.1 zz.2.1 zz.2.2 ix_) (.go (l,asg,kU ks)) s=X.map λr=>(r,r.on):=λX hX=>by rw [← hX]; rfl
     by_cases hc:(((Ks ks s++[p]).length:Nat):Int)≤(sta r s).Places
     ·refine ⟨.ret (l,asg.set p.toNat s,kU (ks.set s.toNat (Ks ks s++[p]))),false,?_,(λe=>by cases e),λ_=>⟨_,Or.inr rfl,_,_,_,rfl,h.take hp hs ha hpo hR hB hc⟩⟩
      refine (hr3 (some (.ret (l,asg.set p.toNat s,kU (ks.set s.toNat (Ks ks s++[p]))))) ?_).trans rfl
      unfold dA
      rw [b1,Option.bind_some,cond_false,hg1,Option.bind_some,hg2,Option.bind_some,Option.bind_some,hset,hg3,Option.bind_some,Option.bind_some]
      dsimp only
      rw [hg4,Option.bind_some,List.length_map,decide_eq_true hc,cond_true]
     ·-- the one whom it likes least
      obtain ⟨s14,g1,g2,g3,g4⟩:=tY (ρ:=Rs ((List aA) × (List Int) × (List (Option (List (Int × Bool)))))) (λs14=>eY N p ⟨r,rank⟩ (kU ks) s ((Ks ks s).map λp=>(p,true)) s14.1 s14.2) (λi s14=>s14.2=(i:Int)∧s14.1 ∈ Ks ks s++[p]∧∀ o ∈ Ks ks s++[p],o < (i:Int)→rk r s o≤rk r s s14.1) r.People.length (λj s14 hj hJ=>by
       obtain ⟨q,y⟩:=s14
       obtain ⟨rfl,k1,k2⟩:=hJ
       dsimp only at k1 k2
       have hqp:inP r q:=by
        rcases List.mem_append.1 k1 with h5 | h5
        ·exact h.kr s hs q h5
        ·rw [List.mem_singleton.1 h5]; exact hp
       have hjp:inP r (j:Int):=⟨by omega,by omega⟩
       have hb:eY N p ⟨r,rank⟩ (kU ks) s ((Ks ks s).map λp=>(p,true)) q (j:Int)=some (.cont (if (j:Int) ∈ Ks ks s++[p]∧rk r s q < rk r s (j:Int) then (j:Int) else q,((j + 1:Nat):Int))):=by
        unfold eY jE
        dsimp only
        rw [bW hj,cond_true,hset,hg3,Option.bind_some,Option.bind_some,lk_in,bP (by omega)]
        by_cases h5:(j:Int) ∈ Ks ks s++[p]
        ·rw [decide_eq_true h5]
         simp only [cond_true]
         rw [vB hs.1 (by have:=hs.2; omega),vB hjp.1 (by omega),vB hqp.1 (by have:=hqp.2; omega)]
         simp only [Option.bind_some,Bool.true_and,hw.get hs hqp,hw.get hs hjp]
         by_cases h6:rk r s q < rk r s (j:Int)
         ·rw [decide_eq_true h6,cond_true,if_pos ⟨h5,h6⟩]
         ·rw [decide_eq_false h6,cond_false,if_neg (λe=>h6 e.2)]
        ·rw [decide_eq_false h5]
         simp only [cond_false,Option.bind_some,Bool.false_and]
         rw [if_neg (λe=>h5 e.1)]
       refine ⟨_,hb,rfl,?_,λo ho hlt=>?_⟩
       ·dsimp only; split
        ·rename_i h5; exact h5.1
        ·exact k1
       ·dsimp only
        by_cases h5:o=(j:Int)
        ·subst h5
         split
         ·exact Int.le_refl _
         ·rename_i h6
          have:¬ rk r s q < rk r s (j:Int):=λe=>h6 ⟨ho,e⟩
          omega
        ·have:=k2 o ho (by push_cast at hlt; omega)
         split
         ·rename_i h6; omega
         ·exact this) (λs14 hJ=>by
       show eY N p ⟨r,rank⟩ (kU ks) s ((Ks ks s).map λp=>(p,true)) s14.1 s14.2=_
       unfold eY
       dsimp only
       rw [hJ.1,bU,cond_false,← hJ.1]) r.People.length 0 (p,0) N (by omega) (by omega) ⟨rfl,List.mem_append_right _ (List.mem_singleton.2 rfl),λo ho hlt=>by
        rcases List.mem_append.1 ho with h5 | h5
        ·have:=(h.kr s hs o h5).1; omega
        ·rw [List.mem_singleton.1 h5] at hlt; have:=hp.1; omega⟩
      have hmax:∀ o ∈ Ks ks s++[p],rk r s o≤rk r s s14.1:=λo ho=>g4 o ho (by
       rcases List.mem_append.1 ho with h5 | h5
       ·exact (h.kr s hs o h5).2
       ·rw [List.mem_singleton.1 h5]; exact hp.2)
      obtain ⟨hqp,hSI,hq2⟩:=h.over hp hs ha hpo hR hB (by omega) g3 hmax
      obtain ⟨l',asg',ks',r1,r2⟩:=aPc hw N _ _ _ _ s14.1 hSI hqp (λe=>e.2 rfl) (by rw [List.length_append,List.length_cons,List.length_nil]; omega)
      refine ⟨.ret (l',asg',kU ks'),false,?_,(λe=>by cases e),λ_=>⟨_,Or.inr rfl,_,_,_,rfl,r2.congr λx hx=>?_⟩⟩
      ·refine (hr3 (some (.ret (l',asg',kU ks'))) ?_).trans rfl
       unfold dA
       have hga:aQ (asg.set p.toNat s) s14.1=some (Asg (asg.set p.toNat s) s14.1):=jB (-1) hqp.1 (by rw [List.length_set,h.al]; exact hqp.2)
       have hdel:(kU (ks.set s.toNat (Ks ks s++[p]))).set s.toNat (some (aDp ((Ks ks s++[p]).map λp=>(p,true)) s14.1))=kU (ks.set s.toNat ((Ks ks s++[p]).erase s14.1)):=by
        rw [aNm,aNj,List.set_set]
       rw [b1,Option.bind_some,cond_false,hg1,Option.bind_some,hg2,Option.bind_some,Option.bind_some,g1,hset,hg3,Option.bind_some,Option.bind_some]
       dsimp only
       rw [hg4,Option.bind_some,List.length_map,decide_eq_false hc,cond_false,Option.bind_some]
       simp only [exK]
       rw [Option.bind_some,Option.bind_some,hga,Option.bind_some,fQ (by rw [List.length_append,List.length_cons,List.length_nil]; omega),Option.bind_some,hdel,r1,Option.bind_some]
      ·constructor
       ·rintro (h5 | h5)
        ·exact h5.1
        ·rcases hq2 with h6 | h6
         ·exact Or.inr (h5.trans h6)
         ·left
          rw [h5]
          exact Classical.byContradiction λh7=>h6 (h.fresh _ hqp h7)
       ·intro h5
        by_cases h6:x=s14.1
        ·exact Or.inr h6
        ·exact Or.inl ⟨h5,h6⟩)
   (λi hi sg hI _ hnp=>⟨hI.1,λj hj hji hpj=>by
    by_cases h4:j=i
    ·subst h4; exact absurd hpj hnp
    ·exact hI.2 j hj (by omega) hpj⟩)
   (λi hi sg hI ht=>by
    have hs:inS r (pf r p)[i]:=hw.ok.pr _ (nM hp) _ (List.getElem_mem hi)
    rw [ht] at hs
    have:=hs.1
    omega)
   (λsg hI=>by
    refine ⟨_,Or.inl hI.1,_,_,_,rfl,⟨h.al,h.kl,h.mem,h.kr,h.kn,h.cap,h.asr,h.good,λx hx hd' hne=>?_,λx hx hd'=>h.fresh x hx λe=>hd' (Or.inl e),h.refp,h.refn,h.just⟩⟩
    rcases hd' with h4 | h4
    ·exact h.free x hx h4 hne
    ·subst h4
     intro t ht hpt
     obtain ⟨j,hj,rfl⟩:=List.getElem_of_mem ht
     exact hI.2 j hj hj hpt) (.go (l,asg,kU ks)) ⟨rfl,λj hj hji=>by omega⟩
  obtain ⟨l',asg',ks',rfl,h4⟩:=h3
  refine ⟨l',asg',ks',?_,h4⟩
  rw [show dH (N + 1) p ⟨r,rank⟩ l asg (kU ks)=Option.bind (iN N (⟨r,rank⟩:bJ) p (-1)) λr_1=>Option.bind (fA N (⟨r,rank⟩:bJ) r_1.1 r_1.2 (rY (λ(zz:(List aA) × (List Int) × (List (Option (List (Int × Bool))))) (ix_:Int)=>dA N (dH N) p ⟨r,rank⟩ zz.1 zz.2.1 zz.2.2 ix_)) (.go (l,asg,kU ks))) λx3=>rsK x3 (λzz3=>some (zz3.1,zz3.2.1,zz3.2.2)) (λzz3=>some (zz3.1,zz3.2.1,zz3.2.2)) from rfl]
  unfold iN
  rw [Option.bind_some,h1,Option.bind_some]
  rcases h2 with rfl | rfl <;> rfl
end Go.Nilo
namespace Go.Nilo
theorem aN5 {α:Type} (A B:List α) (x y:α):(A++x::B).set A.length y=A++y::B:=by
 rw [List.set_append_right _ _ (Nat.le_refl _),Nat.sub_self]; rfl
theorem rep1:bO 5000 [-1] 1=some [-1]:=by kernel_rfl
theorem rep2:bO 5000 [-1] 2=some [-1,-1]:=by kernel_rfl
theorem rep3:bO 5000 [-1] 3=some [-1,-1,-1]:=by kernel_rfl
theorem rep4:bO 5000 [-1] 4=some [-1,-1,-1,-1]:=by kernel_rfl
theorem rep5:bO 5000 [-1] 5=some [-1,-1,-1,-1,-1]:=by kernel_rfl
theorem rep6:bO 5000 [-1] 6=some [-1,-1,-1,-1,-1,-1]:=by kernel_rfl
theorem rep7:bO 5000 [-1] 7=some [-1,-1,-1,-1,-1,-1,-1]:=by kernel_rfl
theorem rep8:bO 5000 [-1] 8=some [-1,-1,-1,-1,-1,-1,-1,-1]:=by kernel_rfl
theorem rep9:bO 5000 [-1] 9=some [-1,-1,-1,-1,-1,-1,-1,-1,-1]:=by kernel_rfl
theorem rep10:bO 5000 [-1] 10=some [-1,-1,-1,-1,-1,-1,-1,-1,-1,-1]:=by kernel_rfl
theorem rep11:bO 5000 [-1] 11=some [-1,-1,-1,-1,-1,-1,-1,-1,-1,-1,-1]:=by kernel_rfl
theorem rep12:bO 5000 [-1] 12=some [-1,-1,-1,-1,-1,-1,-1,-1,-1,-1,-1,-1]:=by kernel_rfl
theorem aOu {k:Nat} (h1:1≤k) (h2:k≤12):bO 5000 [-1] (k:Int)=some (List.replicate k (-1)):=by
 have:k=1 ∨ k=2 ∨ k=3 ∨ k=4 ∨ k=5 ∨ k=6 ∨ k=7 ∨ k=8 ∨ k=9 ∨ k=10 ∨ k=11 ∨ k=12:=by omega
 rcases this with rfl | rfl | rfl | rfl | rfl | rfl | rfl | rfl | rfl | rfl | rfl | rfl
 ·exact rep1
 ·exact rep2
 ·exact rep3
 ·exact rep4
 ·exact rep5
 ·exact rep6
 ·exact rep7
 ·exact rep8
 ·exact rep9
 ·exact rep10
 ·exact rep11
 ·exact rep12
abbrev aSd (N:Nat):Prop:=∀ k:Nat,1≤k→k≤12→bO N [-1] (k:Int)=some (List.replicate k (-1))
def yG (r:aB) (asg:List Int) (l:List aA):Prop:=∃ ks,SI r (λ_=>True) l asg ks
theorem aRi {N:Nat} (hN:400≤N) {r:aB} {rank:Nat→Int} (s2:r.Stations.length≤12):aS (λs5=>fL N ⟨r,rank⟩ s5.1 s5.2) N (0,List.replicate ((r.Stations.length:Nat):Int).toNat (none:Option (List (Int × Bool))))=some (.go ((r.Stations.length:Int),kU (List.replicate r.Stations.length []))):=by
 have hrun:=rK (ρ:=List Int × List aA) (λi:Nat=>((i:Int),List.replicate i (some ([]:List (Int × Bool)))++List.replicate (r.Stations.length - i) none)) r.Stations.length (λs5=>fL N ⟨r,rank⟩ s5.1 s5.2) (λi hi=>by
  show fL N ⟨r,rank⟩ (i:Int) (List.replicate i (some ([]:List (Int × Bool)))++List.replicate (r.Stations.length - i) none)=_
  unfold fL
  dsimp only
  have e1:List.replicate (r.Stations.length - i) (none:Option (List (Int × Bool)))=none::List.replicate (r.Stations.length - (i + 1)) none:=by
   rw [show r.Stations.length - i=(r.Stations.length - (i + 1)) + 1 by omega,List.replicate_succ]
  rw [List.length_replicate,Int.toNat_natCast,bW hi,cond_true,e1,bF (by rw [List.length_append,List.length_replicate,List.length_cons]; omega),Option.bind_some,bP (by omega),Int.toNat_natCast]
  have hs:=aN5 (List.replicate i (some ([]:List (Int × Bool)))) (List.replicate (r.Stations.length - (i + 1)) none) none (some [])
  rw [List.length_replicate] at hs
  rw [hs,List.replicate_succ',List.append_assoc]
  rfl) (by
  show fL N ⟨r,rank⟩ _ _=_
  unfold fL
  dsimp only
  rw [List.length_replicate,Int.toNat_natCast,bU,cond_false]) (N:=N) (by omega)
 have hhad:List.replicate r.Stations.length (some ([]:List (Int × Bool)))++List.replicate (r.Stations.length - r.Stations.length) none=kU (List.replicate r.Stations.length []):=by
  rw [Nat.sub_self]
  unfold kU
  simp
 rw [hhad] at hrun
 have e0:((0:Int),List.replicate ((r.Stations.length:Nat):Int).toNat (none:Option (List (Int × Bool))))=(((0:Nat):Int),List.replicate 0 (some ([]:List (Int × Bool)))++List.replicate (r.Stations.length - 0) none):=by
  rw [Int.toNat_natCast]; rfl
 rw [e0,hrun]
theorem aLi {r:aB} (h:iX r):SI r (λq=>q < ((0:Nat):Int)) [] (List.replicate r.People.length (-1)) (List.replicate r.Stations.length []):=by
 have eA:∀ p,Asg (List.replicate r.People.length (-1)) p = -1:=λp=>by
  unfold Asg
  simp only [List.getD,List.getElem?_replicate]
  split <;> rfl
 have eK:∀ s,Ks (List.replicate r.Stations.length ([]:List Int)) s=[]:=λs=>by
  unfold Ks
  simp only [List.getD,List.getElem?_replicate]
  split <;> rfl
 refine ⟨by simp,by simp,λs p hs hp=>?_,λs hs p hp=>?_,λs hs=>?_,λs hs=>?_,λp hp=>Or.inl (eA p),λp hp hne=>absurd (eA p) hne,λp hp hd=>?_,λp hp _=>eA p,λx hx=>(List.not_mem_nil hx).elim,List.nodup_nil,λk hk=>absurd hk (Nat.not_lt_zero k)⟩
 ·rw [eA,eK]
  exact ⟨λh=>(List.not_mem_nil h).elim,λh=>by have:=hs.1; omega⟩
 ·rw [eK] at hp; exact (List.not_mem_nil hp).elim
 ·rw [eK]; exact List.nodup_nil
 ·rw [eK]
  have:=(h.sp _ (aGr hs)).1
  simp only [List.length_nil]
  omega
 ·have:=hp.1; omega
theorem aRf {N:Nat} (hN:400≤N) {r:aB} {rank:Nat→Int} (hw:WOk r rank):∃ s ks,aS (λs12=>gA N ⟨r,rank⟩ s12.1 s12.2.1 s12.2.2.1 s12.2.2.2) N (0,List.replicate r.People.length (-1),[],kU (List.replicate r.Stations.length []))=some (.go s)∧SI r (λq=>q < (r.People.length:Int)) s.2.2.1 s.2.1 ks:=by
 have p2:=hw.ok.p2
 obtain ⟨s,hs,hI,ks,hS⟩:=tY (ρ:=List Int × List aA) (λs12=>gA N ⟨r,rank⟩ s12.1 s12.2.1 s12.2.2.1 s12.2.2.2) (λi s=>s.1=(i:Int)∧∃ ks,s.2.2.2=kU ks∧SI r (λq=>q < (i:Int)) s.2.2.1 s.2.1 ks) r.People.length (λi s hi hI=>by
  obtain ⟨x,asg,l,had⟩:=s
  obtain ⟨rfl,ks,rfl,hS⟩:=hI
  dsimp only at hS
  obtain ⟨l',asg',ks',h1,h2⟩:=aPc hw N _ l asg ks (i:Int) hS ⟨by omega,by omega⟩ (by omega) (by omega)
  refine ⟨(W ((i:Int) + 1),asg',l',kU ks'),?_,bP (by omega),ks',rfl,h2.congr λp hp=>?_⟩
  ·show gA N ⟨r,rank⟩ (i:Int) asg l (kU ks)=_
   unfold gA
   dsimp only
   rw [bW hi,cond_true,h1,Option.bind_some]
  ·push_cast; omega) (λs hI=>by
  show gA N ⟨r,rank⟩ s.1 s.2.1 s.2.2.1 s.2.2.2=_
  unfold gA
  dsimp only
  rw [hI.1,bU,cond_false,← hI.1]) r.People.length 0 (0,List.replicate r.People.length (-1),[],kU (List.replicate r.Stations.length [])) N (by omega) (by omega) ⟨rfl,_,rfl,aLi hw.ok⟩
 exact ⟨s,ks,hs,hS.2⟩
theorem aJ0 {σ ρ τ:Type} (s:σ) (f:σ→Option τ) (g:ρ→Option τ):exK (Ex.go s) f g=f s:=rfl
theorem aPt {n:Nat} (h:n≤1000000):inM (n:Int)=some ():=by
 unfold inM
 rw [if_pos ⟨by omega,by omega⟩]
theorem aN8 {N:Nat} (hN:400≤N) (hrep:aSd N) {r:aB} {rank:Nat→Int} (hw:WOk r rank):∃ asg l,qA N ⟨r,rank⟩=some (asg,l)∧yG r asg l:=by
 obtain ⟨p1,p2,s1,s2,-⟩:=id hw.ok
 obtain ⟨s,ks,hs,hS⟩:=aRf hN hw
 refine ⟨s.2.1,s.2.2.1,?_,ks,hS.congr λp hp=>⟨λ_=>trivial,λ_=>hp.2⟩⟩
 unfold qA
 rw [show inM (((⟨r,rank⟩:bJ).Roster.Stations.length:Nat):Int)=some () from aPt (show r.Stations.length≤1000000 by omega),Option.bind_some]
 rw [show aS (λs5=>fL N ⟨r,rank⟩ s5.1 s5.2) N (0,List.replicate (((⟨r,rank⟩:bJ).Roster.Stations.length:Nat):Int).toNat (none:Option (List (Int × Bool))))=_ from aRi hN s2,Option.bind_some]
 rw [aJ0]
 rw [show bO N ([(-1)]:List Int) (((⟨r,rank⟩:bJ).Roster.People.length:Nat):Int)=some (List.replicate r.People.length (-1)) from hrep _ p1 p2,Option.bind_some,hs,Option.bind_some,aJ0]
theorem aOf {N:Nat} (hN:400≤N) (hrep:aSd N) {r:aB} (h:iX r):∃ asg l,qN N r=some (asg,0)∧oU N r=some (l,0)∧yG r asg l:=by
 obtain ⟨rank,h1,h2⟩:=aCx (N:=N) (by omega) h
 obtain ⟨asg,l,h3,h4⟩:=aN8 hN hrep ⟨h,h2⟩
 refine ⟨asg,l,?_,?_,h4⟩
 ·unfold qN
  rw [h1,Option.bind_some]
  simp only [aGl,bne_self_eq_false,cond_false]
  rw [h3]
  rfl
 ·unfold oU
  rw [h1,Option.bind_some]
  simp only [aGl,bne_self_eq_false,cond_false]
  rw [h3]
  rfl
end Go.Nilo
namespace Go.Nilo
def ppl (r:aB):List Int:=(List.range r.People.length).map λi:Nat=>(i:Int)
theorem aM5 {r:aB} {p:Int}:p ∈ ppl r ↔ inP r p:=by
 unfold ppl
 rw [List.mem_map]
 constructor
 ·rintro ⟨i,h1,rfl⟩
  have:=List.mem_range.1 h1
  exact ⟨by omega,by omega⟩
 ·intro h
  have h0:=h.1
  have h1:=h.2
  exact ⟨p.toNat,List.mem_range.2 (by omega),by omega⟩
theorem aOb (r:aB):(ppl r).Nodup:=by
 unfold ppl
 rw [List.nodup_iff_pairwise_ne,List.pairwise_map]
 exact (List.nodup_iff_pairwise_ne.1 List.nodup_range).imp λh=>by omega
def oK (r:aB) (b:List Int) (s:Int):List Int:=(ppl r).filter λp=>Asg b p == s
theorem vD {r:aB} {b:List Int} {s p:Int}:p ∈ oK r b s ↔ inP r p∧Asg b p=s:=by
 unfold oK
 rw [List.mem_filter,aM5,beq_iff_eq]
theorem aH1 (r:aB) (b:List Int) (s:Int):(oK r b s).Nodup:=(aOb r).filter _
structure AOk (r:aB) (b:List Int):Prop where
 len:b.length=r.People.length
 rng:∀ p,inP r p→Asg b p = -1 ∨ inS r (Asg b p)
def Feas (r:aB) (b:List Int):Prop:=∀ p,inP r p→Asg b p ≠ -1→mX r p (Asg b p)∧((oK r b (Asg b p)).length:Int)≤(sta r (Asg b p)).Places
def bfr (r:aB) (b:List Int) (p s:Int):Prop:=s ∈ pf r p∧(Asg b p ∉ pf r p ∨ sQ (pf r p) s < sQ (pf r p) (Asg b p))
def Wants (r:aB) (b:List Int) (p s:Int):Prop:=((oK r b s).length:Int) < (sta r s).Places ∨ ∃ q ∈ oK r b s,rk r s p < rk r s q
def NoBlk (r:aB) (b:List Int):Prop:=∀ p s,inP r p→bfr r b p s→mX r p s→¬ Wants r b p s
structure aMh (r:aB) (b:List Int):Prop where
 a:AOk r b
 f:Feas r b
 n:NoBlk r b
theorem uZ {r:aB} (h:iX r) {p s:Int} (hp:inP r p) (hs:s ∈ pf r p):inS r s:=h.pr _ (nM hp) s hs
theorem aI7 {r:aB} {l:List aA} {s:Int}:∀ (n:Nat) (p:Int),Ref l p s→(rk r s p + 1).toNat≤n→∃ p',Ref l p' s∧rk r s p'≤rk r s p∧∀ q,Ref l q s→0≤rk r s q→rk r s p'≤rk r s q
 | 0,p,h,hn=>⟨p,h,Int.le_refl _,λq _ h0=>by omega⟩
 | n + 1,p,h,hn=>by
  by_cases hc:∃ q,Ref l q s∧0≤rk r s q∧rk r s q < rk r s p
  ·obtain ⟨q,h1,h2,h3⟩:=hc
   obtain ⟨p',k1,k2,k3⟩:=aI7 (r:=r) n q h1 (by omega)
   exact ⟨p',k1,by omega,k3⟩
  ·refine ⟨p,h,Int.le_refl _,λq hq h0=>?_⟩
   rcases Int.lt_or_le (rk r s q) (rk r s p) with h4 | h4
   ·exact absurd ⟨q,hq,h0,h4⟩ hc
   ·exact h4
theorem aOc {r:aB} {p s:Int} (h:mX r p s):0≤rk r s p:=by
 obtain ⟨i,h1,-⟩:=aC8 h.1
 unfold rk
 omega
theorem SI.members {r:aB} {d:Int→Prop} {l:List aA} {asg:List Int} {ks:List (List Int)} (h:SI r d l asg ks) {s:Int} (hs:inS r s):((oK r asg s).length:Int)≤(sta r s).Places:=by
 have h1:=vF (aH1 r asg s) (l':=Ks ks s) λx hx=>by
  obtain ⟨h1,h2⟩:=vD.1 hx
  exact (h.mem s x hs h1).2 h2
 have:=h.cap s hs
 omega
theorem SI.full {r:aB} (hr:iX r) {l:List aA} {asg:List Int} {ks:List (List Int)} (h:SI r (λ_=>True) l asg ks) {p s:Int} (hR:Ref l p s):(sta r s).Places≤((oK r asg s).length:Int)∧∀ q ∈ oK r asg s,rk r s q < rk r s p:=by
 obtain ⟨p0,h1,h2,h3⟩:=aI7 (r:=r) _ p hR (Nat.le_refl _)
 obtain ⟨k,hk,he⟩:=List.getElem_of_mem h1
 obtain ⟨qs,q1,q2,q3⟩:=h.just k hk
 rw [he] at q2 q3
 dsimp only at q2 q3
 obtain ⟨-,hs,-⟩:=h.refp _ h1
 dsimp only at hs
 have hsub:∀ q ∈ qs,q ∈ oK r asg s:=λq hq=>by
  obtain ⟨g1,g2,g3,g4⟩:=q3 q hq
  refine vD.2 ⟨g1,?_⟩
  have hnr:¬ Ref l q s:=λe=>by
   have:=h3 q e (aOc g2)
   omega
  by_cases ha:Asg asg q = -1
  ·exact absurd (h.free q g1 trivial ha s g2.2 g2) hnr
  ·obtain ⟨a1,a2,a3⟩:=h.good q g1 ha
   rcases Int.lt_trichotomy (sQ (pf r q) s) (sQ (pf r q) (Asg asg q)) with h5 | h5 | h5
   ·exact absurd (a3 s g2.2 h5 g2) hnr
   ·exact (aGu g2.2 h5).symm
   ·exact absurd (List.mem_of_mem_take (g4 _ a1.2 h5 a1)) a2
 have hle:=vF q1 hsub
 have hcap:=h.members hs
 refine ⟨by omega,λq hq=>?_⟩
 have hin:q ∈ qs:=Decidable.byContradiction λhc=>by
  have:=vF (l:=q::qs) (List.nodup_cons.2 ⟨hc,q1⟩) (l':=oK r asg s) λx hx=>by
   rcases List.mem_cons.1 hx with rfl | hx
   ·exact hq
   ·exact hsub x hx
  rw [List.length_cons] at this
  omega
 have:=(q3 q hin).2.2.1
 omega
theorem aCj {r:aB} (hr:iX r) {asg:List Int} {l:List aA} (h:yG r asg l):aMh r asg:=by
 obtain ⟨ks,h⟩:=h
 refine ⟨⟨h.al,h.asr⟩,λp hp hne=>?_,λp s hp hb hpo hw=>?_⟩
 ·obtain ⟨g1,g2,g3⟩:=h.good p hp hne
  exact ⟨g1,h.members (uZ hr hp g1.2)⟩
 ·have hR:Ref l p s:=by
   by_cases ha:Asg asg p = -1
   ·exact h.free p hp trivial ha s hb.1 hpo
   ·obtain ⟨g1,g2,g3⟩:=h.good p hp ha
    exact g3 s hb.1 (hb.2.resolve_left λe=>e g1.2) hpo
  obtain ⟨f1,f2⟩:=h.full hr hR
  rcases hw with hw | ⟨q,hq,hlt⟩
  ·omega
  ·have:=f2 q hq; omega
theorem aDl {r:aB} (hr:iX r) {l:List aA} (hj:∀ k (h:k < l.length),Just r (l.take k) l[k]) (hp:∀ x ∈ l,inP r x.Person∧inS r x.Station∧mX r x.Person x.Station) {b:List Int} (hb:aMh r b):∀ (n k:Nat),k < n→∀ h:k < l.length,Asg b l[k].Person ≠ l[k].Station
 | n + 1,k,hkn,hk=>by
  intro he
  obtain ⟨qs,q1,q2,q3⟩:=hj k hk
  obtain ⟨p1,p2,p3⟩:=hp _ (List.getElem_mem hk)
  have hmem:l[k].Person ∈ oK r b l[k].Station:=vD.2 ⟨p1,he⟩
  have hne:Asg b l[k].Person ≠ -1:=by rw [he]; have:=p2.1; omega
  have hcap:=(hb.f _ p1 hne).2
  rw [he] at hcap
  have hpq:l[k].Person ∉ qs:=λe=>by have:=(q3 _ e).2.2.1; omega
  have hex:∃ q ∈ qs,Asg b q ≠ l[k].Station:=by
   refine Decidable.byContradiction λhc=>?_
   have:=vF (l:=l[k].Person::qs) (List.nodup_cons.2 ⟨hpq,q1⟩) (l':=oK r b l[k].Station) λx hx=>by
    rcases List.mem_cons.1 hx with rfl | hx
    ·exact hmem
    ·refine vD.2 ⟨(q3 x hx).1,Decidable.byContradiction λhn=>hc ⟨x,hx,hn⟩⟩
   rw [List.length_cons] at this
   omega
  obtain ⟨q,hq,hqn⟩:=hex
  obtain ⟨g1,g2,g3,g4⟩:=q3 q hq
  have hbf:bfr r b q l[k].Station:=by
   refine ⟨g2.2,?_⟩
   by_cases hin:Asg b q ∈ pf r q
   ·right
    rcases Int.lt_trichotomy (sQ (pf r q) l[k].Station) (sQ (pf r q) (Asg b q)) with h5 | h5 | h5
    ·exact h5
    ·exact absurd (aGu g2.2 h5).symm hqn
    ·exfalso
     have hran:=uZ hr g1 hin
     have hqb:=(hb.f q g1 (by have:=hran.1; omega)).1
     have hR:=g4 _ hin h5 hqb
     obtain ⟨j,hj',hje⟩:=List.getElem_of_mem hR
     rw [List.length_take] at hj'
     rw [List.getElem_take] at hje
     have:=aDl hr hj hp hb n j (by omega) (by omega)
     rw [hje] at this
     exact this rfl
   ·left; exact hin
  exact hb.n q _ g1 hbf g2 (Or.inr ⟨_,hmem,g3⟩)
end Go.Nilo
namespace Go.Nilo
theorem aRn {N:Nat} {l:List aA} {p s:Int} (hl:l.length≤1000) (hN:l.length < N):∃ b,dM N l ⟨p,s⟩=some b∧(b=true ↔ Ref l p s):=by
 unfold dM fS
 have hany:l.any (λx=>p == x.Person && s == x.Station)=true ↔ Ref l p s:=by
  rw [List.any_eq_true]
  unfold Ref
  constructor
  ·rintro ⟨x,h1,h2⟩
   rw [Bool.and_eq_true,beq_iff_eq,beq_iff_eq] at h2
   obtain ⟨rfl,rfl⟩:=h2
   exact h1
  ·intro h; exact ⟨_,h,by simp⟩
 rcases aCy (λx:aA=>p == x.Person && s == x.Station) l (by omega) (λs4=>jG N l ⟨p,s⟩ s4) (λx=>rfl) l.length 0 N (by omega) hN with ⟨k,h1,h2,h3⟩ | ⟨h1,h2⟩
 ·rw [show ((0:Nat):Int)=0 from rfl] at h1
  rw [List.drop_zero] at h3
  refine ⟨true,?_,by simp only [true_iff]; exact hany.1 h3⟩
  rw [h1]
  simp [exK,h2]
 ·rw [show ((0:Nat):Int)=0 from rfl] at h1
  rw [List.drop_zero] at h2
  refine ⟨false,by rw [h1]; rfl,?_⟩
  rw [← hany,h2]
end Go.Nilo
namespace Go.Nilo
theorem loop_to {σ ρ:Type} {f:σ→Option (bC σ ρ)} (Inv Post:σ→Prop) (μ:σ→Nat) (h:∀ s,Inv s→(∃ s',f s=some (.brk s')∧Post s') ∨ (∃ s',f s=some (.cont s')∧Inv s'∧μ s' < μ s)):∀ (N:Nat) (s:σ),Inv s→μ s < N→∃ s',aS f N s=some (.go s')∧Post s'
 | 0,s,_,hN=>by omega
 | N + 1,s,hs,hN=>by
  unfold aS
  rcases h s hs with ⟨s',h1,h2⟩ | ⟨s',h1,h2,h3⟩
  ·exact ⟨s',by rw [h1],h2⟩
  ·obtain ⟨s'',h4,h5⟩:=loop_to Inv Post μ h N s' h2 (by omega)
   exact ⟨s'',by rw [h1]; exact h4,h5⟩
theorem aHv {r:aB} {b:List Int} {s:Int} {i:Nat} (hi:i < r.People.length):((ppl r).take (i + 1)).filter (λp=>Asg b p == s)=((ppl r).take i).filter (λp=>Asg b p == s)++(if Asg b (i:Int)=s then [(i:Int)] else []):=by
 have hl:i < (ppl r).length:=by simpa [ppl] using hi
 rw [List.take_succ_eq_append_getElem hl,List.filter_append]
 have:(ppl r)[i]=(i:Int):=by simp [ppl]
 rw [this]
 congr 1
 by_cases h:Asg b (i:Int)=s
 ·rw [if_pos h,List.filter_cons,if_pos (by rw [beq_iff_eq]; exact h)]; rfl
 ·rw [if_neg h,List.filter_cons,if_neg (by rw [beq_iff_eq]; exact h)]; rfl
theorem aTj {N:Nat} (hN:40≤N) {r:aB} {rank:Nat→Int} (hr:iX r) {b:List Int} (hb:AOk r b):∃ h:List (List Int),wN N ⟨r,rank⟩ b=some h∧h.length=12∧∀ s,inS r s→aQ h s=some (oK r b s):=by
 have hp2:=hr.p2
 have hs2:=hr.s2
 have hbl:=hb.len
 unfold wN
 obtain ⟨s,g1,g2,g3,g4⟩:=tY (ρ:=List (List Int)) (λs5=>mZ N b s5.1 s5.2) (λi s=>s.1=(i:Int)∧s.2.length=12∧∀ t:Int,inS r t→s.2.getD t.toNat []=((ppl r).take i).filter (λp=>Asg b p == t)) r.People.length (λi s hi hI=>by
  obtain ⟨x,h⟩:=s
  obtain ⟨rfl,hl,hh⟩:=hI
  dsimp only at hl hh
  have hiP:inP r (i:Int):=⟨by omega,by omega⟩
  have hget:aQ b (i:Int)=some (Asg b (i:Int)):=jB (-1) (by omega) (by omega)
  have hdec:decide ((i:Int) < ((b.length:Nat):Int))=true:=by rw [decide_eq_true_eq]; omega
  show ∃ s',mZ N b (i:Int) h=_∧_
  unfold mZ pN
  rw [hdec,cond_true,hget,Option.bind_some,bP (by omega)]
  by_cases hn:Asg b (i:Int) = -1
  ·rw [show (Asg b (i:Int) != -1)=false by rw [hn]; rfl,cond_false]
   refine ⟨_,rfl,rfl,hl,λt ht=>?_⟩
   rw [aHv hi,if_neg (by rw [hn]; have:=ht.1; omega),List.append_nil]
   exact hh t ht
  ·have hS:=(hb.rng _ hiP).resolve_left hn
   have hg2:aQ h (Asg b (i:Int))=some (((ppl r).take i).filter (λp=>Asg b p == Asg b (i:Int))):=by
    rw [jB [] hS.1 (by have:=hS.2; omega),hh _ hS]
   have hfl:=List.length_filter_le (λp=>Asg b p == Asg b (i:Int)) ((ppl r).take i)
   rw [List.length_take] at hfl
   rw [bne_iff_ne.2 hn,cond_true,vB hS.1 (by have:=hS.2; omega),Option.bind_some,hg2,Option.bind_some,fQ (by rw [List.length_append,List.length_cons,List.length_nil]; omega),Option.bind_some,Option.bind_some,Option.bind_some]
   refine ⟨_,rfl,rfl,by rw [List.length_set]; exact hl,λt ht=>?_⟩
   dsimp only
   rw [aE2 (by have:=hS.2; omega),aHv hi]
   by_cases h1:t=Asg b (i:Int)
   ·subst h1; rw [if_pos rfl,if_pos rfl]
   ·rw [if_neg (by have:=ht.1; have:=hS.1; omega),if_neg (λe=>h1 e.symm),List.append_nil]
    exact hh t ht) (λs hI=>by
  show mZ N b s.1 s.2=_
  unfold mZ
  rw [hI.1,hbl,bU,cond_false,← hI.1]) r.People.length 0 (0,List.replicate 12 []) N (by omega) (by omega) ⟨rfl,rfl,λt ht=>by
   simp only [List.getD,List.getElem?_replicate,List.take_zero,List.filter_nil]
   split <;> rfl⟩
 rw [g1,Option.bind_some]
 simp only [exK]
 have hisl:aEq 12 s.2=some ():=by unfold aEq; rw [if_pos g3]
 rw [hisl,Option.bind_some]
 refine ⟨s.2,rfl,g3,λt ht=>?_⟩
 rw [jB [] ht.1 (by have:=ht.2; omega),g4 t ht,List.take_of_length_le (by simp [ppl])]
 rfl
def aCr (r:aB) (b:List Int) (p s:Int):Bool:=decide (((oK r b s).length:Int) < (sta r s).Places) || (oK r b s).any λq=>decide (rk r s p < rk r s q)
theorem aQ7 {N:Nat} (hN:40≤N) {r:aB} {rank:Nat→Int} (hw:WOk r rank) {b:List Int} {p s:Int} (hp:inP r p) (hs:inS r s):fZ N (oK r b s) ⟨r,rank⟩ s p=some ((oK r b s).any λq=>decide (rk r s p < rk r s q)):=by
 have hp2:=hw.ok.p2
 have hs2:=hw.ok.s2
 have hml:(oK r b s).length≤12:=by
  have:=List.length_filter_le (λp=>Asg b p == s) (ppl r)
  have h2:(ppl r).length=r.People.length:=by simp [ppl]
  unfold oK
  omega
 unfold fZ mJ
 have hrun:=tP (ρ:=Int) (λi:Nat=>(i:Int)) (λj=>cond (!decide (rk r s p < rk r s ((oK r b s).getD j 0))) none (some (j:Int))) (oK r b s).length (λs4=>dJ N (oK r b s) ⟨r,rank⟩ s p s4) (λi hi=>by
  show dJ N (oK r b s) ⟨r,rank⟩ s p (i:Int)=_
  unfold dJ aAm
  have hq:=(vD.1 (List.getElem_mem hi)).1
  rw [bW hi,cond_true,bF hi,Option.bind_some,vB hs.1 (by have:=hs.2; omega),vB hq.1 (by have:=hq.2; omega),vB hp.1 (by have:=hp.2; omega),Option.bind_some,Option.bind_some,Option.bind_some,Option.bind_some,Option.bind_some]
  simp only [hw.get hs hp,hw.get hs hq]
  rw [bP (by omega),cP (d:=(0:Int)) hi]
  cases decide (rk r s p < rk r s ((oK r b s).getD i 0)) <;> rfl) (by
  show dJ N (oK r b s) ⟨r,rank⟩ s p _=_
  unfold dJ
  rw [bU,cond_false]) (oK r b s).length 0 N (by omega) (by omega)
 rw [show ((0:Nat):Int)=0 from rfl] at hrun
 rw [hrun]
 have key:∀ (l:List Int) (m i:Nat),i + m=l.length→(match eM (λj=>cond (!decide (rk r s p < rk r s (l.getD j 0))) none (some (j:Int))) i m with | some r=>(Ex.out r:Ex Int Int) | none=>.go (l.length:Int))=(match eM (λj=>cond (!decide (rk r s p < rk r s (l.getD j 0))) none (some (j:Int))) i m with | some r=>(Ex.out r:Ex Int Int) | none=>.go (l.length:Int))∧((eM (λj=>cond (!decide (rk r s p < rk r s (l.getD j 0))) none (some (j:Int))) i m=none∧(l.drop i).any (λq=>decide (rk r s p < rk r s q))=false) ∨ ∃ k:Int,0≤k∧eM (λj=>cond (!decide (rk r s p < rk r s (l.getD j 0))) none (some (j:Int))) i m=some k∧(l.drop i).any (λq=>decide (rk r s p < rk r s q))=true):=by
  intro l m
  induction m with
  | zero=>intro i hi; exact ⟨rfl,Or.inl ⟨rfl,by rw [List.drop_eq_nil_of_le (by omega)]; rfl⟩⟩
  | succ m ih=>
   intro i hi
   refine ⟨rfl,?_⟩
   have hil:i < l.length:=by omega
   rw [List.drop_eq_getElem_cons hil,List.any_cons,cP (d:=(0:Int)) hil]
   unfold eM
   cases hd:decide (rk r s p < rk r s (l.getD i 0)) with
   | true=>exact Or.inr ⟨(i:Int),by omega,rfl,rfl⟩
   | false=>
    have h2:=(ih (i + 1) (by omega)).2
    simpa using h2
 rcases (key (oK r b s) (oK r b s).length 0 (by omega)).2 with ⟨h1,h2⟩ | ⟨k,h0,h1,h2⟩
 ·rw [List.drop_zero] at h2
  rw [h1,h2]
  rfl
 ·rw [List.drop_zero] at h2
  rw [h1,h2]
  simp [exK,h0]
end Go.Nilo
