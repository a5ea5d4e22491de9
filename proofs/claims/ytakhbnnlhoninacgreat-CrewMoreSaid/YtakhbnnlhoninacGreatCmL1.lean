/-
  What the plain functions compute, in plain arithmetic, part 1. Conditions: what each theorem names.
-/
import Derived.Test.YtakhbnnlhoninacGreatCm4
set_option linter.unusedSimpArgs false
set_option linter.unusedVariables false
namespace Go.Nilo

theorem pR {n:Int} (h1 : -9223372036854775808≤n) (h2:n≤9223372036854775807):W n=n:=by
 unfold W
 rw [IntKind.wrap_i64]
 omega

theorem aBo {α:Type} (f:α→Bool) (l:List α) (hl:l.length≤4611686018427387904) (b:Int→Option (cK Int Int))
  (hb:∀ x,b x=cond (decide (x < ((l.length:Nat):Int))) (Option.bind (bH l x) fun e=>cond (f e) (some (.ret x)) (some (.cont (W (x + 1))))) (some (.brk x))) :
  ∀ (m i N:Nat),i + m=l.length→m < N→(∃ k:Int,bE b N (i:Int)=some (.out k)∧0≤k∧(l.drop i).any f=true) ∨ (bE b N (i:Int)=some (.go ((l.length:Nat):Int))∧(l.drop i).any f=false)
 | m,i,0,_,h=>by omega
 | 0,i,N + 1,hi,_=>by
  right
  have hd:l.drop i=[]:=List.drop_eq_nil_of_le (by omega)
  have:(decide ((i:Int) < ((l.length:Nat):Int)))=false:=by simp; omega
  unfold bE
  rw [hb,this,hd]
  simp; omega
 | m + 1,i,N + 1,hi,hN=>by
  have hil:i < l.length:=by omega
  have h1:(decide ((i:Int) < ((l.length:Nat):Int)))=true:=by simp; omega
  have hg:bH l (i:Int)=some l[i]:=by unfold bH; simp [hil]
  have hdr:l.drop i=l[i]::l.drop (i + 1):=List.drop_eq_getElem_cons hil
  unfold bE
  rw [hb,h1,hg,hdr]
  cases hf:f l[i] with
  | true=>left; exact ⟨i,by simp only [cond_true,Option.bind_some,hf],by omega,by rw [List.any_cons,hf]; rfl⟩
  | false=>
   have hw:W ((i:Int) + 1)=((i + 1:Nat):Int):=by rw [pR (by omega) (by omega)]; push_cast; rfl
   rcases aBo f l hl b hb m (i + 1) N (by omega) (by omega) with ⟨k,h2,h3,h4⟩ | ⟨h2,h3⟩
   ·left; exact ⟨k,by simp only [cond_true,cond_false,Option.bind_some,hf,hw]; exact h2,h3,by rw [List.any_cons,hf,h4]; rfl⟩
   ·right; exact ⟨by simp only [cond_true,cond_false,Option.bind_some,hf,hw]; exact h2,by rw [List.any_cons,hf,h3]; rfl⟩

theorem uT {a b:Int} (h:0≤a):a.tmod b=a % b:=Int.tmod_eq_emod_of_nonneg h
theorem aHg {a b:Int} (h:0≤a):a.tdiv b=a / b:=Int.tdiv_eq_ediv_of_nonneg h

theorem oH {σ ρ:Type} (b:σ→Option (cK σ ρ)) (Inv:Nat→σ→Prop) (n:Nat) (hstep:∀ i s,i < n→Inv i s→∃ s',b s=some (.cont s')∧Inv (i + 1) s') (hend:∀ s,Inv n s→b s=some (.brk s)) :
  ∀ (m i:Nat) (s:σ) (N:Nat),i + m=n→m < N→Inv i s→∃ s',bE b N s=some (.go s')∧Inv n s'
 | m,i,s,0,_,h,_=>by omega
 | 0,i,s,N + 1,hi,_,hs=>by
  obtain rfl:i=n:=by omega
  exact ⟨s,by unfold bE; rw [hend s hs],hs⟩
 | m + 1,i,s,N + 1,hi,hN,hs=>by
  obtain ⟨s',h1,h2⟩:=hstep i s (by omega) hs
  obtain ⟨s'',h3,h4⟩:=oH b Inv n hstep hend m (i + 1) s' N (by omega) (by omega) h2
  exact ⟨s'',by unfold bE; rw [h1]; exact h3,h4⟩

theorem eM {α:Type} {l:List α} {i:Nat} (h:i < l.length):bH l (i:Int)=some l[i]:=by unfold bH; simp [h]
theorem jZ {i:Nat} (h:i < 9223372036854775807):W ((i:Int) + 1)=((i + 1:Nat):Int):=by rw [pR (by omega) (by omega)]; push_cast; rfl

theorem mH {n:Nat} (h:n≤1000000):room n=some ():=by unfold room; rw [if_pos h]
theorem wF {α:Type} {l:List α} {d:α} {j:Nat} (h:j < l.length):l[j]=l.getD j d:=by simp [List.getD,h]

theorem aB0 {α:Type} (f:α→Bool) (l:List α) (hl:l.length≤1000000) (b:Int→Option (cK Int Int))
  (hb:∀ x,b x=cond (decide (x < ((l.length:Nat):Int))) (Option.bind (bH l x) fun e=>cond (f e) (some (.ret x)) (some (.cont (W (x + 1))))) (some (.brk x))) :
  ∀ (m i N:Nat),i + m=l.length→m < N→(∀ j (h:j < l.length),j < i→f l[j]=false) →
   (l.findIdx f < l.length∧bE b N (i:Int)=some (.out ((l.findIdx f:Nat):Int))) ∨ (l.findIdx f=l.length∧bE b N (i:Int)=some (.go ((l.length:Nat):Int)))
 | m,i,0,_,h,_=>by omega
 | 0,i,N + 1,hi,_,hf=>by
  right
  have hall:l.findIdx f=l.length:=by
   rw [List.findIdx_eq_length]
   intro x hx
   obtain ⟨j,hj,rfl⟩:=List.getElem_of_mem hx
   exact hf j hj (by omega)
  have hd:(decide ((i:Int) < ((l.length:Nat):Int)))=false:=by simp; omega
  refine ⟨hall,?_⟩
  unfold bE
  rw [hb,hd]
  simp; omega
 | m + 1,i,N + 1,hi,hN,hf=>by
  have hil:i < l.length:=by omega
  have h1:(decide ((i:Int) < ((l.length:Nat):Int)))=true:=by simp; omega
  unfold bE
  rw [hb,h1,eM hil]
  cases hfi:f l[i] with
  | true=>
   left
   have he:l.findIdx f=i:=(List.findIdx_eq hil).2 ⟨hfi,fun j hj=>hf j (by omega) hj⟩
   exact ⟨by omega,by simp only [cond_true,Option.bind_some,hfi,he]⟩
  | false=>
   have ih:=aB0 f l hl b hb m (i + 1) N (by omega) (by omega) (fun j h hj=>by
    by_cases hji:j=i
    ·subst hji; exact hfi
    ·exact hf j h (by omega))
   simp only [cond_true,cond_false,Option.bind_some,hfi,jZ (i:=i) (by omega)]
   exact ih

theorem aDe {α ρ:Type} (f:α→Option ρ) (l:List α) (hl:l.length≤1000000) (b:Int→Option (cK Int ρ))
  (hb:∀ (i:Nat) (h:i < l.length),b (i:Int)=some (match f l[i] with | some r=>.ret r | none=>.cont (((i + 1:Nat):Int)))) (hend:b (l.length:Int)=some (.brk (l.length:Int))) :
  ∀ (m i N:Nat),i + m=l.length→m < N→bE b N (i:Int)=some (match (l.drop i).findSome? f with | some r=>.out r | none=>.go (l.length:Int))
 | m,i,0,_,h=>by omega
 | 0,i,N + 1,hi,_=>by
  obtain rfl:i=l.length:=by omega
  unfold bE
  rw [hend,List.drop_eq_nil_of_le (Nat.le_refl _)]
  rfl
 | m + 1,i,N + 1,hi,hN=>by
  have hil:i < l.length:=by omega
  unfold bE
  rw [hb i hil,List.drop_eq_getElem_cons hil,List.findSome?_cons]
  cases hf:f l[i] with
  | some r=>rfl
  | none=>exact aDe f l hl b hb hend m (i + 1) N (by omega) (by omega)
theorem kH {i n:Nat} (h:i < n):decide ((i:Int) < (n:Int))=true:=by simp; omega
theorem iE {n:Nat}:decide ((n:Int) < (n:Int))=false:=by simp
theorem aHt {α:Type} (l:List α) (hl:l.length≤1000000) (b:Int→Option (cK Int Bool)) (hb:∀ (i:Nat) (_:i < l.length),b (i:Int)=some (.cont (((i + 1:Nat):Int)))) (hend:b (l.length:Int)=some (.brk (l.length:Int))) {N:Nat} (hN:l.length < N) :
  bE b N 0=some (.go (l.length:Int)):=by
 have:=aDe (fun _=>(none:Option Bool)) l hl b (fun i h=>hb i h) hend l.length 0 N (by omega) hN
 rw [show ((0:Nat):Int)=0 from rfl] at this
 rw [this,List.findSome?_eq_none_iff.2 (fun _ _=>rfl)]
def aCa {ρ:Type} (g:Nat→Option ρ):Nat→Nat→Option ρ
 | _,0=>none
 | i,m + 1=>match g i with
  | some r=>some r
  | none=>aCa g (i + 1) m
theorem aJg {σ ρ:Type} (st:Nat→σ) (g:Nat→Option ρ) (n:Nat) (b:σ→Option (cK σ ρ))
  (hb:∀ (i:Nat),i < n→b (st i)=some (match g i with | some r=>.ret r | none=>.cont (st (i + 1)))) (hend:b (st n)=some (.brk (st n))) :
  ∀ (m i N:Nat),i + m=n→m < N→bE b N (st i)=some (match aCa g i m with | some r=>.out r | none=>.go (st n))
 | m,i,0,_,h=>by omega
 | 0,i,N + 1,hi,_=>by
  obtain rfl:i=n:=by omega
  unfold bE
  rw [hend]
  rfl
 | m + 1,i,N + 1,hi,hN=>by
  unfold bE aCa
  rw [hb i (by omega)]
  cases hf:g i with
  | some r=>rfl
  | none=>exact aJg st g n b hb hend m (i + 1) N (by omega) (by omega)
theorem aF8 {σ ρ:Type} (st:Nat→σ) (n:Nat) (b:σ→Option (cK σ ρ)) (hb:∀ (i:Nat),i < n→b (st i)=some (.cont (st (i + 1)))) (hend:b (st n)=some (.brk (st n))) {N:Nat} (hN:n < N):bE b N (st 0)=some (.go (st n)):=by
 have hno:∀ (m i:Nat),aCa (fun _=>(none:Option ρ)) i m=none:=by
  intro m
  induction m with
  | zero=>intro i; rfl
  | succ m ih=>intro i; exact ih (i + 1)
 have:=aJg st (fun _=>(none:Option ρ)) n b (fun i h=>hb i h) hend n 0 N (by omega) hN
 rw [this,hno]


end Go.Nilo
