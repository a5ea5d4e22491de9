/-
  What the plain functions compute, in plain arithmetic, part 1. Conditions: what each theorem names.
-/
import Derived.Test.YtmkacilcbfiieaaGreatSm5
set_option linter.unusedSimpArgs false
set_option linter.unusedVariables false
namespace Go.Nilo
theorem W_id {n:Int} (h1 : -9223372036854775808≤n) (h2:n≤9223372036854775807):W n=n:=by
 unfold W
 rw [IntKind.wrap_i64]
 omega

theorem indexLoop {α:Type} (f:α→Bool) (l:List α) (hl:l.length≤4611686018427387904) (b:Int→Option (bH Int Int))
  (hb:∀ x,b x=cond (decide (x < ((l.length:Nat):Int))) (Option.bind (aZ l x) fun e=>cond (f e) (some (.ret x)) (some (.cont (W (x + 1))))) (some (.brk x))) :
  ∀ (m i N:Nat),i + m=l.length→m < N→(∃ k:Int,aT b N (i:Int)=some (.out k)∧0≤k∧(l.drop i).any f=true) ∨ (aT b N (i:Int)=some (.go ((l.length:Nat):Int))∧(l.drop i).any f=false)
 | m,i,0,_,h=>by omega
 | 0,i,N + 1,hi,_=>by
  right
  have hd:l.drop i=[]:=List.drop_eq_nil_of_le (by omega)
  have:(decide ((i:Int) < ((l.length:Nat):Int)))=false:=by simp; omega
  unfold aT
  rw [hb,this,hd]
  simp; omega
 | m + 1,i,N + 1,hi,hN=>by
  have hil:i < l.length:=by omega
  have h1:(decide ((i:Int) < ((l.length:Nat):Int)))=true:=by simp; omega
  have hg:aZ l (i:Int)=some l[i]:=by unfold aZ; simp [hil]
  have hdr:l.drop i=l[i]::l.drop (i + 1):=List.drop_eq_getElem_cons hil
  unfold aT
  rw [hb,h1,hg,hdr]
  cases hf:f l[i] with
  | true=>left; exact ⟨i,by simp only [cond_true,Option.bind_some,hf],by omega,by rw [List.any_cons,hf]; rfl⟩
  | false=>
   have hw:W ((i:Int) + 1)=((i + 1:Nat):Int):=by rw [W_id (by omega) (by omega)]; push_cast; rfl
   rcases indexLoop f l hl b hb m (i + 1) N (by omega) (by omega) with ⟨k,h2,h3,h4⟩ | ⟨h2,h3⟩
   ·left; exact ⟨k,by simp only [cond_true,cond_false,Option.bind_some,hf,hw]; exact h2,h3,by rw [List.any_cons,hf,h4]; rfl⟩
   ·right; exact ⟨by simp only [cond_true,cond_false,Option.bind_some,hf,hw]; exact h2,by rw [List.any_cons,hf,h3]; rfl⟩

theorem tmod_mod {a b:Int} (h:0≤a):a.tmod b=a % b:=Int.tmod_eq_emod_of_nonneg h
theorem tdiv_div {a b:Int} (h:0≤a):a.tdiv b=a / b:=Int.tdiv_eq_ediv_of_nonneg h

theorem loopInv {σ ρ:Type} (b:σ→Option (bH σ ρ)) (Inv:Nat→σ→Prop) (n:Nat) (hstep:∀ i s,i < n→Inv i s→∃ s',b s=some (.cont s')∧Inv (i + 1) s') (hend:∀ s,Inv n s→b s=some (.brk s)) :
  ∀ (m i:Nat) (s:σ) (N:Nat),i + m=n→m < N→Inv i s→∃ s',aT b N s=some (.go s')∧Inv n s'
 | m,i,s,0,_,h,_=>by omega
 | 0,i,s,N + 1,hi,_,hs=>by
  obtain rfl:i=n:=by omega
  exact ⟨s,by unfold aT; rw [hend s hs],hs⟩
 | m + 1,i,s,N + 1,hi,hN,hs=>by
  obtain ⟨s',h1,h2⟩:=hstep i s (by omega) hs
  obtain ⟨s'',h3,h4⟩:=loopInv b Inv n hstep hend m (i + 1) s' N (by omega) (by omega) h2
  exact ⟨s'',by unfold aT; rw [h1]; exact h3,h4⟩

theorem getI_nat {α:Type} {l:List α} {i:Nat} (h:i < l.length):aZ l (i:Int)=some l[i]:=by unfold aZ; simp [h]
theorem W_succ {i:Nat} (h:i < 9223372036854775807):W ((i:Int) + 1)=((i + 1:Nat):Int):=by rw [W_id (by omega) (by omega)]; push_cast; rfl

theorem absmul {x y:Int} {A B:Nat} (hx:x.natAbs≤A) (hy:y.natAbs≤B):(x * y).natAbs≤A * B:=by
 rw [Int.natAbs_mul]
 exact Nat.mul_le_mul hx hy

theorem room_ok {n:Nat} (h:n≤1000000):jE n=some ():=by unfold jE; rw [if_pos h]
theorem get_getD {α:Type} {l:List α} {d:α} {j:Nat} (h:j < l.length):l[j]=l.getD j d:=by simp [List.getD,h]

theorem mul_bd {a b A B:Int} (h0:0≤a) (h1:0≤b) (h2:a≤A) (h3:b≤B):0≤a * b∧a * b≤A * B :=
 ⟨Int.mul_nonneg h0 h1,Int.mul_le_mul h2 h3 h1 (by omega)⟩


theorem firstLoop {α:Type} (f:α→Bool) (l:List α) (hl:l.length≤1000000) (b:Int→Option (bH Int Int))
  (hb:∀ x,b x=cond (decide (x < ((l.length:Nat):Int))) (Option.bind (aZ l x) fun e=>cond (f e) (some (.ret x)) (some (.cont (W (x + 1))))) (some (.brk x))) :
  ∀ (m i N:Nat),i + m=l.length→m < N→(∀ j (h:j < l.length),j < i→f l[j]=false) →
   (l.findIdx f < l.length∧aT b N (i:Int)=some (.out ((l.findIdx f:Nat):Int))) ∨ (l.findIdx f=l.length∧aT b N (i:Int)=some (.go ((l.length:Nat):Int)))
 | m,i,0,_,h,_=>by omega
 | 0,i,N + 1,hi,_,hf=>by
  right
  have hall:l.findIdx f=l.length:=by
   rw [List.findIdx_eq_length]
   intro x hx
   obtain ⟨j,hj,rfl⟩:=List.getElem_of_mem hx
   exact hf j hj (by omega)
  have hd:(decide ((i:Int) < ((l.length:Nat):Int)))=false:=by simp; omega
  refine ⟨hall,?_⟩
  unfold aT
  rw [hb,hd]
  simp; omega
 | m + 1,i,N + 1,hi,hN,hf=>by
  have hil:i < l.length:=by omega
  have h1:(decide ((i:Int) < ((l.length:Nat):Int)))=true:=by simp; omega
  unfold aT
  rw [hb,h1,getI_nat hil]
  cases hfi:f l[i] with
  | true=>
   left
   have he:l.findIdx f=i:=(List.findIdx_eq hil).2 ⟨hfi,fun j hj=>hf j (by omega) hj⟩
   exact ⟨by omega,by simp only [cond_true,Option.bind_some,hfi,he]⟩
  | false=>
   have ih:=firstLoop f l hl b hb m (i + 1) N (by omega) (by omega) (fun j h hj=>by
    by_cases hji:j=i
    ·subst hji; exact hfi
    ·exact hf j h (by omega))
   simp only [cond_true,cond_false,Option.bind_some,hfi,W_succ (i:=i) (by omega)]
   exact ih

end Go.Nilo
set_option linter.unusedSimpArgs false
set_option linter.unusedVariables false
namespace Go.Nilo
theorem scanLoop {α ρ:Type} (f:α→Option ρ) (l:List α) (hl:l.length≤1000000) (b:Int→Option (bH Int ρ))
  (hb:∀ (i:Nat) (h:i < l.length),b (i:Int)=some (match f l[i] with | some r=>.ret r | none=>.cont (((i + 1:Nat):Int)))) (hend:b (l.length:Int)=some (.brk (l.length:Int))) :
  ∀ (m i N:Nat),i + m=l.length→m < N→aT b N (i:Int)=some (match (l.drop i).findSome? f with | some r=>.out r | none=>.go (l.length:Int))
 | m,i,0,_,h=>by omega
 | 0,i,N + 1,hi,_=>by
  obtain rfl:i=l.length:=by omega
  unfold aT
  rw [hend,List.drop_eq_nil_of_le (Nat.le_refl _)]
  rfl
 | m + 1,i,N + 1,hi,hN=>by
  have hil:i < l.length:=by omega
  unfold aT
  rw [hb i hil,List.drop_eq_getElem_cons hil,List.findSome?_cons]
  cases hf:f l[i] with
  | some r=>rfl
  | none=>exact scanLoop f l hl b hb hend m (i + 1) N (by omega) (by omega)
theorem lt_dec {i n:Nat} (h:i < n):decide ((i:Int) < (n:Int))=true:=by simp; omega
theorem ge_dec {n:Nat}:decide ((n:Int) < (n:Int))=false:=by simp
theorem sameLoop {α:Type} (l:List α) (hl:l.length≤1000000) (b:Int→Option (bH Int Bool)) (hb:∀ (i:Nat) (_:i < l.length),b (i:Int)=some (.cont (((i + 1:Nat):Int)))) (hend:b (l.length:Int)=some (.brk (l.length:Int))) {N:Nat} (hN:l.length < N) :
  aT b N 0=some (.go (l.length:Int)):=by
 have:=scanLoop (fun _=>(none:Option Bool)) l hl b (fun i h=>hb i h) hend l.length 0 N (by omega) hN
 rw [show ((0:Nat):Int)=0 from rfl] at this
 rw [this,List.findSome?_eq_none_iff.2 (fun _ _=>rfl)]
theorem same_int {N:Nat} {l:List Int} (hl:l.length≤1000000) (hN:l.length < N):cK N l l=some true:=by
 have hb:∀ (i:Nat) (h:i < l.length),cF N l l (i:Int)=some (.cont (((i + 1:Nat):Int))):=by
  intro i h
  unfold cF
  rw [lt_dec h,cond_true,getI_nat h,Option.bind_some,Option.bind_some,bne_self_eq_false,cond_false,W_succ (by omega)]
 have he:cF N l l (l.length:Int)=some (.brk (l.length:Int)):=by
  unfold cF
  rw [ge_dec,cond_false]
 unfold cK
 have h0:((((l.length:Nat):Int)) != ((l.length:Nat):Int))=false:=by simp
 rw [h0,cond_false,sameLoop l hl (fun s7=>cF N l l s7) hb he hN]
 rfl
theorem same_span {N:Nat} {l:List aE} (hl:l.length≤1000000) (hN:l.length < N):dY N l l=some true:=by
 have hb:∀ (i:Nat) (h:i < l.length),cE N l l (i:Int)=some (.cont (((i + 1:Nat):Int))):=by
  intro i h
  unfold cE
  rw [lt_dec h,cond_true,getI_nat h,Option.bind_some,Option.bind_some,beq_self_eq_true,beq_self_eq_true,W_succ (by omega)]
  rfl
 have he:cE N l l (l.length:Int)=some (.brk (l.length:Int)):=by
  unfold cE
  rw [ge_dec,cond_false]
 unfold dY
 have h0:((((l.length:Nat):Int)) != ((l.length:Nat):Int))=false:=by simp
 rw [h0,cond_false,sameLoop l hl (fun s7=>cE N l l s7) hb he hN]
 rfl
theorem aFi {N:Nat} {l:List aG} (hl:l.length≤1000000) (hN:l.length < N):hX N l l=some true:=by
 have hb:∀ (i:Nat) (h:i < l.length),dR N l l (i:Int)=some (.cont (((i + 1:Nat):Int))):=by
  intro i h
  unfold dR
  rw [lt_dec h,cond_true,getI_nat h,Option.bind_some,Option.bind_some,beq_self_eq_true,beq_self_eq_true,beq_self_eq_true,W_succ (by omega)]
  rfl
 have he:dR N l l (l.length:Int)=some (.brk (l.length:Int)):=by
  unfold dR
  rw [ge_dec,cond_false]
 unfold hX
 have h0:((((l.length:Nat):Int)) != ((l.length:Nat):Int))=false:=by simp
 rw [h0,cond_false,sameLoop l hl (fun s7=>dR N l l s7) hb he hN]
 rfl
def aHx (r:aG):dF:=⟨r.State,r.Amount,r.Loss⟩
def iS (c:aJ):cH:=⟨c.States,c.Rights.map aHx⟩
theorem aC0 {N:Nat} {c:aJ} (hl:c.Rights.length≤35) (hN:60≤N):jC N c=some (iS c):=by
 unfold jC
 obtain ⟨s',h1,h2⟩:=loopInv (fun s5:Int × List dF=>gS N c s5.1 s5.2) (fun i s=>s=((i:Int),(c.Rights.take i).map aHx) ∨ False) c.Rights.length
  (fun i s hi hs=>by
   obtain rfl:=hs.resolve_right id
   refine ⟨(((i + 1:Nat):Int),(c.Rights.take (i + 1)).map aHx),?_,.inl rfl⟩
   show gS N c (i:Int) ((c.Rights.take i).map aHx)=_
   unfold gS
   rw [lt_dec hi,cond_true,getI_nat hi,Option.bind_some,room_ok (by simp; omega),Option.bind_some,W_succ (by omega),List.take_succ_eq_append_getElem hi,List.map_append]
   rfl)
  (fun s hs=>by
   obtain rfl:=hs.resolve_right id
   show gS N c (c.Rights.length:Int) _=_
   unfold gS
   rw [ge_dec,cond_false]) c.Rights.length 0 (0,[]) N (by omega) (by omega) (.inl rfl)
 obtain rfl:=h2.resolve_right id
 rw [h1]
 simp [exK,iS]

def okR (s:Int) (r:aG):Bool:=decide (0≤r.State) && decide (r.State≤s - 1) && decide (0≤r.Amount) && decide (r.Amount≤1000000000) && decide (0≤r.Loss) && decide (r.Loss≤1000)
def chk (c:aJ):Int:=if 1≤c.States∧c.States≤12∧1≤c.Rights.length∧c.Rights.length≤30 then (if c.Rights.all (okR c.States) then 0 else 100) else 3
theorem tP {N:Nat} {c:aJ} (hN:60≤N):hY N c=some (chk c):=by
 unfold hY chk
 by_cases h:1≤c.States∧c.States≤12∧1≤c.Rights.length∧c.Rights.length≤30
 ·obtain ⟨h1,h2,h3,h4⟩:=h
  have e:((!aQ c.States 1 12) || (!aQ (c.Rights.length:Int) 1 30))=false:=by
   unfold aQ
   simp only [Bool.or_eq_false_iff,Bool.not_eq_false',Bool.and_eq_true,decide_eq_true_eq]
   omega
  rw [if_pos ⟨h1,h2,h3,h4⟩]
  have hev:fX N c.Rights c=some (c.Rights.all (okR c.States)):=by
   have hf:∀ r,cT r c = !okR c.States r:=by
    intro r
    unfold cT nO bD aQ okR
    rw [W_id (by omega) (by omega)]
    congr 1
    simp only [Bool.and_assoc]
   unfold fX cL dC
   have hany:c.Rights.any (fun e=>cT e c) = !c.Rights.all (okR c.States):=by
    rw [List.all_eq_not_any_not,Bool.not_not]
    congr 1
    exact funext hf
   rcases indexLoop (fun e=>cT e c) c.Rights (by omega) (fun s4=>dS N c.Rights c s4) (fun x=>rfl) c.Rights.length 0 N (by omega) (by omega) with ⟨k,a1,a2,a3⟩ | ⟨a1,a2⟩
   ·rw [List.drop_zero,hany] at a3
    rw [show ((0:Nat):Int)=0 from rfl] at a1
    rw [a1]
    have:c.Rights.all (okR c.States)=false:=by simpa using a3
    rw [this]
    simp [exK,a2]
   ·rw [List.drop_zero,hany] at a2
    rw [show ((0:Nat):Int)=0 from rfl] at a1
    rw [a1]
    have:c.Rights.all (okR c.States)=true:=by simpa using a2
    rw [this]
    simp [exK]
  simp only [e,cond_false,hev,Option.bind_some]
  cases c.Rights.all (okR c.States) <;> rfl
 ·have e:((!aQ c.States 1 12) || (!aQ (c.Rights.length:Int) 1 30))=true:=by
   unfold aQ
   simp only [Bool.or_eq_true,Bool.not_eq_true',Bool.and_eq_false_iff,decide_eq_false_iff_not]
   omega
  rw [if_neg h]
  simp only [e,cond_true]
theorem xV {N:Nat} {c:aJ} (hN:60≤N):mZ N (iS c)=some (chk c):=by
 unfold mZ chk
 have hlen:(iS c).Rights.length=c.Rights.length:=by simp [iS]
 by_cases h:1≤c.States∧c.States≤12∧1≤c.Rights.length∧c.Rights.length≤30
 ·have e:(((aC (iS c).States 1 12) || (decide ((((iS c).Rights.length:Nat):Int) < 1))) || (decide (30 < (((iS c).Rights.length:Nat):Int))))=false:=by
   rw [hlen]
   unfold aC iS
   simp only [Bool.or_eq_false_iff,decide_eq_false_iff_not]
   omega
  rw [e,if_pos h,cond_false]
  have:=scanLoop (fun r:dF=>if (((aC r.State 0 (W (c.States - 1))) || (aC r.Amount 0 1000000000)) || (aC r.Loss 0 1000)) then some (100:Int) else none) (iS c).Rights (by omega)
   (fun s7=>jQ N (iS c) s7) (fun i hi=>by
    show jQ N (iS c) (i:Int)=_
    unfold jQ
    rw [lt_dec hi,cond_true,getI_nat hi,Option.bind_some,W_succ (by omega)]
    show cond (((aC (iS c).Rights[i].State 0 (W (c.States - 1))) || (aC (iS c).Rights[i].Amount 0 1000000000)) || (aC (iS c).Rights[i].Loss 0 1000)) _ _=_
    cases (((aC (iS c).Rights[i].State 0 (W (c.States - 1))) || (aC (iS c).Rights[i].Amount 0 1000000000)) || (aC (iS c).Rights[i].Loss 0 1000)) <;> rfl)
   (by
     show jQ N (iS c) ((iS c).Rights.length:Int)=_
     unfold jQ
     rw [ge_dec,cond_false]) (iS c).Rights.length 0 N (by omega) (by omega)
  rw [show ((0:Nat):Int)=0 from rfl] at this
  rw [this,List.drop_zero]
  have hb:∀ r:aG,(((aC r.State 0 (W (c.States - 1))) || (aC r.Amount 0 1000000000)) || (aC r.Loss 0 1000)) = !okR c.States r:=by
   intro r
   unfold aC okR
   rw [W_id (by omega) (by omega),Bool.eq_iff_iff]
   simp only [Bool.or_eq_true,Bool.not_eq_true',decide_eq_true_eq,Bool.and_eq_false_iff,decide_eq_false_iff_not]
   omega
  cases hall:c.Rights.all (okR c.States) with
  | true=>
   rw [List.findSome?_eq_none_iff.2]
   ·simp [exK]
   ·intro r hr
    obtain ⟨q,hq,rfl⟩:=List.mem_map.1 hr
    have:=List.all_eq_true.1 hall q hq
    show (if (((aC q.State 0 (W (c.States - 1))) || (aC q.Amount 0 1000000000)) || (aC q.Loss 0 1000)) then some (100:Int) else none)=none
    rw [hb,this]
    rfl
  | false=>
   have hex:∃ q ∈ c.Rights,okR c.States q=false:=by
    have:=List.all_eq_false.1 hall
    obtain ⟨q,hq,hh⟩:=this
    exact ⟨q,hq,by simpa using hh⟩
   obtain ⟨q,hq,hh⟩:=hex
   cases hfs:List.findSome? (fun r:dF=>if (((aC r.State 0 (W (c.States - 1))) || (aC r.Amount 0 1000000000)) || (aC r.Loss 0 1000)) then some (100:Int) else none) (iS c).Rights with
   | none=>
    have:=List.findSome?_eq_none_iff.1 hfs (aHx q) (List.mem_map_of_mem hq)
    have h2:(if (((aC q.State 0 (W (c.States - 1))) || (aC q.Amount 0 1000000000)) || (aC q.Loss 0 1000)) then some (100:Int) else none)=none:=this
    rw [hb,hh] at h2
    cases h2
   | some v=>
    obtain ⟨r,-,hr⟩:=List.exists_of_findSome?_eq_some hfs
    split at hr
    ·cases hr; rfl
    ·cases hr
 ·have e:(((aC (iS c).States 1 12) || (decide ((((iS c).Rights.length:Nat):Int) < 1))) || (decide (30 < (((iS c).Rights.length:Nat):Int))))=true:=by
   rw [hlen]
   unfold aC iS
   simp only [Bool.or_eq_true,decide_eq_true_eq]
   omega
  rw [e,if_neg h,cond_true]
end Go.Nilo
set_option linter.unusedSimpArgs false
set_option linter.unusedVariables false
namespace Go.Nilo
def firstG {ρ:Type} (g:Nat→Option ρ):Nat→Nat→Option ρ
 | _,0=>none
 | i,m + 1=>match g i with
  | some r=>some r
  | none=>firstG g (i + 1) m
theorem scanS {σ ρ:Type} (st:Nat→σ) (g:Nat→Option ρ) (n:Nat) (b:σ→Option (bH σ ρ))
  (hb:∀ (i:Nat),i < n→b (st i)=some (match g i with | some r=>.ret r | none=>.cont (st (i + 1)))) (hend:b (st n)=some (.brk (st n))) :
  ∀ (m i N:Nat),i + m=n→m < N→aT b N (st i)=some (match firstG g i m with | some r=>.out r | none=>.go (st n))
 | m,i,0,_,h=>by omega
 | 0,i,N + 1,hi,_=>by
  obtain rfl:i=n:=by omega
  unfold aT
  rw [hend]
  rfl
 | m + 1,i,N + 1,hi,hN=>by
  unfold aT firstG
  rw [hb i (by omega)]
  cases hf:g i with
  | some r=>rfl
  | none=>exact scanS st g n b hb hend m (i + 1) N (by omega) (by omega)
theorem runS {σ ρ:Type} (st:Nat→σ) (n:Nat) (b:σ→Option (bH σ ρ)) (hb:∀ (i:Nat),i < n→b (st i)=some (.cont (st (i + 1)))) (hend:b (st n)=some (.brk (st n))) {N:Nat} (hN:n < N):aT b N (st 0)=some (.go (st n)):=by
 have hno:∀ (m i:Nat),firstG (fun _=>(none:Option ρ)) i m=none:=by
  intro m
  induction m with
  | zero=>intro i; rfl
  | succ m ih=>intro i; exact ih (i + 1)
 have:=scanS st (fun _=>(none:Option ρ)) n b (fun i h=>hb i h) hend n 0 N (by omega) hN
 rw [this,hno]

def r0:aG:=⟨0,0,0⟩
structure COk (c:aJ):Prop where
 s:1≤c.States∧c.States≤12
 l:c.Rights.length≤30
 el:∀ i,i < c.Rights.length→0≤(c.Rights.getD i r0).State∧(c.Rights.getD i r0).State≤c.States - 1∧0≤(c.Rights.getD i r0).Amount∧(c.Rights.getD i r0).Amount≤1000000000∧0≤(c.Rights.getD i r0).Loss∧(c.Rights.getD i r0).Loss≤1000
theorem uU {c:aJ} (h:chk c=0):COk c:=by
 unfold chk at h
 split at h
 ·rename_i hh
  cases ha:c.Rights.all (okR c.States) with
  | false=>rw [ha] at h; simp at h
  | true=>
   refine ⟨⟨hh.1,hh.2.1⟩,hh.2.2.2,fun i hi=>?_⟩
   have:=List.all_eq_true.1 ha c.Rights[i] (List.getElem_mem hi)
   rw [get_getD (d:=r0) hi] at this
   unfold okR at this
   simp only [Bool.and_eq_true,decide_eq_true_eq] at this
   omega
 ·omega

def mH (c:aJ):Nat→Int
 | 0=>0
 | i + 1=>mH c i + (c.Rights.getD i r0).Amount
def kF (c:aJ) (flow:Int) (i:Nat):Int:=max 0 (flow - mH c i)
def mU (c:aJ) (flow:Int) (i:Nat):Int:=min (c.Rights.getD i r0).Amount (kF c flow i)
def wD (c:aJ) (flow:Int) (i:Nat):Int:=mU c flow i * (1000 - (c.Rights.getD i r0).Loss) / 1000
def oJ (c:aJ) (flow s:Int):Nat→Int
 | 0=>0
 | i + 1=>oJ c flow s i + cond ((c.Rights.getD i r0).State == s) (wD c flow i) 0
theorem aBl {c:aJ} (h:COk c) {flow:Int} {i:Nat} (hi:i < c.Rights.length):kF c flow (i + 1)=kF c flow i - mU c flow i:=by
 have:=h.el i hi
 unfold mU kF
 rw [mH]
 omega
theorem aG2 {c:aJ} (h:COk c) {flow:Int} {i:Nat} (hi:i < c.Rights.length):0≤mU c flow i∧mU c flow i≤1000000000:=by
 have:=h.el i hi
 unfold mU kF
 omega
theorem aDt {c:aJ} (h:COk c) {flow:Int} {i:Nat} (hi:i < c.Rights.length):0≤mU c flow i * (1000 - (c.Rights.getD i r0).Loss)∧mU c flow i * (1000 - (c.Rights.getD i r0).Loss)≤1000000000000∧0≤wD c flow i∧wD c flow i≤1000000000:=by
 have h1:=aG2 h (flow:=flow) hi
 have h2:=h.el i hi
 have h3:=mul_bd (a:=mU c flow i) (b:=1000 - (c.Rights.getD i r0).Loss) (A:=1000000000) (B:=1000) h1.1 (by omega) h1.2 (by omega)
 unfold wD
 generalize mU c flow i * (1000 - (c.Rights.getD i r0).Loss)=p at *
 omega
theorem aFw {c:aJ} (h:COk c) {flow s:Int}:∀ i,i≤c.Rights.length→0≤oJ c flow s i∧oJ c flow s i≤1000000000 * i
 | 0,_=>by unfold oJ; omega
 | i + 1,hi=>by
  have ih:=aFw h (flow:=flow) (s:=s) i (by omega)
  have:=aDt h (flow:=flow) (i:=i) (by omega)
  rw [oJ]
  cases ((c.Rights.getD i r0).State == s)
  ·rw [cond_false]; omega
  ·rw [cond_true]; omega
theorem uQ {c:aJ} (h:COk c):∀ i,i≤c.Rights.length→0≤mH c i∧mH c i≤1000000000 * i
 | 0,_=>by unfold mH; omega
 | i + 1,hi=>by
  have ih:=uQ h i (by omega)
  have:=h.el i (by omega)
  rw [mH]
  omega

def rV (c:aJ) (flow:Int):List Int:=(List.range c.States.toNat).map fun s:Nat=>oJ c flow (s:Int) c.Rights.length

theorem wI {N:Nat} (hN:60≤N) {c:aJ} (h:COk c) {flow:Int} (hf:0≤flow∧flow≤1000000000):mR N c flow=some (rV c flow):=by
 have hs:=h.s
 have hl:=h.l
 unfold mR gT kO
 have hb:∀ i,i < c.Rights.length→dU N (⟨c,fun _=>0⟩:cI) (rY (fun (zz:Nat→Int) (x:aG × Int)=>gE N zz x.1 x.2)) (i:Int) (kF c flow i) (.go fun s=>oJ c flow (s:Int) i)
   = some (.cont (((i + 1:Nat):Int),kF c flow (i + 1),.go fun s=>oJ c flow (s:Int) (i + 1))):=by
  intro i hi
  have he:=h.el i hi
  have ht:=aG2 h (flow:=flow) hi
  have hp:=aDt h (flow:=flow) hi
  have hg:=aFw h (flow:=flow) (s:=((c.Rights.getD i r0).State.toNat:Int)) i (by omega)
  unfold dU
  show cond (decide ((i:Int) < (c.Rights.length:Int))) (Option.bind (aZ c.Rights i) _) _=_
  rw [lt_dec hi,cond_true,getI_nat hi,Option.bind_some,get_getD (d:=r0) hi]
  show Option.bind (Option.map _ (gE N _ (c.Rights.getD i r0) (mU c flow i))) _=_
  unfold gE
  have hir:inR (c.Rights.getD i r0).State 12=some ():=by unfold inR; rw [if_pos (by omega)]
  rw [hir,Option.bind_some,Option.bind_some,W_id (n:=1000 - (c.Rights.getD i r0).Loss) (by omega) (by omega),W_id (n:=mU c flow i * (1000 - (c.Rights.getD i r0).Loss)) (by omega) (by omega),tdiv_div hp.1]
  show Option.bind (some (Rs.go (yD _ _ (W (oJ c flow ((c.Rights.getD i r0).State.toNat:Int) i + W (wD c flow i)))),true)) _=_
  have hbi:(1000000000:Int) * i≤30000000000:=by omega
  rw [W_id (n:=wD c flow i) (by omega) (by omega),W_id (n:=oJ c flow ((c.Rights.getD i r0).State.toNat:Int) i + wD c flow i) (by omega) (by omega)]
  show some (bH.cont (W ((i:Int) + 1),W (kF c flow i - mU c flow i),_))=_
  rw [W_succ (by omega),← aBl h hi,W_id (n:=kF c flow (i + 1)) (by unfold kF; omega) (by unfold kF; have:=uQ h (i + 1) (by omega); omega)]
  congr 4
  refine congrArg Rs.go (funext fun s=>?_)
  rw [oJ]
  by_cases hsk:s=(c.Rights.getD i r0).State.toNat
  ·subst hsk
   rw [aCw]
   have:((c.Rights.getD i r0).State == (((c.Rights.getD i r0).State.toNat:Nat):Int))=true:=beq_iff_eq.2 (by omega)
   rw [this,cond_true]
  ·rw [aC3 hsk]
   have:((c.Rights.getD i r0).State == ((s:Nat):Int))=false:=beq_eq_false_iff_ne.2 (by omega)
   rw [this,cond_false,Int.add_zero]
 have he:dU N (⟨c,fun _=>0⟩:cI) (rY (fun (zz:Nat→Int) (x:aG × Int)=>gE N zz x.1 x.2)) (c.Rights.length:Int) (kF c flow c.Rights.length) (.go fun s=>oJ c flow (s:Int) c.Rights.length)
   = some (.brk ((c.Rights.length:Int),kF c flow c.Rights.length,.go fun s=>oJ c flow (s:Int) c.Rights.length)):=by
  unfold dU
  show cond (decide ((c.Rights.length:Int) < (c.Rights.length:Int))) _ _=_
  rw [ge_dec,cond_false]
 have:=runS (fun i:Nat=>((i:Int),kF c flow i,(Rs.go fun s:Nat=>oJ c flow (s:Int) i:Rs (Nat→Int)))) c.Rights.length (fun s3=>dU N (⟨c,fun _=>0⟩:cI) (rY (fun (zz:Nat→Int) (x:aG × Int)=>gE N zz x.1 x.2)) s3.1 s3.2.1 s3.2.2) hb he (N:=N) (by omega)
 have e0:kF c flow 0=flow:=by unfold kF mH; omega
 rw [e0] at this
 rw [Option.bind_some]
 show Option.bind (Option.bind (aT _ N (((0:Nat):Int),flow,Rs.go fun s:Nat=>oJ c flow (s:Int) 0)) _) _=_
 rw [this]
 show Option.bind (uX (aL 12 fun s:Nat=>oJ c flow (s:Int) c.Rights.length) 0 c.States) _=_
 unfold uX
 rw [aIy,if_pos (by omega),Option.bind_some]
 unfold gO
 rw [room_ok (by simp [aL]; omega),Option.bind_some,Option.bind_some]
 unfold aL rV
 rw [show (0:Int).toNat=0 from rfl,List.drop_zero,Nat.sub_zero,← List.map_take,List.take_range,Nat.min_eq_left (by omega)]
end Go.Nilo
set_option linter.unusedSimpArgs false
set_option linter.unusedVariables false
namespace Go.Nilo
theorem uW (c:aJ):(iS c).Rights.length=c.Rights.length:=by simp [iS]
theorem xB {c:aJ} {i:Nat} (hi:i < c.Rights.length):aZ (iS c).Rights (i:Int)=some (aHx (c.Rights.getD i r0)):=by
 rw [getI_nat (by rw [uW]; exact hi)]
 simp [iS,hi,List.getD]
theorem aCm {N:Nat} (hN:60≤N) {c:aJ} (h:COk c) {flow:Int} (hf:0≤flow∧flow≤1000000000) {i:Nat} (hi:i < c.Rights.length):oC N (iS c) flow (i:Int)=some (mU c flow i):=by
 have hl:=h.l
 have hb:∀ k,k < i→jH N (iS c) (i:Int) (mH c k) (k:Int)=some (.cont (mH c (k + 1),((k + 1:Nat):Int))):=by
  intro k hk
  have h1:=uQ h (k + 1) (by omega)
  unfold jH
  rw [lt_dec hk,cond_true,xB (by omega),Option.bind_some,W_succ (by omega)]
  show some (bH.cont (W (mH c k + (c.Rights.getD k r0).Amount),_))=_
  rw [mH] at h1 ⊢
  rw [W_id (by omega) (by omega)]
 have he:jH N (iS c) (i:Int) (mH c i) (i:Int)=some (.brk (mH c i,(i:Int))):=by
  unfold jH
  rw [ge_dec,cond_false]
 have:=runS (fun k:Nat=>(mH c k,(k:Int))) i (fun s5=>jH N (iS c) (i:Int) s5.1 s5.2) hb he (N:=N) (by omega)
 have h1:=uQ h i (by omega)
 unfold oC
 show Option.bind (aT _ N (mH c 0,((0:Nat):Int))) _=_
 rw [this,Option.bind_some]
 show Option.bind (aZ (iS c).Rights (i:Int)) _=_
 rw [xB hi,Option.bind_some]
 show some (min (c.Rights.getD i r0).Amount (max 0 (W (flow - mH c i))))=_
 rw [W_id (by omega) (by omega)]
 rfl

def okF (flow:Int):Bool:=decide (0≤flow) && decide (flow≤1000000000)
def xN (c:aJ) (flow:Int):List Int × Int:=if chk c=0 then (if okF flow then (rV c flow,0) else ([],4)) else ([],chk c)
theorem aH6 {N:Nat} (hN:60≤N) {c:aJ} {flow:Int}:pF N c flow=some (xN c flow):=by
 unfold pF xN
 rw [tP hN,Option.bind_some]
 by_cases h:chk c=0
 ·rw [if_pos h,h]
  show cond (!(bD flow)) _ _=_
  have e:bD flow=okF flow:=rfl
  rw [e]
  cases hf:okF flow with
  | false=>rfl
  | true=>
   unfold okF at hf
   simp only [Bool.and_eq_true,decide_eq_true_eq] at hf
   rw [wI hN (uU h) hf]
   rfl
 ·have:(chk c != 0)=true:=bne_iff_ne.2 h
  rw [if_neg h,this]
  rfl
theorem xA {N:Nat} (hN:60≤N) {c:aJ} {flow:Int}:mY N (iS c) flow=some (xN c flow):=by
 unfold mY xN
 rw [xV hN,Option.bind_some]
 by_cases h:chk c=0
 ·rw [if_pos h,h]
  show cond (aC flow 0 1000000000) _ _=_
  have e:aC flow 0 1000000000 = !okF flow:=by
   unfold aC okF
   rw [Bool.eq_iff_iff]
   simp only [Bool.or_eq_true,Bool.not_eq_true',decide_eq_true_eq,Bool.and_eq_false_iff,decide_eq_false_iff_not]
   omega
  rw [e]
  cases hf:okF flow with
  | false=>rfl
  | true=>
   unfold okF at hf
   simp only [Bool.and_eq_true,decide_eq_true_eq] at hf
   have hc:=uU h
   have hs:=hc.s
   have hl:=hc.l
   have hin:∀ s:Nat,aT (fun s20:Int × Int=>iA N (iS c) flow (s:Int) s20.1 s20.2) N ((0:Int),(0:Int))=some (.go (oJ c flow (s:Int) c.Rights.length,(c.Rights.length:Int))):=by
    intro s
    refine runS (fun i:Nat=>(oJ c flow (s:Int) i,(i:Int))) c.Rights.length (fun s20:Int × Int=>iA N (iS c) flow (s:Int) s20.1 s20.2) (fun i hi=>?_) ?_ (by omega)
    ·have hp:=aDt hc (flow:=flow) hi
     have hg:=aFw hc (flow:=flow) (s:=(s:Int)) i (by omega)
     have hel:=hc.el i hi
     have hbi:(1000000000:Int) * i≤30000000000:=by omega
     show iA N (iS c) flow (s:Int) (oJ c flow (s:Int) i) (i:Int)=_
     unfold iA mW
     rw [uW,lt_dec hi,cond_true,xB hi,Option.bind_some,W_succ (by omega),aCm hN hc hf hi,Option.bind_some,Option.bind_some]
     show cond ((c.Rights.getD i r0).State == (s:Int)) (some (bH.cont (W (oJ c flow (s:Int) i + W ((W (mU c flow i * W (1000 - (c.Rights.getD i r0).Loss))).tdiv 1000)),_))) _=_
     rw [W_id (n:=1000 - (c.Rights.getD i r0).Loss) (by omega) (by omega),W_id (n:=mU c flow i * (1000 - (c.Rights.getD i r0).Loss)) (by omega) (by omega),tdiv_div hp.1]
     show cond _ (some (bH.cont (W (oJ c flow (s:Int) i + W (wD c flow i)),_))) _=some (bH.cont (oJ c flow (s:Int) (i + 1),_))
     rw [W_id (n:=wD c flow i) (by omega) (by omega),W_id (n:=oJ c flow (s:Int) i + wD c flow i) (by omega) (by omega),oJ]
     cases ((c.Rights.getD i r0).State == (s:Int))
     ·rw [cond_false,cond_false,Int.add_zero]
     ·rfl
    ·show iA N (iS c) flow (s:Int) _ (c.Rights.length:Int)=_
     unfold iA
     rw [uW,ge_dec,cond_false]
   have hout:aT (fun s12:List Int × Int=>hZ N (iS c) flow s12.1 s12.2) N (([]:List Int),(0:Int))=some (.go (rV c flow,(c.States.toNat:Int))):=by
    refine runS (fun s:Nat=>((List.range s).map fun s:Nat=>oJ c flow (s:Int) c.Rights.length,(s:Int))) c.States.toNat (fun s12:List Int × Int=>hZ N (iS c) flow s12.1 s12.2) (fun s hs'=>?_) ?_ (by omega)
    ·show hZ N (iS c) flow _ (s:Int)=_
     unfold hZ
     have hd:decide ((s:Int) < (iS c).States)=true:=by rw [decide_eq_true_eq]; show (s:Int) < c.States; omega
     rw [hd,cond_true,hin s,Option.bind_some]
     show Option.bind (jE _) _=_
     rw [room_ok (by simp; omega),Option.bind_some,W_succ (by omega),List.range_succ,List.map_append]
     rfl
    ·show hZ N (iS c) flow _ (c.States.toNat:Int)=_
     unfold hZ
     have hd:decide ((c.States.toNat:Int) < (iS c).States)=false:=by rw [decide_eq_false_iff_not]; show ¬ (c.States.toNat:Int) < c.States; omega
     rw [hd,cond_false]
   show Option.bind (aT _ N _) _=_
   rw [hout]
   rfl
 ·have:(chk c != 0)=true:=bne_iff_ne.2 h
  rw [if_neg h,this]
  rfl
end Go.Nilo
set_option linter.unusedSimpArgs false
set_option linter.unusedVariables false
namespace Go.Nilo
def okA (s:aE):Bool:=decide (0≤s.Lo) && decide (s.Lo≤s.Hi) && decide (s.Hi≤1000000000)
def rO (c:aJ) (s:aE) (n:Nat):List aE:=(List.range n).map fun k:Nat=>(⟨oJ c s.Lo (k:Int) c.Rights.length,oJ c s.Hi (k:Int) c.Rights.length⟩:aE)
def vP (c:aJ) (s:aE):List aE × Int:=if chk c=0 then (if okA s then (rO c s c.States.toNat,0) else ([],4)) else ([],chk c)
theorem sU (c:aJ) (flow:Int):(rV c flow).length=c.States.toNat:=by simp [rV]
theorem xR {c:aJ} {flow:Int} {i:Nat} (hi:i < c.States.toNat):aZ (rV c flow) (i:Int)=some (oJ c flow (i:Int) c.Rights.length):=by
 rw [getI_nat (by rw [sU]; exact hi)]
 simp [rV]
theorem aAm (c:aJ) (s:aE) (n:Nat):rO c s (n + 1)=rO c s n++[(⟨oJ c s.Lo (n:Int) c.Rights.length,oJ c s.Hi (n:Int) c.Rights.length⟩:aE)]:=by
 unfold rO
 rw [List.range_succ,List.map_append]
 rfl
theorem xZ (c:aJ) (s:aE) (n:Nat):(rO c s n).length=n:=by simp [rO]
theorem aEu {N:Nat} (hN:60≤N) {c:aJ} {s:aE}:nK N c s=some (vP c s):=by
 unfold nK vP
 rw [tP hN,Option.bind_some]
 by_cases h:chk c=0
 ·rw [if_pos h,h]
  show cond (!(dK s)) _ _=_
  have e:dK s=okA s:=by
   unfold dK bD aQ okA
   rw [Bool.eq_iff_iff]
   simp only [Bool.and_eq_true,decide_eq_true_eq]
   omega
  rw [e]
  cases hf:okA s with
  | false=>rfl
  | true=>
   unfold okA at hf
   simp only [Bool.and_eq_true,decide_eq_true_eq] at hf
   have hc:=uU h
   have hs:=hc.s
   rw [Bool.not_true,cond_false,wI hN hc (by omega),Option.bind_some,wI hN hc (by omega),Option.bind_some]
   have:=runS (ρ:=List aE × Int) (fun i:Nat=>(rO c s i,(i:Int))) c.States.toNat (fun s12=>gY N (rV c s.Lo) (rV c s.Hi) s12.1 s12.2) (fun i hi=>by
    show gY N (rV c s.Lo) (rV c s.Hi) (rO c s i) (i:Int)=_
    unfold gY
    rw [sU,lt_dec hi,cond_true,xR hi,xR hi,Option.bind_some,Option.bind_some,← aAm,room_ok (by rw [xZ]; omega),Option.bind_some,W_succ (by omega)]) (by
    show gY N (rV c s.Lo) (rV c s.Hi) (rO c s c.States.toNat) (c.States.toNat:Int)=_
    unfold gY
    rw [sU,ge_dec,cond_false]) (N:=N) (by omega)
   show Option.bind (aT _ N (rO c s 0,((0:Nat):Int))) _=_
   rw [this]
   rfl
 ·have:(chk c != 0)=true:=bne_iff_ne.2 h
  rw [if_neg h,this]
  rfl
theorem aFe {N:Nat} (hN:60≤N) {c:aJ} {s:aE}:oM N (iS c) s=some (vP c s):=by
 unfold oM vP
 rw [xV hN,Option.bind_some]
 by_cases h:chk c=0
 ·rw [if_pos h,h]
  show cond (cS s 0 1000000000) _ _=_
  have e:cS s 0 1000000000 = !okA s:=by
   unfold cS okA
   rw [Bool.eq_iff_iff]
   simp only [Bool.or_eq_true,Bool.not_eq_true',decide_eq_true_eq,Bool.and_eq_false_iff,decide_eq_false_iff_not]
   omega
  rw [e]
  cases hf:okA s with
  | false=>rfl
  | true=>
   unfold okA at hf
   simp only [Bool.and_eq_true,decide_eq_true_eq] at hf
   have hc:=uU h
   have hs:=hc.s
   have hr:∀ x,0≤x∧x≤1000000000→xN c x=(rV c x,0):=by
    intro x hx
    unfold xN okF
    rw [if_pos h]
    simp [hx]
   rw [Bool.not_true,cond_false,xA hN,Option.bind_some,xA hN,Option.bind_some,hr _ (by omega),hr _ (by omega)]
   have:=runS (ρ:=List aE × Int) (fun i:Nat=>(rO c s i,(i:Int))) c.States.toNat (fun s14=>gQ N (rV c s.Lo,0) (rV c s.Hi,0) s14.1 s14.2) (fun i hi=>by
    show gQ N (rV c s.Lo,0) (rV c s.Hi,0) (rO c s i) (i:Int)=_
    unfold gQ
    rw [sU,lt_dec hi,cond_true,xR hi,xR hi,Option.bind_some,Option.bind_some,← aAm,room_ok (by rw [xZ]; omega),Option.bind_some,W_succ (by omega)]) (by
    show gQ N (rV c s.Lo,0) (rV c s.Hi,0) (rO c s c.States.toNat) (c.States.toNat:Int)=_
    unfold gQ
    rw [sU,ge_dec,cond_false]) (N:=N) (by omega)
   show Option.bind (aT _ N (rO c s 0,((0:Nat):Int))) _=_
   rw [this]
   rfl
 ·have:(chk c != 0)=true:=bne_iff_ne.2 h
  rw [if_neg h,this]
  rfl

def nY (c:aJ) (flow:Int) (i:Nat):Option Int:=cond (decide (mU c flow i < (c.Rights.getD i r0).Amount)) (some (i:Int)) none
def aDd (c:aJ) (flow:Int):Int × Int:=if chk c=0 then (if okF flow then ((firstG (nY c flow) 0 c.Rights.length).getD (-1),0) else (0,4)) else (0,chk c)
theorem aFo {N:Nat} (hN:60≤N) {c:aJ} {flow:Int}:oE N c flow=some (aDd c flow):=by
 unfold oE aDd
 rw [tP hN,Option.bind_some]
 by_cases h:chk c=0
 ·rw [if_pos h,h]
  show cond (!(bD flow)) _ _=_
  have e:bD flow=okF flow:=rfl
  rw [e]
  cases hf:okF flow with
  | false=>rfl
  | true=>
   unfold okF at hf
   simp only [Bool.and_eq_true,decide_eq_true_eq] at hf
   have hc:=uU h
   have hl:=hc.l
   unfold gT iH
   have e0:kF c flow 0=flow:=by unfold kF mH; omega
   let g:Nat→Option (Rs (Int × Int) × Int):=fun i=>(nY c flow i).map fun k=>((Rs.ret (k,k):Rs (Int × Int)),kF c flow (i + 1))
   have:=scanS (ρ:=Rs (Int × Int) × Int) (fun i:Nat=>((i:Int),kF c flow i,(Rs.go ((0:Int),(i:Int)):Rs (Int × Int)))) g c.Rights.length
    (fun s3=>dD N (⟨c,fun _=>0⟩:cI) (rY (fun (zz:Int × Int) (x:aG × Int)=>iR N zz.1 zz.2 x.1 x.2)) s3.1 s3.2.1 s3.2.2) (fun i hi=>by
    show dD N (⟨c,fun _=>0⟩:cI) _ (i:Int) (kF c flow i) (Rs.go ((0:Int),(i:Int)))=_
    unfold dD
    show cond (decide ((i:Int) < (c.Rights.length:Int))) (Option.bind (aZ c.Rights i) _) _=_
    rw [lt_dec hi,cond_true,getI_nat hi,Option.bind_some,get_getD (d:=r0) hi]
    show Option.bind (Option.map _ (iR N 0 (i:Int) (c.Rights.getD i r0) (mU c flow i))) (fun ry:Rs (Int × Int) × Bool=>cond (!ry.2) (some (bH.ret (ry.1,W (kF c flow i - mU c flow i)))) (some (bH.cont (W ((i:Int) + 1),W (kF c flow i - mU c flow i),ry.1))))=_
    rw [W_succ (by omega),← aBl hc hi,W_id (n:=kF c flow (i + 1)) (by unfold kF; omega) (by unfold kF; have:=uQ hc (i + 1) (by omega); omega)]
    unfold iR
    have hgi:g i=(nY c flow i).map fun k=>((Rs.ret (k,k):Rs (Int × Int)),kF c flow (i + 1)):=rfl
    rw [hgi]
    unfold nY
    rw [W_succ (by omega)]
    cases decide (mU c flow i < (c.Rights.getD i r0).Amount) <;> rfl) (by
    show dD N (⟨c,fun _=>0⟩:cI) _ (c.Rights.length:Int) _ _=_
    unfold dD
    show cond (decide ((c.Rights.length:Int) < (c.Rights.length:Int))) _ _=_
    rw [ge_dec,cond_false]) c.Rights.length 0 N (by omega) (by omega)
   rw [Bool.not_true,cond_false,Option.bind_some]
   rw [show kF c flow 0=flow from e0] at this
   show Option.bind (Option.bind (aT _ N (((0:Nat):Int),flow,(Rs.go ((0:Int),((0:Nat):Int)):Rs (Int × Int)))) _) _=_
   rw [this]
   have hg:∀ m i,firstG g i m=none∧firstG (nY c flow) i m=none ∨ ∃ k q,firstG g i m=some (Rs.ret (k,k),q)∧firstG (nY c flow) i m=some k:=by
    intro m
    induction m with
    | zero=>intro i; exact .inl ⟨rfl,rfl⟩
    | succ m ih=>
     intro i
     unfold firstG
     have hgi:g i=(nY c flow i).map fun k=>((Rs.ret (k,k):Rs (Int × Int)),kF c flow (i + 1)):=rfl
     rw [hgi]
     cases nY c flow i with
     | none=>exact ih (i + 1)
     | some k=>exact .inr ⟨k,_,rfl,rfl⟩
   rcases hg c.Rights.length 0 with ⟨a1,a2⟩ | ⟨k,q,a1,a2⟩
   ·rw [a1,a2]; rfl
   ·rw [a1,a2]; rfl
 ·have:(chk c != 0)=true:=bne_iff_ne.2 h
  rw [if_neg h,this]
  rfl
theorem aH5 {N:Nat} (hN:60≤N) {c:aJ} {flow:Int}:pT N (iS c) flow=some (aDd c flow):=by
 unfold pT aDd
 rw [xA hN,Option.bind_some]
 unfold xN
 by_cases h:chk c=0
 ·rw [if_pos h,if_pos h]
  cases hf:okF flow with
  | false=>rfl
  | true=>
   unfold okF at hf
   simp only [Bool.and_eq_true,decide_eq_true_eq] at hf
   have hc:=uU h
   have hl:=hc.l
   let g:Nat→Option (Int × Int):=fun i=>(nY c flow i).map fun k=>(k,0)
   have:=scanS (ρ:=Int × Int) (fun i:Nat=>(i:Int)) g c.Rights.length (fun s8=>jM N (iS c) flow s8) (fun i hi=>by
    show jM N (iS c) flow (i:Int)=_
    unfold jM
    rw [uW,lt_dec hi,cond_true,aCm hN hc hf hi,Option.bind_some,xB hi,Option.bind_some,W_succ (by omega)]
    have hgi:g i=(nY c flow i).map fun k=>(k,(0:Int)):=rfl
    rw [hgi]
    show cond (decide (mU c flow i < (c.Rights.getD i r0).Amount)) _ _=_
    unfold nY
    cases decide (mU c flow i < (c.Rights.getD i r0).Amount) <;> rfl) (by
    show jM N (iS c) flow (c.Rights.length:Int)=_
    unfold jM
    rw [uW,ge_dec,cond_false]) c.Rights.length 0 N (by omega) (by omega)
   have hg:∀ m i,firstG g i m=(firstG (nY c flow) i m).map fun k=>(k,0):=by
    intro m
    induction m with
    | zero=>intro i; rfl
    | succ m ih=>
     intro i
     unfold firstG
     have hgi:g i=(nY c flow i).map fun k=>(k,(0:Int)):=rfl
     rw [hgi]
     cases nY c flow i with
     | none=>exact ih (i + 1)
     | some k=>rfl
   show Option.bind (aT _ N ((0:Nat):Int)) _=_
   rw [this,hg]
   cases firstG (nY c flow) 0 c.Rights.length <;> rfl
 ·have:(chk c != 0)=true:=bne_iff_ne.2 h
  rw [if_neg h,if_neg h]
  show cond (chk c != 0) _ _=_
  rw [this]
  rfl

theorem awake_true:fR 5000=some true:=by decide +kernel
theorem aCx (c:aJ) (flow:Int):(xN c flow).1.length≤12:=by
 unfold xN
 split
 ·rename_i h
  split
  ·have:=(uU h).s
   show (rV c flow).length≤12
   rw [sU]; omega
  ·simp
 ·simp
theorem yZ (c:aJ) (s:aE):(vP c s).1.length≤12:=by
 unfold vP
 split
 ·rename_i h
  split
  ·have:=(uU h).s
   show (rO c s c.States.toNat).length≤12
   rw [xZ]; omega
  ·simp
 ·simp
theorem uH (c:aJ) (flow:Int) (s:aE):gD 5000 c flow s=some true:=by
 unfold gD
 by_cases hl:35 < c.Rights.length
 ·have:decide (35 < ((c.Rights.length:Nat):Int))=true:=by rw [decide_eq_true_eq]; omega
  rw [this,cond_true,awake_true]
  rfl
 ·have:decide (35 < ((c.Rights.length:Nat):Int))=false:=by rw [decide_eq_false_iff_not]; omega
  have hcopy:kD 5000 c=some c:=by
   unfold kD kE
   rw [room_ok (by omega)]
   rfl
  rw [this,cond_false,hcopy,Option.bind_some,tP (by omega),Option.bind_some,aC0 (by omega) (by omega),Option.bind_some,xV (by omega),Option.bind_some,bne_self_eq_false,cond_false,
   aH6 (by omega),Option.bind_some,Option.bind_some,xA (by omega),Option.bind_some,same_int (by have:=aCx c flow; omega) (by have:=aCx c flow; omega),Option.bind_some,bne_self_eq_false,Bool.not_true,Bool.or_false,cond_false,
   aEu (by omega),Option.bind_some,Option.bind_some,aFe (by omega),Option.bind_some,same_span (by have:=yZ c s; omega) (by have:=yZ c s; omega),Option.bind_some,bne_self_eq_false,Bool.not_true,Bool.or_false,cond_false,
   aFo (by omega),Option.bind_some,Option.bind_some,aH5 (by omega),Option.bind_some,beq_self_eq_true,beq_self_eq_true,beq_self_eq_true,aFi (by omega) (by omega),awake_true]
  rfl
end Go.Nilo
set_option linter.unusedSimpArgs false
set_option linter.unusedVariables false
namespace Go.Nilo.DD
theorem W_id {n:Int} (h1 : -9223372036854775808≤n) (h2:n≤9223372036854775807):W n=n:=by
 unfold W
 rw [IntKind.wrap_i64]
 omega

theorem indexLoop {α:Type} (f:α→Bool) (l:List α) (hl:l.length≤4611686018427387904) (b:Int→Option (bH Int Int))
  (hb:∀ x,b x=cond (decide (x < ((l.length:Nat):Int))) (Option.bind (aZ l x) fun e=>cond (f e) (some (.ret x)) (some (.cont (W (x + 1))))) (some (.brk x))) :
  ∀ (m i N:Nat),i + m=l.length→m < N→(∃ k:Int,aT b N (i:Int)=some (.out k)∧0≤k∧(l.drop i).any f=true) ∨ (aT b N (i:Int)=some (.go ((l.length:Nat):Int))∧(l.drop i).any f=false)
 | m,i,0,_,h=>by omega
 | 0,i,N + 1,hi,_=>by
  right
  have hd:l.drop i=[]:=List.drop_eq_nil_of_le (by omega)
  have:(decide ((i:Int) < ((l.length:Nat):Int)))=false:=by simp; omega
  unfold aT
  rw [hb,this,hd]
  simp; omega
 | m + 1,i,N + 1,hi,hN=>by
  have hil:i < l.length:=by omega
  have h1:(decide ((i:Int) < ((l.length:Nat):Int)))=true:=by simp; omega
  have hg:aZ l (i:Int)=some l[i]:=by unfold aZ; simp [hil]
  have hdr:l.drop i=l[i]::l.drop (i + 1):=List.drop_eq_getElem_cons hil
  unfold aT
  rw [hb,h1,hg,hdr]
  cases hf:f l[i] with
  | true=>left; exact ⟨i,by simp only [cond_true,Option.bind_some,hf],by omega,by rw [List.any_cons,hf]; rfl⟩
  | false=>
   have hw:W ((i:Int) + 1)=((i + 1:Nat):Int):=by rw [W_id (by omega) (by omega)]; push_cast; rfl
   rcases indexLoop f l hl b hb m (i + 1) N (by omega) (by omega) with ⟨k,h2,h3,h4⟩ | ⟨h2,h3⟩
   ·left; exact ⟨k,by simp only [cond_true,cond_false,Option.bind_some,hf,hw]; exact h2,h3,by rw [List.any_cons,hf,h4]; rfl⟩
   ·right; exact ⟨by simp only [cond_true,cond_false,Option.bind_some,hf,hw]; exact h2,by rw [List.any_cons,hf,h3]; rfl⟩

theorem tmod_mod {a b:Int} (h:0≤a):a.tmod b=a % b:=Int.tmod_eq_emod_of_nonneg h
theorem tdiv_div {a b:Int} (h:0≤a):a.tdiv b=a / b:=Int.tdiv_eq_ediv_of_nonneg h

theorem loopInv {σ ρ:Type} (b:σ→Option (bH σ ρ)) (Inv:Nat→σ→Prop) (n:Nat) (hstep:∀ i s,i < n→Inv i s→∃ s',b s=some (.cont s')∧Inv (i + 1) s') (hend:∀ s,Inv n s→b s=some (.brk s)) :
  ∀ (m i:Nat) (s:σ) (N:Nat),i + m=n→m < N→Inv i s→∃ s',aT b N s=some (.go s')∧Inv n s'
 | m,i,s,0,_,h,_=>by omega
 | 0,i,s,N + 1,hi,_,hs=>by
  obtain rfl:i=n:=by omega
  exact ⟨s,by unfold aT; rw [hend s hs],hs⟩
 | m + 1,i,s,N + 1,hi,hN,hs=>by
  obtain ⟨s',h1,h2⟩:=hstep i s (by omega) hs
  obtain ⟨s'',h3,h4⟩:=loopInv b Inv n hstep hend m (i + 1) s' N (by omega) (by omega) h2
  exact ⟨s'',by unfold aT; rw [h1]; exact h3,h4⟩

theorem getI_nat {α:Type} {l:List α} {i:Nat} (h:i < l.length):aZ l (i:Int)=some l[i]:=by unfold aZ; simp [h]
theorem W_succ {i:Nat} (h:i < 9223372036854775807):W ((i:Int) + 1)=((i + 1:Nat):Int):=by rw [W_id (by omega) (by omega)]; push_cast; rfl

theorem absmul {x y:Int} {A B:Nat} (hx:x.natAbs≤A) (hy:y.natAbs≤B):(x * y).natAbs≤A * B:=by
 rw [Int.natAbs_mul]
 exact Nat.mul_le_mul hx hy

theorem room_ok {n:Nat} (h:n≤1000000):jE n=some ():=by unfold jE; rw [if_pos h]
theorem get_getD {α:Type} {l:List α} {d:α} {j:Nat} (h:j < l.length):l[j]=l.getD j d:=by simp [List.getD,h]

theorem mul_bd {a b A B:Int} (h0:0≤a) (h1:0≤b) (h2:a≤A) (h3:b≤B):0≤a * b∧a * b≤A * B :=
 ⟨Int.mul_nonneg h0 h1,Int.mul_le_mul h2 h3 h1 (by omega)⟩


theorem firstLoop {α:Type} (f:α→Bool) (l:List α) (hl:l.length≤1000000) (b:Int→Option (bH Int Int))
  (hb:∀ x,b x=cond (decide (x < ((l.length:Nat):Int))) (Option.bind (aZ l x) fun e=>cond (f e) (some (.ret x)) (some (.cont (W (x + 1))))) (some (.brk x))) :
  ∀ (m i N:Nat),i + m=l.length→m < N→(∀ j (h:j < l.length),j < i→f l[j]=false) →
   (l.findIdx f < l.length∧aT b N (i:Int)=some (.out ((l.findIdx f:Nat):Int))) ∨ (l.findIdx f=l.length∧aT b N (i:Int)=some (.go ((l.length:Nat):Int)))
 | m,i,0,_,h,_=>by omega
 | 0,i,N + 1,hi,_,hf=>by
  right
  have hall:l.findIdx f=l.length:=by
   rw [List.findIdx_eq_length]
   intro x hx
   obtain ⟨j,hj,rfl⟩:=List.getElem_of_mem hx
   exact hf j hj (by omega)
  have hd:(decide ((i:Int) < ((l.length:Nat):Int)))=false:=by simp; omega
  refine ⟨hall,?_⟩
  unfold aT
  rw [hb,hd]
  simp; omega
 | m + 1,i,N + 1,hi,hN,hf=>by
  have hil:i < l.length:=by omega
  have h1:(decide ((i:Int) < ((l.length:Nat):Int)))=true:=by simp; omega
  unfold aT
  rw [hb,h1,getI_nat hil]
  cases hfi:f l[i] with
  | true=>
   left
   have he:l.findIdx f=i:=(List.findIdx_eq hil).2 ⟨hfi,fun j hj=>hf j (by omega) hj⟩
   exact ⟨by omega,by simp only [cond_true,Option.bind_some,hfi,he]⟩
  | false=>
   have ih:=firstLoop f l hl b hb m (i + 1) N (by omega) (by omega) (fun j h hj=>by
    by_cases hji:j=i
    ·subst hji; exact hfi
    ·exact hf j h (by omega))
   simp only [cond_true,cond_false,Option.bind_some,hfi,W_succ (i:=i) (by omega)]
   exact ih

theorem scanLoop {α ρ:Type} (f:α→Option ρ) (l:List α) (hl:l.length≤1000000) (b:Int→Option (bH Int ρ))
  (hb:∀ (i:Nat) (h:i < l.length),b (i:Int)=some (match f l[i] with | some r=>.ret r | none=>.cont (((i + 1:Nat):Int)))) (hend:b (l.length:Int)=some (.brk (l.length:Int))) :
  ∀ (m i N:Nat),i + m=l.length→m < N→aT b N (i:Int)=some (match (l.drop i).findSome? f with | some r=>.out r | none=>.go (l.length:Int))
 | m,i,0,_,h=>by omega
 | 0,i,N + 1,hi,_=>by
  obtain rfl:i=l.length:=by omega
  unfold aT
  rw [hend,List.drop_eq_nil_of_le (Nat.le_refl _)]
  rfl
 | m + 1,i,N + 1,hi,hN=>by
  have hil:i < l.length:=by omega
  unfold aT
  rw [hb i hil,List.drop_eq_getElem_cons hil,List.findSome?_cons]
  cases hf:f l[i] with
  | some r=>rfl
  | none=>exact scanLoop f l hl b hb hend m (i + 1) N (by omega) (by omega)
theorem lt_dec {i n:Nat} (h:i < n):decide ((i:Int) < (n:Int))=true:=by simp; omega
theorem ge_dec {n:Nat}:decide ((n:Int) < (n:Int))=false:=by simp
theorem sameLoop {α:Type} (l:List α) (hl:l.length≤1000000) (b:Int→Option (bH Int Bool)) (hb:∀ (i:Nat) (_:i < l.length),b (i:Int)=some (.cont (((i + 1:Nat):Int)))) (hend:b (l.length:Int)=some (.brk (l.length:Int))) {N:Nat} (hN:l.length < N) :
  aT b N 0=some (.go (l.length:Int)):=by
 have:=scanLoop (fun _=>(none:Option Bool)) l hl b (fun i h=>hb i h) hend l.length 0 N (by omega) hN
 rw [show ((0:Nat):Int)=0 from rfl] at this
 rw [this,List.findSome?_eq_none_iff.2 (fun _ _=>rfl)]
def firstG {ρ:Type} (g:Nat→Option ρ):Nat→Nat→Option ρ
 | _,0=>none
 | i,m + 1=>match g i with
  | some r=>some r
  | none=>firstG g (i + 1) m
theorem scanS {σ ρ:Type} (st:Nat→σ) (g:Nat→Option ρ) (n:Nat) (b:σ→Option (bH σ ρ))
  (hb:∀ (i:Nat),i < n→b (st i)=some (match g i with | some r=>.ret r | none=>.cont (st (i + 1)))) (hend:b (st n)=some (.brk (st n))) :
  ∀ (m i N:Nat),i + m=n→m < N→aT b N (st i)=some (match firstG g i m with | some r=>.out r | none=>.go (st n))
 | m,i,0,_,h=>by omega
 | 0,i,N + 1,hi,_=>by
  obtain rfl:i=n:=by omega
  unfold aT
  rw [hend]
  rfl
 | m + 1,i,N + 1,hi,hN=>by
  unfold aT firstG
  rw [hb i (by omega)]
  cases hf:g i with
  | some r=>rfl
  | none=>exact scanS st g n b hb hend m (i + 1) N (by omega) (by omega)
theorem runS {σ ρ:Type} (st:Nat→σ) (n:Nat) (b:σ→Option (bH σ ρ)) (hb:∀ (i:Nat),i < n→b (st i)=some (.cont (st (i + 1)))) (hend:b (st n)=some (.brk (st n))) {N:Nat} (hN:n < N):aT b N (st 0)=some (.go (st n)):=by
 have hno:∀ (m i:Nat),firstG (fun _=>(none:Option ρ)) i m=none:=by
  intro m
  induction m with
  | zero=>intro i; rfl
  | succ m ih=>intro i; exact ih (i + 1)
 have:=scanS st (fun _=>(none:Option ρ)) n b (fun i h=>hb i h) hend n 0 N (by omega) hN
 rw [this,hno]

end Go.Nilo.DD
set_option linter.unusedSimpArgs false
set_option linter.unusedVariables false
namespace Go.Nilo.DD
theorem aJ0 {x0 x1 y0 y1 t:Int} (h:x0 < x1):(y0 * (x1 - t) + y1 * (t - x0)) / (x1 - x0)=y0 + (y1 - y0) * (t - x0) / (x1 - x0):=by
 have e:y0 * (x1 - t) + y1 * (t - x0)=(y1 - y0) * (t - x0) + y0 * (x1 - x0):=by
  simp only [Int.mul_sub,Int.sub_mul]
  omega
 rw [e,Int.add_mul_ediv_right _ _ (by omega),Int.add_comm]
structure BOk (b:aH):Prop where
 l2:2≤b.Table.length
 l12:b.Table.length≤12
 i:∀ j (h:j < b.Table.length),0≤b.Table[j].Index∧b.Table[j].Index≤1000000000
 d:∀ j (h:j < b.Table.length),0≤b.Table[j].Due∧b.Table[j].Due≤1000000000
 up:∀ j (h:j + 1 < b.Table.length),b.Table[j].Index < b.Table[j + 1].Index∧b.Table[j].Due≤b.Table[j + 1].Due
 c:0≤b.Credit∧b.Credit≤1000000000
def bF (idx:Int) (p:aI):Bool:=decide (idx < p.Index)
def mM (T:List aI) (idx:Int):Int :=
 if h:0 < T.findIdx (bF idx)∧T.findIdx (bF idx) < T.length then
  T[T.findIdx (bF idx) - 1].Due + (T[T.findIdx (bF idx)].Due - T[T.findIdx (bF idx) - 1].Due) * (idx - T[T.findIdx (bF idx) - 1].Index) / (T[T.findIdx (bF idx)].Index - T[T.findIdx (bF idx) - 1].Index)
 else if T.findIdx (bF idx)=0 then (T.getD 0 ⟨0,0⟩).Due else (T.getD (T.length - 1) ⟨0,0⟩).Due

theorem rise {b:aH} (h:BOk b):∀ (k i:Nat) (hk:i + k < b.Table.length),(b.Table[i]'(by omega)).Due≤b.Table[i + k].Due
 | 0,i,hk=>Int.le_refl _
 | k + 1,i,hk=>Int.le_trans (rise h k i (by omega)) (h.up (i + k) hk).2
theorem rise' {b:aH} (h:BOk b) {i j:Nat} (hij:i≤j) (hj:j < b.Table.length):(b.Table[i]'(by omega)).Due≤b.Table[j].Due:=by
 obtain ⟨k,rfl⟩:∃ k,j=i + k:=⟨j - i,by omega⟩
 exact rise h k i hj
theorem aJh {x0 x1 y0 y1 t:Int} (hx:x0 < x1) (hy:y0≤y1) (h0:x0≤t) (h1:t < x1):0≤(y1 - y0) * (t - x0) / (x1 - x0)∧(y1 - y0) * (t - x0) / (x1 - x0)≤y1 - y0:=by
 have a:0≤(y1 - y0) * (t - x0):=Int.mul_nonneg (by omega) (by omega)
 refine ⟨Int.ediv_nonneg a (by omega),?_⟩
 have b:(y1 - y0) * (t - x0)≤(y1 - y0) * (x1 - x0):=Int.mul_le_mul_of_nonneg_left (by omega) (by omega)
 have c:=Int.ediv_le_ediv (show 0 < x1 - x0 by omega) b
 rw [Int.mul_ediv_cancel _ (by omega)] at c
 exact c
theorem aFj {b:aH} {t:Int} (h:b.Table.findIdx (bF t) < b.Table.length):t < b.Table[b.Table.findIdx (bF t)].Index:=by
 have:=List.findIdx_getElem (w:=h)
 simpa [bF] using this
theorem yP {b:aH} {t:Int} {j:Nat} (h:j < b.Table.findIdx (bF t)) (hj:j < b.Table.length):b.Table[j].Index≤t:=by
 have:=List.not_of_lt_findIdx h
 simpa [bF] using this

theorem aMd {b:aH} (h:BOk b) (t:Int):(∀ j (hj:j < b.Table.length),j < b.Table.findIdx (bF t)→b.Table[j].Due≤mM b.Table t)∧(∀ j (hj:j < b.Table.length),b.Table.findIdx (bF t)≤j→mM b.Table t≤b.Table[j].Due)∧0≤mM b.Table t∧mM b.Table t≤1000000000:=by
 have hl:=h.l2
 have hle:b.Table.findIdx (bF t)≤b.Table.length:=List.findIdx_le_length
 unfold mM
 split
 ·rename_i hh
  obtain ⟨h0,h1⟩:=hh
  have x1:=aFj h1
  have x0:=yP (b:=b) (t:=t) (j:=b.Table.findIdx (bF t) - 1) (by omega) (by omega)
  have hu:=h.up (b.Table.findIdx (bF t) - 1) (by omega)
  simp only [show b.Table.findIdx (bF t) - 1 + 1=b.Table.findIdx (bF t) by omega] at hu
  have hs:=aJh hu.1 hu.2 x0 x1
  have d0:=h.d (b.Table.findIdx (bF t) - 1) (by omega)
  have d1:=h.d (b.Table.findIdx (bF t)) h1
  refine ⟨?_,?_,by omega,by omega⟩
  ·intro j hj hji
   have:=rise' h (i:=j) (j:=b.Table.findIdx (bF t) - 1) (by omega) (by omega)
   omega
  ·intro j hj hji
   have:=rise' h hji hj
   omega
 ·rename_i hh
  split
  ·rename_i h0
   rw [← get_getD (show 0 < b.Table.length by omega)]
   have d0:=h.d 0 (by omega)
   refine ⟨fun j hj hji=>by omega,fun j hj hji=>rise' h (by omega) hj,d0.1,d0.2⟩
  ·rename_i h0
   rw [← get_getD (show b.Table.length - 1 < b.Table.length by omega)]
   have d0:=h.d (b.Table.length - 1) (by omega)
   refine ⟨fun j hj hji=>rise' h (by omega) (by omega),fun j hj hji=>by omega,d0.1,d0.2⟩
end Go.Nilo.DD
set_option linter.unusedSimpArgs false
set_option linter.unusedVariables false
namespace Go.Nilo.DD
theorem aEw {N:Nat} (hN:60≤N) {b:aH} (h:BOk b) {t:Int} (ht:0≤t∧t≤1000000000):jF N b t=some (mM b.Table t):=by
 have hl:=h.l2
 have hl':=h.l12
 have hi:bT N b.Table t=some (if b.Table.findIdx (bF t) < b.Table.length then ((b.Table.findIdx (bF t):Nat):Int) else -1):=by
  unfold bT
  rcases firstLoop (bF t) b.Table (by omega) (fun s4=>dM N b.Table t s4) (fun x=>rfl) b.Table.length 0 N (by omega) (by omega) (fun j _ hj=>by omega) with ⟨h1,h2⟩ | ⟨h1,h2⟩
  ·rw [show ((0:Nat):Int)=0 from rfl] at h2
   rw [h2,if_pos h1]
   rfl
  ·rw [show ((0:Nat):Int)=0 from rfl] at h2
   rw [h2,if_neg (by omega)]
   rfl
 unfold jF
 rw [hi]
 by_cases hk:b.Table.findIdx (bF t) < b.Table.length
 ·rw [if_pos hk]
  by_cases h0:b.Table.findIdx (bF t)=0
  ·have e0:(((b.Table.findIdx (bF t):Nat):Int) == 0)=true:=by rw [h0]; rfl
   simp only [Option.bind_some,e0,cond_true]
   unfold mM
   rw [dif_neg (by omega),if_pos h0,show (0:Int)=((0:Nat):Int) from rfl,getI_nat (by omega),get_getD (d:=⟨0,0⟩) (by omega)]
   rfl
  ·have e0:(((b.Table.findIdx (bF t):Nat):Int) == 0)=false:=by simp; omega
   have e1:(((b.Table.findIdx (bF t):Nat):Int) == -1)=false:=by simp
   have wk:W (((b.Table.findIdx (bF t):Nat):Int) - 1)=((b.Table.findIdx (bF t) - 1:Nat):Int):=by rw [W_id (by omega) (by omega)]; omega
   have hu:=h.up (b.Table.findIdx (bF t) - 1) (by omega)
   simp only [show b.Table.findIdx (bF t) - 1 + 1=b.Table.findIdx (bF t) by omega] at hu
   have x1:=aFj hk
   have x0:=yP (b:=b) (t:=t) (j:=b.Table.findIdx (bF t) - 1) (by omega) (by omega)
   have i0:=h.i (b.Table.findIdx (bF t) - 1) (by omega)
   have i1:=h.i (b.Table.findIdx (bF t)) hk
   have d0:=h.d (b.Table.findIdx (bF t) - 1) (by omega)
   have d1:=h.d (b.Table.findIdx (bF t)) hk
   have hs:=aJh hu.1 hu.2 x0 x1
   have hm:=mul_bd (a:=b.Table[b.Table.findIdx (bF t)].Due - b.Table[b.Table.findIdx (bF t) - 1].Due) (b:=t - b.Table[b.Table.findIdx (bF t) - 1].Index) (A:=1000000000) (B:=1000000000) (by omega) (by omega) (by omega) (by omega)
   simp only [Option.bind_some,e0,e1,cond_false,wk]
   rw [getI_nat (by omega),getI_nat hk]
   simp only [Option.bind_some]
   rw [W_id (n:=b.Table[b.Table.findIdx (bF t)].Index - b.Table[b.Table.findIdx (bF t) - 1].Index) (by omega) (by omega),
    W_id (n:=b.Table[b.Table.findIdx (bF t)].Due - b.Table[b.Table.findIdx (bF t) - 1].Due) (by omega) (by omega),
    W_id (n:=t - b.Table[b.Table.findIdx (bF t) - 1].Index) (by omega) (by omega)]
   rw [W_id (n:=(b.Table[b.Table.findIdx (bF t)].Due - b.Table[b.Table.findIdx (bF t) - 1].Due) * (t - b.Table[b.Table.findIdx (bF t) - 1].Index)) (by omega) (by omega),tdiv_div hm.1]
   rw [W_id (n:=(b.Table[b.Table.findIdx (bF t)].Due - b.Table[b.Table.findIdx (bF t) - 1].Due) * (t - b.Table[b.Table.findIdx (bF t) - 1].Index) / (b.Table[b.Table.findIdx (bF t)].Index - b.Table[b.Table.findIdx (bF t) - 1].Index)) (by omega) (by omega),W_id (by omega) (by omega)]
   have hz:nz (b.Table[b.Table.findIdx (bF t)].Index - b.Table[b.Table.findIdx (bF t) - 1].Index)=some ():=by unfold nz; rw [if_neg (by omega)]
   rw [hz]
   unfold mM
   rw [dif_pos ⟨by omega,hk⟩]
   rfl
 ·rw [if_neg hk]
  have wk:W (((b.Table.length:Nat):Int) - 1)=((b.Table.length - 1:Nat):Int):=by rw [W_id (by omega) (by omega)]; omega
  simp only [Option.bind_some,show ((-1:Int) == 0)=false from rfl,show ((-1:Int) == -1)=true from rfl,cond_true,cond_false,wk]
  rw [getI_nat (by omega)]
  unfold mM
  rw [dif_neg (by omega),if_neg (by omega),get_getD (d:=⟨0,0⟩) (by omega)]
  rfl

end Go.Nilo.DD
set_option linter.unusedSimpArgs false
set_option linter.unusedVariables false
namespace Go.Nilo.DD
theorem sH {ρ:Type} {g:Nat→Option ρ} {r:ρ} {k:Nat}:∀ (n i:Nat),i≤k→k < i + n→g k=some r→(∀ j,i≤j→j < k→g j=none)→firstG g i n=some r
 | 0,i,_,_,_,_=>by omega
 | n + 1,i,h1,h2,hk,hn=>by
  unfold firstG
  by_cases hik:i=k
  ·subst hik; rw [hk]
  ·rw [hn i (Nat.le_refl _) (by omega)]
   exact sH n (i + 1) (by omega) (by omega) hk (fun j h h'=>hn j (by omega) h')
theorem yW {ρ:Type} {g:Nat→Option ρ}:∀ (n i:Nat),(∀ j,i≤j→j < i + n→g j=none)→firstG g i n=none
 | 0,_,_=>rfl
 | n + 1,i,h=>by
  unfold firstG
  rw [h i (Nat.le_refl _) (by omega)]
  exact yW n (i + 1) (fun j h1 h2=>h j (by omega) (by omega))
def p0:aI:=⟨0,0⟩
def xI (b:aH) (j:Nat):Int:=(b.Table.getD j p0).Index
def xD (b:aH) (j:Nat):Int:=(b.Table.getD j p0).Due
theorem BOk.xi {b:aH} (h:BOk b) {j:Nat} (hj:j < b.Table.length):0≤xI b j∧xI b j≤1000000000:=by
 have:=h.i j hj
 rw [get_getD (d:=p0) hj] at this
 exact this
theorem BOk.xd {b:aH} (h:BOk b) {j:Nat} (hj:j < b.Table.length):0≤xD b j∧xD b j≤1000000000:=by
 have:=h.d j hj
 rw [get_getD (d:=p0) hj] at this
 exact this
theorem BOk.xup {b:aH} (h:BOk b) {j:Nat} (hj:j + 1 < b.Table.length):xI b j < xI b (j + 1)∧xD b j≤xD b (j + 1):=by
 have:=h.up j hj
 rw [get_getD (d:=p0) hj,get_getD (d:=p0) (show j < b.Table.length by omega)] at this
 exact this
theorem BOk.rise {b:aH} (h:BOk b) {i:Nat}:∀ (k:Nat),i + k + 1 < b.Table.length→xI b i < xI b (i + k + 1)
 | 0,hk=>(h.xup (j:=i) hk).1
 | k + 1,hk=>by
  have:=h.rise (i:=i) k (by omega)
  have h2:=(h.xup (j:=i + k + 1) (by omega)).1
  have e:i + (k + 1) + 1=i + k + 1 + 1:=by omega
  rw [e]
  omega
theorem BOk.rise' {b:aH} (h:BOk b) {i j:Nat} (hij:i < j) (hj:j < b.Table.length):xI b i < xI b j:=by
 have:=h.rise (i:=i) (j - i - 1) (by omega)
 rw [show i + (j - i - 1) + 1=j by omega] at this
 exact this

def aH1 (p:aI):eB:=⟨p.Index,p.Due⟩
def nB (b:aH):bO:=⟨b.Table.map aH1,b.Credit⟩
theorem oN (b:aH):(nB b).Table.length=b.Table.length:=by simp [nB]
theorem rP {b:aH} {i:Nat} (hi:i < b.Table.length):aZ (nB b).Table (i:Int)=some (aH1 (b.Table.getD i p0)):=by
 rw [getI_nat (by rw [oN]; exact hi)]
 simp [nB,hi,List.getD]

theorem aEx {b:aH} {t:Int} {k:Nat} (hk:b.Table.findIdx (bF t)=k) (h0:0 < k) (h1:k < b.Table.length):mM b.Table t=xD b (k - 1) + (xD b k - xD b (k - 1)) * (t - xI b (k - 1)) / (xI b k - xI b (k - 1)):=by
 subst hk
 unfold mM
 rw [dif_pos ⟨h0,h1⟩,get_getD (d:=p0) h1,get_getD (d:=p0) (show b.Table.findIdx (bF t) - 1 < b.Table.length by omega)]
 rfl
theorem aFh {b:aH} {t:Int} (hk:b.Table.findIdx (bF t)=0):mM b.Table t=xD b 0:=by
 unfold mM
 rw [dif_neg (by omega),if_pos hk]
 rfl
theorem aH7 {b:aH} {t:Int} (hk:b.Table.findIdx (bF t)=b.Table.length) (hl:0 < b.Table.length):mM b.Table t=xD b (b.Table.length - 1):=by
 unfold mM
 rw [dif_neg (by omega),if_neg (by omega)]
 rfl
theorem aCi {y0 a s x:Int}:y0 + a * (x - x) / s=y0:=by rw [Int.sub_self,Int.mul_zero,Int.zero_ediv,Int.add_zero]

def aHt (b:aH) (t:Int) (i:Nat):Option Int:=cond (decide (t≤xI b (i + 1))) (some ((xD b i * (xI b (i + 1) - t) + xD b (i + 1) * (t - xI b i)).tdiv (xI b (i + 1) - xI b i))) none
theorem vS {b:aH} {t:Int} {i:Nat} (h:xI b (i + 1) < t):aHt b t i=none:=by
 unfold aHt
 have:decide (t≤xI b (i + 1))=false:=by rw [decide_eq_false_iff_not]; omega
 rw [this]; rfl
theorem aAj {b:aH} (hb:BOk b) {t:Int} {i:Nat} (hi:i + 1 < b.Table.length) (h1:xI b i≤t) (h2:t≤xI b (i + 1)):aHt b t i=some (xD b i + (xD b (i + 1) - xD b i) * (t - xI b i) / (xI b (i + 1) - xI b i)):=by
 unfold aHt
 have:decide (t≤xI b (i + 1))=true:=by rw [decide_eq_true_eq]; omega
 have d0:=hb.xd (j:=i) (by omega)
 have d1:=hb.xd hi
 have m1:0≤xD b i * (xI b (i + 1) - t):=Int.mul_nonneg (by omega) (by omega)
 have m2:0≤xD b (i + 1) * (t - xI b i):=Int.mul_nonneg (by omega) (by omega)
 rw [this,cond_true,tdiv_div (by omega),aJ0 (hb.xup hi).1]

theorem aGk {N:Nat} (hN:60≤N) {b:aH} (h:BOk b) {t:Int} (ht:0≤t∧t≤1000000000):qW N (nB b) t=some (mM b.Table t):=by
 have hl:=h.l2
 have hl':=h.l12
 have hle:b.Table.findIdx (bF t)≤b.Table.length:=List.findIdx_le_length
 have hat:∀ k,b.Table.findIdx (bF t)=k→k < b.Table.length→t < xI b k:=fun k hk hkl=>by
  subst hk
  have:=aFj hkl
  rw [get_getD (d:=p0) hkl] at this
  exact this
 have hah:∀ j,j < b.Table.findIdx (bF t)→j < b.Table.length→xI b j≤t:=fun j hj hjl=>by
  have:=yP (b:=b) (t:=t) hj hjl
  rw [get_getD (d:=p0) hjl] at this
  exact this
 generalize hk:b.Table.findIdx (bF t)=k at hle hat hah
 have hg0:=rP (b:=b) (i:=0) (by omega)
 rw [show ((0:Nat):Int)=0 from rfl] at hg0
 unfold qW
 rw [hg0,Option.bind_some,Option.bind_some]
 show cond (decide (t≤xI b 0)) (some (xD b 0)) _=_
 by_cases ht0:t≤xI b 0
 ·have:decide (t≤xI b 0)=true:=by rw [decide_eq_true_eq]; exact ht0
  rw [this,cond_true]
  by_cases hk0:k=0
  ·subst hk0; rw [aFh hk]
  ·have h1:=hah 0 (by omega) (by omega)
   have hk1:k=1:=by
    rcases Nat.lt_or_ge 1 k with h2 | h2
    ·have h3:=hah 1 h2 (by omega)
     have h4:=(h.xup (j:=0) (by omega)).1
     rw [show (0:Nat) + 1=1 from rfl] at h4
     omega
    ·omega
   subst hk1
   rw [aEx hk (by omega) (by omega),show 1 - 1=0 from rfl,show t=xI b 0 by omega,aCi]
 ·have:decide (t≤xI b 0)=false:=by rw [decide_eq_false_iff_not]; exact ht0
  rw [this,cond_false]
  have hk0:0 < k:=by
   rcases Nat.eq_zero_or_pos k with h2 | h2
   ·subst h2
    have:=hat 0 rfl (by omega)
    omega
   ·exact h2
  have hloop:=scanS (ρ:=Int) (fun i:Nat=>((i + 1:Nat):Int)) (aHt b t) (b.Table.length - 1) (fun s7=>lS N (nB b) t s7) (fun i hi=>by
    have i0:=h.xi (j:=i) (by omega)
    have i1:=h.xi (j:=i + 1) (by omega)
    have d0:=h.xd (j:=i) (by omega)
    have d1:=h.xd (j:=i + 1) (by omega)
    have up:=(h.xup (j:=i) (by omega)).1
    show lS N (nB b) t ((i + 1:Nat):Int)=_
    unfold lS
    have w0:W (((i + 1:Nat):Int) - 1)=(i:Int):=by rw [W_id (by omega) (by omega)]; push_cast; omega
    rw [oN,lt_dec (by omega),cond_true,w0,rP (by omega),Option.bind_some,rP (by omega),Option.bind_some,W_succ (by omega)]
    show cond (decide (t≤xI b (i + 1))) (Option.bind (nz (W (xI b (i + 1) - xI b i))) fun un=>some (bH.ret (W ((W ((W (xD b i * (W (xI b (i + 1) - t)))) + (W (xD b (i + 1) * (W (t - xI b i)))))).tdiv (W (xI b (i + 1) - xI b i)))))) _=_
    unfold aHt
    by_cases hti:t≤xI b (i + 1)
    ·have hd:decide (t≤xI b (i + 1))=true:=by rw [decide_eq_true_eq]; exact hti
     have m1:=absmul (x:=xD b i) (y:=xI b (i + 1) - t) (A:=1000000000) (B:=1000000000) (by omega) (by omega)
     have m2:=absmul (x:=xD b (i + 1)) (y:=t - xI b i) (A:=1000000000) (B:=1000000000) (by omega) (by omega)
     have hz:nz (xI b (i + 1) - xI b i)=some ():=by unfold nz; rw [if_neg (by omega)]
     rw [hd,W_id (n:=xI b (i + 1) - xI b i) (by omega) (by omega),hz,W_id (n:=xI b (i + 1) - t) (by omega) (by omega),W_id (n:=t - xI b i) (by omega) (by omega)]
     generalize xD b i * (xI b (i + 1) - t)=q1 at *
     generalize xD b (i + 1) * (t - xI b i)=q2 at *
     have hq:(q1 + q2).tdiv (xI b (i + 1) - xI b i)≤9223372036854775807∧-9223372036854775808≤(q1 + q2).tdiv (xI b (i + 1) - xI b i):=by
      have:=Int.natAbs_tdiv_le_natAbs (q1 + q2) (xI b (i + 1) - xI b i)
      omega
     rw [W_id (n:=q1) (by omega) (by omega),W_id (n:=q2) (by omega) (by omega),W_id (n:=q1 + q2) (by omega) (by omega),W_id hq.2 hq.1]
     rfl
    ·have hd:decide (t≤xI b (i + 1))=false:=by rw [decide_eq_false_iff_not]; exact hti
     rw [hd]
     rfl) (by
    show lS N (nB b) t ((b.Table.length - 1 + 1:Nat):Int)=_
    unfold lS
    rw [oN,show b.Table.length - 1 + 1=b.Table.length by omega,ge_dec,cond_false]) (b.Table.length - 1) 0 N (by omega) (by omega)
  show Option.bind (aT _ N ((0 + 1:Nat):Int)) _=_
  rw [hloop]
  by_cases hkl:k < b.Table.length
  ·have e1:=hah (k - 1) (by omega) (by omega)
   have e2:=hat k rfl hkl
   rw [aEx hk hk0 hkl]
   by_cases heq:t=xI b (k - 1)
   ·have hk2:2≤k:=by
     rcases Nat.lt_or_ge k 2 with h3 | h3
     ·have:k=1:=by omega
      subst this
      rw [show 1 - 1=0 from rfl] at heq
      omega
     ·exact h3
    have up:=(h.xup (j:=k - 2) (by omega)).1
    rw [show k - 2 + 1=k - 1 by omega] at up
    have hgk:=aAj h (t:=t) (i:=k - 2) (by omega) (by rw [heq]; omega) (by rw [show k - 2 + 1=k - 1 by omega]; omega)
    rw [show k - 2 + 1=k - 1 by omega] at hgk
    rw [sH (k:=k - 2) _ _ (by omega) (by omega) hgk (fun j _ hj=>vS (by have:=h.rise' (i:=j + 1) (j:=k - 1) (by omega) (by omega); omega))]
    show some (_)=some (_)
    rw [heq,aCi,Int.mul_ediv_cancel _ (by omega)]
    congr 1
    omega
   ·have hgk:=aAj h (t:=t) (i:=k - 1) (by omega) e1 (by rw [show k - 1 + 1=k by omega]; omega)
    rw [show k - 1 + 1=k by omega] at hgk
    rw [sH (k:=k - 1) _ _ (by omega) (by omega) hgk (fun j _ hj=>vS (by
     by_cases hjk:j + 1=k - 1
     ·rw [hjk]; omega
     ·have:=h.rise' (i:=j + 1) (j:=k - 1) (by omega) (by omega); omega))]
    rfl
  ·have hkeq:k=b.Table.length:=by omega
   subst hkeq
   rw [aH7 hk (by omega)]
   have e1:=hah (b.Table.length - 1) (by omega) (by omega)
   by_cases heq:t=xI b (b.Table.length - 1)
   ·have up:=(h.xup (j:=b.Table.length - 2) (by omega)).1
    rw [show b.Table.length - 2 + 1=b.Table.length - 1 by omega] at up
    have hgk:=aAj h (t:=t) (i:=b.Table.length - 2) (by omega) (by omega) (by rw [show b.Table.length - 2 + 1=b.Table.length - 1 by omega]; omega)
    rw [show b.Table.length - 2 + 1=b.Table.length - 1 by omega] at hgk
    rw [sH (k:=b.Table.length - 2) _ _ (by omega) (by omega) hgk (fun j _ hj=>vS (by have:=h.rise' (i:=j + 1) (j:=b.Table.length - 1) (by omega) (by omega); omega))]
    show some (_)=some (_)
    rw [heq,Int.mul_ediv_cancel _ (by omega)]
    congr 1
    omega
   ·rw [yW _ _ (fun j _ hj=>vS (by
     by_cases hjk:j + 1=b.Table.length - 1
     ·rw [hjk]; omega
     ·have:=h.rise' (i:=j + 1) (j:=b.Table.length - 1) (by omega) (by omega); omega))]
    have wk:W (((b.Table.length:Nat):Int) - 1)=((b.Table.length - 1:Nat):Int):=by rw [W_id (by omega) (by omega)]; omega
    show Option.bind (aZ (nB b).Table (W ((((nB b).Table.length:Nat):Int) - 1))) _=_
    rw [oN,wk,rP (by omega)]
    rfl
end Go.Nilo.DD
set_option linter.unusedSimpArgs false
set_option linter.unusedVariables false
namespace Go.Nilo.DD
theorem xH {α:Type} {N:Nat} {l:List α} (hl:l.length≤1000000) (hN:l.length < N) (b:Int→Option (bH Int Bool)) (hb:∀ (i:Nat) (_:i < l.length),b (i:Int)=some (.cont (((i + 1:Nat):Int)))) (he:b (l.length:Int)=some (.brk (l.length:Int))) :
  (cond (((l.length:Nat):Int) != ((l.length:Nat):Int)) (some false) (Option.bind (aT b N 0) fun x7=>exK x7 (fun _=>some true) some))=some true:=by
 have h0:((((l.length:Nat):Int)) != ((l.length:Nat):Int))=false:=by simp
 rw [h0,cond_false,sameLoop l hl b hb he hN]
 rfl
theorem same_int {N:Nat} {l:List Int} (hl:l.length≤1000000) (hN:l.length < N):cK N l l=some true:=by
 unfold cK
 refine xH hl hN (fun s7=>cF N l l s7) (fun i h=>?_) ?_
 ·show cF N l l (i:Int)=_
  unfold cF
  rw [lt_dec h,cond_true,getI_nat h,Option.bind_some,Option.bind_some,bne_self_eq_false,cond_false,W_succ (by omega)]
 ·show cF N l l (l.length:Int)=_
  unfold cF
  rw [ge_dec,cond_false]
theorem same_span {N:Nat} {l:List aE} (hl:l.length≤1000000) (hN:l.length < N):dY N l l=some true:=by
 unfold dY
 refine xH hl hN (fun s7=>cE N l l s7) (fun i h=>?_) ?_
 ·show cE N l l (i:Int)=_
  unfold cE
  rw [lt_dec h,cond_true,getI_nat h,Option.bind_some,Option.bind_some,beq_self_eq_true,beq_self_eq_true,W_succ (by omega)]
  rfl
 ·show cE N l l (l.length:Int)=_
  unfold cE
  rw [ge_dec,cond_false]
theorem aFz {N:Nat} {l:List aI} (hl:l.length≤1000000) (hN:l.length < N):iB N l l=some true:=by
 unfold iB
 refine xH hl hN (fun s7=>dT N l l s7) (fun i h=>?_) ?_
 ·show dT N l l (i:Int)=_
  unfold dT
  rw [lt_dec h,cond_true,getI_nat h,Option.bind_some,Option.bind_some,beq_self_eq_true,beq_self_eq_true,W_succ (by omega)]
  rfl
 ·show dT N l l (l.length:Int)=_
  unfold dT
  rw [ge_dec,cond_false]
theorem aF8 {N:Nat} {l:List aB} (hl:l.length≤1000000) (hN:l.length < N):hQ N l l=some true:=by
 unfold hQ
 refine xH hl hN (fun s7=>dV N l l s7) (fun i h=>?_) ?_
 ·show dV N l l (i:Int)=_
  unfold dV
  rw [lt_dec h,cond_true,getI_nat h,Option.bind_some,Option.bind_some,beq_self_eq_true,beq_self_eq_true,W_succ (by omega)]
  rfl
 ·show dV N l l (l.length:Int)=_
  unfold dV
  rw [ge_dec,cond_false]
theorem aHp {N:Nat} {l:List aF} (hl:l.length≤1000000) (hN:l.length < N):iZ N l l=some true:=by
 unfold iZ
 refine xH hl hN (fun s7=>eH N l l s7) (fun i h=>?_) ?_
 ·show eH N l l (i:Int)=_
  unfold eH
  rw [lt_dec h,cond_true,getI_nat h,Option.bind_some,Option.bind_some,W_succ (by omega)]
  simp only [beq_self_eq_true,Bool.and_self,Bool.not_true,cond_false]
 ·show eH N l l (l.length:Int)=_
  unfold eH
  rw [ge_dec,cond_false]

def tL (y:aF):bS:=⟨y.Index,y.Delivered,y.Spill⟩
def aBs (t:aB):cD:=⟨t.Index,t.Delivered⟩
theorem aA7 {α β:Type} {f:α→β} {l:List α} {i:Nat} (h:i < l.length):(l.take (i + 1)).map f=(l.take i).map f++[f l[i]]:=by
 rw [List.take_succ_eq_append_getElem h,List.map_append]
 rfl
theorem aD7 {N:Nat} {b:aH} (hl:b.Table.length≤15) (hN:60≤N):kK N b=some (nB b):=by
 unfold kK
 have:=runS (ρ:=bO) (fun i:Nat=>((i:Int),(b.Table.take i).map aH1)) b.Table.length (fun s5=>iU N b s5.1 s5.2) (fun i hi=>by
  show iU N b (i:Int) ((b.Table.take i).map aH1)=_
  unfold iU
  rw [lt_dec hi,cond_true,getI_nat hi,Option.bind_some,room_ok (by simp; omega),Option.bind_some,W_succ (by omega),aA7 hi]
  rfl) (by
  show iU N b (b.Table.length:Int) _=_
  unfold iU
  rw [ge_dec,cond_false]) (N:=N) (by omega)
 show Option.bind (aT _ N (((0:Nat):Int),(b.Table.take 0).map aH1)) _=_
 rw [this]
 show some (⟨(b.Table.take b.Table.length).map aH1,b.Credit⟩:bO)=_
 rw [List.take_length]
 rfl
theorem aGb {N:Nat} {l:List aF} {ts:List aB} (hl:l.length≤45) (ht:ts.length≤50) (hN:60≤N):pY N l ts=some (l.map tL,ts.map aBs):=by
 unfold pY
 have h1:=runS (ρ:=List bS × List cD) (fun i:Nat=>((l.take i).map tL,(i:Int))) l.length (fun s6=>jL N l s6.1 s6.2) (fun i hi=>by
  show jL N l ((l.take i).map tL) (i:Int)=_
  unfold jL
  rw [lt_dec hi,cond_true,getI_nat hi,Option.bind_some,room_ok (by simp; omega),Option.bind_some,W_succ (by omega),aA7 hi]
  rfl) (by
  show jL N l _ (l.length:Int)=_
  unfold jL
  rw [ge_dec,cond_false]) (N:=N) (by omega)
 have h2:=runS (ρ:=List bS × List cD) (fun i:Nat=>((ts.take i).map aBs,(i:Int))) ts.length (fun s9=>jJ N ts s9.1 s9.2) (fun i hi=>by
  show jJ N ts ((ts.take i).map aBs) (i:Int)=_
  unfold jJ
  rw [lt_dec hi,cond_true,getI_nat hi,Option.bind_some,room_ok (by simp; omega),Option.bind_some,W_succ (by omega),aA7 hi]
  rfl) (by
  show jJ N ts _ (ts.length:Int)=_
  unfold jJ
  rw [ge_dec,cond_false]) (N:=N) (by omega)
 show Option.bind (aT _ N ((l.take 0).map tL,((0:Nat):Int))) _=_
 rw [h1,Option.bind_some]
 show Option.bind (aT _ N ((ts.take 0).map aBs,((0:Nat):Int))) _=_
 rw [h2,List.take_length,Option.bind_some]
 show some ((l.take l.length).map tL,ts.map aBs)=_
 rw [List.take_length]

def okP (p:aI):Bool:=decide (0≤p.Index) && decide (p.Index≤1000000000) && decide (0≤p.Due) && decide (p.Due≤1000000000)
def okW (n:Int):Bool:=decide (0≤n) && decide (n≤1000000000)
def xY (b:aH) (i:Nat):Option Int:=cond (decide (xI b (i + 1)≤xI b i) || decide (xD b (i + 1) < xD b i)) (some 9) none
def uF (b:aH):Int:=if 2≤b.Table.length∧b.Table.length≤12 then (if b.Table.all okP && okW b.Credit then ((firstG (xY b) 0 (b.Table.length - 1)).getD 0) else 100) else 3
theorem aEs {N:Nat} (hN:60≤N) {l:List aI} (hl:l.length≤15):fT N l=some (l.all okP):=by
 have hf:∀ p,cU p = !okP p:=by
  intro p
  unfold cU iW bD aQ okP
  simp only [Bool.and_assoc]
 have hany:l.any cU = !l.all okP:=by
  rw [List.all_eq_not_any_not,Bool.not_not]
  congr 1
  exact funext hf
 unfold fT cO dB
 rcases indexLoop cU l (by omega) (fun s4=>dX N l s4) (fun x=>rfl) l.length 0 N (by omega) (by omega) with ⟨k,a1,a2,a3⟩ | ⟨a1,a2⟩
 ·rw [List.drop_zero,hany] at a3
  rw [show ((0:Nat):Int)=0 from rfl] at a1
  rw [a1]
  have:l.all okP=false:=by simpa using a3
  rw [this]
  simp [exK,a2]
 ·rw [List.drop_zero,hany] at a2
  rw [show ((0:Nat):Int)=0 from rfl] at a1
  rw [a1]
  have:l.all okP=true:=by simpa using a2
  rw [this]
  simp [exK]
theorem aDw {N:Nat} (hN:60≤N) {b:aH} (hl:b.Table.length≤15):eA N b=some (uF b):=by
 unfold eA uF
 by_cases h:2≤b.Table.length∧b.Table.length≤12
 ·have e:(!aQ (b.Table.length:Int) 2 12)=false:=by
   unfold aQ
   simp only [Bool.not_eq_false',Bool.and_eq_true,decide_eq_true_eq]
   omega
  rw [e,if_pos h,cond_false,aEs hN hl,Option.bind_some]
  have ew:bD b.Credit=okW b.Credit:=rfl
  rw [ew]
  cases b.Table.all okP with
  | false=>rfl
  | true=>
   cases okW b.Credit with
   | false=>rfl
   | true=>
    have hsub:uX b.Table 1 ((b.Table.length:Nat):Int)=some (b.Table.drop 1):=by
     unfold uX
     rw [if_pos (by omega)]
     congr 1
     rw [show (1:Int).toNat=1 from rfl,show ((b.Table.length:Nat):Int).toNat=b.Table.length by omega,List.take_of_length_le (by simp)]
    have hdl:(b.Table.drop 1).length=b.Table.length - 1:=by simp
    have:=scanS (ρ:=Int) (fun i:Nat=>(i:Int)) (xY b) (b.Table.length - 1) (fun s9=>eR N b (b.Table.drop 1) s9) (fun i hi=>by
     show eR N b (b.Table.drop 1) (i:Int)=_
     unfold eR
     rw [hdl,lt_dec hi,cond_true,W_succ (by omega),getI_nat (by omega),Option.bind_some,getI_nat (by omega),Option.bind_some,get_getD (d:=p0) (show i < b.Table.length by omega),get_getD (d:=p0) (show i + 1 < b.Table.length by omega)]
     unfold xY xI xD
     cases (decide ((b.Table.getD (i + 1) p0).Index≤(b.Table.getD i p0).Index) || decide ((b.Table.getD (i + 1) p0).Due < (b.Table.getD i p0).Due)) <;> rfl) (by
     show eR N b (b.Table.drop 1) ((b.Table.length - 1:Nat):Int)=_
     unfold eR
     rw [hdl,ge_dec,cond_false]) (b.Table.length - 1) 0 N (by omega) (by omega)
    show Option.bind (uX b.Table 1 ((b.Table.length:Nat):Int)) (fun sub=>Option.bind (aT _ N ((0:Nat):Int)) _)=_
    rw [hsub,Option.bind_some,this]
    cases firstG (xY b) 0 (b.Table.length - 1) <;> rfl
 ·have e:(!aQ (b.Table.length:Int) 2 12)=true:=by
   unfold aQ
   simp only [Bool.not_eq_true',Bool.and_eq_false_iff,decide_eq_false_iff_not]
   omega
  rw [e,if_neg h,cond_true]
theorem aJ2 (p:aI):(aC p.Index 0 1000000000 || aC p.Due 0 1000000000) = !okP p:=by
 unfold aC okP
 rw [Bool.eq_iff_iff]
 simp only [Bool.or_eq_true,Bool.not_eq_true',decide_eq_true_eq,Bool.and_eq_false_iff,decide_eq_false_iff_not]
 omega
theorem aFk {N:Nat} (hN:60≤N) {b:aH} (hl:b.Table.length≤15):gC N (nB b)=some (uF b):=by
 unfold gC uF
 rw [oN]
 by_cases h:2≤b.Table.length∧b.Table.length≤12
 ·have e:(decide (((b.Table.length:Nat):Int) < 2) || decide (12 < ((b.Table.length:Nat):Int)))=false:=by
   simp only [Bool.or_eq_false_iff,decide_eq_false_iff_not]
   omega
  rw [e,if_pos h,cond_false]
  have ew:aC (nB b).Credit 0 1000000000 = !okW b.Credit:=by
   show aC b.Credit 0 1000000000=_
   unfold aC okW
   rw [Bool.eq_iff_iff]
   simp only [Bool.or_eq_true,Bool.not_eq_true',decide_eq_true_eq,Bool.and_eq_false_iff,decide_eq_false_iff_not]
   omega
  have h1:=runS (ρ:=Int) (fun i:Nat=>(!(okW b.Credit && (b.Table.take i).all okP),(i:Int))) b.Table.length (fun s8=>eN N (nB b) s8.1 s8.2) (fun i hi=>by
   show eN N (nB b) (!(okW b.Credit && (b.Table.take i).all okP)) (i:Int)=_
   unfold eN
   rw [oN,lt_dec hi,cond_true,rP hi,W_succ (by omega),List.take_succ_eq_append_getElem hi,List.all_append,get_getD (d:=p0) hi]
   have:=aJ2 (b.Table.getD i p0)
   simp only [List.all_cons,List.all_nil,Bool.and_true,Option.bind_some]
   show Option.bind (cond _ (some true) (some (aC (b.Table.getD i p0).Index 0 1000000000))) (fun t=>Option.bind (cond t (some true) (some (aC (b.Table.getD i p0).Due 0 1000000000))) _)=_
   revert this
   cases aC (b.Table.getD i p0).Index 0 1000000000 <;> cases aC (b.Table.getD i p0).Due 0 1000000000 <;> cases okP (b.Table.getD i p0) <;> cases okW b.Credit <;> cases (b.Table.take i).all okP <;> intro hh <;> first | rfl | cases hh) (by
   show eN N (nB b) _ (b.Table.length:Int)=_
   unfold eN
   rw [oN,ge_dec,cond_false]) (N:=N) (by omega)
  have e0:aC (nB b).Credit 0 1000000000 = !(okW b.Credit && (b.Table.take 0).all okP):=by
   rw [ew,List.take_zero,List.all_nil,Bool.and_true]
  rw [e0]
  show Option.bind (aT _ N (!(okW b.Credit && (b.Table.take 0).all okP),((0:Nat):Int))) _=_
  rw [h1,Option.bind_some,List.take_length,Bool.and_comm (b.Table.all okP)]
  cases (okW b.Credit && b.Table.all okP) with
  | false=>rfl
  | true=>
   have:=scanS (ρ:=Int) (fun i:Nat=>((i + 1:Nat):Int)) (xY b) (b.Table.length - 1) (fun s14=>eJ N (nB b) s14) (fun i hi=>by
    show eJ N (nB b) ((i + 1:Nat):Int)=_
    unfold eJ
    have w0:W (((i + 1:Nat):Int) - 1)=(i:Int):=by rw [W_id (by omega) (by omega)]; push_cast; omega
    rw [oN,lt_dec (by omega),cond_true,w0,rP (by omega),Option.bind_some,rP (by omega),Option.bind_some,W_succ (by omega)]
    show Option.bind (cond (decide (xI b (i + 1)≤xI b i)) (some true) (some (decide (xD b (i + 1) < xD b i)))) _=_
    unfold xY
    cases decide (xI b (i + 1)≤xI b i) <;> cases decide (xD b (i + 1) < xD b i) <;> rfl) (by
    show eJ N (nB b) ((b.Table.length - 1 + 1:Nat):Int)=_
    unfold eJ
    rw [oN,show b.Table.length - 1 + 1=b.Table.length by omega,ge_dec,cond_false]) (b.Table.length - 1) 0 N (by omega) (by omega)
   show Option.bind (aT _ N ((0 + 1:Nat):Int)) _=_
   rw [this]
   cases firstG (xY b) 0 (b.Table.length - 1) <;> rfl
 ·have e:(decide (((b.Table.length:Nat):Int) < 2) || decide (12 < ((b.Table.length:Nat):Int)))=true:=by
   simp only [Bool.or_eq_true,decide_eq_true_eq]
   omega
  rw [e,if_neg h,cond_true]
theorem xP {ρ:Type} {g:Nat→Option ρ}:∀ (n i:Nat),firstG g i n=none→∀ j,i≤j→j < i + n→g j=none
 | 0,i,_,j,_,_=>by omega
 | n + 1,i,h,j,h1,h2=>by
  unfold firstG at h
  cases hg:g i with
  | some r=>rw [hg] at h; cases h
  | none=>
   rw [hg] at h
   by_cases hij:j=i
   ·subst hij; exact hg
   ·exact xP n (i + 1) h j (by omega) (by omega)
theorem aD8 {b:aH}:∀ (n i:Nat),firstG (xY b) i n=none ∨ firstG (xY b) i n=some 9
 | 0,i=>.inl rfl
 | n + 1,i=>by
  unfold firstG
  have h:xY b i=none ∨ xY b i=some 9:=by
   unfold xY
   cases (decide (xI b (i + 1)≤xI b i) || decide (xD b (i + 1) < xD b i))
   ·exact .inl rfl
   ·exact .inr rfl
  rcases h with h | h
  ·rw [h]; exact aD8 n (i + 1)
  ·rw [h]; exact .inr rfl
theorem aDk {b:aH} (h:uF b=0):BOk b:=by
 unfold uF at h
 split at h
 ·rename_i hh
  split at h
  ·rename_i ha
   rw [Bool.and_eq_true] at ha
   have hp:∀ j (hj:j < b.Table.length),0≤b.Table[j].Index∧b.Table[j].Index≤1000000000∧0≤b.Table[j].Due∧b.Table[j].Due≤1000000000:=by
    intro j hj
    have:=List.all_eq_true.1 ha.1 b.Table[j] (List.getElem_mem hj)
    unfold okP at this
    simp only [Bool.and_eq_true,decide_eq_true_eq] at this
    omega
   have hc:0≤b.Credit∧b.Credit≤1000000000:=by
    have:=ha.2
    unfold okW at this
    simpa only [Bool.and_eq_true,decide_eq_true_eq] using this
   rcases aD8 (b:=b) (b.Table.length - 1) 0 with hn | hn
   ·refine ⟨hh.1,hh.2,fun j hj=>⟨(hp j hj).1,(hp j hj).2.1⟩,fun j hj=>⟨(hp j hj).2.2.1,(hp j hj).2.2.2⟩,fun j hj=>?_,hc⟩
    have hu:=xP _ _ hn j (by omega) (by omega)
    rw [get_getD (d:=p0) hj,get_getD (d:=p0) (show j < b.Table.length by omega)]
    unfold xY at hu
    cases hb:(decide (xI b (j + 1)≤xI b j) || decide (xD b (j + 1) < xD b j)) with
    | true=>rw [hb] at hu; cases hu
    | false=>
     simp only [Bool.or_eq_false_iff,decide_eq_false_iff_not] at hb
     unfold xI xD at hb
     omega
   ·rw [hn] at h
    cases h
  ·omega
 ·omega
end Go.Nilo.DD
set_option linter.unusedSimpArgs false
set_option linter.unusedVariables false
namespace Go.Nilo.DD
theorem aFs {σ ρ:Type} (st:Nat→σ) (g:Nat→Option ρ) (n:Nat) (b:σ→Option (bH σ ρ))
  (hb:∀ (i:Nat),i < n→(∀ j,j < i→g j=none)→b (st i)=some (match g i with | some r=>.ret r | none=>.cont (st (i + 1)))) (hend:b (st n)=some (.brk (st n))) :
  ∀ (m i N:Nat),i + m=n→m < N→(∀ j,j < i→g j=none)→aT b N (st i)=some (match firstG g i m with | some r=>.out r | none=>.go (st n))
 | m,i,0,_,h,_=>by omega
 | 0,i,N + 1,hi,_,_=>by
  obtain rfl:i=n:=by omega
  unfold aT
  rw [hend]
  rfl
 | m + 1,i,N + 1,hi,hN,hno=>by
  unfold aT firstG
  rw [hb i (by omega) hno]
  cases hf:g i with
  | some r=>rfl
  | none=>exact aFs st g n b hb hend m (i + 1) N (by omega) (by omega) (fun j hj=>by
    by_cases hji:j=i
    ·subst hji; exact hf
    ·exact hno j (by omega))

def xJ (b:aH) (d:Int) (t:aB) (spill:Bool):Int:=cond spill 0 (max (0 - b.Credit) (d + mM b.Table t.Index - t.Delivered))
def mpN (b:aH) (mp:Int→Option Int) (t:aB):Int→Option Int:=cond (!(mp t.Index).isSome) (aDf mp t.Index (mM b.Table t.Index)) mp
def aGr (T:List aI) (mp:Int→Option Int):Prop:=∀ k v,mp k=some v→v=mM T k
structure TOk (t:aB):Prop where
 i:0≤t.Index∧t.Index≤1000000000
 d:0≤t.Delivered∧t.Delivered≤1000000000
theorem aLp {b:aH} {mp:Int→Option Int} (h:aGr b.Table mp) (t:aB):aGr b.Table (mpN b mp t):=by
 unfold mpN
 cases hmk:mp t.Index with
 | some v=>exact h
 | none=>
  intro k v hk
  have hk':aDf mp t.Index (mM b.Table t.Index) k=some v:=hk
  unfold aDf at hk'
  by_cases hkt:k=t.Index
  ·rw [if_pos hkt] at hk'
   cases hk'
   rw [hkt]
  ·rw [if_neg hkt] at hk'
   exact h k v hk'
theorem aDn {b:aH} (h:BOk b) (t:Int):0≤mM b.Table t∧mM b.Table t≤1000000000:=(aMd h t).2.2
theorem yO {N:Nat} (hN:60≤N) {b:aH} (h:BOk b) {t:aB} (ht:TOk t) {spill:Bool} {mp:Int→Option Int} (hm:aGr b.Table mp) {d:Int} (hd : -1000000000000≤d∧d≤1000000000000) :
  dG N t spill mp b d=some (xJ b d t spill,mpN b mp t,xJ b d t spill):=by
 have hb:=aDn h t.Index
 have hc:=h.c
 have hti:=ht.i
 have htd:=ht.d
 have w1:W (0 - b.Credit)=0 - b.Credit:=W_id (by omega) (by omega)
 have w2:W (d + mM b.Table t.Index)=d + mM b.Table t.Index:=W_id (by omega) (by omega)
 have w3:W (d + mM b.Table t.Index - t.Delivered)=d + mM b.Table t.Index - t.Delivered:=W_id (by omega) (by omega)
 have hj:∀ mp',fB N t spill b d (mM b.Table t.Index) mp'=some (xJ b d t spill,mp',xJ b d t spill):=by
  intro mp'
  unfold fB gH xJ
  rw [w1,w2,w3]
  cases spill <;> rfl
 unfold dG mpN
 cases hmk:mp t.Index with
 | none=>
  rw [aEw hN h hti]
  exact hj _
 | some v=>
  have:=hm _ _ hmk
  subst this
  exact hj _
theorem uP {N:Nat} (hN:60≤N) {b:aH} (h:BOk b) {t:aB} (ht:TOk t) {spill:Bool} {d:Int} (hd : -1000000000000≤d∧d≤1000000000000) :
  hM N (nB b) d t.Index t.Delivered spill=some (xJ b d t spill):=by
 have hb:=aDn h t.Index
 have hc:=h.c
 have hti:=ht.i
 have htd:=ht.d
 have w1:W (0 - b.Credit)=0 - b.Credit:=W_id (by omega) (by omega)
 have w2:W (d + mM b.Table t.Index)=d + mM b.Table t.Index:=W_id (by omega) (by omega)
 have w3:W (d + mM b.Table t.Index - t.Delivered)=d + mM b.Table t.Index - t.Delivered:=W_id (by omega) (by omega)
 unfold hM xJ
 cases spill with
 | true=>rfl
 | false=>
  rw [cond_false,cond_false,aGk hN h hti,Option.bind_some,w2,w3]
  show cond (decide (d + mM b.Table t.Index - t.Delivered < W (0 - b.Credit))) (some (W (0 - b.Credit))) _=_
  rw [w1]
  by_cases hlt:d + mM b.Table t.Index - t.Delivered < 0 - b.Credit
  ·have:decide (d + mM b.Table t.Index - t.Delivered < 0 - b.Credit)=true:=by rw [decide_eq_true_eq]; exact hlt
   rw [this,cond_true]
   congr 1
   omega
  ·have:decide (d + mM b.Table t.Index - t.Delivered < 0 - b.Credit)=false:=by rw [decide_eq_false_iff_not]; exact hlt
   rw [this,cond_false]
   congr 1
   omega

def eK (b:aH) (sp:Nat→Bool) (ts:Nat→aB) (start:Int):Nat→Int
 | 0=>start
 | n + 1=>xJ b (eK b sp ts start n) (ts n) (sp n)
def mpS (b:aH) (ts:Nat→aB):Nat→Int→Option Int
 | 0=>fun _=>none
 | n + 1=>mpN b (mpS b ts n) (ts n)
theorem aDx (b:aH) (ts:Nat→aB):∀ n,aGr b.Table (mpS b ts n)
 | 0=>fun _ _ h=>nomatch h
 | n + 1=>aLp (aDx b ts n) (ts n)
theorem aEh {b:aH} (h:BOk b) {sp:Nat→Bool} {ts:Nat→aB} {start:Int} (hs : -1000000000≤start∧start≤1000000000):∀ (n:Nat),(∀ j,j < n→TOk (ts j))→-(2000000000 * (n:Int) + 1000000000)≤eK b sp ts start n∧eK b sp ts start n≤2000000000 * (n:Int) + 1000000000
 | 0,_=>by unfold eK; omega
 | n + 1,ht=>by
  have ih:=aEh h (sp:=sp) hs n (fun j hj=>ht j (by omega))
  have hb:=aDn h (ts n).Index
  have hc:=h.c
  have htd:=(ht n (by omega)).d
  rw [eK]
  unfold xJ
  cases sp n
  ·rw [cond_false]; omega
  ·rw [cond_true]; omega
theorem qX {b:aH} (h:BOk b) {sp:Nat→Bool} {ts:Nat→aB} {start:Int} (hs : -1000000000≤start∧start≤1000000000) {n:Nat} (hn:n≤50) (ht:∀ j,j < n→TOk (ts j)) : -1000000000000≤eK b sp ts start n∧eK b sp ts start n≤1000000000000:=by
 have:=aEh h (sp:=sp) hs n ht
 omega

def okY (y:aF):Bool:=(decide (0≤y.Index.Lo) && decide (y.Index.Lo≤y.Index.Hi) && decide (y.Index.Hi≤1000000000)) && (decide (0≤y.Delivered.Lo) && decide (y.Delivered.Lo≤y.Delivered.Hi) && decide (y.Delivered.Hi≤1000000000))
def okS (s:aE):Bool:=decide (-1000000000≤s.Lo) && decide (s.Lo≤s.Hi) && decide (s.Hi≤1000000000)
def uE (b:aH) (s:aE) (l:List aF):Int:=if uF b=0 then (if okS s then (if l.length≤40 then (if l.all okY then 0 else 100) else 3) else 4) else uF b
theorem aGc {N:Nat} (hN:60≤N) {l:List aF} (hl:l.length≤45):gF N l=some (l.all okY):=by
 have hf:∀ y,cZ y = !okY y:=by
  intro y
  unfold cZ nP dK bD aQ okY
  congr 1
  rw [Bool.eq_iff_iff]
  simp only [Bool.and_eq_true,decide_eq_true_eq]
  omega
 have hany:l.any cZ = !l.all okY:=by
  rw [List.all_eq_not_any_not,Bool.not_not]
  congr 1
  exact funext hf
 unfold gF cW dI
 rcases indexLoop cZ l (by omega) (fun s4=>eF N l s4) (fun x=>rfl) l.length 0 N (by omega) (by omega) with ⟨k,a1,a2,a3⟩ | ⟨a1,a2⟩
 ·rw [List.drop_zero,hany] at a3
  rw [show ((0:Nat):Int)=0 from rfl] at a1
  rw [a1]
  have:l.all okY=false:=by simpa using a3
  rw [this]
  simp [exK,a2]
 ·rw [List.drop_zero,hany] at a2
  rw [show ((0:Nat):Int)=0 from rfl] at a1
  rw [a1]
  have:l.all okY=true:=by simpa using a2
  rw [this]
  simp [exK]
theorem aAq {N:Nat} (hN:60≤N) {b:aH} {s:aE} {l:List aF} (hb:b.Table.length≤15) (hl:l.length≤45):oB N b s l=some (uE b s l):=by
 unfold oB uE
 rw [aDw hN hb,Option.bind_some]
 by_cases h:uF b=0
 ·rw [if_pos h,h]
  have e:((!aQ s.Lo (-1000000000) s.Hi) || decide (1000000000 < s.Hi)) = !okS s:=by
   unfold aQ okS
   rw [Bool.eq_iff_iff]
   simp only [Bool.or_eq_true,Bool.not_eq_true',decide_eq_true_eq,Bool.and_eq_false_iff,decide_eq_false_iff_not]
   omega
  show cond ((!aQ s.Lo (-1000000000) s.Hi) || decide (1000000000 < s.Hi)) _ _=_
  rw [e]
  cases okS s with
  | false=>rfl
  | true=>
   rw [Bool.not_true,cond_false]
   by_cases h40:l.length≤40
   ·have:decide (40 < ((l.length:Nat):Int))=false:=by rw [decide_eq_false_iff_not]; omega
    rw [this,cond_false,aGc hN hl,if_pos h40]
    cases l.all okY <;> rfl
   ·have:decide (40 < ((l.length:Nat):Int))=true:=by rw [decide_eq_true_eq]; omega
    rw [this,if_neg h40]
    rfl
 ·have:(uF b != 0)=true:=bne_iff_ne.2 h
  rw [if_neg h,this,cond_true]
theorem aA5 {s:aE} {a b:Int}:cS s a b = !(decide (a≤s.Lo) && decide (s.Lo≤s.Hi) && decide (s.Hi≤b)):=by
 unfold cS
 rw [Bool.eq_iff_iff]
 simp only [Bool.or_eq_true,Bool.not_eq_true',decide_eq_true_eq,Bool.and_eq_false_iff,decide_eq_false_iff_not]
 omega
def y0:aF:=⟨⟨0,0⟩,⟨0,0⟩,false⟩
def t0:aB:=⟨0,0⟩
theorem aAu {l:List aF} {i:Nat} (hi:i < l.length):aZ (l.map tL) (i:Int)=some (tL (l.getD i y0)):=by
 rw [getI_nat (by simpa using hi)]
 simp [hi,List.getD]
theorem aJk {l:List aB} {i:Nat} (hi:i < l.length):aZ (l.map aBs) (i:Int)=some (aBs (l.getD i t0)):=by
 rw [getI_nat (by simpa using hi)]
 simp [hi,List.getD]
theorem all_first {α ρ:Type} {p:α→Bool} {d:α} {l:List α} {v:ρ}:∀ n i,i + n=l.length→firstG (fun j=>cond (p (l.getD j d)) none (some v)) i n=cond ((l.drop i).all p) none (some v)
 | 0,i,h=>by
  rw [List.drop_eq_nil_of_le (by omega)]
  rfl
 | n + 1,i,h=>by
  have hi:i < l.length:=by omega
  unfold firstG
  rw [List.drop_eq_getElem_cons hi,List.all_cons,← get_getD (d:=d) hi]
  cases hp:p l[i] with
  | true=>
   rw [cond_true,Bool.true_and]
   exact all_first n (i + 1) (by omega)
  | false=>rfl
theorem aCp {N:Nat} (hN:60≤N) {b:aH} {s:aE} {l:List aF} (hb:b.Table.length≤15) (hl:l.length≤45):oF N (nB b) s (l.map tL)=some (uE b s l):=by
 unfold oF uE
 rw [aFk hN hb,Option.bind_some,List.length_map]
 by_cases h:uF b=0
 ·rw [if_pos h,h]
  have e:cS s (-1000000000) 1000000000 = !okS s:=aA5
  show cond (cS s (-1000000000) 1000000000) _ _=_
  rw [e]
  cases okS s with
  | false=>rfl
  | true=>
   rw [Bool.not_true,cond_false]
   by_cases h40:l.length≤40
   ·have:decide (40 < ((l.length:Nat):Int))=false:=by rw [decide_eq_false_iff_not]; omega
    rw [this,cond_false,if_pos h40]
    have hs:=scanS (ρ:=Int) (fun i:Nat=>(i:Int)) (fun j=>cond (okY (l.getD j y0)) none (some 100)) l.length (fun s14=>iQ N (l.map tL) s14) (fun i hi=>by
     show iQ N (l.map tL) (i:Int)=_
     unfold iQ
     rw [List.length_map,lt_dec hi,cond_true,aAu hi,Option.bind_some,W_succ (by omega)]
     show Option.bind (cond (cS (l.getD i y0).Index 0 1000000000) (some true) (some (cS (l.getD i y0).Delivered 0 1000000000))) _=_
     rw [aA5,aA5]
     unfold okY
     cases (decide (0≤(l.getD i y0).Index.Lo) && decide ((l.getD i y0).Index.Lo≤(l.getD i y0).Index.Hi) && decide ((l.getD i y0).Index.Hi≤1000000000)) <;>
      cases (decide (0≤(l.getD i y0).Delivered.Lo) && decide ((l.getD i y0).Delivered.Lo≤(l.getD i y0).Delivered.Hi) && decide ((l.getD i y0).Delivered.Hi≤1000000000)) <;> rfl) (by
     show iQ N (l.map tL) (l.length:Int)=_
     unfold iQ
     rw [List.length_map,ge_dec,cond_false]) l.length 0 N (by omega) (by omega)
    show Option.bind (aT _ N ((0:Nat):Int)) _=_
    rw [hs,all_first l.length 0 (by omega),List.drop_zero]
    cases l.all okY <;> rfl
   ·have:decide (40 < ((l.length:Nat):Int))=true:=by rw [decide_eq_true_eq]; omega
    rw [this,if_neg h40]
    rfl
 ·have:(uF b != 0)=true:=bne_iff_ne.2 h
  rw [if_neg h,this,cond_true]
structure YsOk (b:aH) (s:aE) (l:List aF):Prop where
 b:BOk b
 s : -1000000000≤s.Lo∧s.Lo≤s.Hi∧s.Hi≤1000000000
 n:l.length≤40
 y:∀ i,i < l.length→(0≤(l.getD i y0).Index.Lo∧(l.getD i y0).Index.Lo≤(l.getD i y0).Index.Hi∧(l.getD i y0).Index.Hi≤1000000000)∧(0≤(l.getD i y0).Delivered.Lo∧(l.getD i y0).Delivered.Lo≤(l.getD i y0).Delivered.Hi∧(l.getD i y0).Delivered.Hi≤1000000000)
theorem aAf {b:aH} {s:aE} {l:List aF} (h:uE b s l=0):YsOk b s l:=by
 unfold uE at h
 split at h
 ·rename_i hb
  split at h
  ·rename_i hs
   split at h
   ·rename_i hl
    split at h
    ·rename_i ha
     refine ⟨aDk hb,?_,hl,fun i hi=>?_⟩
     ·unfold okS at hs
      simp only [Bool.and_eq_true,decide_eq_true_eq] at hs
      omega
     ·have:=List.all_eq_true.1 ha l[i] (List.getElem_mem hi)
      rw [get_getD (d:=y0) hi] at this
      unfold okY at this
      simp only [Bool.and_eq_true,decide_eq_true_eq] at this
      omega
    ·omega
   ·omega
  ·omega
 ·rename_i hb
  exact absurd h hb
end Go.Nilo.DD
set_option linter.unusedSimpArgs false
set_option linter.unusedVariables false
namespace Go.Nilo.DD
def yA (l:List aF) (i:Nat):aF:=l.getD i y0
def tA (ts:List aB) (i:Nat):aB:=ts.getD i t0
def spA (l:List aF) (i:Nat):Bool:=(yA l i).Spill
def inS (n:Int) (s:aE):Bool:=decide (s.Lo≤n) && decide (n≤s.Hi)
def sE (l:List aF) (ts:List aB) (i:Nat):Bool:=inS (tA ts i).Index (yA l i).Index && inS (tA ts i).Delivered (yA l i).Delivered
def vF (l:List aF) (ts:List aB) (i:Nat):Option (List Int × Int):=cond (sE l ts i) none (some ([],7))
def uV (b:aH) (l:List aF) (ts:Nat→aB) (start:Int) (n:Nat):List Int:=(List.range n).map fun k=>eK b (spA l) ts start (k + 1)
theorem vK (b:aH) (l:List aF) (ts:Nat→aB) (start:Int) (n:Nat):uV b l ts start (n + 1)=uV b l ts start n++[eK b (spA l) ts start (n + 1)]:=by
 unfold uV
 rw [List.range_succ,List.map_append]
 rfl
theorem aA6 (b:aH) (l:List aF) (ts:Nat→aB) (start:Int) (n:Nat):(uV b l ts start n).length=n:=by simp [uV]
def aCv (b:aH) (start:Int) (l:List aF) (ts:List aB):List Int × Int :=
 if uE b ⟨start,start⟩ l=0 then (if ts.length=l.length then ((firstG (vF l ts) 0 l.length).getD (uV b l (tA ts) start l.length,0)) else ([],2)) else ([],uE b ⟨start,start⟩ l)
theorem aAe {b:aH} {s:aE} {l:List aF} (hy:YsOk b s l) {ts:List aB} {i:Nat} (hi:i < l.length) (h:vF l ts i=none):TOk (tA ts i):=by
 have:=hy.y i hi
 unfold vF at h
 cases hg:sE l ts i with
 | false=>rw [hg] at h; cases h
 | true=>
  unfold sE inS yA at hg
  simp only [Bool.and_eq_true,decide_eq_true_eq] at hg
  exact ⟨by omega,by omega⟩
theorem aHy {N:Nat} (hN:60≤N) {b:aH} {start:Int} {l:List aF} {ts:List aB} (hb:b.Table.length≤15) (hl:l.length≤45):rE N b start l ts=some (aCv b start l ts):=by
 unfold rE aCv
 rw [aAq hN hb hl,Option.bind_some]
 by_cases h:uE b ⟨start,start⟩ l=0
 ·rw [if_pos h,h]
  show cond (((ts.length:Nat):Int) != ((l.length:Nat):Int)) _ _=_
  have hy:=aAf h
  have hs : -1000000000≤start∧start≤1000000000:=⟨hy.s.1,hy.s.2.2⟩
  have hn:=hy.n
  by_cases he:ts.length=l.length
  ·have hne:(((ts.length:Nat):Int) != ((l.length:Nat):Int))=false:=by rw [he]; simp
   rw [hne,cond_false,if_pos he]
   unfold iG
   rw [Option.bind_some]
   have:=aFs (fun i:Nat=>(uV b l (tA ts) start i,(i:Int),eK b (spA l) (tA ts) start i,mpS b (tA ts) i)) (vF l ts) l.length (fun s12=>jG N b l ts ((fun _=>none),b.Credit,start) s12.1 s12.2.1 s12.2.2.1 s12.2.2.2) (fun i hi hno=>by
    show jG N b l ts ((fun _=>none),b.Credit,start) (uV b l (tA ts) start i) (i:Int) (eK b (spA l) (tA ts) start i) (mpS b (tA ts) i)=_
    unfold jG
    rw [lt_dec hi,cond_true,getI_nat hi,Option.bind_some,getI_nat (show i < ts.length by omega),Option.bind_some,get_getD (d:=y0) hi,get_getD (d:=t0) (show i < ts.length by omega),W_succ (by omega)]
    cases hbt:vF l ts i with
    | some r=>
     unfold vF at hbt
     cases hg:sE l ts i with
     | true=>rw [hg] at hbt; cases hbt
     | false=>
      rw [hg] at hbt
      obtain rfl:=Option.some.inj hbt
      have:((!aQ (ts.getD i t0).Index (l.getD i y0).Index.Lo (l.getD i y0).Index.Hi) || (!aQ (ts.getD i t0).Delivered (l.getD i y0).Delivered.Lo (l.getD i y0).Delivered.Hi))=true:=by
       rw [← Bool.not_and]
       show (!sE l ts i)=true
       rw [hg]; rfl
      rw [this]
      rfl
    | none=>
     have hto:=aAe hy hi hbt
     have hfar:=qX hy.b (sp:=spA l) (ts:=tA ts) hs (n:=i) (by omega) (fun j hj=>aAe hy (by omega) (hno j hj))
     have hg:sE l ts i=true:=by
      unfold vF at hbt
      cases hg:sE l ts i with
      | true=>rfl
      | false=>rw [hg] at hbt; cases hbt
     have:((!aQ (ts.getD i t0).Index (l.getD i y0).Index.Lo (l.getD i y0).Index.Hi) || (!aQ (ts.getD i t0).Delivered (l.getD i y0).Delivered.Lo (l.getD i y0).Delivered.Hi))=false:=by
      rw [← Bool.not_and]
      show (!sE l ts i)=false
      rw [hg]; rfl
     rw [this,cond_false]
     show Option.bind (dG N (tA ts i) (spA l i) (mpS b (tA ts) i) b (eK b (spA l) (tA ts) start i)) _=_
     rw [yO hN hy.b hto (aDx b (tA ts) i) hfar,Option.bind_some]
     show Option.bind (jE (uV b l (tA ts) start i++[eK b (spA l) (tA ts) start (i + 1)]).length) _=_
     rw [← vK,room_ok (by rw [aA6]; omega),Option.bind_some]
     show some (bH.cont (uV b l (tA ts) start i++[eK b (spA l) (tA ts) start (i + 1)],_,_,_))=_
     rw [← vK]
     rfl) (by
    show jG N b l ts _ _ (l.length:Int) _ _=_
    unfold jG
    rw [ge_dec,cond_false]) l.length 0 N (by omega) (by omega) (fun j hj=>by omega)
   show Option.bind (aT _ N (uV b l (tA ts) start 0,((0:Nat):Int),eK b (spA l) (tA ts) start 0,mpS b (tA ts) 0)) _=_
   rw [this]
   cases firstG (vF l ts) 0 l.length <;> rfl
  ·have hne:(((ts.length:Nat):Int) != ((l.length:Nat):Int))=true:=by rw [bne_iff_ne]; omega
   rw [hne,cond_true,if_neg he]
 ·have:(uE b ⟨start,start⟩ l != 0)=true:=bne_iff_ne.2 h
  rw [if_neg h,this,cond_true]
theorem aJr {N:Nat} (hN:60≤N) {b:aH} {start:Int} {l:List aF} {ts:List aB} (hb:b.Table.length≤15) (hl:l.length≤45):qZ N (nB b) start (l.map tL) (ts.map aBs)=some (aCv b start l ts):=by
 unfold qZ aCv
 rw [aCp hN hb hl,Option.bind_some,List.length_map,List.length_map]
 by_cases h:uE b ⟨start,start⟩ l=0
 ·rw [if_pos h,h]
  show cond (((ts.length:Nat):Int) != ((l.length:Nat):Int)) _ _=_
  have hy:=aAf h
  have hs : -1000000000≤start∧start≤1000000000:=⟨hy.s.1,hy.s.2.2⟩
  have hn:=hy.n
  by_cases he:ts.length=l.length
  ·have hne:(((ts.length:Nat):Int) != ((l.length:Nat):Int))=false:=by rw [he]; simp
   rw [hne,cond_false,if_pos he]
   have:=aFs (fun i:Nat=>(eK b (spA l) (tA ts) start i,uV b l (tA ts) start i,(i:Int))) (vF l ts) l.length (fun s13=>jI N (nB b) (l.map tL) (ts.map aBs) s13.1 s13.2.1 s13.2.2) (fun i hi hno=>by
    show jI N (nB b) (l.map tL) (ts.map aBs) (eK b (spA l) (tA ts) start i) (uV b l (tA ts) start i) (i:Int)=_
    unfold jI
    rw [List.length_map,lt_dec hi,cond_true,aJk (show i < ts.length by omega),Option.bind_some,aAu hi,Option.bind_some,Option.bind_some,W_succ (by omega)]
    have ho:∀ (n lo hi:Int),aC n lo hi = !(decide (lo≤n) && decide (n≤hi)):=by
     intro n lo hi
     unfold aC
     rw [Bool.eq_iff_iff]
     simp only [Bool.or_eq_true,Bool.not_eq_true',decide_eq_true_eq,Bool.and_eq_false_iff,decide_eq_false_iff_not]
     omega
    show Option.bind (cond (aC (tA ts i).Index (yA l i).Index.Lo (yA l i).Index.Hi) (some true) (some (aC (tA ts i).Delivered (yA l i).Delivered.Lo (yA l i).Delivered.Hi))) _=_
    have hc:cond (aC (tA ts i).Index (yA l i).Index.Lo (yA l i).Index.Hi) (some true) (some (aC (tA ts i).Delivered (yA l i).Delivered.Lo (yA l i).Delivered.Hi))=some (!sE l ts i):=by
     rw [ho,ho]
     unfold sE inS
     cases (decide ((yA l i).Index.Lo≤(tA ts i).Index) && decide ((tA ts i).Index≤(yA l i).Index.Hi)) <;> rfl
    rw [hc,Option.bind_some]
    cases hbt:vF l ts i with
    | some r=>
     unfold vF at hbt
     cases hg:sE l ts i with
     | true=>rw [hg] at hbt; cases hbt
     | false=>
      rw [hg] at hbt
      obtain rfl:=Option.some.inj hbt
      rfl
    | none=>
     have hto:=aAe hy hi hbt
     have hfar:=qX hy.b (sp:=spA l) (ts:=tA ts) hs (n:=i) (by omega) (fun j hj=>aAe hy (by omega) (hno j hj))
     have hg:sE l ts i=true:=by
      unfold vF at hbt
      cases hg:sE l ts i with
      | true=>rfl
      | false=>rw [hg] at hbt; cases hbt
     rw [hg,Bool.not_true,cond_false]
     show Option.bind (hM N (nB b) (eK b (spA l) (tA ts) start i) (tA ts i).Index (tA ts i).Delivered (spA l i)) _=_
     rw [uP hN hy.b hto hfar,Option.bind_some]
     show Option.bind (jE (uV b l (tA ts) start i++[eK b (spA l) (tA ts) start (i + 1)]).length) _=_
     rw [← vK,room_ok (by rw [aA6]; omega),Option.bind_some]
     show some (bH.cont (_,uV b l (tA ts) start i++[eK b (spA l) (tA ts) start (i + 1)],_))=_
     rw [← vK]
     rfl) (by
    show jI N (nB b) (l.map tL) (ts.map aBs) _ _ (l.length:Int)=_
    unfold jI
    rw [List.length_map,ge_dec,cond_false]) l.length 0 N (by omega) (by omega) (fun j hj=>by omega)
   show Option.bind (aT _ N (eK b (spA l) (tA ts) start 0,uV b l (tA ts) start 0,((0:Nat):Int))) _=_
   rw [this]
   cases firstG (vF l ts) 0 l.length <;> rfl
  ·have hne:(((ts.length:Nat):Int) != ((l.length:Nat):Int))=true:=by rw [bne_iff_ne]; omega
   rw [hne,cond_true,if_neg he]
 ·have:(uE b ⟨start,start⟩ l != 0)=true:=bne_iff_ne.2 h
  rw [if_neg h,this,cond_true]
end Go.Nilo.DD
set_option linter.unusedSimpArgs false
set_option linter.unusedVariables false
namespace Go.Nilo.DD
def loT (l:List aF) (i:Nat):aB:=⟨(yA l i).Index.Lo,(yA l i).Delivered.Hi⟩
def hiT (l:List aF) (i:Nat):aB:=⟨(yA l i).Index.Hi,(yA l i).Delivered.Lo⟩
def vE (b:aH) (l:List aF) (s:aE) (n:Nat):List aE:=(List.range n).map fun k=>(⟨eK b (spA l) (loT l) s.Lo (k + 1),eK b (spA l) (hiT l) s.Hi (k + 1)⟩:aE)
theorem vQ (b:aH) (l:List aF) (s:aE) (n:Nat):vE b l s (n + 1)=vE b l s n++[(⟨eK b (spA l) (loT l) s.Lo (n + 1),eK b (spA l) (hiT l) s.Hi (n + 1)⟩:aE)]:=by
 unfold vE
 rw [List.range_succ,List.map_append]
 rfl
theorem aBm (b:aH) (l:List aF) (s:aE) (n:Nat):(vE b l s n).length=n:=by simp [vE]
def yN (b:aH) (s:aE) (l:List aF):List aE × Int:=if uE b s l=0 then (vE b l s l.length,0) else ([],uE b s l)
theorem aGf {b:aH} {s:aE} {l:List aF} (hy:YsOk b s l) {i:Nat} (hi:i < l.length):TOk (loT l i):=by
 have:=hy.y i hi
 exact ⟨⟨this.1.1,by show (l.getD i y0).Index.Lo≤_; omega⟩,⟨by show 0≤(l.getD i y0).Delivered.Hi; omega,this.2.2.2⟩⟩
theorem aGh {b:aH} {s:aE} {l:List aF} (hy:YsOk b s l) {i:Nat} (hi:i < l.length):TOk (hiT l i):=by
 have:=hy.y i hi
 exact ⟨⟨by show 0≤(l.getD i y0).Index.Hi; omega,this.1.2.2⟩,⟨this.2.1,by show (l.getD i y0).Delivered.Lo≤_; omega⟩⟩
theorem aF6 {N:Nat} (hN:60≤N) {b:aH} {s:aE} {l:List aF} (hb:b.Table.length≤15) (hl:l.length≤45):oD N b s l=some (yN b s l):=by
 unfold oD yN
 rw [aAq hN hb hl,Option.bind_some]
 by_cases h:uE b s l=0
 ·rw [if_pos h,h]
  have hy:=aAf h
  have hs1 : -1000000000≤s.Lo∧s.Lo≤1000000000:=⟨hy.s.1,by have:=hy.s; omega⟩
  have hs2 : -1000000000≤s.Hi∧s.Hi≤1000000000:=⟨by have:=hy.s; omega,hy.s.2.2⟩
  have hn:=hy.n
  have:=runS (ρ:=List aE × Int) (fun i:Nat=>(vE b l s i,(i:Int),eK b (spA l) (loT l) s.Lo i,eK b (spA l) (hiT l) s.Hi i,mpS b (hiT l) i,mpS b (loT l) i)) l.length (fun s11=>iP N b l ((fun _=>none),b.Credit,s.Lo) ((fun _=>none),b.Credit,s.Hi) s11.1 s11.2.1 s11.2.2.1 s11.2.2.2.1 s11.2.2.2.2.1 s11.2.2.2.2.2) (fun i hi=>by
   have f1:=qX hy.b (sp:=spA l) (ts:=loT l) hs1 (n:=i) (by omega) (fun j hj=>aGf hy (by omega))
   have f2:=qX hy.b (sp:=spA l) (ts:=hiT l) hs2 (n:=i) (by omega) (fun j hj=>aGh hy (by omega))
   show iP N b l ((fun _=>none),b.Credit,s.Lo) ((fun _=>none),b.Credit,s.Hi) (vE b l s i) (i:Int) (eK b (spA l) (loT l) s.Lo i) (eK b (spA l) (hiT l) s.Hi i) (mpS b (hiT l) i) (mpS b (loT l) i)=_
   unfold iP
   rw [lt_dec hi,cond_true,getI_nat hi,Option.bind_some,get_getD (d:=y0) hi,W_succ (by omega)]
   show Option.bind (dG N (loT l i) (spA l i) (mpS b (loT l) i) b (eK b (spA l) (loT l) s.Lo i)) (fun r_5=>Option.bind (dG N (hiT l i) (spA l i) (mpS b (hiT l) i) b (eK b (spA l) (hiT l) s.Hi i)) _)=_
   rw [yO hN hy.b (aGf hy hi) (aDx b (loT l) i) f1,Option.bind_some,yO hN hy.b (aGh hy hi) (aDx b (hiT l) i) f2,Option.bind_some]
   show Option.bind (jE (vE b l s i++[(⟨eK b (spA l) (loT l) s.Lo (i + 1),eK b (spA l) (hiT l) s.Hi (i + 1)⟩:aE)]).length) _=_
   rw [← vQ,room_ok (by rw [aBm]; omega),Option.bind_some]
   show some (bH.cont (vE b l s i++[(⟨eK b (spA l) (loT l) s.Lo (i + 1),eK b (spA l) (hiT l) s.Hi (i + 1)⟩:aE)],_,_,_,_,_))=_
   rw [← vQ]
   rfl) (by
   show iP N b l _ _ _ (l.length:Int) _ _ _ _=_
   unfold iP
   rw [ge_dec,cond_false]) (N:=N) (by omega)
  show Option.bind (aT _ N (vE b l s 0,((0:Nat):Int),eK b (spA l) (loT l) s.Lo 0,eK b (spA l) (hiT l) s.Hi 0,mpS b (hiT l) 0,mpS b (loT l) 0)) _=_
  rw [this]
  rfl
 ·have:(uE b s l != 0)=true:=bne_iff_ne.2 h
  rw [if_neg h,this,cond_true]
theorem aHn {N:Nat} (hN:60≤N) {b:aH} {s:aE} {l:List aF} (hb:b.Table.length≤15) (hl:l.length≤45):pS N (nB b) s (l.map tL)=some (yN b s l):=by
 unfold pS yN
 rw [aCp hN hb hl,Option.bind_some]
 by_cases h:uE b s l=0
 ·rw [if_pos h,h]
  have hy:=aAf h
  have hs1 : -1000000000≤s.Lo∧s.Lo≤1000000000:=⟨hy.s.1,by have:=hy.s; omega⟩
  have hs2 : -1000000000≤s.Hi∧s.Hi≤1000000000:=⟨by have:=hy.s; omega,hy.s.2.2⟩
  have hn:=hy.n
  have:=runS (ρ:=List aE × Int) (fun i:Nat=>(vE b l s i,(i:Int),eK b (spA l) (loT l) s.Lo i,eK b (spA l) (hiT l) s.Hi i)) l.length (fun s10=>iN N (nB b) (l.map tL) s10.1 s10.2.1 s10.2.2.1 s10.2.2.2) (fun i hi=>by
   have f1:=qX hy.b (sp:=spA l) (ts:=loT l) hs1 (n:=i) (by omega) (fun j hj=>aGf hy (by omega))
   have f2:=qX hy.b (sp:=spA l) (ts:=hiT l) hs2 (n:=i) (by omega) (fun j hj=>aGh hy (by omega))
   show iN N (nB b) (l.map tL) (vE b l s i) (i:Int) (eK b (spA l) (loT l) s.Lo i) (eK b (spA l) (hiT l) s.Hi i)=_
   unfold iN
   rw [List.length_map,lt_dec hi,cond_true,aAu hi,Option.bind_some,W_succ (by omega)]
   show Option.bind (hM N (nB b) (eK b (spA l) (loT l) s.Lo i) (loT l i).Index (loT l i).Delivered (spA l i)) (fun r_1=>Option.bind (hM N (nB b) (eK b (spA l) (hiT l) s.Hi i) (hiT l i).Index (hiT l i).Delivered (spA l i)) _)=_
   rw [uP hN hy.b (aGf hy hi) f1,Option.bind_some,uP hN hy.b (aGh hy hi) f2,Option.bind_some]
   show Option.bind (jE (vE b l s i++[(⟨eK b (spA l) (loT l) s.Lo (i + 1),eK b (spA l) (hiT l) s.Hi (i + 1)⟩:aE)]).length) _=_
   rw [← vQ,room_ok (by rw [aBm]; omega),Option.bind_some]
   show some (bH.cont (vE b l s i++[(⟨eK b (spA l) (loT l) s.Lo (i + 1),eK b (spA l) (hiT l) s.Hi (i + 1)⟩:aE)],_,_,_))=_
   rw [← vQ]
   rfl) (by
   show iN N (nB b) (l.map tL) _ (l.length:Int) _ _=_
   unfold iN
   rw [List.length_map,ge_dec,cond_false]) (N:=N) (by omega)
  show Option.bind (aT _ N (vE b l s 0,((0:Nat):Int),eK b (spA l) (loT l) s.Lo 0,eK b (spA l) (hiT l) s.Hi 0)) _=_
  rw [this]
  rfl
 ·have:(uE b s l != 0)=true:=bne_iff_ne.2 h
  rw [if_neg h,this,cond_true]

def dueV (b:aH) (t:Int):Int × Int:=if uF b=0 then (if okW t then (mM b.Table t,0) else (0,4)) else (0,uF b)
theorem aIz {N:Nat} (hN:60≤N) {b:aH} {t:Int} (hb:b.Table.length≤15):tE N b t=some (dueV b t):=by
 unfold tE dueV
 rw [aDw hN hb,Option.bind_some]
 by_cases h:uF b=0
 ·rw [if_pos h,h]
  show cond (!(bD t)) _ _=_
  have e:bD t=okW t:=rfl
  rw [e]
  cases hf:okW t with
  | false=>rfl
  | true=>
   unfold okW at hf
   simp only [Bool.and_eq_true,decide_eq_true_eq] at hf
   rw [aEw hN (aDk h) hf]
   rfl
 ·have:(uF b != 0)=true:=bne_iff_ne.2 h
  rw [if_neg h,this,cond_true]
theorem aI0 {N:Nat} (hN:60≤N) {b:aH} {t:Int} (hb:b.Table.length≤15):sS N (nB b) t=some (dueV b t):=by
 unfold sS dueV
 rw [aFk hN hb,Option.bind_some]
 by_cases h:uF b=0
 ·rw [if_pos h,h]
  show cond (aC t 0 1000000000) _ _=_
  have e:aC t 0 1000000000 = !okW t:=by
   unfold aC okW
   rw [Bool.eq_iff_iff]
   simp only [Bool.or_eq_true,Bool.not_eq_true',decide_eq_true_eq,Bool.and_eq_false_iff,decide_eq_false_iff_not]
   omega
  rw [e]
  cases hf:okW t with
  | false=>rfl
  | true=>
   unfold okW at hf
   simp only [Bool.and_eq_true,decide_eq_true_eq] at hf
   rw [aGk hN (aDk h) hf]
   rfl
 ·have:(uF b != 0)=true:=bne_iff_ne.2 h
  rw [if_neg h,this,cond_true]

theorem awake_true:fR 5000=some true:=by decide +kernel
theorem aHo (b:aH) (start:Int) (l:List aF) (ts:List aB) (hl:l.length≤45):(aCv b start l ts).1.length≤45:=by
 unfold aCv
 split
 ·split
  ·cases hf:firstG (vF l ts) 0 l.length with
   | none=>
    show (uV b l (tA ts) start l.length).length≤45
    rw [aA6]; exact hl
   | some r=>
    have:∀ n i r,firstG (vF l ts) i n=some r→r=([],7):=by
     intro n
     induction n with
     | zero=>intro i r h; cases h
     | succ n ih=>
      intro i r h
      unfold firstG at h
      cases hb:vF l ts i with
      | none=>rw [hb] at h; exact ih _ _ h
      | some q=>
       rw [hb] at h
       obtain rfl:=Option.some.inj h
       unfold vF at hb
       cases hg:sE l ts i with
       | true=>rw [hg] at hb; cases hb
       | false=>rw [hg] at hb; exact (Option.some.inj hb).symm
    rw [this _ _ _ hf]
    simp
  ·simp
 ·simp
theorem aFu (b:aH) (s:aE) (l:List aF) (hl:l.length≤45):(yN b s l).1.length≤45:=by
 unfold yN
 split
 ·show (vE b l s l.length).length≤45
  rw [aBm]; exact hl
 ·simp
theorem debts_true (b:aH) (index:Int) (s:aE) (l:List aF) (ts:List aB):gR 5000 b index s l ts=some true:=by
 unfold gR
 by_cases hl:15 < b.Table.length ∨ 45 < l.length ∨ 50 < ts.length
 ·have:(((decide (15 < ((b.Table.length:Nat):Int))) || (decide (45 < ((l.length:Nat):Int)))) || (decide (50 < ((ts.length:Nat):Int))))=true:=by
   simp only [Bool.or_eq_true,decide_eq_true_eq]
   omega
  rw [this,cond_true,awake_true]
  rfl
 ·have:(((decide (15 < ((b.Table.length:Nat):Int))) || (decide (45 < ((l.length:Nat):Int)))) || (decide (50 < ((ts.length:Nat):Int))))=false:=by
   simp only [Bool.or_eq_false_iff,decide_eq_false_iff_not]
   omega
  have h1:lB 5000 b=some b:=by
   unfold lB kS
   rw [room_ok (by omega)]
   rfl
  have h2:iX 5000 l=some l:=by
   unfold iX
   rw [room_ok (by omega)]
   rfl
  have h3:iD 5000 ts=some ts:=by
   unfold iD
   rw [room_ok (by omega)]
   rfl
  have l1:=aHo b s.Lo l ts (by omega)
  have l2:=aFu b s l (by omega)
  rw [this,cond_false,h1,Option.bind_some,h2,Option.bind_some,h3,Option.bind_some,aGb (by omega) (by omega) (by omega),Option.bind_some,aDw (by omega) (by omega),Option.bind_some,aD7 (by omega) (by omega),Option.bind_some,aFk (by omega) (by omega),Option.bind_some,bne_self_eq_false,cond_false,
   aIz (by omega) (by omega),Option.bind_some,Option.bind_some,aI0 (by omega) (by omega),Option.bind_some,bne_self_eq_false,bne_self_eq_false,Bool.or_false,cond_false,
   aHy (by omega) (by omega) (by omega),Option.bind_some,Option.bind_some,aJr (by omega) (by omega) (by omega),Option.bind_some,same_int (by omega) (by omega),Option.bind_some,bne_self_eq_false,Bool.not_true,Bool.or_false,cond_false,
   aF6 (by omega) (by omega) (by omega),Option.bind_some,Option.bind_some,aHn (by omega) (by omega) (by omega),Option.bind_some,same_span (by omega) (by omega),Option.bind_some,beq_self_eq_true,beq_self_eq_true,aFz (by omega) (by omega),aHp (by omega) (by omega),aF8 (by omega) (by omega),awake_true]
  rfl
end Go.Nilo.DD
set_option linter.unusedSimpArgs false
set_option linter.unusedVariables false
namespace Go.Nilo.WW
theorem W_id {n:Int} (h1 : -9223372036854775808≤n) (h2:n≤9223372036854775807):W n=n:=by
 unfold W
 rw [IntKind.wrap_i64]
 omega

theorem indexLoop {α:Type} (f:α→Bool) (l:List α) (hl:l.length≤4611686018427387904) (b:Int→Option (bH Int Int))
  (hb:∀ x,b x=cond (decide (x < ((l.length:Nat):Int))) (Option.bind (aZ l x) fun e=>cond (f e) (some (.ret x)) (some (.cont (W (x + 1))))) (some (.brk x))) :
  ∀ (m i N:Nat),i + m=l.length→m < N→(∃ k:Int,aT b N (i:Int)=some (.out k)∧0≤k∧(l.drop i).any f=true) ∨ (aT b N (i:Int)=some (.go ((l.length:Nat):Int))∧(l.drop i).any f=false)
 | m,i,0,_,h=>by omega
 | 0,i,N + 1,hi,_=>by
  right
  have hd:l.drop i=[]:=List.drop_eq_nil_of_le (by omega)
  have:(decide ((i:Int) < ((l.length:Nat):Int)))=false:=by simp; omega
  unfold aT
  rw [hb,this,hd]
  simp; omega
 | m + 1,i,N + 1,hi,hN=>by
  have hil:i < l.length:=by omega
  have h1:(decide ((i:Int) < ((l.length:Nat):Int)))=true:=by simp; omega
  have hg:aZ l (i:Int)=some l[i]:=by unfold aZ; simp [hil]
  have hdr:l.drop i=l[i]::l.drop (i + 1):=List.drop_eq_getElem_cons hil
  unfold aT
  rw [hb,h1,hg,hdr]
  cases hf:f l[i] with
  | true=>left; exact ⟨i,by simp only [cond_true,Option.bind_some,hf],by omega,by rw [List.any_cons,hf]; rfl⟩
  | false=>
   have hw:W ((i:Int) + 1)=((i + 1:Nat):Int):=by rw [W_id (by omega) (by omega)]; push_cast; rfl
   rcases indexLoop f l hl b hb m (i + 1) N (by omega) (by omega) with ⟨k,h2,h3,h4⟩ | ⟨h2,h3⟩
   ·left; exact ⟨k,by simp only [cond_true,cond_false,Option.bind_some,hf,hw]; exact h2,h3,by rw [List.any_cons,hf,h4]; rfl⟩
   ·right; exact ⟨by simp only [cond_true,cond_false,Option.bind_some,hf,hw]; exact h2,by rw [List.any_cons,hf,h3]; rfl⟩

theorem tmod_mod {a b:Int} (h:0≤a):a.tmod b=a % b:=Int.tmod_eq_emod_of_nonneg h
theorem tdiv_div {a b:Int} (h:0≤a):a.tdiv b=a / b:=Int.tdiv_eq_ediv_of_nonneg h

theorem loopInv {σ ρ:Type} (b:σ→Option (bH σ ρ)) (Inv:Nat→σ→Prop) (n:Nat) (hstep:∀ i s,i < n→Inv i s→∃ s',b s=some (.cont s')∧Inv (i + 1) s') (hend:∀ s,Inv n s→b s=some (.brk s)) :
  ∀ (m i:Nat) (s:σ) (N:Nat),i + m=n→m < N→Inv i s→∃ s',aT b N s=some (.go s')∧Inv n s'
 | m,i,s,0,_,h,_=>by omega
 | 0,i,s,N + 1,hi,_,hs=>by
  obtain rfl:i=n:=by omega
  exact ⟨s,by unfold aT; rw [hend s hs],hs⟩
 | m + 1,i,s,N + 1,hi,hN,hs=>by
  obtain ⟨s',h1,h2⟩:=hstep i s (by omega) hs
  obtain ⟨s'',h3,h4⟩:=loopInv b Inv n hstep hend m (i + 1) s' N (by omega) (by omega) h2
  exact ⟨s'',by unfold aT; rw [h1]; exact h3,h4⟩

theorem getI_nat {α:Type} {l:List α} {i:Nat} (h:i < l.length):aZ l (i:Int)=some l[i]:=by unfold aZ; simp [h]
theorem W_succ {i:Nat} (h:i < 9223372036854775807):W ((i:Int) + 1)=((i + 1:Nat):Int):=by rw [W_id (by omega) (by omega)]; push_cast; rfl

theorem absmul {x y:Int} {A B:Nat} (hx:x.natAbs≤A) (hy:y.natAbs≤B):(x * y).natAbs≤A * B:=by
 rw [Int.natAbs_mul]
 exact Nat.mul_le_mul hx hy

theorem room_ok {n:Nat} (h:n≤1000000):jE n=some ():=by unfold jE; rw [if_pos h]
theorem get_getD {α:Type} {l:List α} {d:α} {j:Nat} (h:j < l.length):l[j]=l.getD j d:=by simp [List.getD,h]

theorem mul_bd {a b A B:Int} (h0:0≤a) (h1:0≤b) (h2:a≤A) (h3:b≤B):0≤a * b∧a * b≤A * B :=
 ⟨Int.mul_nonneg h0 h1,Int.mul_le_mul h2 h3 h1 (by omega)⟩


theorem firstLoop {α:Type} (f:α→Bool) (l:List α) (hl:l.length≤1000000) (b:Int→Option (bH Int Int))
  (hb:∀ x,b x=cond (decide (x < ((l.length:Nat):Int))) (Option.bind (aZ l x) fun e=>cond (f e) (some (.ret x)) (some (.cont (W (x + 1))))) (some (.brk x))) :
  ∀ (m i N:Nat),i + m=l.length→m < N→(∀ j (h:j < l.length),j < i→f l[j]=false) →
   (l.findIdx f < l.length∧aT b N (i:Int)=some (.out ((l.findIdx f:Nat):Int))) ∨ (l.findIdx f=l.length∧aT b N (i:Int)=some (.go ((l.length:Nat):Int)))
 | m,i,0,_,h,_=>by omega
 | 0,i,N + 1,hi,_,hf=>by
  right
  have hall:l.findIdx f=l.length:=by
   rw [List.findIdx_eq_length]
   intro x hx
   obtain ⟨j,hj,rfl⟩:=List.getElem_of_mem hx
   exact hf j hj (by omega)
  have hd:(decide ((i:Int) < ((l.length:Nat):Int)))=false:=by simp; omega
  refine ⟨hall,?_⟩
  unfold aT
  rw [hb,hd]
  simp; omega
 | m + 1,i,N + 1,hi,hN,hf=>by
  have hil:i < l.length:=by omega
  have h1:(decide ((i:Int) < ((l.length:Nat):Int)))=true:=by simp; omega
  unfold aT
  rw [hb,h1,getI_nat hil]
  cases hfi:f l[i] with
  | true=>
   left
   have he:l.findIdx f=i:=(List.findIdx_eq hil).2 ⟨hfi,fun j hj=>hf j (by omega) hj⟩
   exact ⟨by omega,by simp only [cond_true,Option.bind_some,hfi,he]⟩
  | false=>
   have ih:=firstLoop f l hl b hb m (i + 1) N (by omega) (by omega) (fun j h hj=>by
    by_cases hji:j=i
    ·subst hji; exact hfi
    ·exact hf j h (by omega))
   simp only [cond_true,cond_false,Option.bind_some,hfi,W_succ (i:=i) (by omega)]
   exact ih

theorem scanLoop {α ρ:Type} (f:α→Option ρ) (l:List α) (hl:l.length≤1000000) (b:Int→Option (bH Int ρ))
  (hb:∀ (i:Nat) (h:i < l.length),b (i:Int)=some (match f l[i] with | some r=>.ret r | none=>.cont (((i + 1:Nat):Int)))) (hend:b (l.length:Int)=some (.brk (l.length:Int))) :
  ∀ (m i N:Nat),i + m=l.length→m < N→aT b N (i:Int)=some (match (l.drop i).findSome? f with | some r=>.out r | none=>.go (l.length:Int))
 | m,i,0,_,h=>by omega
 | 0,i,N + 1,hi,_=>by
  obtain rfl:i=l.length:=by omega
  unfold aT
  rw [hend,List.drop_eq_nil_of_le (Nat.le_refl _)]
  rfl
 | m + 1,i,N + 1,hi,hN=>by
  have hil:i < l.length:=by omega
  unfold aT
  rw [hb i hil,List.drop_eq_getElem_cons hil,List.findSome?_cons]
  cases hf:f l[i] with
  | some r=>rfl
  | none=>exact scanLoop f l hl b hb hend m (i + 1) N (by omega) (by omega)
theorem lt_dec {i n:Nat} (h:i < n):decide ((i:Int) < (n:Int))=true:=by simp; omega
theorem ge_dec {n:Nat}:decide ((n:Int) < (n:Int))=false:=by simp
theorem sameLoop {α:Type} (l:List α) (hl:l.length≤1000000) (b:Int→Option (bH Int Bool)) (hb:∀ (i:Nat) (_:i < l.length),b (i:Int)=some (.cont (((i + 1:Nat):Int)))) (hend:b (l.length:Int)=some (.brk (l.length:Int))) {N:Nat} (hN:l.length < N) :
  aT b N 0=some (.go (l.length:Int)):=by
 have:=scanLoop (fun _=>(none:Option Bool)) l hl b (fun i h=>hb i h) hend l.length 0 N (by omega) hN
 rw [show ((0:Nat):Int)=0 from rfl] at this
 rw [this,List.findSome?_eq_none_iff.2 (fun _ _=>rfl)]
def firstG {ρ:Type} (g:Nat→Option ρ):Nat→Nat→Option ρ
 | _,0=>none
 | i,m + 1=>match g i with
  | some r=>some r
  | none=>firstG g (i + 1) m
theorem scanS {σ ρ:Type} (st:Nat→σ) (g:Nat→Option ρ) (n:Nat) (b:σ→Option (bH σ ρ))
  (hb:∀ (i:Nat),i < n→b (st i)=some (match g i with | some r=>.ret r | none=>.cont (st (i + 1)))) (hend:b (st n)=some (.brk (st n))) :
  ∀ (m i N:Nat),i + m=n→m < N→aT b N (st i)=some (match firstG g i m with | some r=>.out r | none=>.go (st n))
 | m,i,0,_,h=>by omega
 | 0,i,N + 1,hi,_=>by
  obtain rfl:i=n:=by omega
  unfold aT
  rw [hend]
  rfl
 | m + 1,i,N + 1,hi,hN=>by
  unfold aT firstG
  rw [hb i (by omega)]
  cases hf:g i with
  | some r=>rfl
  | none=>exact scanS st g n b hb hend m (i + 1) N (by omega) (by omega)
theorem runS {σ ρ:Type} (st:Nat→σ) (n:Nat) (b:σ→Option (bH σ ρ)) (hb:∀ (i:Nat),i < n→b (st i)=some (.cont (st (i + 1)))) (hend:b (st n)=some (.brk (st n))) {N:Nat} (hN:n < N):aT b N (st 0)=some (.go (st n)):=by
 have hno:∀ (m i:Nat),firstG (fun _=>(none:Option ρ)) i m=none:=by
  intro m
  induction m with
  | zero=>intro i; rfl
  | succ m ih=>intro i; exact ih (i + 1)
 have:=scanS st (fun _=>(none:Option ρ)) n b (fun i h=>hb i h) hend n 0 N (by omega) hN
 rw [this,hno]

end Go.Nilo.WW
set_option linter.unusedSimpArgs false
set_option linter.unusedVariables false
namespace Go.Nilo.WW
theorem yL {N:Nat} {α:Type} {l:List α} {f ok:α→Bool} (hf:∀ x,f x = !ok x) (hl:l.length < N) (hl':l.length≤1000000) (b:Int→Option (bH Int Int))
  (hb:∀ x,b x=cond (decide (x < ((l.length:Nat):Int))) (Option.bind (aZ l x) fun e=>cond (f e) (some (.ret x)) (some (.cont (W (x + 1))))) (some (.brk x))) :
  (Option.bind (Option.bind (Option.bind (aT b N 0) fun x4=>exK x4 (fun _=>some (-1)) some) fun r=>some (decide (0≤r))) fun r=>some (!r))=some (l.all ok):=by
 have hany:l.any f = !l.all ok:=by
  rw [List.all_eq_not_any_not,Bool.not_not]
  congr 1
  exact funext hf
 rcases indexLoop f l (by omega) b hb l.length 0 N (by omega) (by omega) with ⟨k,a1,a2,a3⟩ | ⟨a1,a2⟩
 ·rw [List.drop_zero,hany] at a3
  rw [show ((0:Nat):Int)=0 from rfl] at a1
  rw [a1]
  have:l.all ok=false:=by simpa using a3
  rw [this]
  simp [exK,a2]
 ·rw [List.drop_zero,hany] at a2
  rw [show ((0:Nat):Int)=0 from rfl] at a1
  rw [a1]
  have:l.all ok=true:=by simpa using a2
  rw [this]
  simp [exK]
theorem all_first {α ρ:Type} {p:α→Bool} {d:α} {l:List α} {v:ρ}:∀ n i,i + n=l.length→firstG (fun j=>cond (p (l.getD j d)) none (some v)) i n=cond ((l.drop i).all p) none (some v)
 | 0,i,h=>by
  rw [List.drop_eq_nil_of_le (by omega)]
  rfl
 | n + 1,i,h=>by
  have hi:i < l.length:=by omega
  unfold firstG
  rw [List.drop_eq_getElem_cons hi,List.all_cons,← get_getD (d:=d) hi]
  cases hp:p l[i] with
  | true=>
   rw [cond_true,Bool.true_and]
   exact all_first n (i + 1) (by omega)
  | false=>rfl
theorem aDm {N:Nat} {ρ:Type} {l:List Int} {bad ok:Int→Bool} {v:ρ} (hf:∀ x,bad x = !ok x) (hl:l.length < N) (hl':l.length≤1000000) (b:Int→Option (bH Int ρ))
  (hb:∀ x,b x=cond (decide (x < ((l.length:Nat):Int))) (Option.bind (aZ l x) fun e=>cond (bad e) (some (.ret v)) (some (.cont (W (x + 1))))) (some (.brk x))) :
  aT b N 0=some (cond (l.all ok) (.go (l.length:Int)) (.out v)):=by
 have hs:=scanS (ρ:=ρ) (fun i:Nat=>(i:Int)) (fun j=>cond (ok (l.getD j 0)) none (some v)) l.length b (fun i hi=>by
  rw [hb,lt_dec hi,cond_true,getI_nat hi,Option.bind_some,W_succ (by omega),hf,get_getD (d:=(0:Int)) hi]
  cases ok (l.getD i 0) <;> rfl) (by rw [hb,ge_dec,cond_false]) l.length 0 N (by omega) (by omega)
 show aT b N ((0:Nat):Int)=_
 rw [hs,all_first l.length 0 (by omega),List.drop_zero]
 cases l.all ok <;> rfl
def inB (n a b:Int):Bool:=decide (a≤n) && decide (n≤b)
theorem eI (n a b:Int):aC n a b = !inB n a b:=by
 unfold aC inB
 rw [Bool.eq_iff_iff]
 simp only [Bool.or_eq_true,Bool.not_eq_true',decide_eq_true_eq,Bool.and_eq_false_iff,decide_eq_false_iff_not]
 omega
theorem aE1 {N:Nat} {l:List Int} (hl:l.length < N) (hl':l.length≤1000000):lZ N l=some (l.all fun x=>inB x 0 1000000000):=by
 unfold lZ fL gN
 exact yL (f:=kQ) (fun x=>rfl) hl hl' _ (fun x=>rfl)
theorem aEy {N:Nat} {l:List Int} (hl:l.length < N) (hl':l.length≤1000000):jN N l=some (l.all fun x=>inB x 1 1000000):=by
 unfold jN eL fJ
 exact yL (f:=iE) (fun x=>rfl) hl hl' _ (fun x=>rfl)
theorem aEp {N:Nat} {l:List Int} (hl:l.length < N) (hl':l.length≤1000000):jR N l=some (l.all fun x=>inB x 0 366):=by
 unfold jR eM fM
 exact yL (f:=iF) (fun x=>rfl) hl hl' _ (fun x=>rfl)

def uO (l:List Int):Int:=if 1≤l.length∧l.length≤12 then (if l.all fun x=>inB x 1 1000000 then 0 else 4) else 3
theorem nD {N:Nat} (hN:60≤N) {l:List Int} (hl:l.length≤15):mF N l=some (uO l):=by
 unfold mF uO
 by_cases h:1≤l.length∧l.length≤12
 ·have e:(!aQ (l.length:Int) 1 12)=false:=by
   unfold aQ
   simp only [Bool.not_eq_false',Bool.and_eq_true,decide_eq_true_eq]
   omega
  rw [e,if_pos h,cond_false,aEy (by omega) (by omega),Option.bind_some]
  cases l.all fun x=>inB x 1 1000000 <;> rfl
 ·have e:(!aQ (l.length:Int) 1 12)=true:=by
   unfold aQ
   simp only [Bool.not_eq_true',Bool.and_eq_false_iff,decide_eq_false_iff_not]
   omega
  rw [e,if_neg h,cond_true]
theorem oG {N:Nat} (hN:60≤N) {l:List Int} (hl:l.length≤15):mG N l=some (uO l):=by
 unfold mG uO
 by_cases h:1≤l.length∧l.length≤12
 ·have e:(decide ((l.length:Int) < 1) || decide (12 < (l.length:Int)))=false:=by
   simp only [Bool.or_eq_false_iff,decide_eq_false_iff_not]
   omega
  rw [e,if_pos h,cond_false,aDm (ok:=fun x=>inB x 1 1000000) (v:=(4:Int)) (fun x=>eI x 1 1000000) (by omega) (by omega) (fun s7=>pH N l s7) (fun x=>rfl)]
  cases l.all fun x=>inB x 1 1000000 <;> rfl
 ·have e:(decide ((l.length:Int) < 1) || decide (12 < (l.length:Int)))=true:=by
   simp only [Bool.or_eq_true,decide_eq_true_eq]
   omega
  rw [e,if_neg h,cond_true]
def qJ (l s:List Int) (rule:Int):Int:=if uO l=0 then (if s.length=l.length then (if s.all fun x=>inB x 0 366 then (if inB rule 0 2 then 0 else 2) else 4) else 2) else uO l
theorem vB {N:Nat} (hN:60≤N) {l s:List Int} {rule:Int} (hl:l.length≤15) (hs:s.length≤15):lP N l s rule=some (qJ l s rule):=by
 unfold lP qJ
 rw [nD hN hl,Option.bind_some]
 by_cases h:uO l=0
 ·rw [if_pos h,h]
  show cond (((s.length:Nat):Int) != ((l.length:Nat):Int)) _ _=_
  by_cases he:s.length=l.length
  ·have hne:(((s.length:Nat):Int) != ((l.length:Nat):Int))=false:=by rw [he]; simp
   rw [hne,cond_false,if_pos he,aEp (by omega) (by omega),Option.bind_some]
   have er:dW rule=inB rule 0 2:=rfl
   rw [er]
   cases s.all fun x=>inB x 0 366 <;> cases inB rule 0 2 <;> rfl
  ·have hne:(((s.length:Nat):Int) != ((l.length:Nat):Int))=true:=by rw [bne_iff_ne]; omega
   rw [hne,if_neg he]
   rfl
 ·have:(uO l != 0)=true:=bne_iff_ne.2 h
  rw [if_neg h,this,cond_true]
theorem wL {N:Nat} (hN:60≤N) {l s:List Int} {rule:Int} (hl:l.length≤15) (hs:s.length≤15):lV N l s rule=some (qJ l s rule):=by
 unfold lV qJ
 rw [oG hN hl,Option.bind_some]
 by_cases h:uO l=0
 ·rw [if_pos h,h]
  show cond (((s.length:Nat):Int) != ((l.length:Nat):Int)) _ _=_
  by_cases he:s.length=l.length
  ·have hne:(((s.length:Nat):Int) != ((l.length:Nat):Int))=false:=by rw [he]; simp
   rw [hne,cond_false,if_pos he,aDm (ok:=fun x=>inB x 0 366) (v:=(4:Int)) (fun x=>eI x 0 366) (by omega) (by omega) (fun s11=>pI N s s11) (fun x=>rfl),Option.bind_some,eI]
   cases s.all fun x=>inB x 0 366 <;> cases inB rule 0 2 <;> rfl
  ·have hne:(((s.length:Nat):Int) != ((l.length:Nat):Int))=true:=by rw [bne_iff_ne]; omega
   rw [hne,if_neg he]
   rfl
 ·have:(uO l != 0)=true:=bne_iff_ne.2 h
  rw [if_neg h,this,cond_true]

structure COk (l:List Int):Prop where
 n:1≤l.length∧l.length≤12
 c:∀ i,i < l.length→1≤l.getD i 0∧l.getD i 0≤1000000
theorem aF2 {l:List Int} {a b:Int} (h:(l.all fun x=>inB x a b)=true) {i:Nat} (hi:i < l.length):a≤l.getD i 0∧l.getD i 0≤b:=by
 have:=List.all_eq_true.1 h l[i] (List.getElem_mem hi)
 rw [get_getD (d:=(0:Int)) hi] at this
 unfold inB at this
 simpa only [Bool.and_eq_true,decide_eq_true_eq] using this
theorem aC2 {l:List Int} (h:uO l=0):COk l:=by
 unfold uO at h
 split at h
 ·rename_i hh
  split at h
  ·rename_i ha
   exact ⟨hh,fun i hi=>aF2 ha hi⟩
  ·omega
 ·omega
structure SOk (l s:List Int) (rule:Int):Prop where
 c:COk l
 n:s.length=l.length
 s:∀ i,i < l.length→0≤s.getD i 0∧s.getD i 0≤366
 r:0≤rule∧rule≤2
theorem vU {l s:List Int} {rule:Int} (h:qJ l s rule=0):SOk l s rule:=by
 unfold qJ at h
 split at h
 ·rename_i hc
  split at h
  ·rename_i hn
   split at h
   ·rename_i ha
    split at h
    ·rename_i hr
     unfold inB at hr
     exact ⟨aC2 hc,hn,fun i hi=>aF2 ha (by omega),by simpa only [Bool.and_eq_true,decide_eq_true_eq] using hr⟩
    ·omega
   ·omega
  ·omega
 ·rename_i hc
  exact absurd h hc
theorem same_int {N:Nat} {l:List Int} (hl:l.length≤1000000) (hN:l.length < N):cK N l l=some true:=by
 have hb:∀ (i:Nat) (h:i < l.length),cF N l l (i:Int)=some (.cont (((i + 1:Nat):Int))):=by
  intro i h
  unfold cF
  rw [lt_dec h,cond_true,getI_nat h,Option.bind_some,Option.bind_some,bne_self_eq_false,cond_false,W_succ (by omega)]
 have he:cF N l l (l.length:Int)=some (.brk (l.length:Int)):=by
  unfold cF
  rw [ge_dec,cond_false]
 unfold cK
 have h0:((((l.length:Nat):Int)) != ((l.length:Nat):Int))=false:=by simp
 rw [h0,cond_false,sameLoop l hl (fun s7=>cF N l l s7) hb he hN]
 rfl
end Go.Nilo.WW
set_option linter.unusedSimpArgs false
set_option linter.unusedVariables false
namespace Go.Nilo.WW
theorem aAy {σ ρ:Type} {f g:σ→Option (bH σ ρ)} (Inv:σ→Prop) (h:∀ s,Inv s→f s=g s) (hp:∀ s s',Inv s→g s=some (.cont s')→Inv s'):∀ (N:Nat) (s:σ),Inv s→aT f N s=aT g N s
 | 0,_,_=>rfl
 | N + 1,s,hs=>by
  unfold aT
  rw [h s hs]
  cases hg:g s with
  | none=>rfl
  | some x=>
   cases x with
   | cont s'=>exact aAy Inv h hp N s' (hp s s' hs hg)
   | brk s'=>rfl
   | ret r=>rfl
theorem aG7 {σ ρ:Type} {f:σ→Option (bH σ ρ)} (Inv:σ→Prop) (μ:σ→Nat) (h:∀ s,Inv s→(∃ s',f s=some (.brk s')∧Inv s') ∨ (∃ s',f s=some (.cont s')∧Inv s'∧μ s' < μ s)):∀ (N:Nat) (s:σ),Inv s→μ s < N→∃ s',aT f N s=some (.go s')∧Inv s'
 | 0,s,_,hN=>by omega
 | N + 1,s,hs,hN=>by
  unfold aT
  rcases h s hs with ⟨s',h1,h2⟩ | ⟨s',h1,h2,h3⟩
  ·exact ⟨s',by rw [h1],h2⟩
  ·obtain ⟨s'',h4,h5⟩:=aG7 Inv μ h N s' h2 (by omega)
   exact ⟨s'',by rw [h1]; exact h4,h5⟩

theorem aI4 {d p:Int} (hp:0 < p):(d + p - 1) / p=if d / p * p < d then d / p + 1 else d / p:=by
 have hq:=Int.mul_ediv_add_emod d p
 have h0:=Int.emod_nonneg d (show p ≠ 0 by omega)
 have h1:=Int.emod_lt_of_pos d hp
 have hc:p * (d / p)=d / p * p:=Int.mul_comm _ _
 generalize d % p=r at *
 generalize hqq:d / p=q at *
 by_cases hr:r=0
 ·rw [if_neg (by omega)]
  have e:d + p - 1=p - 1 + q * p:=by omega
  rw [e,Int.add_mul_ediv_right _ _ (by omega),Int.ediv_eq_zero_of_lt (by omega) (by omega)]
  omega
 ·rw [if_pos (by omega)]
  have e:d + p - 1=r - 1 + (q + 1) * p:=by rw [Int.add_mul,Int.one_mul]; omega
  rw [e,Int.add_mul_ediv_right _ _ (by omega),Int.ediv_eq_zero_of_lt (by omega) (by omega)]
  omega

structure POk (p:bU):Prop where
 l:1≤p.Least∧p.Least≤1000000000
 q:1≤p.Part∧p.Part≤100
 n:p.Can.length≤40
 c:∀ i,i < p.Can.length→0≤p.Can.getD i 0∧p.Can.getD i 0≤1000000000
def aDu (p:bU) (s:Int × List Int × Int):Prop:=0≤s.1∧s.1≤1000000000∧0≤s.2.2∧s.2.2≤p.Can.length∧(s.2.1.length:Int)=s.2.2
def nR (p:bU) (d e:Int):Int:=min (min d e) (max p.Least ((d + p.Part - 1) / p.Part))
theorem aE8 {N:Nat} {p:bU} (hp:POk p) {d x:Int} {o:List Int} (h:aDu p (d,o,x)) (hx:x < p.Can.length) (hd:d ≠ 0) :
  bM N p d o x=some (.cont (d - nR p d (p.Can.getD x.toNat 0),o++[nR p d (p.Can.getD x.toNat 0)],x + 1)):=by
 obtain ⟨h1,h2,h3,h4,h5⟩:=h
 simp only at h1 h2 h3 h4 h5
 have hpp:=hp.q
 have hpl:=hp.l
 have hpn:=hp.n
 have he:=hp.c x.toNat (by omega)
 have hg:aZ p.Can x=some (p.Can.getD x.toNat 0):=by
  have:x=(x.toNat:Int):=by omega
  rw [this,getI_nat (by omega),get_getD (d:=(0:Int)) (by omega)]
  rfl
 have hq0:0≤(d + p.Part - 1) / p.Part:=Int.ediv_nonneg (by omega) (by omega)
 have hq1:(d + p.Part - 1) / p.Part≤d + p.Part - 1:=Int.ediv_le_self _ (by omega)
 have hz:nz p.Part=some ():=by unfold nz; rw [if_neg (by omega)]
 have hdx:decide (x < ((p.Can.length:Nat):Int))=true:=by rw [decide_eq_true_eq]; exact hx
 have hdd:(d == 0)=false:=by rw [beq_eq_false_iff_ne]; exact hd
 unfold bM
 rw [hdx,cond_true,hg,Option.bind_some,hdd,cond_false,hz,Option.bind_some,W_id (n:=d + p.Part) (by omega) (by omega),W_id (n:=d + p.Part - 1) (by omega) (by omega),tdiv_div (by omega),W_id (n:=(d + p.Part - 1) / p.Part) (by omega) (by omega)]
 show Option.bind (jE (o++[nR p d (p.Can.getD x.toNat 0)]).length) (fun _=>some (bH.cont (W (d - nR p d (p.Can.getD x.toNat 0)),o++[nR p d (p.Can.getD x.toNat 0)],W (x + 1))))=_
 have hn:0≤nR p d (p.Can.getD x.toNat 0)∧nR p d (p.Can.getD x.toNat 0)≤d:=by unfold nR; omega
 rw [room_ok (by simp; omega),Option.bind_some,W_id (n:=d - nR p d (p.Can.getD x.toNat 0)) (by omega) (by omega),W_id (n:=x + 1) (by omega) (by omega)]
theorem aJ8 {N:Nat} {p:bU} (hp:POk p) {d x:Int} {o:List Int} (h:aDu p (d,o,x)) (hx:x < p.Can.length) (hd:d ≠ 0) :
  dZ N p.Least p.Part p.Can d o x=some (.cont (d - nR p d (p.Can.getD x.toNat 0),o++[nR p d (p.Can.getD x.toNat 0)],x + 1)):=by
 obtain ⟨h1,h2,h3,h4,h5⟩:=h
 simp only at h1 h2 h3 h4 h5
 have hpp:=hp.q
 have hpl:=hp.l
 have hpn:=hp.n
 have he:=hp.c x.toNat (by omega)
 have hg:aZ p.Can x=some (p.Can.getD x.toNat 0):=by
  have:x=(x.toNat:Int):=by omega
  rw [this,getI_nat (by omega),get_getD (d:=(0:Int)) (by omega)]
  rfl
 have hq0:0≤d / p.Part:=Int.ediv_nonneg (by omega) (by omega)
 have hq1:d / p.Part≤d:=Int.ediv_le_self _ (by omega)
 have hq2:=Int.ediv_mul_le d (show p.Part ≠ 0 by omega)
 have hq3:0≤d / p.Part * p.Part:=Int.mul_nonneg hq0 (by omega)
 have hz:nz p.Part=some ():=by unfold nz; rw [if_neg (by omega)]
 have hdx:(decide (x < ((p.Can.length:Nat):Int)) && decide (0 < d))=true:=by
  simp only [Bool.and_eq_true,decide_eq_true_eq]
  omega
 have hn:0≤nR p d (p.Can.getD x.toNat 0)∧nR p d (p.Can.getD x.toNat 0)≤d:=by
  have:0≤(d + p.Part - 1) / p.Part:=Int.ediv_nonneg (by omega) (by omega)
  unfold nR
  omega
 have j29:∀ n,n=nR p d (p.Can.getD x.toNat 0)→iL N d o x n=some (.cont (d - nR p d (p.Can.getD x.toNat 0),o++[nR p d (p.Can.getD x.toNat 0)],x + 1)):=by
  intro n hnn
  subst hnn
  unfold iL
  rw [room_ok (by simp; omega),Option.bind_some,W_id (n:=d - nR p d (p.Can.getD x.toNat 0)) (by omega) (by omega),W_id (n:=x + 1) (by omega) (by omega)]
 have j28:∀ n,min n d=nR p d (p.Can.getD x.toNat 0)→iK N d o x n=some (.cont (d - nR p d (p.Can.getD x.toNat 0),o++[nR p d (p.Can.getD x.toNat 0)],x + 1)):=by
  intro n hnn
  unfold iK
  by_cases hlt:d < n
  ·rw [show decide (d < n)=true from decide_eq_true hlt,cond_true,j29 d (by omega)]
  ·rw [show decide (d < n)=false from decide_eq_false hlt,cond_false,j29 n (by omega)]
 have j27:∀ n,min (min n (p.Can.getD x.toNat 0)) d=nR p d (p.Can.getD x.toNat 0)→iI N p.Can d o x n=some (.cont (d - nR p d (p.Can.getD x.toNat 0),o++[nR p d (p.Can.getD x.toNat 0)],x + 1)):=by
  intro n hnn
  unfold iI
  rw [hg,Option.bind_some,Option.bind_some]
  by_cases hlt:p.Can.getD x.toNat 0 < n
  ·rw [show decide (p.Can.getD x.toNat 0 < n)=true from decide_eq_true hlt,cond_true,j28 _ (by omega)]
  ·rw [show decide (p.Can.getD x.toNat 0 < n)=false from decide_eq_false hlt,cond_false,j28 n (by omega)]
 have j26:∀ n,min (min (max n p.Least) (p.Can.getD x.toNat 0)) d=nR p d (p.Can.getD x.toNat 0)→iJ N p.Least p.Can d o x n=some (.cont (d - nR p d (p.Can.getD x.toNat 0),o++[nR p d (p.Can.getD x.toNat 0)],x + 1)):=by
  intro n hnn
  unfold iJ
  by_cases hlt:n < p.Least
  ·rw [show decide (n < p.Least)=true from decide_eq_true hlt,cond_true,j27 _ (by omega)]
  ·rw [show decide (n < p.Least)=false from decide_eq_false hlt,cond_false,j27 n (by omega)]
 have hce:=aI4 (d:=d) (p:=p.Part) (by omega)
 unfold dZ
 rw [hdx,cond_true,hz,Option.bind_some,tdiv_div (by omega),W_id (n:=d / p.Part) (by omega) (by omega),W_id (n:=d / p.Part * p.Part) (by omega) (by omega),W_id (n:=d / p.Part + 1) (by omega) (by omega)]
 by_cases hlt:d / p.Part * p.Part < d
 ·rw [if_pos hlt] at hce
  rw [show decide (d / p.Part * p.Part < d)=true from decide_eq_true hlt,cond_true,j26 _ (by unfold nR; rw [hce]; omega)]
 ·rw [if_neg hlt] at hce
  rw [show decide (d / p.Part * p.Part < d)=false from decide_eq_false hlt,cond_false,j26 _ (by unfold nR; rw [hce]; omega)]
theorem aE4 {N:Nat} {p:bU} (hp:POk p) (s:Int × List Int × Int) (h:aDu p s):bM N p s.1 s.2.1 s.2.2=dZ N p.Least p.Part p.Can s.1 s.2.1 s.2.2:=by
 obtain ⟨d,o,x⟩:=s
 have hh:=h
 obtain ⟨h1,h2,h3,h4,h5⟩:=hh
 simp only at h1 h2 h3 h4 h5
 by_cases hx:x < p.Can.length
 ·by_cases hd:d=0
  ·subst hd
   have hg:aZ p.Can x=some (p.Can.getD x.toNat 0):=by
    have:x=(x.toNat:Int):=by omega
    rw [this,getI_nat (by omega),get_getD (d:=(0:Int)) (by omega)]
    rfl
   show bM N p 0 o x=dZ N p.Least p.Part p.Can 0 o x
   unfold bM dZ
   rw [show decide (x < ((p.Can.length:Nat):Int))=true from decide_eq_true hx,hg]
   rfl
  ·exact (aE8 hp h hx hd).trans (aJ8 hp h hx hd).symm
 ·show bM N p d o x=dZ N p.Least p.Part p.Can d o x
  unfold bM dZ
  rw [show decide (x < ((p.Can.length:Nat):Int))=false from decide_eq_false hx]
  rfl
theorem aE6 {N:Nat} {p:bU} (hp:POk p) (s:Int × List Int × Int) (h:aDu p s) :
  (∃ s',bM N p s.1 s.2.1 s.2.2=some (.brk s')∧aDu p s') ∨ (∃ s',bM N p s.1 s.2.1 s.2.2=some (.cont s')∧aDu p s'∧(p.Can.length - s'.2.2).toNat < (p.Can.length - s.2.2).toNat):=by
 obtain ⟨d,o,x⟩:=s
 have hh:=h
 obtain ⟨h1,h2,h3,h4,h5⟩:=hh
 simp only at h1 h2 h3 h4 h5
 by_cases hx:x < p.Can.length
 ·by_cases hd:d=0
  ·subst hd
   have hg:aZ p.Can x=some (p.Can.getD x.toNat 0):=by
    have:x=(x.toNat:Int):=by omega
    rw [this,getI_nat (by omega),get_getD (d:=(0:Int)) (by omega)]
    rfl
   left
   refine ⟨(0,o,x),?_,h⟩
   show bM N p 0 o x=_
   unfold bM
   rw [show decide (x < ((p.Can.length:Nat):Int))=true from decide_eq_true hx,hg]
   rfl
  ·right
   refine ⟨_,aE8 hp h hx hd,?_,?_⟩
   ·have hc:=hp.c x.toNat (by omega)
    have hpp:=hp.q
    have hpl:=hp.l
    have:0≤(d + p.Part - 1) / p.Part:=Int.ediv_nonneg (by omega) (by omega)
    have hn:0≤nR p d (p.Can.getD x.toNat 0)∧nR p d (p.Can.getD x.toNat 0)≤d:=by unfold nR; omega
    refine ⟨by simp only; omega,by simp only; omega,by simp only; omega,by simp only; omega,by simp only [List.length_append,List.length_cons,List.length_nil]; omega⟩
   ·simp only
    omega
 ·left
  refine ⟨(d,o,x),?_,h⟩
  show bM N p d o x=_
  unfold bM
  rw [show decide (x < ((p.Can.length:Nat):Int))=false from decide_eq_false hx]
  rfl
theorem aDp {N:Nat} (hN:60≤N) {debt:Int} {p:bU} (hl:p.Can.length≤45):∃ r,fZ N debt p=some r∧nN N debt p.Least p.Part p.Can=some r∧r.1.length≤45:=by
 unfold fZ nN
 rw [eI,eI,eI]
 have ed:bD debt=inB debt 0 1000000000:=rfl
 have el:aQ p.Least 1 1000000000=inB p.Least 1 1000000000:=rfl
 have ep:aQ p.Part 1 100=inB p.Part 1 100:=rfl
 rw [ed,el,ep]
 cases hd:inB debt 0 1000000000 with
 | false=>exact ⟨([],4),rfl,rfl,by simp⟩
 | true=>
  rw [Bool.not_true,cond_false,cond_false]
  by_cases h40:p.Can.length≤40
  ·rw [show decide (40 < ((p.Can.length:Nat):Int))=false from decide_eq_false (by omega),cond_false,cond_false]
   cases hlp:(!inB p.Least 1 1000000000 || !inB p.Part 1 100) with
   | true=>exact ⟨([],100),rfl,rfl,by simp⟩
   | false=>
    rw [cond_false,cond_false,aE1 (by omega) (by omega),Option.bind_some,Option.bind_some,
     aDm (ok:=fun x=>inB x 0 1000000000) (v:=(([]:List Int),(100:Int))) (fun x=>eI x 0 1000000000) (by omega) (by omega) (fun s13=>oU N p.Can s13) (fun x=>rfl)]
    cases ha:p.Can.all fun x=>inB x 0 1000000000 with
    | false=>exact ⟨([],100),rfl,rfl,by simp⟩
    | true=>
     have hp:POk p:=by
      unfold inB at hlp
      simp only [Bool.or_eq_false_iff,Bool.not_eq_false',Bool.and_eq_true,decide_eq_true_eq] at hlp
      exact ⟨hlp.1,hlp.2,h40,fun i hi=>aF2 ha hi⟩
     have hi:aDu p (debt,[],0):=by
      unfold inB at hd
      simp only [Bool.and_eq_true,decide_eq_true_eq] at hd
      exact ⟨hd.1,hd.2,by simp only; omega,by simp only; omega,rfl⟩
     obtain ⟨s',h1,h2⟩:=aG7 (f:=fun s12:Int × List Int × Int=>bM N p s12.1 s12.2.1 s12.2.2) (aDu p) (fun s=>(p.Can.length - s.2.2).toNat) (aE6 hp) N (debt,[],0) hi (by simp only; omega)
     have h3:=aAy (f:=fun s12:Int × List Int × Int=>bM N p s12.1 s12.2.1 s12.2.2) (g:=fun s17:Int × List Int × Int=>dZ N p.Least p.Part p.Can s17.1 s17.2.1 s17.2.2) (aDu p) (aE4 hp) (fun s s' hs hg=>by
      rw [← aE4 hp s hs] at hg
      rcases aE6 (N:=N) hp s hs with ⟨s2,h4,-⟩ | ⟨s2,h4,h5,-⟩
      ·rw [h4] at hg; cases hg
      ·rw [h4] at hg; cases hg; exact h5) N (debt,[],0) hi
     rw [h1] at h3
     rw [h1]
     obtain ⟨-,-,-,h6,h7⟩:=h2
     refine ⟨cond (decide (0 < s'.1)) (([]:List Int),5) (s'.2.1,0),?_,?_,?_⟩
     ·show cond (decide (0 < s'.1)) (some (([]:List Int),5)) (some (s'.2.1,0))=_
      cases decide (0 < s'.1) <;> rfl
     ·show Option.bind (aT _ N (debt,[],0)) _=_
      rw [← h3]
      show cond (decide (0 < s'.1)) (some (([]:List Int),5)) (some (s'.2.1,0))=_
      cases decide (0 < s'.1) <;> rfl
     ·cases decide (0 < s'.1)
      ·show s'.2.1.length≤45
       omega
      ·simp
  ·rw [show decide (40 < ((p.Can.length:Nat):Int))=true from decide_eq_true (by omega)]
   exact ⟨([],3),rfl,rfl,by simp⟩
end Go.Nilo.WW
set_option linter.unusedSimpArgs false
set_option linter.unusedVariables false
namespace Go.Nilo.WW
theorem aG9 {a b c x y z:Int} (hc:0 < c) (hb:0 < b) (hx:0≤x) (hy:0≤y) (hz:0≤z) (h1:b * x < a * y) (h2:c * y≤b * z):c * x < a * z:=by
 have hbx:0≤b * x:=Int.mul_nonneg (by omega) hx
 have hy0:0 < y:=by
  rcases Int.lt_or_eq_of_le hy with h | h
  ·exact h
  ·subst h; rw [Int.mul_zero] at h1; omega
 have hcy:0 < c * y:=Int.mul_pos hc hy0
 have hz0:0 < z:=by
  rcases Int.lt_or_eq_of_le hz with h | h
  ·exact h
  ·subst h; rw [Int.mul_zero] at h2; omega
 have e1:c * y * x≤b * z * x:=Int.mul_le_mul_of_nonneg_right h2 hx
 have e2:b * x * z < a * y * z:=Int.mul_lt_mul_of_pos_right h1 hz0
 have e3:b * z * x=b * x * z:=by rw [Int.mul_assoc,Int.mul_comm z x,← Int.mul_assoc]
 have e4:(c * x) * y < (a * z) * y:=by
  have a1:c * x * y=c * y * x:=by rw [Int.mul_assoc,Int.mul_comm x y,← Int.mul_assoc]
  have a2:a * z * y=a * y * z:=by rw [Int.mul_assoc,Int.mul_comm z y,← Int.mul_assoc]
  omega
 exact Int.lt_of_mul_lt_mul_right e4 hy

structure rL (k:Nat) (c:Nat→Int) (B:Nat→Int):Prop where
 pos:∀ s,s < k→0 < c s
 b0:∀ n,1≤n→0≤B n
 up:∀ n m,1≤n→n < m→B n < B m

def ahead (c B:Nat→Int) (s n t m:Nat):Prop:=c t * B n < c s * B m ∨ (c t * B n≤c s * B m∧s < t)
theorem aB8 {c B:Nat→Int} {s n t m:Nat} (h:ahead c B s n t m):¬ ahead c B t m s n:=by
 unfold ahead at *
 omega

theorem rL.mono {k:Nat} {c B:Nat→Int} (h:rL k c B) {n m:Nat} (h1:1≤n) (h2:n≤m):B n≤B m:=by
 rcases Nat.lt_or_eq_of_le h2 with h3 | h3
 ·exact Int.le_of_lt (h.up n m h1 h3)
 ·subst h3; exact Int.le_refl _
theorem rL.mulmono {k:Nat} {c B:Nat→Int} (h:rL k c B) {s n m:Nat} (hs:s < k) (h1:1≤n) (h2:n≤m):c s * B n≤c s * B m :=
 Int.mul_le_mul_of_nonneg_left (h.mono h1 h2) (Int.le_of_lt (h.pos s hs))
theorem rL.self {k:Nat} {c B:Nat→Int} (h:rL k c B) {s n m:Nat} (hs:s < k) (h1:1≤n) (h2:n < m):ahead c B s n s m :=
 .inl (Int.mul_lt_mul_of_pos_left (h.up n m h1 h2) (h.pos s hs))
def aBb (k:Nat) (c B:Nat→Int) (o:Nat→Nat):Prop:=∀ s t,s < k→t < k→1≤o s→ahead c B s (o s) t (o t + 1)
theorem aBb.all {k:Nat} {c B:Nat→Int} {o:Nat→Nat} (hc:rL k c B) (h:aBb k c B o) {s t n m:Nat} (hs:s < k) (ht:t < k) (hn:1≤n) (hn':n≤o s) (hm:o t < m):ahead c B s n t m:=by
 have h1:=h s t hs ht (by omega)
 have h2:=hc.mulmono (s:=t) ht hn hn'
 have h3:=hc.mulmono (s:=s) (n:=o t + 1) (m:=m) hs (by omega) (by omega)
 unfold ahead at *
 omega

def bump (o:Nat→Nat) (w:Nat):Nat→Nat:=fun s=>if s=w then o s + 1 else o s
theorem aBb.bump {k:Nat} {c B:Nat→Int} {o:Nat→Nat} (hc:rL k c B) (h:aBb k c B o) {w:Nat} (hw:w < k) (hbest:∀ t,t < k→t ≠ w→ahead c B w (o w + 1) t (o t + 1)):aBb k c B (bump o w):=by
 intro s t hs ht h1
 unfold Go.Nilo.WW.bump at *
 by_cases hsw:s=w
 ·subst hsw
  rw [if_pos rfl]
  by_cases htw:t=s
  ·subst htw
   rw [if_pos rfl]
   exact hc.self hs (by omega) (by omega)
  ·rw [if_neg htw]
   exact hbest t ht htw
 ·rw [if_neg hsw] at h1 ⊢
  by_cases htw:t=w
  ·subst htw
   rw [if_pos rfl]
   exact h.all hc hs ht h1 (Nat.le_refl _) (by omega)
  ·rw [if_neg htw]
   exact h s t hs ht h1
theorem aH0 (k:Nat) (c B:Nat→Int):aBb k c B (fun _=>0):=fun s t _ _ h=>absurd h (by simp)
theorem aHw {k:Nat} {c B:Nat→Int} {o:Nat→Nat} (hc:rL k c B) {i w:Nat} (hi:i < k) (hw:w≤i) (hbest:∀ t,t < i→t ≠ w→ahead c B w (o w + 1) t (o t + 1)) :
  (c w * B (o i + 1) < c i * B (o w + 1)→w < i→∀ t,t < i + 1→t ≠ i→ahead c B i (o i + 1) t (o t + 1)) ∧
  (¬ c w * B (o i + 1) < c i * B (o w + 1)→∀ t,t < i + 1→t ≠ w→ahead c B w (o w + 1) t (o t + 1)):=by
 refine ⟨fun h hwi t ht hti=>?_,fun h t ht htw=>?_⟩
 ·by_cases htw:t=w
  ·subst htw
   exact .inl h
  ·have h1:=hbest t (by omega) htw
   have h2:c t * B (o w + 1)≤c w * B (o t + 1):=by unfold ahead at h1; omega
   exact .inl (aG9 (hc.pos t (by omega)) (hc.pos w (by omega)) (hc.b0 _ (by omega)) (hc.b0 _ (by omega)) (hc.b0 _ (by omega)) h h2)
 ·by_cases hti:t=i
  ·subst hti
   exact .inr ⟨by omega,by omega⟩
  ·exact hbest t (by omega) htw

def lK (p:Nat→Bool):Nat→Nat
 | 0=>0
 | n + 1=>lK p n + (if p (n + 1) then 1 else 0)
theorem aAl {p:Nat→Bool} {a:Nat}:∀ n,(∀ m,a < m→m≤n→p m=false)→lK p n≤a
 | 0,_=>Nat.zero_le _
 | n + 1,h=>by
  unfold lK
  by_cases hn:a < n + 1
  ·rw [h (n + 1) hn (Nat.le_refl _)]
   have:=aAl n (fun m h1 h2=>h m h1 (by omega))
   simpa using this
  ·have:lK p n≤n:=count_id n
   split <;> omega
where count_id {p:Nat→Bool}:∀ n,lK p n≤n
 | 0=>Nat.le_refl _
 | n + 1=>by
  unfold lK
  have:=count_id (p:=p) n
  split <;> omega
theorem aBy {p:Nat→Bool} {a:Nat}:∀ n,a≤n→(∀ m,1≤m→m≤a→p m=true)→a≤lK p n
 | 0,h,_=>by omega
 | n + 1,h,hp=>by
  unfold lK
  by_cases hn:a=n + 1
  ·subst hn
   rw [if_pos (hp (n + 1) (by omega) (Nat.le_refl _))]
   have:=aBy (p:=p) (a:=n) n (Nat.le_refl _) (fun m h1 h2=>hp m h1 (by omega))
   omega
  ·have:=aBy (p:=p) (a:=a) n (by omega) hp
   omega
def nQ (f:Nat→Nat):Nat→Nat
 | 0=>0
 | n + 1=>nQ f n + f n
theorem aDy {f g:Nat→Nat}:∀ k,(∀ s,s < k→f s≤g s)→nQ f k≤nQ g k
 | 0,_=>Nat.le_refl _
 | k + 1,h=>Nat.add_le_add (aDy k (fun s hs=>h s (by omega))) (h k (by omega))
theorem aGe {f g:Nat→Nat} {s:Nat}:∀ k,s < k→(∀ t,t < k→f t≤g t)→f s < g s→nQ f k < nQ g k
 | k + 1,hs,h,hlt=>by
  unfold nQ
  have h1:=aDy k (fun t ht=>h t (by omega))
  by_cases hk:s=k
  ·subst hk; omega
  ·have:=aGe k (by omega) (fun t ht=>h t (by omega)) hlt
   have:=h k (by omega)
   omega
theorem aCl {o:Nat→Nat} {w:Nat}:∀ k,nQ (bump o w) k=nQ o k + (if w < k then 1 else 0)
 | 0=>by simp [nQ]
 | k + 1=>by
  unfold nQ
  rw [aCl k]
  unfold bump
  by_cases h1:w < k
  ·rw [if_pos h1,if_pos (show w < k + 1 by omega),if_neg (show ¬ k=w by omega)]; omega
  ·by_cases h2:k=w
   ·subst h2; rw [if_neg h1,if_pos (show k < k + 1 by omega),if_pos rfl]; omega
   ·rw [if_neg h1,if_neg (show ¬ w < k + 1 by omega),if_neg h2]; omega
theorem wV {o:Nat→Nat} {s:Nat}:∀ k,s < k→o s≤nQ o k
 | k + 1,h=>by
  unfold nQ
  by_cases hk:s=k
  ·subst hk; omega
  ·have:=wV (o:=o) (s:=s) k (by omega)
   omega
theorem aIp {k D:Nat} {c B:Nat→Int} {o:Nat→Nat} (hc:rL k c B) (hf:aBb k c B o) (hD:nQ o k=D) {s n:Nat} (hs:s < k) (hn:1≤n) (P:Nat→Nat→Bool) (hP:∀ t m,t < k→1≤m→m≤D→(P t m=true ↔ ahead c B t m s n)) :
  (nQ (fun t=>lK (P t) D) k < D ↔ n≤o s):=by
 have hle:∀ t,t < k→o t≤D:=fun t ht=>by have:=wV (o:=o) k ht; omega
 constructor
 ·intro h
  rcases Nat.lt_or_ge (o s) n with hlt | hge
  ·exfalso
   have:nQ o k≤nQ (fun t=>lK (P t) D) k:=aDy k (fun t ht=>aBy D (hle t ht) (fun m h1 h2=>(hP t m ht h1 (by have:=hle t ht; omega)).2 (hf.all hc ht hs h1 h2 hlt)))
   omega
  ·exact hge
 ·intro h
  have hno:∀ t m,t < k→o t < m→m≤D→P t m=false:=fun t m ht h1 h2=>by
   cases hp:P t m with
   | false=>rfl
   | true=>exact absurd ((hP t m ht (by omega) h2).1 hp) (aB8 (hf.all hc hs ht hn h h1))
  have:nQ (fun t=>lK (P t) D) k < nQ o k:=aGe k hs (fun t ht=>aAl D (fun m h1 h2=>hno t m ht h1 h2)) (by
   have hle1:lK (P s) D≤n - 1:=aAl D (fun m h1 h2=>by
    cases hp:P s m with
    | false=>rfl
    | true=>
     have:=(hP s m hs (by omega) h2).1 hp
     rcases Nat.lt_or_ge n m with h3 | h3
     ·exact absurd this (aB8 (hc.self hs hn h3))
     ·have h4:m=n:=by omega
      subst h4
      unfold ahead at this
      omega)
   omega)
  omega
end Go.Nilo.WW
set_option linter.unusedSimpArgs false
set_option linter.unusedVariables false
namespace Go.Nilo.WW
def hH (rule n:Int):Int:=cond (rule == 0) (2 * n) (cond (rule == 1) (2 * n - 1) (2 * n - 2))
def cN (l:List Int) (s:Nat):Int:=l.getD s 0
def bN (rule:Int) (n:Nat):Int:=hH rule (n:Int)
theorem rQ {rule n:Int} (hr:0≤rule∧rule≤2):(rule=0∧hH rule n=2 * n) ∨ (rule=1∧hH rule n=2 * n - 1) ∨ (rule=2∧hH rule n=2 * n - 2):=by
 have h:rule=0 ∨ rule=1 ∨ rule=2:=by omega
 rcases h with rfl | rfl | rfl
 ·exact .inl ⟨rfl,rfl⟩
 ·exact .inr (.inl ⟨rfl,rfl⟩)
 ·exact .inr (.inr ⟨rfl,rfl⟩)
theorem xW {l:List Int} (h:COk l) {rule:Int} (hr:0≤rule∧rule≤2):rL l.length (cN l) (bN rule):=by
 refine ⟨fun s hs=>by have:=h.c s hs; unfold cN; omega,fun n hn=>?_,fun n m hn hm=>?_⟩
 ·unfold bN
  rcases rQ (n:=(n:Int)) hr with ⟨-,h1⟩ | ⟨-,h1⟩ | ⟨-,h1⟩ <;> omega
 ·unfold bN
  rcases rQ (n:=(n:Int)) hr with ⟨h0,h1⟩ | ⟨h0,h1⟩ | ⟨h0,h1⟩ <;> rcases rQ (n:=(m:Int)) hr with ⟨h2,h3⟩ | ⟨h2,h3⟩ | ⟨h2,h3⟩ <;> omega
theorem pW {N:Nat} {rule c n:Int} (hc:0≤c∧c≤1000000) (hn : -1≤n∧n≤100000):dL N rule c n=some (⟨2 * c,hH rule n⟩:aR):=by
 unfold dL hH
 rw [W_id (n:=2 * c) (by omega) (by omega),W_id (n:=2 * n) (by omega) (by omega),W_id (n:=2 * n - 1) (by omega) (by omega),W_id (n:=2 * n - 2) (by omega) (by omega)]
 cases rule == 0 <;> cases rule == 1 <;> rfl
theorem tU {rule n:Int} (hn : -1≤n∧n≤100000):aX rule n=hH rule n:=by
 unfold aX hH
 rw [W_id (n:=2 * n) (by omega) (by omega),W_id (n:=2 * n - 1) (by omega) (by omega),W_id (n:=2 * n - 2) (by omega) (by omega)]
theorem pQ {rule n:Int} (hn : -1≤n∧n≤100000) : -4≤hH rule n∧hH rule n≤200000:=by
 unfold hH
 cases rule == 0 <;> cases rule == 1 <;> simp only [cond_true,cond_false] <;> omega
theorem aCg {c b d e:Int} (hc:0≤c∧c≤1000000) (hd:0≤d∧d≤1000000) (hb : -4≤b∧b≤200000) (he : -4≤e∧e≤200000):aV ⟨2 * c,b⟩ ⟨2 * d,e⟩=decide (d * b < c * e):=by
 unfold aV
 show decide (W (2 * d * b) < W (2 * c * e))=_
 have m1:=absmul (x:=2 * d) (y:=b) (A:=2000000) (B:=200000) (by omega) (by omega)
 have m2:=absmul (x:=2 * c) (y:=e) (A:=2000000) (B:=200000) (by omega) (by omega)
 rw [W_id (n:=2 * d * b) (by omega) (by omega),W_id (n:=2 * c * e) (by omega) (by omega),Int.mul_assoc,Int.mul_assoc]
 rw [Bool.eq_iff_iff,decide_eq_true_eq,decide_eq_true_eq]
 omega
theorem wO {a x b y:Int} (ha:1≤a∧a≤1000000) (hb:1≤b∧b≤1000000) (hx:0≤x∧x≤200000) (hy:0≤y∧y≤200000):bY a x b y=decide (b * x < a * y):=by
 unfold bY
 have m1:=absmul (x:=b) (y:=x) (A:=1000000) (B:=200000) (by omega) (by omega)
 have m2:=absmul (x:=a) (y:=y) (A:=1000000) (B:=200000) (by omega) (by omega)
 by_cases hx0:x=0
 ·subst hx0
  by_cases hy0:y=0
  ·subst hy0
   rw [Int.mul_zero,Int.mul_zero]
   rfl
  ·have:0 < a * y:=Int.mul_pos (by omega) (by omega)
   rw [Int.mul_zero]
   have e:decide (0 < a * y)=true:=decide_eq_true this
   have e2:(y != 0)=true:=bne_iff_ne.2 hy0
   rw [e,e2]
   rfl
 ·have e1:(x == 0)=false:=beq_eq_false_iff_ne.2 hx0
  by_cases hy0:y=0
  ·subst hy0
   have:0 < b * x:=Int.mul_pos (by omega) (by omega)
   rw [Int.mul_zero]
   have e:decide (b * x < 0)=false:=decide_eq_false (by omega)
   rw [e,e1]
   rfl
  ·have e2:(y == 0)=false:=beq_eq_false_iff_ne.2 hy0
   rw [e1,e2,W_id (n:=b * x) (by omega) (by omega),W_id (n:=a * y) (by omega) (by omega)]
   rfl

def lR (k:Nat) (o:Nat→Nat):List Int:=(List.range k).map fun s=>((o s:Nat):Int)
theorem aE2 (k:Nat) (o:Nat→Nat):(lR k o).length=k:=by simp [lR]
theorem wW {k:Nat} {o:Nat→Nat} {s:Nat} (hs:s < k):aZ (lR k o) (s:Int)=some ((o s:Nat):Int):=by
 rw [getI_nat (by rw [aE2]; exact hs)]
 simp [lR]
theorem aEj {k:Nat} {o:Nat→Nat} {s:Nat}:(lR k o).set s (((o s + 1:Nat)):Int)=lR k (bump o s):=by
 apply List.ext_getElem?
 intro i
 unfold lR bump
 rw [List.getElem?_set]
 by_cases hik:i < k
 ·by_cases his:s=i
  ·subst his
   simp [hik]
  ·rw [if_neg his]
   simp [hik,Ne.symm his]
 ·by_cases his:s=i
  ·subst his
   simp [hik]
  ·rw [if_neg his]
   simp [hik]
theorem aAn {k:Nat} {o o':Nat→Nat} (h:∀ s,s < k→o s=o' s):lR k o=lR k o':=by
 unfold lR
 apply List.map_congr_left
 intro s hs
 rw [h s (List.mem_range.1 hs)]
theorem aB9 (k:Nat):List.replicate k (0:Int)=lR k (fun _=>0):=by
 unfold lR
 rw [show (fun s:Nat=>(((fun _=>0:Nat→Nat) s:Nat):Int))=fun _=>(0:Int) from rfl,List.map_const',List.length_range]
theorem aHj {N:Nat} (hN:60≤N) {l:List Int} (h:COk l) {rule:Int} (hr:0≤rule∧rule≤2) {o:Nat→Nat} (ho:∀ s,s < l.length→o s≤400) :
  ∃ (w:Nat),w < l.length∧(∀ t,t < l.length→t ≠ w→ahead (cN l) (bN rule) w (o w + 1) t (o t + 1)) ∧
   aT (fun s23:Int × Int × Int × Int=>fK N l rule (lR l.length o) s23.1 s23.2.1 s23.2.2.1 s23.2.2.2) N (0,0,2 * cN l 0,bN rule (o 0 + 1))=some (.go ((w:Int),(l.length:Int),2 * cN l w,bN rule (o w + 1))):=by
 have hn:=h.n
 have hcl:=xW h hr
 obtain ⟨s',h1,h2⟩:=loopInv (fun s23:Int × Int × Int × Int=>fK N l rule (lR l.length o) s23.1 s23.2.1 s23.2.2.1 s23.2.2.2)
  (fun i s=>∃ w:Nat,w < l.length∧(w < i ∨ i=0∧w=0)∧(∀ t,t < i→t ≠ w→ahead (cN l) (bN rule) w (o w + 1) t (o t + 1))∧s=((w:Int),(i:Int),2 * cN l w,bN rule (o w + 1))) l.length
  (fun i s hi hs=>by
   obtain ⟨w,hw,hwi,hbest,rfl⟩:=hs
   have cw:=h.c w hw
   have ci:=h.c i hi
   have ow:=ho w hw
   have oi:=ho i hi
   have bw : -4≤bN rule (o w + 1)∧bN rule (o w + 1)≤200000:=pQ (by omega)
   have bi : -4≤bN rule (o i + 1)∧bN rule (o i + 1)≤200000:=pQ (by omega)
   have hstep:=aHw hcl (o:=o) (i:=i) (w:=w) hi (by omega) hbest
   have hb:fK N l rule (lR l.length o) (w:Int) (i:Int) (2 * cN l w) (bN rule (o w + 1))=cond (decide (cN l w * bN rule (o i + 1) < cN l i * bN rule (o w + 1))) (some (.cont ((i:Int),((i + 1:Nat):Int),2 * cN l i,bN rule (o i + 1)))) (some (.cont ((w:Int),((i + 1:Nat):Int),2 * cN l w,bN rule (o w + 1)))):=by
    unfold fK mE
    rw [lt_dec hi,cond_true,getI_nat hi,Option.bind_some,wW hi,Option.bind_some,get_getD (d:=(0:Int)) hi,W_succ (by omega),W_succ (by omega),pW (by omega) (by omega),Option.bind_some]
    show cond (_ && aV ⟨2 * cN l i,bN rule (o i + 1)⟩ ⟨2 * cN l w,bN rule (o w + 1)⟩) _ _=_
    rw [aCg (by unfold cN; omega) (by unfold cN; omega) bi bw]
    by_cases hm:cN l w * bN rule (o i + 1) < cN l i * bN rule (o w + 1)
    ·rw [decide_eq_true hm]
     have hne:(!((2 * l.getD i 0 == 2 * cN l w) && (hH rule ((o i + 1:Nat):Int) == bN rule (o w + 1))))=true:=by
      cases hh:((2 * l.getD i 0 == 2 * cN l w) && (hH rule ((o i + 1:Nat):Int) == bN rule (o w + 1))) with
      | false=>rfl
      | true=>
       exfalso
       simp only [Bool.and_eq_true,beq_iff_eq] at hh
       obtain ⟨e1,e2⟩:=hh
       have e1':cN l i=cN l w:=by unfold cN at *; omega
       have e2':bN rule (o i + 1)=bN rule (o w + 1):=e2
       rw [e1',e2'] at hm
       exact absurd hm (Int.lt_irrefl _)
     show cond ((!((2 * l.getD i 0 == 2 * cN l w) && (hH rule ((o i + 1:Nat):Int) == bN rule (o w + 1)))) && true) _ _=_
     rw [hne]
     rfl
    ·rw [decide_eq_false hm,Bool.and_false]
     rfl
   show ∃ s',fK N l rule (lR l.length o) (w:Int) (i:Int) (2 * cN l w) (bN rule (o w + 1))=some (.cont s')∧_
   rw [hb]
   by_cases hm:cN l w * bN rule (o i + 1) < cN l i * bN rule (o w + 1)
   ·rw [decide_eq_true hm,cond_true]
    have hwi':w < i:=by
     rcases hwi with h' | ⟨h',h''⟩
     ·exact h'
     ·subst h' h''
      exact absurd hm (Int.lt_irrefl _)
    exact ⟨_,rfl,i,hi,.inl (by omega),hstep.1 hm hwi',rfl⟩
   ·rw [decide_eq_false hm,cond_false]
    exact ⟨_,rfl,w,hw,.inl (by omega),hstep.2 hm,rfl⟩)
  (fun s hs=>by
   obtain ⟨w,hw,hwi,hbest,rfl⟩:=hs
   show fK N l rule (lR l.length o) (w:Int) (l.length:Int) _ _=_
   unfold fK
   rw [ge_dec,cond_false]) l.length 0 (0,0,2 * cN l 0,bN rule (o 0 + 1)) N (by omega) (by omega) ⟨0,by omega,.inr ⟨rfl,rfl⟩,fun t ht=>by omega,rfl⟩
 obtain ⟨w,hw,-,hbest,rfl⟩:=h2
 exact ⟨w,hw,hbest,h1⟩

theorem aFl {N:Nat} (hN:60≤N) {l:List Int} (h:uO l=0) {days rule:Int} (hd:1≤days∧days≤366) (hdN:days < N) (hr:0≤rule∧rule≤2) (hu:¬ (rule=2∧days < l.length)) :
  ∃ o:Nat→Nat,aBb l.length (cN l) (bN rule) o∧(nQ o l.length:Int)=days∧fG N l days rule=some (lR l.length o,0):=by
 have hc:=aC2 h
 have hn:=hc.n
 have hcl:=xW hc hr
 obtain ⟨s',h1,h2⟩:=loopInv (fun s15:List Int × Int=>iO N l days rule s15.1 s15.2)
  (fun i s=>∃ o:Nat→Nat,aBb l.length (cN l) (bN rule) o∧nQ o l.length=i∧s=(lR l.length o,(i:Int))) days.toNat
  (fun i s hi hs=>by
   obtain ⟨o,hf,hsum,rfl⟩:=hs
   have hole:∀ s,s < l.length→o s≤400:=fun s hs=>by
    have:=wV (o:=o) l.length hs
    omega
   obtain ⟨w,hw,hbest,hloop⟩:=aHj hN hc hr hole
   have c0:=hc.c 0 (by omega)
   have o0:=hole 0 (by omega)
   have ow:=hole w hw
   refine ⟨(lR l.length (bump o w),((i + 1:Nat):Int)),?_,bump o w,hf.bump hcl hw hbest,?_,rfl⟩
   ·show iO N l days rule (lR l.length o) (i:Int)=_
    unfold iO
    have g0:aZ l 0=some (l.getD 0 0):=by
     have:=getI_nat (l:=l) (i:=0) (by omega)
     rw [get_getD (d:=(0:Int)) (show 0 < l.length by omega)] at this
     exact this
    have g1:aZ (lR l.length o) 0=some ((o 0:Nat):Int):=wW (s:=0) (by omega)
    rw [decide_eq_true (show (i:Int) < days by omega),cond_true,g0,Option.bind_some,g1,Option.bind_some,W_succ (by omega),pW (by omega) (by omega),Option.bind_some]
    show Option.bind (aT _ N (0,0,2 * cN l 0,bN rule (o 0 + 1))) _=_
    rw [hloop,Option.bind_some]
    show Option.bind (aZ (lR l.length o) (w:Int)) (fun e_3=>Option.bind (aZ (lR l.length o) (w:Int)) fun e_4=>some (bH.cont ((lR l.length o).set (w:Int).toNat (W (e_3 + 1)),W ((i:Int) + 1))))=_
    rw [wW hw,Option.bind_some,Option.bind_some,W_succ (by omega),W_succ (by omega),show (w:Int).toNat=w by omega,aEj]
   ·rw [aCl,if_pos hw,hsum])
  (fun s hs=>by
   obtain ⟨o,hf,hsum,rfl⟩:=hs
   show iO N l days rule (lR l.length o) ((days.toNat:Nat):Int)=_
   unfold iO
   rw [decide_eq_false (show ¬ ((days.toNat:Nat):Int) < days by omega),cond_false]) days.toNat 0 (lR l.length (fun _=>0),0) N (by omega) (by omega) ⟨fun _=>0,aH0 _ _ _,by
    have:∀ k,nQ (fun _=>0) k=0:=by
     intro k
     induction k with
     | zero=>rfl
     | succ k ih=>unfold nQ; rw [ih]
    exact this _,rfl⟩
 obtain ⟨o,hf,hsum,rfl⟩:=h2
 refine ⟨o,hf,by omega,?_⟩
 unfold fG
 have hir:aQ days 1 366=true:=by unfold aQ; simp only [Bool.and_eq_true,decide_eq_true_eq]; omega
 have hrr:dW rule=true:=by unfold dW; simp only [Bool.and_eq_true,decide_eq_true_eq]; omega
 have hee:((rule == 2) && decide (days < ((l.length:Nat):Int)))=false:=by
  cases hh:((rule == 2) && decide (days < ((l.length:Nat):Int))) with
  | false=>rfl
  | true=>
   simp only [Bool.and_eq_true,beq_iff_eq,decide_eq_true_eq] at hh
   exact absurd hh hu
 have him:inM ((l.length:Nat):Int)=some ():=by unfold inM; rw [if_pos (by omega)]
 rw [nD hN (by omega),h,Option.bind_some,hir,hrr,hee,him,show ((l.length:Nat):Int).toNat=l.length by omega,aB9]
 show Option.bind (aT _ N (lR l.length (fun _=>0),0)) _=_
 rw [h1]
 rfl
end Go.Nilo.WW
set_option linter.unusedSimpArgs false
set_option linter.unusedVariables false
namespace Go.Nilo.WW
def ahB (l:List Int) (rule:Int) (s n t m:Nat):Bool:=decide (cN l s * bN rule m < cN l t * bN rule n) || (!(decide (cN l t * bN rule n < cN l s * bN rule m)) && decide (t < s))
theorem aJ7 {l:List Int} {rule:Int} {s n t m:Nat}:ahB l rule s n t m=true ↔ ahead (cN l) (bN rule) t m s n:=by
 unfold ahB ahead
 simp only [Bool.or_eq_true,Bool.and_eq_true,Bool.not_eq_true',decide_eq_true_eq,decide_eq_false_iff_not]
 omega
theorem count_id {p:Nat→Bool}:∀ n,lK p n≤n
 | 0=>Nat.le_refl _
 | n + 1=>by
  unfold lK
  have:=count_id (p:=p) n
  split <;> omega
theorem aBx {f:Nat→Nat} {c:Nat} (h:∀ t,f t≤c):∀ k,nQ f k≤c * k
 | 0=>Nat.le_refl _
 | k + 1=>by
  unfold nQ
  have:=aBx h k
  have:=h k
  rw [Nat.mul_succ]
  omega
theorem b_bd {rule:Int} (hr:0≤rule∧rule≤2) {n:Nat} (h1:1≤n) (h2:n≤400):0≤bN rule n∧bN rule n≤200000:=by
 unfold bN
 rcases rQ (n:=(n:Int)) hr with ⟨-,h⟩ | ⟨-,h⟩ | ⟨-,h⟩ <;> omega
theorem aMb {N:Nat} {l:List Int} (h:COk l) {rule days:Int} (hr:0≤rule∧rule≤2) (hd:1≤days∧days≤366) (hdN:days < N) {s n t a:Nat} (hs:s < l.length) (ht:t < l.length) (hn:1≤n) (hn':n≤400) (ha:a≤100000) :
  aT (fun s39:Int × Int=>gL N l days rule (s:Int) (n:Int) (t:Int) s39.1 s39.2) N ((a:Int),1)=some (.go (((a + lK (ahB l rule s n t) days.toNat:Nat):Int),((days.toNat + 1:Nat):Int))):=by
 have hlen:=h.n
 have cs:1≤cN l s∧cN l s≤1000000:=h.c s hs
 have ct:1≤cN l t∧cN l t≤1000000:=h.c t ht
 have bn:=b_bd hr hn hn'
 have:=runS (ρ:=bH (Int × Int) (bH (List Int × Int) (bH (List Int × Int) (List Int × Int)))) (fun i:Nat=>(((a + lK (ahB l rule s n t) i:Nat):Int),((i + 1:Nat):Int))) days.toNat (fun s39:Int × Int=>gL N l days rule (s:Int) (n:Int) (t:Int) s39.1 s39.2) (fun i hi=>by
  have hcnt:=count_id (p:=ahB l rule s n t) i
  have bm:=b_bd (n:=i + 1) hr (by omega) (by omega)
  show gL N l days rule (s:Int) (n:Int) (t:Int) ((a + lK (ahB l rule s n t) i:Nat):Int) ((i + 1:Nat):Int)=_
  unfold gL mC
  rw [decide_eq_true (show ((i + 1:Nat):Int)≤days by omega),cond_true,getI_nat ht,Option.bind_some,getI_nat hs,Option.bind_some,Option.bind_some,Option.bind_some,get_getD (d:=(0:Int)) ht,get_getD (d:=(0:Int)) hs,W_succ (by omega),W_succ (by omega),tU (by omega),tU (by omega)]
  show cond (bY (cN l t) (bN rule (i + 1)) (cN l s) (bN rule n) || (!bY (cN l s) (bN rule n) (cN l t) (bN rule (i + 1)) && decide ((t:Int) < (s:Int)))) _ _=_
  rw [wO ct cs bm bn,wO cs ct bn bm]
  have e:decide ((t:Int) < (s:Int))=decide (t < s):=by rw [Bool.eq_iff_iff,decide_eq_true_eq,decide_eq_true_eq]; omega
  rw [e]
  show cond (ahB l rule s n t (i + 1)) _ _=some (bH.cont (((a + lK (ahB l rule s n t) (i + 1):Nat):Int),((i + 1 + 1:Nat):Int)))
  rw [lK]
  cases ahB l rule s n t (i + 1) with
  | true=>rw [if_pos rfl]; rfl
  | false=>rw [if_neg (by decide)]; rfl) (by
  show gL N l days rule (s:Int) (n:Int) (t:Int) _ ((days.toNat + 1:Nat):Int)=_
  unfold gL
  rw [decide_eq_false (show ¬ ((days.toNat + 1:Nat):Int)≤days by omega),cond_false]) (N:=N) (by omega)
 exact this
theorem aMv {N:Nat} (hN:60≤N) {l:List Int} (h:COk l) {rule days:Int} (hr:0≤rule∧rule≤2) (hd:1≤days∧days≤366) (hdN:days < N) {s n:Nat} (hs:s < l.length) (hn:1≤n) (hn':n≤400) :
  aT (fun s32:Int × Int=>gK N l days rule (s:Int) (n:Int) s32.1 s32.2) N (0,0)=some (.go (((nQ (fun t=>lK (ahB l rule s n t) days.toNat) l.length:Nat):Int),(l.length:Int))):=by
 have hlen:=h.n
 have:=runS (ρ:=bH (List Int × Int) (bH (List Int × Int) (List Int × Int))) (fun i:Nat=>(((nQ (fun t=>lK (ahB l rule s n t) days.toNat) i:Nat):Int),(i:Int))) l.length (fun s32:Int × Int=>gK N l days rule (s:Int) (n:Int) s32.1 s32.2) (fun i hi=>by
  have hb:=aBx (f:=fun t=>lK (ahB l rule s n t) days.toNat) (c:=366) (fun t=>by have:=count_id (p:=ahB l rule s n t) days.toNat; omega) i
  show gK N l days rule (s:Int) (n:Int) _ (i:Int)=_
  unfold gK
  rw [lt_dec hi,cond_true,aMb h hr hd hdN hs hi hn hn' (by omega),Option.bind_some]
  show some (bH.cont (_,W ((i:Int) + 1)))=_
  rw [W_succ (by omega)]
  rfl) (by
  show gK N l days rule (s:Int) (n:Int) _ (l.length:Int)=_
  unfold gK
  rw [ge_dec,cond_false]) (N:=N) (by omega)
 exact this
def rT (o:Nat→Nat) (s i:Nat):Nat→Nat:=fun t=>if t < s then o t else if t=s then min i (o s) else 0
theorem aHv {o:Nat→Nat} {s i:Nat} (h:i + 1≤o s):bump (rT o s i) s=rT o s (i + 1):=by
 funext t
 unfold bump rT
 by_cases hts:t=s
 ·subst hts
  simp only [if_pos,Nat.lt_irrefl,if_false]
  omega
 ·rw [if_neg hts,if_neg hts,if_neg hts]
theorem aHr {o:Nat→Nat} {s i:Nat} (h:¬ i + 1≤o s):rT o s i=rT o s (i + 1):=by
 funext t
 unfold rT
 by_cases hts:t=s
 ·subst hts
  simp only [Nat.lt_irrefl,if_false,if_true]
  omega
 ·rw [if_neg hts,if_neg hts]
theorem aI6 {o:Nat→Nat} {s i:Nat} (h:o s≤i):rT o s i=rT o (s + 1) 0:=by
 funext t
 unfold rT
 by_cases hts:t=s
 ·subst hts
  simp only [Nat.lt_irrefl,if_false,if_true,Nat.lt_succ_self]
  omega
 ·by_cases h2:t < s
  ·rw [if_pos h2,if_pos (by omega)]
  ·rw [if_neg h2,if_neg hts,if_neg (by omega)]
   by_cases h3:t=s + 1
   ·rw [if_pos h3]; omega
   ·rw [if_neg h3]
theorem aLn {N:Nat} (hN:60≤N) {l:List Int} (h:COk l) {rule days:Int} (hr:0≤rule∧rule≤2) (hd:1≤days∧days≤366) (hdN:days < N) {o:Nat→Nat} (hf:aBb l.length (cN l) (bN rule) o) (hsum:nQ o l.length=days.toNat) {s:Nat} (hs:s < l.length) :
  aT (fun s25:List Int × Int=>gM N l days rule (s:Int) s25.1 s25.2) N (lR l.length (rT o s 0),1)=some (.go (lR l.length (rT o (s + 1) 0),((days.toNat + 1:Nat):Int))):=by
 have hlen:=h.n
 have hos:o s≤days.toNat:=by
  have:=wV (o:=o) l.length hs
  omega
 have:=runS (ρ:=bH (List Int × Int) (List Int × Int)) (fun i:Nat=>(lR l.length (rT o s i),((i + 1:Nat):Int))) days.toNat (fun s25:List Int × Int=>gM N l days rule (s:Int) s25.1 s25.2) (fun i hi=>by
  have hrank:=aIp (D:=days.toNat) (xW h hr) hf hsum hs (n:=i + 1) (by omega) (fun t m=>ahB l rule s (i + 1) t m) (fun t m _ _ _=>aJ7)
  show gM N l days rule (s:Int) (lR l.length (rT o s i)) ((i + 1:Nat):Int)=_
  unfold gM mD
  rw [decide_eq_true (show ((i + 1:Nat):Int)≤days by omega),cond_true,aMv hN h hr hd hdN hs (by omega) (by omega),Option.bind_some]
  show cond (decide (((nQ (fun t=>lK (ahB l rule s (i + 1) t) days.toNat) l.length:Nat):Int) < days)) _ _=_
  have hu:rT o s i s=min i (o s):=by unfold rT; simp
  by_cases hin:i + 1≤o s
  ·have h1:nQ (fun t=>lK (ahB l rule s (i + 1) t) days.toNat) l.length < days.toNat:=hrank.2 hin
   rw [decide_eq_true (by omega),cond_true,wW hs,Option.bind_some,Option.bind_some,W_succ (by omega),W_succ (by omega),show (s:Int).toNat=s by omega,aEj,aHv hin]
  ·have h1:¬ nQ (fun t=>lK (fun m=>ahB l rule s (i + 1) t m) days.toNat) l.length < days.toNat:=fun hh=>hin (hrank.1 hh)
   have h2:¬ nQ (fun t=>lK (ahB l rule s (i + 1) t) days.toNat) l.length < days.toNat:=h1
   rw [decide_eq_false (by omega),cond_false,W_succ (by omega),aHr hin]) (by
  show gM N l days rule (s:Int) _ ((days.toNat + 1:Nat):Int)=_
  unfold gM
  rw [decide_eq_false (show ¬ ((days.toNat + 1:Nat):Int)≤days by omega),cond_false]) (N:=N) (by omega)
 rw [aI6 hos] at this
 exact this
theorem aHu {N:Nat} (hN:60≤N) {l:List Int} (h:uO l=0) {days rule:Int} (hd:1≤days∧days≤366) (hdN:days < N) (hr:0≤rule∧rule≤2) (hu:¬ (rule=2∧days < l.length)) {o:Nat→Nat} (hf:aBb l.length (cN l) (bN rule) o) (hsum:(nQ o l.length:Int)=days) :
  jD N l days rule=some (lR l.length o,0):=by
 have hc:=aC2 h
 have hlen:=hc.n
 have:=runS (ρ:=List Int × Int) (fun s:Nat=>(lR l.length (rT o s 0),(s:Int))) l.length (fun s18:List Int × Int=>iM N l days rule s18.1 s18.2) (fun s hs=>by
  show iM N l days rule (lR l.length (rT o s 0)) (s:Int)=_
  unfold iM
  rw [lt_dec hs,cond_true,aLn hN hc hr hd hdN hf (by omega) hs,Option.bind_some]
  show some (bH.cont (_,W ((s:Int) + 1)))=_
  rw [W_succ (by omega)]) (by
  show iM N l days rule _ (l.length:Int)=_
  unfold iM
  rw [ge_dec,cond_false]) (N:=N) (by omega)
 have hee:((rule == 2) && decide (days < ((l.length:Nat):Int)))=false:=by
  cases hh:((rule == 2) && decide (days < ((l.length:Nat):Int))) with
  | false=>rfl
  | true=>
   simp only [Bool.and_eq_true,beq_iff_eq,decide_eq_true_eq] at hh
   exact absurd hh hu
 have him:inM ((l.length:Nat):Int)=some ():=by unfold inM; rw [if_pos (by omega)]
 have h1:inB days 1 366=true:=by unfold inB; simp only [Bool.and_eq_true,decide_eq_true_eq]; omega
 have h2:inB rule 0 2=true:=by unfold inB; simp only [Bool.and_eq_true,decide_eq_true_eq]; omega
 unfold jD
 rw [oG hN (by omega),h,Option.bind_some,eI,eI,h1,h2,hee,him,show ((l.length:Nat):Int).toNat=l.length by omega,aB9]
 have e0:lR l.length (fun _=>0)=lR l.length (rT o 0 0):=aAn (fun s _=>by unfold rT; split <;> first | omega | (split <;> omega))
 rw [e0]
 show Option.bind (aT _ N (lR l.length (rT o 0 0),((0:Nat):Int))) _=_
 rw [this]
 show some (lR l.length (rT o l.length 0),(0:Int))=_
 rw [aAn (o':=o) (fun s hs=>by unfold rT; rw [if_pos hs])]
theorem aF1 {N:Nat} (hN:60≤N) {l:List Int} (hl:l.length≤15) {days rule:Int} (hdN:days < N ∨ 366 < days):∃ r,fG N l days rule=some r∧jD N l days rule=some r∧r.1.length≤15:=by
 by_cases h:uO l=0
 ·by_cases hd:1≤days∧days≤366
  ·by_cases hr:0≤rule∧rule≤2
   ·by_cases hu:rule=2∧days < l.length
    ·have hee:((rule == 2) && decide (days < ((l.length:Nat):Int)))=true:=by
      simp only [Bool.and_eq_true,beq_iff_eq,decide_eq_true_eq]
      exact hu
     have h1:inB days 1 366=true:=by unfold inB; simp only [Bool.and_eq_true,decide_eq_true_eq]; omega
     have h2:inB rule 0 2=true:=by unfold inB; simp only [Bool.and_eq_true,decide_eq_true_eq]; omega
     have h3:aQ days 1 366=true:=h1
     have h4:dW rule=true:=h2
     refine ⟨([],6),?_,?_,by simp⟩
     ·unfold fG
      rw [nD hN hl,h,Option.bind_some,h3,h4,hee]
      rfl
     ·unfold jD
      rw [oG hN hl,h,Option.bind_some,eI,eI,h1,h2,hee]
      rfl
    ·obtain ⟨o,hf,hsum,hp⟩:=aFl hN h hd (by omega) hr hu
     exact ⟨_,hp,aHu hN h hd (by omega) hr hu hf hsum,by rw [aE2]; exact hl⟩
   ·have h1:inB days 1 366=true:=by unfold inB; simp only [Bool.and_eq_true,decide_eq_true_eq]; omega
    have h2:inB rule 0 2=false:=by unfold inB; simp only [Bool.and_eq_false_iff,decide_eq_false_iff_not]; omega
    have h3:aQ days 1 366=true:=h1
    have h4:dW rule=false:=h2
    refine ⟨([],2),?_,?_,by simp⟩
    ·unfold fG
     rw [nD hN hl,h,Option.bind_some,h3,h4]
     rfl
    ·unfold jD
     rw [oG hN hl,h,Option.bind_some,eI,eI,h1,h2]
     rfl
  ·have h1:inB days 1 366=false:=by unfold inB; simp only [Bool.and_eq_false_iff,decide_eq_false_iff_not]; omega
   have h3:aQ days 1 366=false:=h1
   refine ⟨([],4),?_,?_,by simp⟩
   ·unfold fG
    rw [nD hN hl,h,Option.bind_some,h3]
    rfl
   ·unfold jD
    rw [oG hN hl,h,Option.bind_some,eI,h1]
    rfl
 ·have:(uO l != 0)=true:=bne_iff_ne.2 h
  refine ⟨([],uO l),?_,?_,by simp⟩
  ·unfold fG
   rw [nD hN hl,Option.bind_some,this]
   rfl
  ·unfold jD
   rw [oG hN hl,Option.bind_some,this]
   rfl
end Go.Nilo.WW
set_option linter.unusedSimpArgs false
set_option linter.unusedVariables false
namespace Go.Nilo.WW
theorem aKj {σ ρ:Type} (st:Nat→σ) (g:Nat→Option (σ ⊕ ρ)) (n:Nat) (b:σ→Option (bH σ ρ))
  (hb:∀ (i:Nat),i < n→b (st i)=some (match g i with | some (.inl s')=>.brk s' | some (.inr r)=>.ret r | none=>.cont (st (i + 1)))) (hend:b (st n)=some (.brk (st n))) :
  ∀ (m i N:Nat),i + m=n→m < N→aT b N (st i)=some (match firstG g i m with | some (.inl s')=>.go s' | some (.inr r)=>.out r | none=>.go (st n))
 | m,i,0,_,h=>by omega
 | 0,i,N + 1,hi,_=>by
  obtain rfl:i=n:=by omega
  unfold aT
  rw [hend]
  rfl
 | m + 1,i,N + 1,hi,hN=>by
  unfold aT firstG
  rw [hb i (by omega)]
  cases hf:g i with
  | some r=>
   cases r with
   | inl s'=>rfl
   | inr r=>rfl
  | none=>exact aKj st g n b hb hend m (i + 1) N (by omega) (by omega)
theorem nX {α β:Type} {g:Nat→Option α} (f:α→β):∀ n i,firstG (fun j=>(g j).map f) i n=(firstG g i n).map f
 | 0,i=>rfl
 | n + 1,i=>by
  unfold firstG
  cases g i with
  | some r=>rfl
  | none=>exact nX f n (i + 1)
def sI (s:List Int) (i:Nat):Int:=s.getD i 0
def unf (l s:List Int) (rule:Int) (i k:Nat):Bool:=decide (0 < sI s i) && decide (k ≠ i) && decide (cN l i * hH rule (sI s k + 1) < cN l k * hH rule (sI s i))
def aFn (l s:List Int) (rule:Int) (i k:Nat):Option (Nat × Nat):=cond (unf l s rule i k) (some (i,k)) none
def yH (l s:List Int) (rule:Int) (i:Nat):Option (Nat × Nat):=firstG (aFn l s rule i) 0 l.length
def aF3 (l s:List Int) (rule:Int):Option (Nat × Nat):=firstG (yH l s rule) 0 l.length
def unfV (l s:List Int) (rule:Int):Int × Int × Int:=if qJ l s rule=0 then (match aF3 l s rule with | some (i,k)=>((i:Int),(k:Int),0) | none=>(0,0,5)) else (0,0,qJ l s rule)
theorem aEe {N:Nat} (hN:60≤N) {l s:List Int} {rule:Int} (hl:l.length≤15) (hs:s.length≤15):nJ N l s rule=some (unfV l s rule):=by
 unfold nJ unfV
 rw [vB hN hl hs,Option.bind_some]
 by_cases h:qJ l s rule=0
 ·rw [if_pos h,h]
  have ho:=vU h
  have hn:=ho.c.n
  have hsl:=ho.n
  have hin:∀ i,i < l.length→aT (fun s18:Int=>fU N l s rule (i:Int) (sI s i) s18) N 0=some (match (yH l s rule i).map (fun p=>(bH.brk ((p.1:Int),(p.2:Int),(0:Int),(p.1:Int)):bH (Int × Int × Int × Int) (Int × Int × Int))) with | some r=>Ex.out r | none=>Ex.go (l.length:Int)):=by
   intro i hi
   have ci:1≤cN l i∧cN l i≤1000000:=ho.c.c i hi
   have si:0≤sI s i∧sI s i≤366:=ho.s i hi
   have:=scanS (ρ:=bH (Int × Int × Int × Int) (Int × Int × Int)) (fun k:Nat=>(k:Int)) (fun k=>(aFn l s rule i k).map (fun p=>(bH.brk ((p.1:Int),(p.2:Int),(0:Int),(p.1:Int)):bH (Int × Int × Int × Int) (Int × Int × Int)))) l.length (fun s18:Int=>fU N l s rule (i:Int) (sI s i) s18) (fun k hk=>by
    have ck:1≤cN l k∧cN l k≤1000000:=ho.c.c k hk
    have sk:0≤sI s k∧sI s k≤366:=ho.s k hk
    have hsk:aZ s (k:Int)=some (sI s k):=by rw [getI_nat (by omega),get_getD (d:=(0:Int)) (by omega)]; rfl
    have hck:aZ l (k:Int)=some (cN l k):=by rw [getI_nat hk,get_getD (d:=(0:Int)) hk]; rfl
    have hci:aZ l (i:Int)=some (cN l i):=by rw [getI_nat hi,get_getD (d:=(0:Int)) hi]; rfl
    show fU N l s rule (i:Int) (sI s i) (k:Int)=_
    unfold fU
    rw [show ((s.length:Nat):Int)=(l.length:Int) by omega,lt_dec hk,cond_true,hsk,Option.bind_some,hck,Option.bind_some,W_id (n:=sI s k + 1) (by omega) (by omega),pW (by omega) (by omega),Option.bind_some,hci,Option.bind_some,pW (by omega) (by omega),Option.bind_some,aCg (by omega) (by omega) (pQ (by omega)) (pQ (by omega)),W_succ (by omega)]
    have e:((k:Int) != (i:Int))=decide (k ≠ i):=by rw [Bool.eq_iff_iff,bne_iff_ne,decide_eq_true_eq]; omega
    rw [e]
    unfold aFn unf
    cases decide (0 < sI s i) <;> cases decide (k ≠ i) <;> cases decide (cN l i * hH rule (sI s k + 1) < cN l k * hH rule (sI s i)) <;> rfl) (by
    show fU N l s rule (i:Int) (sI s i) (l.length:Int)=_
    unfold fU
    rw [show ((s.length:Nat):Int)=(l.length:Int) by omega,ge_dec,cond_false]) l.length 0 N (by omega) (by omega)
   rw [nX] at this
   have e:firstG (aFn l s rule i) 0 l.length=yH l s rule i:=rfl
   rw [e] at this
   refine (show aT _ N ((0:Nat):Int)=_ from this).trans ?_
   cases yH l s rule i <;> rfl
  have:=aKj (ρ:=Int × Int × Int) (fun i:Nat=>((0:Int),(0:Int),(5:Int),(i:Int))) (fun i=>(yH l s rule i).map (fun p=>(Sum.inl ((p.1:Int),(p.2:Int),(0:Int),(p.1:Int)):(Int × Int × Int × Int) ⊕ (Int × Int × Int)))) l.length (fun s10=>gW N l s rule s10.1 s10.2.1 s10.2.2.1 s10.2.2.2) (fun i hi=>by
   have hsi:aZ s (i:Int)=some (sI s i):=by rw [getI_nat (by omega),get_getD (d:=(0:Int)) (by omega)]; rfl
   show gW N l s rule 0 0 5 (i:Int)=_
   unfold gW
   rw [show ((s.length:Nat):Int)=(l.length:Int) by omega,lt_dec hi,cond_true,hsi,Option.bind_some,hin i hi,W_succ (by omega)]
   cases yH l s rule i <;> rfl) (by
   show gW N l s rule 0 0 5 (l.length:Int)=_
   unfold gW
   rw [show ((s.length:Nat):Int)=(l.length:Int) by omega,ge_dec,cond_false]) l.length 0 N (by omega) (by omega)
  show Option.bind (aT _ N (0,0,5,((0:Nat):Int))) _=_
  rw [this,nX]
  show _=some (match aF3 l s rule with | some (i,k)=>((i:Int),(k:Int),(0:Int)) | none=>(0,0,5))
  have e:firstG (yH l s rule) 0 l.length=aF3 l s rule:=rfl
  rw [e]
  cases aF3 l s rule <;> rfl
 ·have:(qJ l s rule != 0)=true:=bne_iff_ne.2 h
  rw [if_neg h,this,cond_true]
theorem aGa {rule n:Int} (hr:0≤rule∧rule≤2) (h1:1≤n) (h2:n≤400):0≤hH rule n∧hH rule n≤200000:=by
 rcases rQ (n:=n) hr with ⟨-,h⟩ | ⟨-,h⟩ | ⟨-,h⟩ <;> omega
theorem aFv {N:Nat} (hN:60≤N) {l s:List Int} {rule:Int} (hl:l.length≤15) (hs:s.length≤15):oQ N l s rule=some (unfV l s rule):=by
 unfold oQ unfV
 rw [wL hN hl hs,Option.bind_some]
 by_cases h:qJ l s rule=0
 ·rw [if_pos h,h]
  have ho:=vU h
  have hn:=ho.c.n
  have hsl:=ho.n
  have hin:∀ i,i < l.length→aT (fun s15:Int=>fS N l s rule (i:Int) s15) N 0=some (match (yH l s rule i).map (fun p=>(bH.ret ((p.1:Int),(p.2:Int),(0:Int)):bH (Int) (Int × Int × Int))) with | some r=>Ex.out r | none=>Ex.go (l.length:Int)):=by
   intro i hi
   have ci:1≤cN l i∧cN l i≤1000000:=ho.c.c i hi
   have si:0≤sI s i∧sI s i≤366:=ho.s i hi
   have hsi:aZ s (i:Int)=some (sI s i):=by rw [getI_nat (by omega),get_getD (d:=(0:Int)) (by omega)]; rfl
   have:=scanS (ρ:=bH (Int) (Int × Int × Int)) (fun k:Nat=>(k:Int)) (fun k=>(aFn l s rule i k).map (fun p=>(bH.ret ((p.1:Int),(p.2:Int),(0:Int)):bH (Int) (Int × Int × Int)))) l.length (fun s15:Int=>fS N l s rule (i:Int) s15) (fun k hk=>by
    have ck:1≤cN l k∧cN l k≤1000000:=ho.c.c k hk
    have sk:0≤sI s k∧sI s k≤366:=ho.s k hk
    have hsk:aZ s (k:Int)=some (sI s k):=by rw [getI_nat (by omega),get_getD (d:=(0:Int)) (by omega)]; rfl
    have hck:aZ l (k:Int)=some (cN l k):=by rw [getI_nat hk,get_getD (d:=(0:Int)) hk]; rfl
    have hci:aZ l (i:Int)=some (cN l i):=by rw [getI_nat hi,get_getD (d:=(0:Int)) hi]; rfl
    show fS N l s rule (i:Int) (k:Int)=_
    unfold fS
    rw [lt_dec hk,cond_true,hsi,Option.bind_some,hck,Option.bind_some,hsk,Option.bind_some,hci,Option.bind_some,Option.bind_some,W_id (n:=sI s k + 1) (by omega) (by omega),tU (by omega),tU (by omega),W_succ (by omega)]
    have e:((i:Int) != (k:Int))=decide (k ≠ i):=by rw [Bool.eq_iff_iff,bne_iff_ne,decide_eq_true_eq]; omega
    rw [e]
    have hab:(decide (0 < sI s i)=true)→bY (cN l k) (hH rule (sI s k + 1)) (cN l i) (hH rule (sI s i))=decide (cN l i * hH rule (sI s k + 1) < cN l k * hH rule (sI s i)):=by
     intro h0
     rw [decide_eq_true_eq] at h0
     exact wO ck ci (aGa ho.r (by omega) (by omega)) (aGa ho.r (by omega) (by omega))
    unfold aFn unf
    revert hab
    cases decide (0 < sI s i) with
    | false=>
     intro _
     cases decide (k ≠ i) <;> rfl
    | true=>
     intro hab
     rw [hab rfl]
     cases decide (k ≠ i) <;> cases decide (cN l i * hH rule (sI s k + 1) < cN l k * hH rule (sI s i)) <;> rfl) (by
    show fS N l s rule (i:Int) (l.length:Int)=_
    unfold fS
    rw [ge_dec,cond_false]) l.length 0 N (by omega) (by omega)
   rw [nX] at this
   have e:firstG (aFn l s rule i) 0 l.length=yH l s rule i:=rfl
   rw [e] at this
   refine (show aT _ N ((0:Nat):Int)=_ from this).trans ?_
   cases yH l s rule i <;> rfl
  have:=scanS (ρ:=Int × Int × Int) (fun i:Nat=>(i:Int)) (fun i=>(yH l s rule i).map (fun p=>((p.1:Int),(p.2:Int),(0:Int)))) l.length (fun s8=>iT N l s rule s8) (fun i hi=>by
   show iT N l s rule (i:Int)=_
   unfold iT
   rw [lt_dec hi,cond_true,hin i hi,W_succ (by omega)]
   cases yH l s rule i <;> rfl) (by
   show iT N l s rule (l.length:Int)=_
   unfold iT
   rw [ge_dec,cond_false]) l.length 0 N (by omega) (by omega)
  show Option.bind (aT _ N ((0:Nat):Int)) _=_
  rw [this,nX]
  show _=some (match aF3 l s rule with | some (i,k)=>((i:Int),(k:Int),(0:Int)) | none=>(0,0,5))
  have e:firstG (yH l s rule) 0 l.length=aF3 l s rule:=rfl
  rw [e]
  cases aF3 l s rule <;> rfl
 ·have:(qJ l s rule != 0)=true:=bne_iff_ne.2 h
  rw [if_neg h,this,cond_true]

def okV (l s:List Int) (rule:Int) (x:aM) (i:Nat):Bool:=!(decide (2 * cN l i * x.D < hH rule (sI s i) * x.N)) && !(decide (hH rule (sI s i + 1) * x.N < 2 * cN l i * x.D))
def rZ (l s:List Int) (rule:Int) (x:aM):Bool:=(firstG (fun i=>cond (okV l s rule x i) none (some ())) 0 l.length).isNone
def okX (x:aM):Bool:=inB x.N 1 1000000000 && inB x.D 1 1000000000 && !decide (2000000 * x.D < x.N)
def aH4 (l s:List Int) (rule:Int) (x:aM):Bool × Int:=if qJ l s rule=0 then (if okX x then (rZ l s rule x,0) else (false,4)) else (false,qJ l s rule)
theorem aIc (x:aM):(((!(inB x.N 1 1000000000)) || (!(inB x.D 1 1000000000))) || (decide ((W (2000000 * x.D)) < x.N))) = !okX x:=by
 unfold okX
 cases h1:inB x.N 1 1000000000 with
 | false=>rfl
 | true=>
  cases h2:inB x.D 1 1000000000 with
  | false=>rfl
  | true=>
   unfold inB at h2
   simp only [Bool.and_eq_true,decide_eq_true_eq] at h2
   rw [W_id (n:=2000000 * x.D) (by omega) (by omega)]
   cases decide (2000000 * x.D < x.N) <;> rfl
theorem aIn {x:aM} (h:okX x=true):(1≤x.N∧x.N≤1000000000)∧(1≤x.D∧x.D≤1000000000)∧x.N≤2000000 * x.D:=by
 unfold okX inB at h
 simp only [Bool.and_eq_true,decide_eq_true_eq,Bool.not_eq_true',decide_eq_false_iff_not] at h
 omega
theorem aEc {N:Nat} (hN:60≤N) {l s:List Int} {rule:Int} {x:aM} (hl:l.length≤15) (hs:s.length≤15):oT N l s rule x=some (aH4 l s rule x):=by
 unfold oT aH4
 rw [vB hN hl hs,Option.bind_some]
 by_cases h:qJ l s rule=0
 ·rw [if_pos h,h]
  show cond (((!(inB x.N 1 1000000000)) || (!(inB x.D 1 1000000000))) || (decide ((W (2000000 * x.D)) < x.N))) _ _=_
  rw [aIc]
  have ho:=vU h
  have hn:=ho.c.n
  have hsl:=ho.n
  cases hx:okX x with
  | false=>rfl
  | true=>
   have hb:=aIn hx
   rw [Bool.not_true,cond_false]
   have:=scanS (ρ:=Bool × Int) (fun i:Nat=>(i:Int)) (fun i=>(cond (okV l s rule x i) none (some ())).map fun _=>(false,(0:Int))) l.length (fun s11=>gP N l s rule x s11) (fun i hi=>by
    have ci:1≤cN l i∧cN l i≤1000000:=ho.c.c i hi
    have si:0≤sI s i∧sI s i≤366:=ho.s i hi
    have hsi:aZ s (i:Int)=some (sI s i):=by rw [getI_nat (by omega),get_getD (d:=(0:Int)) (by omega)]; rfl
    have hci:aZ l (i:Int)=some (cN l i):=by rw [getI_nat hi,get_getD (d:=(0:Int)) hi]; rfl
    have b1:=pQ (rule:=rule) (n:=sI s i) (by omega)
    have b2:=pQ (rule:=rule) (n:=sI s i + 1) (by omega)
    show gP N l s rule x (i:Int)=_
    unfold gP lO
    rw [show ((s.length:Nat):Int)=(l.length:Int) by omega,lt_dec hi,cond_true,hsi,Option.bind_some,hci,Option.bind_some,W_id (n:=sI s i + 1) (by omega) (by omega)]
    show Option.bind (Option.bind (dL N rule (cN l i) (sI s i)) fun r=>Option.bind (dL N rule (cN l i) (sI s i + 1)) fun r_1=>some (((decide (r.by_≤0)) || (!(aV ⟨x.N,x.D⟩ r))) && (!(aV r_1 ⟨x.N,x.D⟩)))) _=_
    rw [pW (by omega) (by omega),Option.bind_some,pW (by omega) (by omega),Option.bind_some,Option.bind_some,W_succ (by omega)]
    unfold aV
    show cond (!(((decide (hH rule (sI s i)≤0)) || (!decide (W (2 * cN l i * x.D) < W (x.N * hH rule (sI s i))))) && (!decide (W (x.N * hH rule (sI s i + 1)) < W (2 * cN l i * x.D))))) _ _=_
    have m1:=absmul (x:=2 * cN l i) (y:=x.D) (A:=2000000) (B:=1000000000) (by omega) (by omega)
    have m2:=absmul (x:=x.N) (y:=hH rule (sI s i)) (A:=1000000000) (B:=200000) (by omega) (by omega)
    have m3:=absmul (x:=x.N) (y:=hH rule (sI s i + 1)) (A:=1000000000) (B:=200000) (by omega) (by omega)
    rw [W_id (n:=2 * cN l i * x.D) (by omega) (by omega),W_id (n:=x.N * hH rule (sI s i)) (by omega) (by omega),W_id (n:=x.N * hH rule (sI s i + 1)) (by omega) (by omega)]
    have hz:(decide (hH rule (sI s i)≤0) || !decide (2 * cN l i * x.D < x.N * hH rule (sI s i))) = !decide (2 * cN l i * x.D < hH rule (sI s i) * x.N):=by
     rw [Int.mul_comm x.N]
     by_cases h0:hH rule (sI s i)≤0
     ·have hp:0 < 2 * cN l i * x.D:=Int.mul_pos (by omega) (by omega)
      have hq:hH rule (sI s i) * x.N≤0:=Int.mul_nonpos_of_nonpos_of_nonneg h0 (by omega)
      rw [decide_eq_true h0,decide_eq_false (show ¬ 2 * cN l i * x.D < hH rule (sI s i) * x.N by omega)]
      rfl
     ·rw [decide_eq_false h0,Bool.false_or]
    rw [hz,Int.mul_comm x.N]
    unfold okV
    cases decide (2 * cN l i * x.D < hH rule (sI s i) * x.N) <;> cases decide (hH rule (sI s i + 1) * x.N < 2 * cN l i * x.D) <;> rfl) (by
    show gP N l s rule x (l.length:Int)=_
    unfold gP
    rw [show ((s.length:Nat):Int)=(l.length:Int) by omega,ge_dec,cond_false]) l.length 0 N (by omega) (by omega)
   show Option.bind (aT _ N ((0:Nat):Int)) _=_
   rw [this,nX]
   unfold rZ
   cases firstG (fun i=>cond (okV l s rule x i) none (some ())) 0 l.length <;> rfl
 ·have:(qJ l s rule != 0)=true:=bne_iff_ne.2 h
  rw [if_neg h,this,cond_true]
theorem aBi {N:Nat} (hN:60≤N) {l s:List Int} {rule:Int} {x:aM} (hl:l.length≤15) (hs:s.length≤15):nC N l s rule x=some (aH4 l s rule x):=by
 unfold nC aH4
 rw [wL hN hl hs,Option.bind_some]
 by_cases h:qJ l s rule=0
 ·rw [if_pos h,h,eI,eI]
  show cond (((!(inB x.N 1 1000000000)) || (!(inB x.D 1 1000000000))) || (decide ((W (2000000 * x.D)) < x.N))) _ _=_
  rw [aIc]
  have ho:=vU h
  have hn:=ho.c.n
  have hsl:=ho.n
  cases hx:okX x with
  | false=>rfl
  | true=>
   have hb:=aIn hx
   rw [Bool.not_true,cond_false]
   have:=scanS (ρ:=Bool × Int) (fun i:Nat=>(i:Int)) (fun i=>(cond (okV l s rule x i) none (some ())).map fun _=>(false,(0:Int))) l.length (fun s11=>gU N l s rule x s11) (fun i hi=>by
    have ci:1≤cN l i∧cN l i≤1000000:=ho.c.c i hi
    have si:0≤sI s i∧sI s i≤366:=ho.s i hi
    have hsi:aZ s (i:Int)=some (sI s i):=by rw [getI_nat (by omega),get_getD (d:=(0:Int)) (by omega)]; rfl
    have hci:aZ l (i:Int)=some (cN l i):=by rw [getI_nat hi,get_getD (d:=(0:Int)) hi]; rfl
    have b1:=pQ (rule:=rule) (n:=sI s i) (by omega)
    have b2:=pQ (rule:=rule) (n:=sI s i + 1) (by omega)
    show gU N l s rule x (i:Int)=_
    unfold gU
    rw [lt_dec hi,cond_true,hsi,Option.bind_some,Option.bind_some,hci,Option.bind_some,Option.bind_some,W_id (n:=sI s i + 1) (by omega) (by omega),tU (by omega),tU (by omega),W_succ (by omega)]
    have m1:=absmul (x:=2 * cN l i) (y:=x.D) (A:=2000000) (B:=1000000000) (by omega) (by omega)
    have m2:=absmul (x:=hH rule (sI s i)) (y:=x.N) (A:=200000) (B:=1000000000) (by omega) (by omega)
    have m3:=absmul (x:=hH rule (sI s i + 1)) (y:=x.N) (A:=200000) (B:=1000000000) (by omega) (by omega)
    rw [W_id (n:=2 * cN l i) (by omega) (by omega),W_id (n:=2 * cN l i * x.D) (by omega) (by omega),W_id (n:=hH rule (sI s i) * x.N) (by omega) (by omega),W_id (n:=hH rule (sI s i + 1) * x.N) (by omega) (by omega)]
    unfold okV
    cases decide (2 * cN l i * x.D < hH rule (sI s i) * x.N) <;> cases decide (hH rule (sI s i + 1) * x.N < 2 * cN l i * x.D) <;> rfl) (by
    show gU N l s rule x (l.length:Int)=_
    unfold gU
    rw [ge_dec,cond_false]) l.length 0 N (by omega) (by omega)
   show Option.bind (aT _ N ((0:Nat):Int)) _=_
   rw [this,nX]
   unfold rZ
   cases firstG (fun i=>cond (okV l s rule x i) none (some ())) 0 l.length <;> rfl
 ·have:(qJ l s rule != 0)=true:=bne_iff_ne.2 h
  rw [if_neg h,this,cond_true]
end Go.Nilo.WW
set_option linter.unusedSimpArgs false
set_option linter.unusedVariables false
namespace Go.Nilo.WW
theorem aAb {n d n' d':Nat} (hd:0 < d) (hd':0 < d') (h:n * d'=n' * d):n / Nat.gcd n d ∣ n' / Nat.gcd n' d':=by
  have g0:0 < Nat.gcd n d:=Nat.gcd_pos_of_pos_right _ hd
  have g0':0 < Nat.gcd n' d':=Nat.gcd_pos_of_pos_right _ hd'
  have e1:n / Nat.gcd n d * Nat.gcd n d=n:=Nat.div_mul_cancel (Nat.gcd_dvd_left _ _)
  have e2:d / Nat.gcd n d * Nat.gcd n d=d:=Nat.div_mul_cancel (Nat.gcd_dvd_right _ _)
  have e3:n' / Nat.gcd n' d' * Nat.gcd n' d'=n':=Nat.div_mul_cancel (Nat.gcd_dvd_left _ _)
  have e4:d' / Nat.gcd n' d' * Nat.gcd n' d'=d':=Nat.div_mul_cancel (Nat.gcd_dvd_right _ _)
  have hc:Nat.Coprime (n / Nat.gcd n d) (d / Nat.gcd n d):=Nat.coprime_div_gcd_div_gcd g0
  generalize Nat.gcd n d=g at *
  generalize Nat.gcd n' d'=g' at *
  generalize n / g=a at *
  generalize d / g=b at *
  generalize n' / g'=a' at *
  generalize d' / g'=b' at *
  subst e1 e2 e3 e4
  have h1:(a * b') * (g * g')=(a' * b) * (g * g'):=by
    have:a * g * (b' * g')=a' * g' * (b * g):=h
    calc (a * b') * (g * g')=a * g * (b' * g'):=by ac_rfl
      _=a' * g' * (b * g):=this
      _=(a' * b) * (g * g'):=by ac_rfl
  have h2:a * b'=a' * b:=Nat.eq_of_mul_eq_mul_right (Nat.mul_pos g0 g0') h1
  have h3:a ∣ a' * b:=⟨b', h2.symm⟩
  exact hc.dvd_of_dvd_mul_right h3
theorem aI7 {n d n' d':Nat} (hd:0 < d) (hd':0 < d') (hn:0 < n) (hn':0 < n') (h:n * d'=n' * d):n / Nat.gcd n d=n' / Nat.gcd n' d'∧d / Nat.gcd n d=d' / Nat.gcd n' d':=by
  refine ⟨Nat.dvd_antisymm (aAb hd hd' h) (aAb hd' hd h.symm), ?_⟩
  have a:=aAb (n:=d) (d:=n) (n':=d') (d':=n') hn hn' (by rw [Nat.mul_comm d n', Nat.mul_comm d' n]; exact h.symm)
  have b:=aAb (n:=d') (d:=n') (n':=d) (d':=n) hn' hn (by rw [Nat.mul_comm d n', Nat.mul_comm d' n]; exact h)
  rw [Nat.gcd_comm n d, Nat.gcd_comm n' d']
  exact Nat.dvd_antisymm a b
end Go.Nilo.WW
set_option linter.unusedSimpArgs false
set_option linter.unusedVariables false
namespace Go.Nilo.WW
theorem aA0 {σ ρ:Type} (f:σ→Option (bH σ ρ)) (mk:Nat→Nat→σ) (h0:∀ a,f (mk a 0)=some (.brk (mk a 0))) (h1:∀ a b:Nat,0 < b→a < 1000000000000→b < 1000000000000→f (mk a b)=some (.cont (mk b (a % b)))) :
  ∀ (k a b N:Nat),a < 1000000000000→b < 1000000000000→b < 2 ^ k→2 * k < N→aT f N (mk a b)=some (.go (mk (Nat.gcd a b) 0))
 | 0,a,b,0,_,_,_,hN=>by omega
 | k + 1,a,b,0,_,_,_,hN=>by omega
 | 0,a,b,N + 1,ha,hb,hk,hN=>by
  obtain rfl:b=0:=by simpa using hk
  unfold aT
  rw [h0,Nat.gcd_zero_right]
 | k + 1,a,b,N + 1,ha,hb,hk,hN=>by
  by_cases hb0:b=0
  ·subst hb0
   unfold aT
   rw [h0,Nat.gcd_zero_right]
  ·unfold aT
   rw [h1 a b (by omega) ha hb]
   simp only []
   have hr:=Nat.mod_lt a (show b > 0 by omega)
   by_cases hr0:a % b=0
   ·rw [hr0]
    obtain ⟨M,rfl⟩:∃ M,N=M + 1:=⟨N - 1,by omega⟩
    unfold aT
    rw [h0,Nat.gcd_comm,Nat.gcd_rec,hr0,Nat.gcd_zero_left]
   ·obtain ⟨M,rfl⟩:∃ M,N=M + 1:=⟨N - 1,by omega⟩
    unfold aT
    rw [h1 b (a % b) (by omega) hb (by omega)]
    simp only []
    have hr2:=Nat.mod_lt b (show a % b > 0 by omega)
    have hhalf:b % (a % b) < 2 ^ k:=by
     have hp:2 ^ (k + 1)=2 * 2 ^ k:=by rw [Nat.pow_succ,Nat.mul_comm]
     rcases Nat.lt_or_ge (a % b) (2 ^ k) with h | h
     ·omega
     ·have:b % (a % b)=b - a % b:=by
       rw [Nat.mod_eq_sub_mod (by omega),Nat.mod_eq_of_lt (by omega)]
      omega
    rw [aA0 f mk h0 h1 k (a % b) (b % (a % b)) M (by omega) (by omega) hhalf (by omega)]
    have e:Nat.gcd (a % b) (b % (a % b))=Nat.gcd a b:=by
     rw [Nat.gcd_comm (a % b),← Nat.gcd_rec (a % b) b,← Nat.gcd_rec b a,Nat.gcd_comm]
    rw [e]
end Go.Nilo.WW
set_option linter.unusedSimpArgs false
set_option linter.unusedVariables false
namespace Go.Nilo.WW
theorem vR {a b c x y z:Int} (hx:0≤x) (hy:0 < y) (hz:0≤z) (h1:b * x≤a * y) (h2:c * y≤b * z):c * x≤a * z:=by
 have e1:c * y * x≤b * z * x:=Int.mul_le_mul_of_nonneg_right h2 hx
 have e2:b * x * z≤a * y * z:=Int.mul_le_mul_of_nonneg_right h1 hz
 have e3:b * z * x=b * x * z:=by rw [Int.mul_assoc,Int.mul_comm z x,← Int.mul_assoc]
 have a1:c * x * y=c * y * x:=by rw [Int.mul_assoc,Int.mul_comm x y,← Int.mul_assoc]
 have a2:a * z * y=a * y * z:=by rw [Int.mul_assoc,Int.mul_comm z y,← Int.mul_assoc]
 exact Int.le_of_mul_le_mul_right (by omega:c * x * y≤a * z * y) hy

def eS (n d:Int):aM:=⟨((n.toNat / Nat.gcd n.toNat d.toNat:Nat):Int),((d.toNat / Nat.gcd n.toNat d.toNat:Nat):Int)⟩
theorem pG {n d:Int} (hn:0 < n) (hd:0 < d):∃ g:Int,0 < g∧n=(eS n d).N * g∧d=(eS n d).D * g∧1≤(eS n d).N∧(eS n d).N≤n∧1≤(eS n d).D∧(eS n d).D≤d:=by
 have g0:0 < Nat.gcd n.toNat d.toNat:=Nat.gcd_pos_of_pos_right _ (by omega)
 have e1:n.toNat / Nat.gcd n.toNat d.toNat * Nat.gcd n.toNat d.toNat=n.toNat:=Nat.div_mul_cancel (Nat.gcd_dvd_left _ _)
 have e2:d.toNat / Nat.gcd n.toNat d.toNat * Nat.gcd n.toNat d.toNat=d.toNat:=Nat.div_mul_cancel (Nat.gcd_dvd_right _ _)
 have l1:=Nat.div_le_self n.toNat (Nat.gcd n.toNat d.toNat)
 have l2:=Nat.div_le_self d.toNat (Nat.gcd n.toNat d.toNat)
 have p1:0 < n.toNat / Nat.gcd n.toNat d.toNat:=Nat.div_pos (Nat.le_of_dvd (by omega) (Nat.gcd_dvd_left _ _)) g0
 have p2:0 < d.toNat / Nat.gcd n.toNat d.toNat:=Nat.div_pos (Nat.le_of_dvd (by omega) (Nat.gcd_dvd_right _ _)) g0
 refine ⟨(Nat.gcd n.toNat d.toNat:Int),by omega,?_,?_,?_,?_,?_,?_⟩
 ·show n=((n.toNat / Nat.gcd n.toNat d.toNat:Nat):Int) * _
  rw [← Int.natCast_mul,e1]; omega
 ·show d=((d.toNat / Nat.gcd n.toNat d.toNat:Nat):Int) * _
  rw [← Int.natCast_mul,e2]; omega
 ·show 1≤((n.toNat / Nat.gcd n.toNat d.toNat:Nat):Int)
  omega
 ·show ((n.toNat / Nat.gcd n.toNat d.toNat:Nat):Int)≤n
  omega
 ·show 1≤((d.toNat / Nat.gcd n.toNat d.toNat:Nat):Int)
  omega
 ·show ((d.toNat / Nat.gcd n.toNat d.toNat:Nat):Int)≤d
  omega
theorem aDl {n d a b:Int} (hn:0 < n) (hd:0 < d):a * (eS n d).D≤b * (eS n d).N ↔ a * d≤b * n:=by
 obtain ⟨g,hg,h1,h2,-⟩:=pG hn hd
 generalize (eS n d).N=N at *
 generalize (eS n d).D=D at *
 subst h1 h2
 rw [← Int.mul_assoc,← Int.mul_assoc]
 exact ⟨fun h=>Int.mul_le_mul_of_nonneg_right h (by omega),fun h=>Int.le_of_mul_le_mul_right h hg⟩
theorem aDj {n d a b:Int} (hn:0 < n) (hd:0 < d):a * (eS n d).N≤b * (eS n d).D ↔ a * n≤b * d:=by
 obtain ⟨g,hg,h1,h2,-⟩:=pG hn hd
 generalize (eS n d).N=N at *
 generalize (eS n d).D=D at *
 subst h1 h2
 rw [← Int.mul_assoc,← Int.mul_assoc]
 exact ⟨fun h=>Int.mul_le_mul_of_nonneg_right h (by omega),fun h=>Int.le_of_mul_le_mul_right h hg⟩
theorem aCj {n d n' d':Int} (hn:0 < n) (hd:0 < d) (hn':0 < n') (hd':0 < d') (h:(eS n d).N * (eS n' d').D=(eS n' d').N * (eS n d).D):eS n d=eS n' d':=by
 have hx:n * d'=n' * d:=by
  obtain ⟨g,hg,h1,h2,-⟩:=pG hn hd
  obtain ⟨g',hg',h3,h4,-⟩:=pG hn' hd'
  generalize (eS n d).N=N at *
  generalize (eS n d).D=D at *
  generalize (eS n' d').N=N' at *
  generalize (eS n' d').D=D' at *
  subst h1 h2 h3 h4
  have e1:N * g * (D' * g')=N * D' * (g * g'):=by ac_rfl
  have e2:N' * g' * (D * g)=N' * D * (g * g'):=by ac_rfl
  rw [e1,e2,h]
 have hN:n.toNat * d'.toNat=n'.toNat * d.toNat:=by
  have e1:((n.toNat * d'.toNat:Nat):Int)=n * d':=by rw [Int.natCast_mul]; congr 1 <;> omega
  have e2:((n'.toNat * d.toNat:Nat):Int)=n' * d:=by rw [Int.natCast_mul]; congr 1 <;> omega
  omega
 obtain ⟨a,b⟩:=aI7 (n:=n.toNat) (d:=d.toNat) (n':=n'.toNat) (d':=d'.toNat) (by omega) (by omega) (by omega) (by omega) hN
 unfold eS
 rw [a,b]
theorem aIo {a b:Nat} (h:0 < a):nz ((Nat.gcd a b:Nat):Int)=some ():=by
 have:=Nat.gcd_pos_of_pos_left b h
 unfold nz
 rw [if_neg (by omega)]
theorem aBo {N:Nat} (hN:60≤N) {n d:Int} (hn:0 < n∧n≤2000000) (hd:0 < d∧d≤200000):eD N ⟨n,d⟩=some (eS n d):=by
 have h:=aA0 (ρ:=aM) (fun s4:Int × Int=>fW N s4.1 s4.2) (fun a b:Nat=>((a:Int),(b:Int))) (fun a=>rfl) (fun a b hb _ _=>by
  show fW N (a:Int) (b:Int)=_
  unfold fW
  have h1:((b:Int) != 0)=true:=by rw [bne_iff_ne]; omega
  have h2:nz (b:Int)=some ():=by unfold nz; rw [if_neg (by omega)]
  rw [h1,h2,tmod_mod (by omega)]
  show some (bH.cont ((b:Int),(a:Int) % (b:Int)))=_
  rw [← Int.natCast_emod]) 18 n.toNat d.toNat N (by omega) (by omega) (by omega) (by omega)
 have e1:((n.toNat:Nat):Int)=n:=by omega
 have e2:((d.toNat:Nat):Int)=d:=by omega
 unfold eD
 show Option.bind (aT _ N (n,d)) _=_
 rw [← e1,← e2,h,Option.bind_some]
 show Option.bind (nz ((Nat.gcd n.toNat d.toNat:Nat):Int)) (fun _=>Option.bind (nz ((Nat.gcd n.toNat d.toNat:Nat):Int)) fun _=>some (⟨W (((n.toNat:Nat):Int).tdiv ((Nat.gcd n.toNat d.toNat:Nat):Int)),W (((d.toNat:Nat):Int).tdiv ((Nat.gcd n.toNat d.toNat:Nat):Int))⟩:aM))=_
 rw [aIo (by omega),Option.bind_some,Option.bind_some,tdiv_div (by omega),tdiv_div (by omega),← Int.natCast_ediv,← Int.natCast_ediv]
 have l1:=Nat.div_le_self n.toNat (Nat.gcd n.toNat d.toNat)
 have l2:=Nat.div_le_self d.toNat (Nat.gcd n.toNat d.toNat)
 have e3:eS ((n.toNat:Nat):Int) ((d.toNat:Nat):Int)=eS n d:=by rw [e1,e2]
 rw [e3]
 unfold eS
 generalize n.toNat / Nat.gcd n.toNat d.toNat=q1 at *
 generalize d.toNat / Nat.gcd n.toNat d.toNat=q2 at *
 rw [W_id (by omega) (by omega),W_id (by omega) (by omega)]
theorem aH2 {N:Nat} (hN:60≤N) {n d:Int} (hn:0 < n∧n≤2000000) (hd:0 < d∧d≤200000):nG N n d=some (eS n d):=by
 have h:=aA0 (ρ:=aM) (fun s4:Int × Int=>mA N s4.1 s4.2) (fun a b:Nat=>((a:Int),(b:Int))) (fun a=>rfl) (fun a b hb _ _=>by
  show mA N (a:Int) (b:Int)=_
  unfold mA
  have h2:nz (b:Int)=some ():=by unfold nz; rw [if_neg (by omega)]
  rw [decide_eq_true (show 0 < (b:Int) by omega),h2,tmod_mod (by omega)]
  show some (bH.cont ((b:Int),(a:Int) % (b:Int)))=_
  rw [← Int.natCast_emod]) 18 n.toNat d.toNat N (by omega) (by omega) (by omega) (by omega)
 have e1:((n.toNat:Nat):Int)=n:=by omega
 have e2:((d.toNat:Nat):Int)=d:=by omega
 unfold nG
 show Option.bind (aT _ N (n,d)) _=_
 rw [← e1,← e2,h,Option.bind_some]
 show Option.bind (nz ((Nat.gcd n.toNat d.toNat:Nat):Int)) (fun _=>Option.bind (nz ((Nat.gcd n.toNat d.toNat:Nat):Int)) fun _=>some (⟨W (((n.toNat:Nat):Int).tdiv ((Nat.gcd n.toNat d.toNat:Nat):Int)),W (((d.toNat:Nat):Int).tdiv ((Nat.gcd n.toNat d.toNat:Nat):Int))⟩:aM))=_
 rw [aIo (by omega),Option.bind_some,Option.bind_some,tdiv_div (by omega),tdiv_div (by omega),← Int.natCast_ediv,← Int.natCast_ediv]
 have l1:=Nat.div_le_self n.toNat (Nat.gcd n.toNat d.toNat)
 have l2:=Nat.div_le_self d.toNat (Nat.gcd n.toNat d.toNat)
 have e3:eS ((n.toNat:Nat):Int) ((d.toNat:Nat):Int)=eS n d:=by rw [e1,e2]
 rw [e3]
 unfold eS
 generalize n.toNat / Nat.gcd n.toNat d.toNat=q1 at *
 generalize d.toNat / Nat.gcd n.toNat d.toNat=q2 at *
 rw [W_id (by omega) (by omega),W_id (by omega) (by omega)]
end Go.Nilo.WW
set_option linter.unusedSimpArgs false
set_option linter.unusedVariables false
namespace Go.Nilo.WW
def nI (l:List Int) (i:Nat):Int:=2 * cN l i
def laB (s:List Int) (rule:Int) (i:Nat):Int:=hH rule (sI s i)
def nxB (s:List Int) (rule:Int) (i:Nat):Int:=hH rule (sI s i + 1)
theorem aH9 {n b m e:Int} (hn:0≤n∧n≤2000000) (hm:0≤m∧m≤2000000) (hb : -4≤b∧b≤200000) (he : -4≤e∧e≤200000):aV ⟨n, b⟩ ⟨m, e⟩=decide (m * b < n * e):=by
  unfold aV
  show decide (W (m * b) < W (n * e))=_
  have m1:=absmul (x:=m) (y:=b) (A:=2000000) (B:=200000) (by omega) (by omega)
  have m2:=absmul (x:=n) (y:=e) (A:=2000000) (B:=200000) (by omega) (by omega)
  rw [W_id (n:=m * b) (by omega) (by omega), W_id (n:=n * e) (by omega) (by omega)]
def hiQ (l s:List Int) (rule:Int):Nat→Int × Int
  | 0=>(2000000, 1)
  | i + 1=>cond (decide (0 < laB s rule i) && decide (nI l i * (hiQ l s rule i).2 < (hiQ l s rule i).1 * laB s rule i)) (nI l i, laB s rule i) (hiQ l s rule i)
def loQ (l s:List Int) (rule:Int):Nat→Int × Int
  | 0=>(nI l 0, nxB s rule 0)
  | i + 1=>cond (decide ((loQ l s rule i).1 * nxB s rule (i + 1) < nI l (i + 1) * (loQ l s rule i).2)) (nI l (i + 1), nxB s rule (i + 1)) (loQ l s rule i)
theorem rG {l s:List Int} {rule:Int} (h:SOk l s rule) {i:Nat} (hi:i < l.length):2≤nI l i∧nI l i≤2000000:=by
  have:1≤cN l i∧cN l i≤1000000:=h.c.c i hi
  unfold nI
  omega
theorem aC8 {l s:List Int} {rule:Int} (h:SOk l s rule) {i:Nat} (hi:i < l.length) : -4≤laB s rule i∧laB s rule i≤200000:=by
  have:0≤sI s i∧sI s i≤366:=h.s i hi
  exact pQ (by omega)
theorem vC {l s:List Int} {rule:Int} (h:SOk l s rule) {i:Nat} (hi:i < l.length):0≤nxB s rule i∧nxB s rule i≤200000:=by
  have:0≤sI s i∧sI s i≤366:=h.s i hi
  exact aGa h.r (by omega) (by omega)
theorem aFr {l s:List Int} {rule:Int} (h:SOk l s rule):∀ i, i≤l.length→(hiQ l s rule i=(2000000, 1) ∨ ∃ j, j < i∧0 < laB s rule j∧hiQ l s rule i=(nI l j, laB s rule j))∧(hiQ l s rule i).1≤2000000 * (hiQ l s rule i).2∧∀ t, t < i→0 < laB s rule t→(hiQ l s rule i).1 * laB s rule t≤nI l t * (hiQ l s rule i).2
  | 0, _=>⟨.inl rfl, by show (2000000:Int)≤2000000 * 1; decide, fun t ht=>absurd ht (by omega)⟩
  | i + 1, hi=>by
    obtain ⟨h1, h2, h3⟩:=aFr h i (by omega)
    have ni:=rG h (i:=i) (by omega)
    have hpos:0 < (hiQ l s rule i).2∧0 < (hiQ l s rule i).1:=by
      rcases h1 with h1 | ⟨j, hj, hl, h1⟩
      · rw [h1]; decide
      · rw [h1]; exact ⟨hl, by have:=rG h (i:=j) (by omega); show 0 < nI l j; omega⟩
    rw [hiQ]
    by_cases h0:0 < laB s rule i
    · by_cases hm:nI l i * (hiQ l s rule i).2 < (hiQ l s rule i).1 * laB s rule i
      · rw [decide_eq_true h0, decide_eq_true hm, Bool.and_true, cond_true]
        refine ⟨.inr ⟨i, by omega, h0, rfl⟩, by show nI l i≤2000000 * laB s rule i; omega, fun t ht ht0=>?_⟩
        show nI l i * laB s rule t≤nI l t * laB s rule i
        by_cases hti:t=i
        · subst hti; exact Int.le_refl _
        · exact vR (by omega) hpos.1 (by omega) (h3 t (by omega) ht0) (by omega)
      · rw [decide_eq_true h0, decide_eq_false hm, Bool.and_false, cond_false]
        refine ⟨h1.imp id (fun ⟨j, hj, a, b⟩=>⟨j, by omega, a, b⟩), h2, fun t ht ht0=>?_⟩
        by_cases hti:t=i
        · subst hti; omega
        · exact h3 t (by omega) ht0
    · rw [decide_eq_false h0, Bool.false_and, cond_false]
      refine ⟨h1.imp id (fun ⟨j, hj, a, b⟩=>⟨j, by omega, a, b⟩), h2, fun t ht ht0=>?_⟩
      by_cases hti:t=i
      · subst hti; omega
      · exact h3 t (by omega) ht0
theorem aF5 {l s:List Int} {rule:Int} (h:SOk l s rule):∀ i, i < l.length→(∃ j, j≤i∧loQ l s rule i=(nI l j, nxB s rule j))∧∀ t, t≤i→nI l t * (loQ l s rule i).2≤(loQ l s rule i).1 * nxB s rule t
  | 0, _=>⟨⟨0, Nat.le_refl _, rfl⟩, fun t ht=>by
                                                     obtain rfl:t=0:=by omega
                                                     exact Int.le_refl _⟩
  | i + 1, hi=>by
    obtain ⟨⟨j, hj, h1⟩, h3⟩:=aF5 h i (by omega)
    have ni:=rG h hi
    have nj:=rG h (i:=j) (by omega)
    have bi:=vC h hi
    have bj:=vC h (i:=j) (by omega)
    rw [loQ]
    by_cases hm:(loQ l s rule i).1 * nxB s rule (i + 1) < nI l (i + 1) * (loQ l s rule i).2
    · rw [decide_eq_true hm, cond_true]
      refine ⟨⟨i + 1, Nat.le_refl _, rfl⟩, fun t ht=>?_⟩
      show nI l t * nxB s rule (i + 1)≤nI l (i + 1) * nxB s rule t
      by_cases hti:t=i + 1
      · subst hti; exact Int.le_refl _
      · have nt:=rG h (i:=t) (by omega)
        have bt:=vC h (i:=t) (by omega)
        have h4:=h3 t (by omega)
        rw [h1] at hm h4
        exact Int.le_of_lt (aG9 (by omega) (show 0 < nI l j by omega) bi.1 bj.1 bt.1 hm h4)
    · rw [decide_eq_false hm, cond_false]
      refine ⟨⟨j, by omega, h1⟩, fun t ht=>?_⟩
      by_cases hti:t=i + 1
      · subst hti; omega
      · exact h3 t (by omega)

def low (l s:List Int) (rule:Int):Int × Int:=loQ l s rule (l.length - 1)
def high (l s:List Int) (rule:Int):Int × Int:=hiQ l s rule l.length
def divV (l s:List Int) (rule:Int):aM × aM × Int :=
  if qJ l s rule=0 then (if (high l s rule).1 * (low l s rule).2 < (low l s rule).1 * (high l s rule).2 then (⟨0, 0⟩, ⟨0, 0⟩, 7) else (eS (low l s rule).1 (low l s rule).2, eS (high l s rule).1 (high l s rule).2, 0)) else (⟨0, 0⟩, ⟨0, 0⟩, qJ l s rule)
def kV (l s:List Int) (rule:Int) (n:Nat):List aR:=(List.range n).map fun i=>(⟨nI l i, nxB s rule i⟩:aR)
theorem aAr (l s:List Int) (rule:Int) (n:Nat):kV l s rule (n + 1)=kV l s rule n++[(⟨nI l n, nxB s rule n⟩:aR)]:=by
  unfold kV
  rw [List.range_succ, List.map_append]
  rfl
theorem yI (l s:List Int) (rule:Int) (n:Nat):(kV l s rule n).length=n:=by simp [kV]
theorem sP {l s:List Int} {rule:Int} (h:SOk l s rule):(∃ j, j < l.length∧low l s rule=(nI l j, nxB s rule j))∧∀ t, t < l.length→nI l t * (low l s rule).2≤(low l s rule).1 * nxB s rule t:=by
  have hn:=h.c.n
  obtain ⟨⟨j, hj, h1⟩, h2⟩:=aF5 h (l.length - 1) (by omega)
  exact ⟨⟨j, by omega, h1⟩, fun t ht=>h2 t (by omega)⟩
theorem rI {l s:List Int} {rule:Int} (h:SOk l s rule):(high l s rule=(2000000, 1) ∨ ∃ j, j < l.length∧0 < laB s rule j∧high l s rule=(nI l j, laB s rule j))∧(high l s rule).1≤2000000 * (high l s rule).2∧∀ t, t < l.length→0 < laB s rule t→(high l s rule).1 * laB s rule t≤nI l t * (high l s rule).2:=aFr h l.length (Nat.le_refl _)
theorem vW {l s:List Int} {rule:Int} (h:SOk l s rule):(0 < (high l s rule).1∧(high l s rule).1≤2000000)∧(0 < (high l s rule).2∧(high l s rule).2≤200000):=by
  rcases (rI h).1 with h1 | ⟨j, hj, hl, h1⟩
  · rw [h1]; decide
  · rw [h1]
    have:=rG h hj
    have:=aC8 h hj
    exact ⟨by show 0 < nI l j∧nI l j≤2000000; omega, by show 0 < laB s rule j∧laB s rule j≤200000; omega⟩
theorem xX {l s:List Int} {rule:Int} (h:SOk l s rule):(0 < (low l s rule).1∧(low l s rule).1≤2000000)∧(0≤(low l s rule).2∧(low l s rule).2≤200000):=by
  obtain ⟨j, hj, h1⟩:=(sP h).1
  rw [h1]
  have:=rG h hj
  have:=vC h hj
  exact ⟨by show 0 < nI l j∧nI l j≤2000000; omega, by show 0≤nxB s rule j∧nxB s rule j≤200000; omega⟩
theorem aAd {l s:List Int} {rule:Int} (h:SOk l s rule) (hm:¬ (high l s rule).1 * (low l s rule).2 < (low l s rule).1 * (high l s rule).2):0 < (low l s rule).2:=by
  have h1:=xX h
  have h2:=vW h
  rcases Int.lt_or_eq_of_le h1.2.1 with h3 | h3
  · exact h3
  · exfalso
    rw [← h3, Int.mul_zero] at hm
    exact hm (Int.mul_pos h1.1.1 h2.2.1)
theorem aKh {l s:List Int} {rule:Int} (h:SOk l s rule) {i:Nat} (hi:i≤l.length):(0≤(hiQ l s rule i).1∧(hiQ l s rule i).1≤2000000)∧(-4≤(hiQ l s rule i).2∧(hiQ l s rule i).2≤200000):=by
  rcases (aFr h i hi).1 with h1 | ⟨j, hj, hl, h1⟩
  · rw [h1]; decide
  · rw [h1]
    have:=rG h (i:=j) (by omega)
    have:=aC8 h (i:=j) (by omega)
    exact ⟨by show 0≤nI l j∧nI l j≤2000000; omega, by show -4≤laB s rule j∧laB s rule j≤200000; omega⟩
theorem aJ3 {l s:List Int} {rule:Int} (h:SOk l s rule) {i:Nat} (hi:i < l.length):(0≤(loQ l s rule i).1∧(loQ l s rule i).1≤2000000)∧(-4≤(loQ l s rule i).2∧(loQ l s rule i).2≤200000):=by
  obtain ⟨⟨j, hj, h1⟩, -⟩:=aF5 h i hi
  rw [h1]
  have:=rG h (i:=j) (by omega)
  have:=vC h (i:=j) (by omega)
  exact ⟨by show 0≤nI l j∧nI l j≤2000000; omega, by show -4≤nxB s rule j∧nxB s rule j≤200000; omega⟩
theorem aH8 {N:Nat} (hN:60≤N) {l s:List Int} {rule:Int} (hl:l.length≤15) (hs:s.length≤15):lD N l s rule=some (divV l s rule):=by
  unfold lD divV
  rw [vB hN hl hs, Option.bind_some]
  by_cases h:qJ l s rule=0
  · rw [if_pos h, h]
    have ho:=vU h
    have hn:=ho.c.n
    have hsl:=ho.n
    have h1:=runS (ρ:=aM × aM × Int) (fun i:Nat=>(kV l s rule i, (i:Int), (hiQ l s rule i).1, (hiQ l s rule i).2)) l.length (fun s10=>fQ N l s rule s10.1 s10.2.1 s10.2.2.1 s10.2.2.2) (fun i hi=>by
      have ci:1≤cN l i∧cN l i≤1000000:=ho.c.c i hi
      have si:0≤sI s i∧sI s i≤366:=ho.s i hi
      have hsi:aZ s (i:Int)=some (sI s i):=by rw [getI_nat (by omega), get_getD (d:=(0:Int)) (by omega)]; rfl
      have hci:aZ l (i:Int)=some (cN l i):=by rw [getI_nat hi, get_getD (d:=(0:Int)) hi]; rfl
      have lim:=aKh ho (i:=i) (by omega)
      have ni:=rG ho hi
      have li:=aC8 ho hi
      show fQ N l s rule (kV l s rule i) (i:Int) (hiQ l s rule i).1 (hiQ l s rule i).2=_
      unfold fQ jO
      rw [show ((s.length:Nat):Int)=(l.length:Int) by omega, lt_dec hi, cond_true, hsi, Option.bind_some, hci, Option.bind_some, W_id (n:=sI s i + 1) (by omega) (by omega), pW (by omega) (by omega), Option.bind_some]
      show Option.bind (jE (kV l s rule i++[(⟨nI l i, nxB s rule i⟩:aR)]).length) _=_
      rw [← aAr, room_ok (by rw [yI]; omega), Option.bind_some, Option.bind_some, pW (by omega) (by omega), Option.bind_some, W_succ (by omega)]
      show cond (decide (0 < laB s rule i) && aV ⟨(hiQ l s rule i).1, (hiQ l s rule i).2⟩ ⟨nI l i, laB s rule i⟩) (some (bH.cont (kV l s rule i++[(⟨nI l i, nxB s rule i⟩:aR)], _, nI l i, laB s rule i))) (some (bH.cont (kV l s rule i++[(⟨nI l i, nxB s rule i⟩:aR)], _, _, _)))=_
      rw [← aAr, aH9 lim.1 (by omega) lim.2 li, hiQ]
      cases (decide (0 < laB s rule i) && decide (nI l i * (hiQ l s rule i).2 < (hiQ l s rule i).1 * laB s rule i)) <;> rfl) (by
      show fQ N l s rule _ (l.length:Int) _ _=_
      unfold fQ
      rw [show ((s.length:Nat):Int)=(l.length:Int) by omega, ge_dec, cond_false]) (N:=N) (by omega)
    show Option.bind (aT _ N (kV l s rule 0, ((0:Nat):Int), (hiQ l s rule 0).1, (hiQ l s rule 0).2)) _=_
    rw [h1, Option.bind_some]
    have g0:aZ (kV l s rule l.length) 0=some ⟨nI l 0, nxB s rule 0⟩:=by
      have:=getI_nat (l:=kV l s rule l.length) (i:=0) (by rw [yI]; omega)
      rw [show ((0:Nat):Int)=0 from rfl] at this
      rw [this]
      simp [kV]
    have hsub:uX (kV l s rule l.length) 1 (((kV l s rule l.length).length:Nat):Int)=some ((kV l s rule l.length).drop 1):=by
      unfold uX
      rw [yI, if_pos (by omega)]
      congr 1
      rw [show (1:Int).toNat=1 from rfl, show ((l.length:Nat):Int).toNat=l.length by omega, List.take_of_length_le (by simp [kV])]
    have hdl:((kV l s rule l.length).drop 1).length=l.length - 1:=by simp [kV]
    have h2:=runS (ρ:=aR) (fun i:Nat=>((i:Int), (loQ l s rule i).1, (loQ l s rule i).2)) (l.length - 1) (fun s4=>gG N ((kV l s rule l.length).drop 1) s4.1 s4.2.1 s4.2.2) (fun i hi=>by
      have lim:=aJ3 ho (i:=i) (by omega)
      have ni:=rG ho (i:=i + 1) (by omega)
      have bi:=vC ho (i:=i + 1) (by omega)
      have gi:aZ ((kV l s rule l.length).drop 1) (i:Int)=some ⟨nI l (i + 1), nxB s rule (i + 1)⟩:=by
        rw [getI_nat (by rw [hdl]; exact hi)]
        simp [kV]
      show gG N ((kV l s rule l.length).drop 1) (i:Int) (loQ l s rule i).1 (loQ l s rule i).2=_
      unfold gG jZ
      rw [hdl, lt_dec hi, cond_true, gi, Option.bind_some, aH9 (by omega) lim.1 (by omega) lim.2, W_succ (by omega)]
      show _=some (bH.cont (_, (loQ l s rule (i + 1)).1, (loQ l s rule (i + 1)).2))
      rw [loQ]
      cases decide ((loQ l s rule i).1 * nxB s rule (i + 1) < nI l (i + 1) * (loQ l s rule i).2) <;> rfl) (by
      show gG N _ ((l.length - 1:Nat):Int) _ _=_
      unfold gG
      rw [hdl, ge_dec, cond_false]) (N:=N) (by omega)
    have hgr:lC N ⟨nI l 0, nxB s rule 0⟩ ((kV l s rule l.length).drop 1)=some ⟨(low l s rule).1, (low l s rule).2⟩:=by
      unfold lC
      show Option.bind (aT _ N (((0:Nat):Int), (loQ l s rule 0).1, (loQ l s rule 0).2)) _=_
      rw [h2]
      rfl
    show Option.bind (aZ (kV l s rule l.length) 0) (fun e_1=>Option.bind (uX (kV l s rule l.length) 1 (((kV l s rule l.length).length:Nat):Int)) fun sub=>Option.bind (lC N e_1 sub) fun r_1=>cond (aV r_1 ⟨(high l s rule).1, (high l s rule).2⟩) _ (Option.bind (eD N r_1) fun r_2=>Option.bind (eD N ⟨(high l s rule).1, (high l s rule).2⟩) fun r_3=>some (r_2, r_3, 0)))=_
    have lb:=xX ho
    have hb:=vW ho
    rw [g0, Option.bind_some, hsub, Option.bind_some, hgr, Option.bind_some, aH9 (by omega) (by omega) (by omega) (by omega)]
    by_cases hm:(high l s rule).1 * (low l s rule).2 < (low l s rule).1 * (high l s rule).2
    · rw [decide_eq_true hm, cond_true, if_pos hm]
    · have lp:=aAd ho hm
      rw [decide_eq_false hm, cond_false, if_neg hm, aBo hN lb.1 (by omega), Option.bind_some, aBo hN hb.1 hb.2, Option.bind_some]
  · have:(qJ l s rule != 0)=true:=bne_iff_ne.2 h
    rw [if_neg h, this, cond_true]
end Go.Nilo.WW
set_option linter.unusedSimpArgs false
set_option linter.unusedVariables false
namespace Go.Nilo.WW
def aBp (s:List Int) (rule:Int) (i k:Nat):Int:=hH rule (sI s i + (k:Int))
def sQ (l s:List Int) (rule:Int) (i:Nat) (L:List aM):Nat→List aM
 | 0=>L
 | k + 1=>sQ l s rule i L k++cond (decide (0 < aBp s rule i k)) [eS (nI l i) (aBp s rule i k)] []
def oP (l s:List Int) (rule:Int):Nat→List aM
 | 0=>[⟨2000000,1⟩]
 | i + 1=>sQ l s rule i (oP l s rule i) 2
theorem yK (l s:List Int) (rule:Int) (i:Nat) (L:List aM):∀ k,(sQ l s rule i L k).length≤L.length + k
 | 0=>Nat.le_refl _
 | k + 1=>by
  have:=yK l s rule i L k
  unfold sQ
  cases decide (0 < aBp s rule i k)
  ·simp; omega
  ·simp; omega
theorem aAg (l s:List Int) (rule:Int):∀ i,(oP l s rule i).length≤1 + 2 * i
 | 0=>by simp [oP]
 | i + 1=>by
  have:=yK l s rule i (oP l s rule i) 2
  have:=aAg l s rule i
  unfold oP
  omega
theorem aA2:eS 2000000 1=⟨2000000,1⟩:=by
 unfold eS
 congr 1 <;> decide
def IsC (_ _:List Int) (_:Int) (x:aM):Prop:=∃ n d:Int,(0 < n∧n≤2000000)∧(0 < d∧d≤200000)∧x=eS n d
theorem aIm (s:List Int) (rule:Int) (i:Nat):aBp s rule i 0=laB s rule i:=by
 unfold aBp laB
 congr 1
 omega
theorem aI9 (s:List Int) (rule:Int) (i:Nat):aBp s rule i 1=nxB s rule i:=rfl
theorem aGi {l s:List Int} {rule:Int} (h:SOk l s rule):∀ i,i≤l.length→∀ x ∈ oP l s rule i,IsC l s rule x
 | 0,_,x,hx=>by
  simp only [oP,List.mem_singleton] at hx
  subst hx
  exact ⟨2000000,1,by decide,by decide,aA2.symm⟩
 | i + 1,hi,x,hx=>by
  have ni:=rG h (i:=i) (by omega)
  have l1:=aC8 h (i:=i) (by omega)
  have l2:=vC h (i:=i) (by omega)
  simp only [oP,sQ,List.mem_append] at hx
  rw [aIm,aI9] at hx
  rcases hx with (hx | hx) | hx
  ·exact aGi h i (by omega) x hx
  ·by_cases h0:0 < laB s rule i
   ·rw [decide_eq_true h0,cond_true,List.mem_singleton] at hx
    exact ⟨nI l i,laB s rule i,by omega,by omega,hx⟩
   ·rw [decide_eq_false h0,cond_false] at hx
    cases hx
  ·by_cases h0:0 < nxB s rule i
   ·rw [decide_eq_true h0,cond_true,List.mem_singleton] at hx
    exact ⟨nI l i,nxB s rule i,by omega,by omega,hx⟩
   ·rw [decide_eq_false h0,cond_false] at hx
    cases hx
theorem vO (l s:List Int) (rule:Int) {i:Nat} {x:aM} (hx:x ∈ oP l s rule i):∀ k,x ∈ oP l s rule (i + k)
 | 0=>hx
 | k + 1=>by
  have:=vO l s rule hx k
  show x ∈ sQ l s rule (i + k) (oP l s rule (i + k)) 2
  simp only [sQ,List.mem_append]
  exact .inl (.inl this)
theorem aF4 (l s:List Int) (rule:Int) (n:Nat):(⟨2000000,1⟩:aM) ∈ oP l s rule n:=by
 have:=vO l s rule (i:=0) (x:=⟨2000000,1⟩) (by simp [oP]) n
 rwa [Nat.zero_add] at this
theorem aJ6 {l s:List Int} {rule:Int} {i n:Nat} (hi:i < n) (h0:0 < laB s rule i):eS (nI l i) (laB s rule i) ∈ oP l s rule n:=by
 have:=vO l s rule (i:=i + 1) (x:=eS (nI l i) (laB s rule i)) (by
  simp only [oP,sQ,List.mem_append]
  rw [aIm,decide_eq_true h0]
  exact .inl (.inr (by simp))) (n - (i + 1))
 rwa [show i + 1 + (n - (i + 1))=n by omega] at this
theorem aKf {l s:List Int} {rule:Int} {i n:Nat} (hi:i < n) (h0:0 < nxB s rule i):eS (nI l i) (nxB s rule i) ∈ oP l s rule n:=by
 have:=vO l s rule (i:=i + 1) (x:=eS (nI l i) (nxB s rule i)) (by
  simp only [oP,sQ,List.mem_append]
  rw [aI9,decide_eq_true h0]
  exact .inr (by simp)) (n - (i + 1))
 rwa [show i + 1 + (n - (i + 1))=n by omega] at this
theorem aMr {l s:List Int} {rule:Int} (h:SOk l s rule) (hp:0 < (low l s rule).2):eS (low l s rule).1 (low l s rule).2 ∈ oP l s rule l.length:=by
 obtain ⟨j,hj,h1⟩:=(sP h).1
 rw [h1] at hp ⊢
 exact aKf hj hp
theorem aJ9 {l s:List Int} {rule:Int} (h:SOk l s rule):eS (high l s rule).1 (high l s rule).2 ∈ oP l s rule l.length:=by
 rcases (rI h).1 with h1 | ⟨j,hj,hl,h1⟩
 ·rw [h1]
  have:eS ((2000000:Int),(1:Int)).1 ((2000000:Int),(1:Int)).2=⟨2000000,1⟩:=aA2
  rw [this]
  exact aF4 l s rule _
 ·rw [h1]
  exact aJ6 hj hl

theorem sO {ρ:Type} {g:Nat→Option ρ}:∀ (n i:Nat),(firstG g i n).isNone=true ↔ ∀ j,i≤j→j < i + n→g j=none
 | 0,i=>by
  constructor
  ·intro _ j h1 h2; omega
  ·intro _; rfl
 | n + 1,i=>by
  unfold firstG
  constructor
  ·intro h j h1 h2
   cases hg:g i with
   | some r=>rw [hg] at h; cases h
   | none=>
    rw [hg] at h
    by_cases hij:j=i
    ·subst hij; exact hg
    ·exact (sO n (i + 1)).1 h j (by omega) (by omega)
  ·intro h
   rw [h i (Nat.le_refl _) (by omega)]
   exact (sO n (i + 1)).2 (fun j h1 h2=>h j (by omega) (by omega))
theorem aBn {l s:List Int} {rule:Int} {x:aM}:rZ l s rule x=true ↔ ∀ i,i < l.length→laB s rule i * x.N≤nI l i * x.D∧nI l i * x.D≤nxB s rule i * x.N:=by
 unfold rZ
 rw [sO]
 constructor
 ·intro h i hi
  have:=h i (by omega) (by omega)
  unfold okV at this
  cases h1:decide (2 * cN l i * x.D < hH rule (sI s i) * x.N) with
  | true=>rw [h1] at this; cases this
  | false=>
   cases h2:decide (hH rule (sI s i + 1) * x.N < 2 * cN l i * x.D) with
   | true=>rw [h1,h2] at this; cases this
   | false=>
    rw [decide_eq_false_iff_not] at h1 h2
    unfold laB nxB nI
    omega
 ·intro h i _ hi
  have:=h i (by omega)
  unfold laB nxB nI at this
  unfold okV
  rw [decide_eq_false (by omega),decide_eq_false (by omega)]
  rfl
theorem aF0 {l s:List Int} {rule:Int} (h:SOk l s rule) (hm:¬ (high l s rule).1 * (low l s rule).2 < (low l s rule).1 * (high l s rule).2):rZ l s rule (eS (low l s rule).1 (low l s rule).2)=true:=by
 have lp:=aAd h hm
 have lb:=xX h
 have hb:=vW h
 have lf:=(sP h).2
 have hf:=(rI h).2.2
 rw [aBn]
 intro i hi
 have ni:=rG h hi
 constructor
 ·rw [aDj lb.1.1 lp]
  by_cases h0:0 < laB s rule i
  ·have:=vR (by omega) hb.2.1 (by omega) (hf i hi h0) (show (low l s rule).1 * (high l s rule).2≤(high l s rule).1 * (low l s rule).2 by omega)
   rwa [Int.mul_comm (laB s rule i)]
  ·have h1:laB s rule i * (low l s rule).1≤0:=Int.mul_nonpos_of_nonpos_of_nonneg (by omega) (by omega)
   have h2:0≤nI l i * (low l s rule).2:=Int.mul_nonneg (by omega) (by omega)
   omega
 ·rw [aDl lb.1.1 lp,Int.mul_comm (nxB s rule i)]
  exact lf i hi
theorem aE5 {l s:List Int} {rule:Int} (h:SOk l s rule) (hm:¬ (high l s rule).1 * (low l s rule).2 < (low l s rule).1 * (high l s rule).2):rZ l s rule (eS (high l s rule).1 (high l s rule).2)=true:=by
 have lp:=aAd h hm
 have lb:=xX h
 have hb:=vW h
 have lf:=(sP h).2
 have hf:=(rI h).2.2
 rw [aBn]
 intro i hi
 have ni:=rG h hi
 have bi:=vC h hi
 constructor
 ·rw [aDj hb.1.1 hb.2.1]
  by_cases h0:0 < laB s rule i
  ·rw [Int.mul_comm (laB s rule i)]
   exact hf i hi h0
  ·have h1:laB s rule i * (high l s rule).1≤0:=Int.mul_nonpos_of_nonpos_of_nonneg (by omega) (by omega)
   have h2:0≤nI l i * (high l s rule).2:=Int.mul_nonneg (by omega) (by omega)
   omega
 ·rw [aDl hb.1.1 hb.2.1,Int.mul_comm (nxB s rule i)]
  exact vR (by omega) lp bi.1 (show (low l s rule).1 * (high l s rule).2≤(high l s rule).1 * (low l s rule).2 by omega) (lf i hi)
theorem aDs {l s:List Int} {rule:Int} (h:SOk l s rule) {x:aM} (hx:IsC l s rule x) (hp:rZ l s rule x=true):(low l s rule).1 * x.D≤(low l s rule).2 * x.N∧(high l s rule).2 * x.N≤(high l s rule).1 * x.D:=by
 rw [aBn] at hp
 constructor
 ·obtain ⟨j,hj,h1⟩:=(sP h).1
  rw [h1]
  exact (hp j hj).2
 ·rcases (rI h).1 with h1 | ⟨j,hj,hl,h1⟩
  ·rw [h1]
   obtain ⟨n,d,hn,hd,rfl⟩:=hx
   obtain ⟨g,-,-,-,a,b,c,e⟩:=pG hn.1 hd.1
   show 1 * (eS n d).N≤2000000 * (eS n d).D
   omega
  ·rw [h1]
   exact (hp j hj).1
theorem aEq {l s:List Int} {rule:Int} (h:SOk l s rule) (hm:(high l s rule).1 * (low l s rule).2 < (low l s rule).1 * (high l s rule).2) {x:aM} (hx:IsC l s rule x):rZ l s rule x=false:=by
 cases hp:rZ l s rule x with
 | false=>rfl
 | true=>
  exfalso
  obtain ⟨a,b⟩:=aDs h hx hp
  have lb:=xX h
  have hb:=vW h
  obtain ⟨n,d,hn,hd,rfl⟩:=hx
  obtain ⟨g,-,-,-,n1,-,d1,-⟩:=pG hn.1 hd.1
  have:=vR (a:=(low l s rule).2) (b:=(eS n d).D) (c:=(high l s rule).2) (x:=(low l s rule).1) (y:=(eS n d).N) (z:=(high l s rule).1) (by omega) (by omega) (by omega) (by rw [Int.mul_comm]; omega) (by rw [Int.mul_comm (eS n d).D]; omega)
  rw [Int.mul_comm (high l s rule).2,Int.mul_comm (low l s rule).2] at this
  omega
end Go.Nilo.WW
set_option linter.unusedSimpArgs false
set_option linter.unusedVariables false
namespace Go.Nilo.WW
def x0:aM:=⟨0,0⟩
structure Both (l s:List Int) (rule:Int) (L:List aM) (i:Nat) (x y:aM):Prop where
 xm:x ∈ L∧rZ l s rule x=true
 ym:y ∈ L∧rZ l s rule y=true
 all:∀ j,j < i→rZ l s rule (L.getD j x0)=true→x.N * (L.getD j x0).D≤(L.getD j x0).N * x.D∧(L.getD j x0).N * y.D≤y.N * (L.getD j x0).D
theorem uJ {l s:List Int} {rule:Int} {x:aM} (h:IsC l s rule x):(1≤x.N∧x.N≤2000000)∧(1≤x.D∧x.D≤200000):=by
 obtain ⟨n,d,hn,hd,rfl⟩:=h
 obtain ⟨g,-,-,-,a,b,c,e⟩:=pG hn.1 hd.1
 omega
theorem aKd {l s:List Int} {rule:Int} (h:qJ l s rule=0) {x:aM} (hx:IsC l s rule x):aH4 l s rule x=(rZ l s rule x,0):=by
 have hb:=uJ hx
 have:okX x=true:=by
  unfold okX inB
  simp only [Bool.and_eq_true,decide_eq_true_eq,Bool.not_eq_true',decide_eq_false_iff_not]
  omega
 unfold aH4
 rw [if_pos h,if_pos this]
theorem aKa {N:Nat} (hN:60≤N) {l s:List Int} {rule:Int} (hl:l.length≤15) (hs:s.length≤15):mQ N l s rule=some (divV l s rule):=by
 unfold mQ divV
 rw [wL hN hl hs,Option.bind_some]
 by_cases h:qJ l s rule=0
 ·rw [if_pos h,h]
  have ho:=vU h
  have hn:=ho.c.n
  have hsl:=ho.n
  have hin:∀ i,i < l.length→aT (fun s32:List aM × Int=>eU N l s rule (i:Int) s32.1 s32.2) N (oP l s rule i,0)=some (.go (oP l s rule (i + 1),2)):=by
   intro i hi
   have ci:1≤cN l i∧cN l i≤1000000:=ho.c.c i hi
   have si:0≤sI s i∧sI s i≤366:=ho.s i hi
   have hsi:aZ s (i:Int)=some (sI s i):=by rw [getI_nat (by omega),get_getD (d:=(0:Int)) (by omega)]; rfl
   have hci:aZ l (i:Int)=some (cN l i):=by rw [getI_nat hi,get_getD (d:=(0:Int)) hi]; rfl
   have hcl:=aAg l s rule i
   have ni:=rG ho hi
   have:=runS (ρ:=bH (List aM × Int) (aM × aM × Int)) (fun k:Nat=>(sQ l s rule i (oP l s rule i) k,(k:Int))) 2 (fun s32:List aM × Int=>eU N l s rule (i:Int) s32.1 s32.2) (fun k hk=>by
    have hkl:=yK l s rule i (oP l s rule i) (k + 1)
    have bk : -4≤aBp s rule i k∧aBp s rule i k≤200000:=pQ (by omega)
    show eU N l s rule (i:Int) (sQ l s rule i (oP l s rule i) k) (k:Int)=_
    unfold eU jS
    rw [decide_eq_true (show (k:Int) < 2 by omega),cond_true,hsi,Option.bind_some,W_id (n:=sI s i + (k:Int)) (by omega) (by omega),tU (by omega),hci,Option.bind_some,W_id (n:=2 * cN l i) (by omega) (by omega),W_succ (by omega)]
    show cond (decide (0 < aBp s rule i k)) (Option.bind (nG N (nI l i) (aBp s rule i k)) _) _=some (bH.cont (sQ l s rule i (oP l s rule i) (k + 1),_))
    rw [sQ] at hkl ⊢
    by_cases h0:0 < aBp s rule i k
    ·rw [decide_eq_true h0,cond_true,cond_true] at *
     rw [aH2 hN (by omega) (by omega),Option.bind_some,room_ok (by omega),Option.bind_some]
    ·rw [decide_eq_false h0,cond_false,cond_false,List.append_nil]) (by
    show eU N l s rule (i:Int) _ ((2:Nat):Int)=_
    unfold eU
    rw [decide_eq_false (show ¬ ((2:Nat):Int) < 2 by omega),cond_false]) (N:=N) (by omega)
   exact this
  have h1:=runS (ρ:=aM × aM × Int) (fun i:Nat=>(oP l s rule i,(i:Int))) l.length (fun s9=>gA N l s rule s9.1 s9.2) (fun i hi=>by
   show gA N l s rule (oP l s rule i) (i:Int)=_
   unfold gA
   rw [lt_dec hi,cond_true,hin i hi,Option.bind_some]
   show some (bH.cont (_,W ((i:Int) + 1)))=_
   rw [W_succ (by omega)]) (by
   show gA N l s rule _ (l.length:Int)=_
   unfold gA
   rw [ge_dec,cond_false]) (N:=N) (by omega)
  show Option.bind (aT _ N (oP l s rule 0,((0:Nat):Int))) _=_
  rw [h1,Option.bind_some]
  have hLlen:=aAg l s rule l.length
  have hLis:=aGi ho l.length (Nat.le_refl _)
  have hlow:=aMr ho
  have hhigh:=aJ9 ho
  generalize oP l s rule l.length=L at hLlen hLis hlow hhigh ⊢
  obtain ⟨s',h2,h3⟩:=loopInv (ρ:=aM × aM × Int) (fun s13:Int × Int × Int × Int × Int=>fP N l s rule L s13.1 s13.2.1 s13.2.2.1 s13.2.2.2.1 s13.2.2.2.2)
   (fun i st=>∃ x y:aM,st=((i:Int),x.N,x.D,y.N,y.D)∧((x.D=0∧y.D=0∧∀ j,j < i→rZ l s rule (L.getD j x0)=false) ∨ Both l s rule L i x y)) L.length
   (fun i st hi hst=>by
    obtain ⟨x,y,rfl,hxy⟩:=hst
    have hmem:L.getD i x0 ∈ L:=by rw [← get_getD (d:=x0) hi]; exact List.getElem_mem hi
    have hic:=hLis _ hmem
    have hib:=uJ hic
    have hgi:aZ L (i:Int)=some (L.getD i x0):=by rw [getI_nat hi,get_getD (d:=x0) hi]
    show ∃ s',fP N l s rule L (i:Int) x.N x.D y.N y.D=some (.cont s')∧_
    unfold fP jK gX
    rw [lt_dec hi,cond_true,hgi,Option.bind_some,aBi hN hl hs,aKd h hic,Option.bind_some,W_succ (by omega)]
    have e0:((rZ l s rule (L.getD i x0),(0:Int)).2 != 0 || !(rZ l s rule (L.getD i x0),(0:Int)).1) = !rZ l s rule (L.getD i x0):=by cases rZ l s rule (L.getD i x0) <;> rfl
    rw [e0]
    cases hp:rZ l s rule (L.getD i x0) with
    | false=>
     refine ⟨_,rfl,x,y,rfl,?_⟩
     rcases hxy with ⟨a,b,c⟩ | hB
     ·exact .inl ⟨a,b,fun j hj=>by
       by_cases hji:j=i
       ·subst hji; exact hp
       ·exact c j (by omega)⟩
     ·refine .inr ⟨hB.xm,hB.ym,fun j hj hjp=>?_⟩
      by_cases hji:j=i
      ·subst hji; rw [hp] at hjp; cases hjp
      ·exact hB.all j (by omega) hjp
    | true=>
     rw [Bool.not_true,cond_false,Option.bind_some,Option.bind_some]
     rcases hxy with ⟨a,b,c⟩ | hB
     ·rw [a,b]
      refine ⟨_,rfl,L.getD i x0,L.getD i x0,rfl,.inr ⟨⟨hmem,hp⟩,⟨hmem,hp⟩,fun j hj hjp=>?_⟩⟩
      by_cases hji:j=i
      ·subst hji; exact ⟨Int.le_refl _,Int.le_refl _⟩
      ·rw [c j (by omega)] at hjp; cases hjp
     ·have xb:=uJ (hLis x hB.xm.1)
      have yb:=uJ (hLis y hB.ym.1)
      have m1:=mul_bd (a:=(L.getD i x0).N) (b:=x.D) (A:=2000000) (B:=200000) (by omega) (by omega) (by omega) (by omega)
      have m2:=mul_bd (a:=x.N) (b:=(L.getD i x0).D) (A:=2000000) (B:=200000) (by omega) (by omega) (by omega) (by omega)
      have m3:=mul_bd (a:=y.N) (b:=(L.getD i x0).D) (A:=2000000) (B:=200000) (by omega) (by omega) (by omega) (by omega)
      have m4:=mul_bd (a:=(L.getD i x0).N) (b:=y.D) (A:=2000000) (B:=200000) (by omega) (by omega) (by omega) (by omega)
      have ex:(x.D == 0)=false:=beq_eq_false_iff_ne.2 (by omega)
      have ey:(y.D == 0)=false:=beq_eq_false_iff_ne.2 (by omega)
      rw [ex,ey]
      simp only [Option.bind_some,cond_false]
      rw [W_id (n:=(L.getD i x0).N * x.D) (by omega) (by omega),W_id (n:=x.N * (L.getD i x0).D) (by omega) (by omega),W_id (n:=y.N * (L.getD i x0).D) (by omega) (by omega),W_id (n:=(L.getD i x0).N * y.D) (by omega) (by omega)]
      have hNew:∀ z:aM,z ∈ L→1≤z.D→1≤z.N:=fun z hz _=>(uJ (hLis z hz)).1.1
      -- the least
      have hx':∃ x',(x'=x ∨ x'=L.getD i x0)∧(∀ j,j < i + 1→rZ l s rule (L.getD j x0)=true→x'.N * (L.getD j x0).D≤(L.getD j x0).N * x'.D)∧x'=cond (decide ((L.getD i x0).N * x.D < x.N * (L.getD i x0).D)) (L.getD i x0) x:=by
       by_cases hlt:(L.getD i x0).N * x.D < x.N * (L.getD i x0).D
       ·refine ⟨L.getD i x0,.inr rfl,fun j hj hjp=>?_,by rw [decide_eq_true hlt]; rfl⟩
        by_cases hji:j=i
        ·subst hji; exact Int.le_refl _
        ·have hjm:L.getD j x0 ∈ L:=by rw [← get_getD (d:=x0) (show j < L.length by omega)]; exact List.getElem_mem _
         have jb:=uJ (hLis _ hjm)
         have:=hB.all j (by omega) hjp
         have h5:=vR (a:=(L.getD j x0).N) (b:=x.N) (c:=(L.getD i x0).N) (x:=(L.getD j x0).D) (y:=x.D) (z:=(L.getD i x0).D) (by omega) (by omega) (by omega) this.1 (by omega)
         exact h5
       ·refine ⟨x,.inl rfl,fun j hj hjp=>?_,by rw [decide_eq_false hlt]; rfl⟩
        by_cases hji:j=i
        ·subst hji; omega
        ·exact (hB.all j (by omega) hjp).1
      have hy':∃ y',(y'=y ∨ y'=L.getD i x0)∧(∀ j,j < i + 1→rZ l s rule (L.getD j x0)=true→(L.getD j x0).N * y'.D≤y'.N * (L.getD j x0).D)∧y'=cond (decide (y.N * (L.getD i x0).D < (L.getD i x0).N * y.D)) (L.getD i x0) y:=by
       by_cases hlt:y.N * (L.getD i x0).D < (L.getD i x0).N * y.D
       ·refine ⟨L.getD i x0,.inr rfl,fun j hj hjp=>?_,by rw [decide_eq_true hlt]; rfl⟩
        by_cases hji:j=i
        ·subst hji; exact Int.le_refl _
        ·have hjm:L.getD j x0 ∈ L:=by rw [← get_getD (d:=x0) (show j < L.length by omega)]; exact List.getElem_mem _
         have jb:=uJ (hLis _ hjm)
         have:=hB.all j (by omega) hjp
         have h5:=vR (a:=(L.getD i x0).N) (b:=y.N) (c:=(L.getD j x0).N) (x:=(L.getD i x0).D) (y:=y.D) (z:=(L.getD j x0).D) (by omega) (by omega) (by omega) (by omega) this.2
         exact h5
       ·refine ⟨y,.inl rfl,fun j hj hjp=>?_,by rw [decide_eq_false hlt]; rfl⟩
        by_cases hji:j=i
        ·subst hji; omega
        ·exact (hB.all j (by omega) hjp).2
      obtain ⟨x',hx1,hx2,hx3⟩:=hx'
      obtain ⟨y',hy1,hy2,hy3⟩:=hy'
      refine ⟨(((i + 1:Nat):Int),x'.N,x'.D,y'.N,y'.D),?_,x',y',rfl,.inr ⟨?_,?_,fun j hj hjp=>⟨hx2 j hj hjp,hy2 j hj hjp⟩⟩⟩
      ·rw [hx3,hy3]
       cases decide ((L.getD i x0).N * x.D < x.N * (L.getD i x0).D) <;> cases decide (y.N * (L.getD i x0).D < (L.getD i x0).N * y.D) <;> rfl
      ·rcases hx1 with rfl | rfl
       ·exact hB.xm
       ·exact ⟨hmem,hp⟩
      ·rcases hy1 with rfl | rfl
       ·exact hB.ym
       ·exact ⟨hmem,hp⟩)
   (fun st hst=>by
    obtain ⟨x,y,rfl,-⟩:=hst
    show fP N l s rule L (L.length:Int) _ _ _ _=_
    unfold fP
    rw [ge_dec,cond_false]) L.length 0 (0,0,0,0,0) N (by omega) (by omega) ⟨x0,x0,rfl,.inl ⟨rfl,rfl,fun j hj=>absurd hj (by omega)⟩⟩
  obtain ⟨x,y,rfl,hxy⟩:=h3
  show Option.bind (aT _ N (0,0,0,0,0)) _=_
  rw [h2,Option.bind_some]
  show cond (x.D == 0) _ (some (x,y,(0:Int)))=_
  have hidx:∀ z,z ∈ L→∃ j,j < L.length∧L.getD j x0=z:=fun z hz=>by
   obtain ⟨j,hj,hjz⟩:=List.getElem_of_mem hz
   exact ⟨j,hj,by rw [← get_getD (d:=x0) hj]; exact hjz⟩
  by_cases hm:(high l s rule).1 * (low l s rule).2 < (low l s rule).1 * (high l s rule).2
  ·rw [if_pos hm]
   have hx0:x.D=0:=by
    rcases hxy with ⟨a,-,-⟩ | hB
    ·exact a
    ·have:=aEq ho hm (hLis x hB.xm.1)
     rw [hB.xm.2] at this
     cases this
   rw [hx0]
   rfl
  ·rw [if_neg hm]
   have lp:=aAd ho hm
   have lb:=xX ho
   have hb:=vW ho
   have q1:=aF0 ho hm
   have q2:=aE5 ho hm
   obtain ⟨j1,hj1,e1⟩:=hidx _ (hlow lp)
   obtain ⟨j2,hj2,e2⟩:=hidx _ hhigh
   rcases hxy with ⟨-,-,hno⟩ | hB
   ·have:=hno j1 hj1
    rw [e1,q1] at this
    cases this
   ·have xb:=uJ (hLis x hB.xm.1)
    have ex:(x.D == 0)=false:=beq_eq_false_iff_ne.2 (by omega)
    rw [ex,cond_false]
    have a1:=(hB.all j1 hj1 (by rw [e1]; exact q1)).1
    have a2:=(hB.all j2 hj2 (by rw [e2]; exact q2)).2
    rw [e1] at a1
    rw [e2] at a2
    obtain ⟨bx1,-⟩:=aDs ho (hLis x hB.xm.1) hB.xm.2
    obtain ⟨-,by2⟩:=aDs ho (hLis y hB.ym.1) hB.ym.2
    obtain ⟨nx,dx,hnx,hdx,rfl⟩:=hLis x hB.xm.1
    obtain ⟨ny,dy,hny,hdy,rfl⟩:=hLis y hB.ym.1
    have u1:eS nx dx=eS (low l s rule).1 (low l s rule).2:=by
     refine aCj hnx.1 hdx.1 lb.1.1 lp ?_
     have b1:(eS nx dx).D * (eS (low l s rule).1 (low l s rule).2).N≤(eS nx dx).N * (eS (low l s rule).1 (low l s rule).2).D:=by
      rw [aDj lb.1.1 lp,Int.mul_comm (eS nx dx).D,Int.mul_comm (eS nx dx).N]
      exact bx1
     rw [Int.mul_comm (eS nx dx).D] at b1
     omega
    have u2:eS ny dy=eS (high l s rule).1 (high l s rule).2:=by
     refine aCj hny.1 hdy.1 hb.1.1 hb.2.1 ?_
     have b1:(eS ny dy).N * (eS (high l s rule).1 (high l s rule).2).D≤(eS ny dy).D * (eS (high l s rule).1 (high l s rule).2).N:=by
      rw [aDl hb.1.1 hb.2.1,Int.mul_comm (eS ny dy).D,Int.mul_comm (eS ny dy).N]
      exact by2
     rw [Int.mul_comm (eS ny dy).D] at b1
     omega
    rw [u1,u2]
 ·have:(qJ l s rule != 0)=true:=bne_iff_ne.2 h
  rw [if_neg h,this,cond_true]

theorem awake_true:fR 5000=some true:=by decide +kernel
theorem turns_true (debt:Int) (p:bU) (l s:List Int) (days rule:Int) (x:aM):fV 5000 debt p l s days rule x=some true:=by
 unfold fV
 by_cases hl:45 < p.Can.length ∨ 15 < l.length ∨ 15 < s.length ∨ (40 < days∧days≤366)
 ·have:((((decide (45 < ((p.Can.length:Nat):Int))) || (decide (15 < ((l.length:Nat):Int)))) || (decide (15 < ((s.length:Nat):Int)))) || ((decide (40 < days)) && (decide (days≤366))))=true:=by
   simp only [Bool.or_eq_true,Bool.and_eq_true,decide_eq_true_eq]
   omega
  rw [this,cond_true,awake_true]
  rfl
 ·have:((((decide (45 < ((p.Can.length:Nat):Int))) || (decide (15 < ((l.length:Nat):Int)))) || (decide (15 < ((s.length:Nat):Int)))) || ((decide (40 < days)) && (decide (days≤366))))=false:=by
   simp only [Bool.or_eq_false_iff,Bool.and_eq_false_iff,decide_eq_false_iff_not]
   omega
  have hc:∀ q:List Int,q.length≤1000000→lW 5000 q=some q:=by
   intro q hq
   unfold lW
   rw [room_ok hq]
   rfl
  obtain ⟨r1,a1,a2,a3⟩:=aDp (N:=5000) (by omega) (debt:=debt) (p:=p) (by omega)
  obtain ⟨r2,b1,b2,b3⟩:=aF1 (N:=5000) (by omega) (l:=l) (by omega) (days:=days) (rule:=rule) (by omega)
  rw [this,cond_false,hc l (by omega),Option.bind_some,hc s (by omega),Option.bind_some,hc p.Can (by omega),Option.bind_some]
  show Option.bind (fZ 5000 debt p) _=_
  rw [a1,Option.bind_some,a2,Option.bind_some,same_int (by omega) (by omega),Option.bind_some,bne_self_eq_false,Bool.not_true,Bool.or_false,cond_false,
   b1,Option.bind_some,b2,Option.bind_some,same_int (by omega) (by omega),Option.bind_some,bne_self_eq_false,Bool.not_true,Bool.or_false,cond_false,
   aEe (by omega) (by omega) (by omega),Option.bind_some,aFv (by omega) (by omega) (by omega),Option.bind_some,bne_self_eq_false,bne_self_eq_false,bne_self_eq_false,Bool.or_false,Bool.or_false,cond_false,
   aH8 (by omega) (by omega) (by omega),Option.bind_some,aKa (by omega) (by omega) (by omega),Option.bind_some,beq_self_eq_true,beq_self_eq_true,beq_self_eq_true,beq_self_eq_true,bne_self_eq_false,Bool.and_true,Bool.not_true,Bool.or_false,Bool.or_false,cond_false,
   aEc (by omega) (by omega) (by omega),Option.bind_some,aBi (by omega) (by omega) (by omega),Option.bind_some,beq_self_eq_true,beq_self_eq_true,same_int (by omega) (by omega),same_int (by omega) (by omega),same_int (by omega) (by omega),awake_true]
  rfl
end Go.Nilo.WW
set_option linter.unusedSimpArgs false
set_option linter.unusedVariables false
set_option maxRecDepth 100000
namespace Go.Nilo
theorem yR {σ ρ τ:Type} {s:σ} {f:σ→Option τ} {g:ρ→Option τ}:exK (.go s) f g=f s:=rfl
theorem aMa (N:Nat):∃ (T:aJ) (x y:aG),pK N=some T∧aZ T.Rights 0=some x∧aZ T.Rights 1=some y:=⟨_,_,_,rfl,rfl,rfl⟩
theorem aJ4 (N:Nat):∃ (U:aH × List aF) (a b:aI) (c d:aF),rJ N=some U∧aZ U.1.Table 0=some a∧aZ U.1.Table 1=some b∧aZ U.2 0=some c∧aZ U.2 1=some d:=⟨_,_,_,_,_,rfl,rfl,rfl,rfl,rfl⟩
theorem aC5 (N:Nat) (a b:Int):eE N a b=some ⟨a,b⟩:=rfl
theorem aLu (e:Int) {i:Nat} (hi:i < 26):eQ 5000 e (i:Int)=some (.cont ((i + 1:Nat):Int)):=by
 unfold eQ
 rw [show decide ((i:Int) < 26)=true by rw [decide_eq_true_eq]; omega,cond_true,inR,if_pos (by omega),W_succ (by omega)]
 obtain ⟨T,x,y,hT,t0,t1⟩:=aMa 5000
 obtain ⟨U,a,b,c,d,hU,u0,u1,u2,u3⟩:=aJ4 5000
 have l1:∀ {α:Type} {p q:α} {l:List α},aZ (p::q::l) 0=some p:=rfl
 have l2:∀ {α:Type} {p q:α} {l:List α},aZ (p::q::l) 1=some q:=rfl
 have l3:∀ {α:Type} {p q s:α} {l:List α},aZ (p::q::s::l) 2=some s:=rfl
 simp only [hT,hU,aC5,Option.bind_some,t0,t1,u0,u1,u2,u3,l1,l2,l3,uH,DD.debts_true,WW.turns_true,Bool.not_true]
 cases decide ((i:Int) < 7) <;> cases (decide (6 < (i:Int))) && (decide ((i:Int) < 17)) <;> cases decide (16 < (i:Int)) <;> rfl
theorem b4_ok {i:Nat} (hi:i < 46):fD 5000 (i:Int)=some (.cont ((i + 1:Nat):Int)):=by
 unfold fD
 rw [show decide ((i:Int) < (46:Int))=true by rw [decide_eq_true_eq]; omega,cond_true,W_succ (by omega)]
 have hL:∀ {L:List Int},L.length=46→∃ e,aZ L (i:Int)=some e:=fun {L} h=>⟨L[i]'(by omega),getI_nat (by omega)⟩
 obtain ⟨e,he⟩:=hL (L:=[(-1000000001),(-1000000000),(-1),0,1,2,3,4,6,7,9,10,11,12,13,14,15,20,24,30,40,41,60,90,99,100,101,103,120,140,160,185,200,250,366,367,999,1000,1001,999999,1000000,1000001,1000000000,1000000001,9223372036854775807,(-9223372036854775808)]) rfl
 rw [he,Option.bind_some]
 have h:=runS (ρ:=bH Int Bool) (fun k:Nat=>(k:Int)) 26 (fun s68:Int=>eQ 5000 e s68) (fun k hk=>aLu e hk) (by unfold eQ; rfl) (N:=5000) (by omega)
 have h':aT (fun s68:Int=>eQ 5000 e s68) 5000 0=some (.go 26):=h
 rw [h',Option.bind_some,yR,WW.turns_true]
 rfl
theorem l4_ok:aT (fun s4:Int=>fD 5000 s4) 5000 0=some (.go 46) :=
 runS (ρ:=Bool) (fun k:Nat=>(k:Int)) 46 (fun s4:Int=>fD 5000 s4) (fun k hk=>b4_ok hk) (by unfold fD; rfl) (N:=5000) (by omega)
end Go.Nilo
set_option linter.unusedSimpArgs false
set_option linter.unusedVariables false
set_option maxRecDepth 100000
namespace Go.Nilo
def q10 (n:Int):Bool :=
 match aT (fun s23:List aF × List Int × Int × List aG × List Int × List aI=>kJ 5000 n s23.1 s23.2.1 s23.2.2.1 s23.2.2.2.1 s23.2.2.2.2.1 s23.2.2.2.2.2) 5000 (([]:List aF),([]:List Int),0,([]:List aG),([]:List Int),([]:List aI)) with
 | some (.go s)=>(inM ((s.1.length:Nat):Int)).isSome && (inM ((s.2.1.length:Nat):Int)).isSome &&
  (match fZ 5000 0 (⟨1,100,s.2.2.2.2.1⟩:bU),hY 5000 (⟨min n 14,s.2.2.2.1⟩:aJ),eA 5000 (⟨s.2.2.2.2.2,0⟩:aH) with
  | some r8,some r9,some r10=>!((r9 == 0) != ((decide (0 < n)) && (decide (n < 13)))) && !((r10 == 0) != ((decide (1 < n)) && (decide (n < 13)))) && !((r8.2 == 0) != (decide (n < 41)))
  | _,_,_=>false)
 | _=>false
def q7 (n:Int):Bool :=
 match aT (fun s50:List aF × List aB × List Int × List Int × List Int × Int × List aG × List aI=>jX 5000 n s50.1 s50.2.1 s50.2.2.1 s50.2.2.2.1 s50.2.2.2.2.1 s50.2.2.2.2.2.1 s50.2.2.2.2.2.2.1 s50.2.2.2.2.2.2.2) 5000 (([]:List aF),([]:List aB),([]:List Int),([]:List Int),([]:List Int),0,([]:List aG),([]:List aI)) with
 | some (.go _)=>true
 | _=>false
theorem aKi:(List.range 46).all (fun n=>q10 (n:Int))=true:=by decide +kernel
theorem q7_0:(List.range 250).all (fun n=>q7 ((0 + n:Nat):Int))=true:=by decide +kernel
theorem q7_1:(List.range 250).all (fun n=>q7 ((250 + n:Nat):Int))=true:=by decide +kernel
theorem q7_2:(List.range 250).all (fun n=>q7 ((500 + n:Nat):Int))=true:=by decide +kernel
theorem q7_3:(List.range 250).all (fun n=>q7 ((750 + n:Nat):Int))=true:=by decide +kernel
theorem q7_4:(List.range 250).all (fun n=>q7 ((1000 + n:Nat):Int))=true:=by decide +kernel
theorem q7_5:(List.range 250).all (fun n=>q7 ((1250 + n:Nat):Int))=true:=by decide +kernel
theorem q7_6:(List.range 250).all (fun n=>q7 ((1500 + n:Nat):Int))=true:=by decide +kernel
theorem q7_7:(List.range 250).all (fun n=>q7 ((1750 + n:Nat):Int))=true:=by decide +kernel
theorem q7_ok {i:Nat} (hi:i < 2000):q7 (i:Int)=true:=by
 have h:∀ k,(List.range 250).all (fun n=>q7 ((k + n:Nat):Int))=true→k≤i→i < k + 250→q7 (i:Int)=true:=by
  intro k h h1 h2
  have:=List.all_eq_true.mp h (i - k) (List.mem_range.mpr (by omega))
  rwa [show k + (i - k)=i by omega] at this
 rcases Nat.lt_or_ge i 1000 with a | a
 ·rcases Nat.lt_or_ge i 500 with b | b
  ·rcases Nat.lt_or_ge i 250 with c | c
   ·exact h _ q7_0 (by omega) (by omega)
   ·exact h _ q7_1 (by omega) (by omega)
  ·rcases Nat.lt_or_ge i 750 with c | c
   ·exact h _ q7_2 (by omega) (by omega)
   ·exact h _ q7_3 (by omega) (by omega)
 ·rcases Nat.lt_or_ge i 1500 with b | b
  ·rcases Nat.lt_or_ge i 1250 with c | c
   ·exact h _ q7_4 (by omega) (by omega)
   ·exact h _ q7_5 (by omega) (by omega)
  ·rcases Nat.lt_or_ge i 1750 with c | c
   ·exact h _ q7_6 (by omega) (by omega)
   ·exact h _ q7_7 (by omega) (by omega)
theorem aLy {i:Nat} (hi:i < 46):q10 (i:Int)=true:=List.all_eq_true.mp aKi i (List.mem_range.mpr hi)
end Go.Nilo
set_option linter.unusedSimpArgs false
set_option linter.unusedVariables false
set_option maxRecDepth 100000
namespace Go.Nilo
theorem b7_ok {i:Nat} (hi:i < 2000):fE 5000 (i:Int)=some (.cont ((i + 1:Nat):Int)):=by
 have h:=q7_ok hi
 unfold q7 at h
 unfold fE
 rw [show decide ((i:Int) < 2000)=true by rw [decide_eq_true_eq]; omega,cond_true,W_succ (by omega)]
 revert h
 generalize aT (fun s50:List aF × List aB × List Int × List Int × List Int × Int × List aG × List aI=>jX 5000 (i:Int) s50.1 s50.2.1 s50.2.2.1 s50.2.2.2.1 s50.2.2.2.2.1 s50.2.2.2.2.2.1 s50.2.2.2.2.2.2.1 s50.2.2.2.2.2.2.2) 5000 _=o
 intro h
 rcases o with _ | (s | r)
 ·cases h
 ·simp only [Option.bind_some,yR,aC5,uH,DD.debts_true,WW.turns_true,Bool.not_true,cond_false]
 ·cases h
theorem l7_ok:aT (fun s7:Int=>fE 5000 s7) 5000 0=some (.go 2000) :=
 runS (ρ:=Bool) (fun k:Nat=>(k:Int)) 2000 (fun s7:Int=>fE 5000 s7) (fun k hk=>b7_ok hk) (by unfold fE; rfl) (N:=5000) (by omega)
theorem isS {x:Option Unit} (h:x.isSome=true):x=some ():=by
 cases x with
 | none=>cases h
 | some u=>rfl
theorem aLo {i:Nat} (hi:i < 46):eP 5000 (i:Int)=some (.cont ((i + 1:Nat):Int)):=by
 have h:=aLy hi
 unfold q10 at h
 unfold eP
 rw [show decide ((i:Int) < 46)=true by rw [decide_eq_true_eq]; omega,cond_true,W_succ (by omega)]
 revert h
 generalize aT (fun s23:List aF × List Int × Int × List aG × List Int × List aI=>kJ 5000 (i:Int) s23.1 s23.2.1 s23.2.2.1 s23.2.2.2.1 s23.2.2.2.2.1 s23.2.2.2.2.2) 5000 _=o
 intro h
 rcases o with _ | (s | r)
 ·cases h
 ·rw [Bool.and_eq_true,Bool.and_eq_true] at h
  obtain ⟨⟨ha,hb⟩,hc⟩:=h
  simp only [Option.bind_some,yR,aC5,uH,DD.debts_true,WW.turns_true,Bool.not_true,cond_false,isS ha,isS hb]
  revert hc
  rcases fZ 5000 0 (⟨1,100,s.2.2.2.2.1⟩:bU) with _ | r8
  ·intro hc; cases hc
  rcases hY 5000 (⟨min (i:Int) 14,s.2.2.2.1⟩:aJ) with _ | r9
  ·intro hc; cases hc
  rcases eA 5000 (⟨s.2.2.2.2.2,0⟩:aH) with _ | r10
  ·intro hc; cases hc
  intro hc
  rw [Bool.and_eq_true,Bool.and_eq_true,Bool.not_eq_true',Bool.not_eq_true',Bool.not_eq_true'] at hc
  simp only [Option.bind_some,hc.1.1,hc.1.2,hc.2,cond_false,Bool.false_or]
 ·cases h
theorem aMe:aT (fun s10:Int=>eP 5000 s10) 5000 0=some (.go 46) :=
 runS (ρ:=Bool) (fun k:Nat=>(k:Int)) 46 (fun s10:Int=>eP 5000 s10) (fun k hk=>aLo hk) (by unfold eP; rfl) (N:=5000) (by omega)
theorem aL5:(Option.bind (fG 5000 ([1000000,1,999999]:List Int) 366 1) fun r=>
 Option.bind (cond (r.2 == 0) (Option.bind (cK 5000 r.1 ([183,0,183]:List Int)) fun r_1=>some r_1) (some false)) fun t_1=>
 Option.bind (cond t_1 (Option.bind (fR 5000) fun r_2=>some r_2) (some false)) fun t_2=>some t_2)=some true:=by decide +kernel
theorem aHl:nF 5000=some true:=by
 unfold nF
 rw [l4_ok,Option.bind_some,yR,l7_ok,Option.bind_some,yR,aMe,Option.bind_some,yR]
 exact aL5
end Go.Nilo
