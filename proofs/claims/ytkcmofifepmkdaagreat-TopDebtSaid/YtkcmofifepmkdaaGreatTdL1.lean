/-
  What the plain functions compute, in plain arithmetic, part 1. Conditions: what each theorem names.
-/
import Derived.Test.YtkcmofifepmkdaaGreatTd5
set_option linter.unusedSimpArgs false
set_option linter.unusedVariables false
namespace Go.Nilo

theorem eH {n:Int} (h1 : -9223372036854775808≤n) (h2:n≤9223372036854775807):W n=n:=by
 unfold W
 rw [IntKind.wrap_i64]
 omega

theorem uW {α:Type} (f:α→Bool) (l:List α) (hl:l.length≤4611686018427387904) (b:Int→Option (dA Int Int))
  (hb:∀ x,b x=cond (decide (x < ((l.length:Nat):Int))) (Option.bind (cM l x) fun e=>cond (f e) (some (.ret x)) (some (.cont (W (x + 1))))) (some (.brk x))) :
  ∀ (m i N:Nat),i + m=l.length→m < N→(∃ k:Int,bN b N (i:Int)=some (.out k)∧0≤k∧(l.drop i).any f=true) ∨ (bN b N (i:Int)=some (.go ((l.length:Nat):Int))∧(l.drop i).any f=false)
 | m,i,0,_,h=>by omega
 | 0,i,N + 1,hi,_=>by
  right
  have hd:l.drop i=[]:=List.drop_eq_nil_of_le (by omega)
  have:(decide ((i:Int) < ((l.length:Nat):Int)))=false:=by simp; omega
  unfold bN
  rw [hb,this,hd]
  simp; omega
 | m + 1,i,N + 1,hi,hN=>by
  have hil:i < l.length:=by omega
  have h1:(decide ((i:Int) < ((l.length:Nat):Int)))=true:=by simp; omega
  have hg:cM l (i:Int)=some l[i]:=by unfold cM; simp [hil]
  have hdr:l.drop i=l[i]::l.drop (i + 1):=List.drop_eq_getElem_cons hil
  unfold bN
  rw [hb,h1,hg,hdr]
  cases hf:f l[i] with
  | true=>left; exact ⟨i,by simp only [cond_true,Option.bind_some,hf],by omega,by rw [List.any_cons,hf]; rfl⟩
  | false=>
   have hw:W ((i:Int) + 1)=((i + 1:Nat):Int):=by rw [eH (by omega) (by omega)]; push_cast; rfl
   rcases uW f l hl b hb m (i + 1) N (by omega) (by omega) with ⟨k,h2,h3,h4⟩ | ⟨h2,h3⟩
   ·left; exact ⟨k,by simp only [cond_true,cond_false,Option.bind_some,hf,hw]; exact h2,h3,by rw [List.any_cons,hf,h4]; rfl⟩
   ·right; exact ⟨by simp only [cond_true,cond_false,Option.bind_some,hf,hw]; exact h2,by rw [List.any_cons,hf,h3]; rfl⟩

theorem sN {a b:Int} (h:0≤a):a.tmod b=a % b:=Int.tmod_eq_emod_of_nonneg h
theorem xG {a b:Int} (h:0≤a):a.tdiv b=a / b:=Int.tdiv_eq_ediv_of_nonneg h

theorem kW {σ ρ:Type} (b:σ→Option (dA σ ρ)) (Inv:Nat→σ→Prop) (n:Nat) (hstep:∀ i s,i < n→Inv i s→∃ s',b s=some (.cont s')∧Inv (i + 1) s') (hend:∀ s,Inv n s→b s=some (.brk s)) :
  ∀ (m i:Nat) (s:σ) (N:Nat),i + m=n→m < N→Inv i s→∃ s',bN b N s=some (.go s')∧Inv n s'
 | m,i,s,0,_,h,_=>by omega
 | 0,i,s,N + 1,hi,_,hs=>by
  obtain rfl:i=n:=by omega
  exact ⟨s,by unfold bN; rw [hend s hs],hs⟩
 | m + 1,i,s,N + 1,hi,hN,hs=>by
  obtain ⟨s',h1,h2⟩:=hstep i s (by omega) hs
  obtain ⟨s'',h3,h4⟩:=kW b Inv n hstep hend m (i + 1) s' N (by omega) (by omega) h2
  exact ⟨s'',by unfold bN; rw [h1]; exact h3,h4⟩

theorem cF {α:Type} {l:List α} {i:Nat} (h:i < l.length):cM l (i:Int)=some l[i]:=by unfold cM; simp [h]
theorem iF {i:Nat} (h:i < 9223372036854775807):W ((i:Int) + 1)=((i + 1:Nat):Int):=by rw [eH (by omega) (by omega)]; push_cast; rfl

def aHu {α:Type} (f:α→Int) (l:List α):Int:=(l.map f).sum
theorem aCm {α:Type} (f:α→Int) (l:List α) (i:Nat) (h:i < l.length):aHu f (l.take (i + 1))=aHu f (l.take i) + f l[i]:=by
 unfold aHu
 rw [List.take_succ_eq_append_getElem h,List.map_append,List.sum_append,List.map_cons,List.map_nil,List.sum_cons,List.sum_nil,Int.add_zero]

theorem gY {n:Nat} (h:n≤1000000):nQ n=some ():=by unfold nQ; rw [if_pos h]
theorem sM {l:List Int} {i:Nat} (h:i < l.length):cM l (i:Int)=some (l.getD i 0):=by rw [cF h]; simp [List.getD,h]

theorem jV {α:Type} {l:List α} {x d:α} {j:Nat} (h:j < l.length):(l++[x]).getD j d=l.getD j d:=by simp [List.getD,List.getElem?_append_left h]
theorem jS {α:Type} {l:List α} {x d:α}:(l++[x]).getD l.length d=x:=by simp [List.getD]
theorem cT {α:Type} {l:List α} {d:α} {j:Nat} (h:j < l.length):l[j]=l.getD j d:=by simp [List.getD,h]

theorem aP8 {a b A B:Int} (h0:0≤a) (h1:0≤b) (h2:a≤A) (h3:b≤B):0≤a * b∧a * b≤A * B :=
 ⟨Int.mul_nonneg h0 h1,Int.mul_le_mul h2 h3 h1 (by omega)⟩


theorem aAv {α:Type} (f:α→Bool) (l:List α) (hl:l.length≤1000000) (b:Int→Option (dA Int Int))
  (hb:∀ x,b x=cond (decide (x < ((l.length:Nat):Int))) (Option.bind (cM l x) fun e=>cond (f e) (some (.ret x)) (some (.cont (W (x + 1))))) (some (.brk x))) :
  ∀ (m i N:Nat),i + m=l.length→m < N→(∀ j (h:j < l.length),j < i→f l[j]=false) →
   (l.findIdx f < l.length∧bN b N (i:Int)=some (.out ((l.findIdx f:Nat):Int))) ∨ (l.findIdx f=l.length∧bN b N (i:Int)=some (.go ((l.length:Nat):Int)))
 | m,i,0,_,h,_=>by omega
 | 0,i,N + 1,hi,_,hf=>by
  right
  have hall:l.findIdx f=l.length:=by
   rw [List.findIdx_eq_length]
   intro x hx
   obtain ⟨j,hj,rfl⟩:=List.getElem_of_mem hx
   exact hf j hj (by omega)
  have hd:(decide ((i:Int) < ((l.length:Nat):Int)))=false:=by simp; omega
  refine ⟨hall,?_⟩
  unfold bN
  rw [hb,hd]
  simp; omega
 | m + 1,i,N + 1,hi,hN,hf=>by
  have hil:i < l.length:=by omega
  have h1:(decide ((i:Int) < ((l.length:Nat):Int)))=true:=by simp; omega
  unfold bN
  rw [hb,h1,cF hil]
  cases hfi:f l[i] with
  | true=>
   left
   have he:l.findIdx f=i:=(List.findIdx_eq hil).2 ⟨hfi,fun j hj=>hf j (by omega) hj⟩
   exact ⟨by omega,by simp only [cond_true,Option.bind_some,hfi,he]⟩
  | false=>
   have ih:=aAv f l hl b hb m (i + 1) N (by omega) (by omega) (fun j h hj=>by
    by_cases hji:j=i
    ·subst hji; exact hfi
    ·exact hf j h (by omega))
   simp only [cond_true,cond_false,Option.bind_some,hfi,iF (i:=i) (by omega)]
   exact ih

theorem nF {i n:Nat} (h:i < n):decide ((i:Int) < (n:Int))=true:=by simp; omega
theorem nC {n:Nat}:decide ((n:Int) < (n:Int))=false:=by simp

def aGh {ρ:Type} (g:Nat→Option ρ):Nat→Nat→Option ρ
 | _,0=>none
 | i,m + 1=>match g i with
  | some r=>some r
  | none=>aGh g (i + 1) m
theorem aO2 {σ ρ:Type} (st:Nat→σ) (g:Nat→Option ρ) (n:Nat) (b:σ→Option (dA σ ρ))
  (hb:∀ (i:Nat),i < n→b (st i)=some (match g i with | some r=>.ret r | none=>.cont (st (i + 1)))) (hend:b (st n)=some (.brk (st n))) :
  ∀ (m i N:Nat),i + m=n→m < N→bN b N (st i)=some (match aGh g i m with | some r=>.out r | none=>.go (st n))
 | m,i,0,_,h=>by omega
 | 0,i,N + 1,hi,_=>by
  obtain rfl:i=n:=by omega
  unfold bN
  rw [hend]
  rfl
 | m + 1,i,N + 1,hi,hN=>by
  unfold bN aGh
  rw [hb i (by omega)]
  cases hf:g i with
  | some r=>rfl
  | none=>exact aO2 st g n b hb hend m (i + 1) N (by omega) (by omega)
theorem aEl {σ ρ:Type} (st:Nat→σ) (n:Nat) (b:σ→Option (dA σ ρ)) (hb:∀ (i:Nat),i < n→b (st i)=some (.cont (st (i + 1)))) (hend:b (st n)=some (.brk (st n))) {N:Nat} (hN:n < N):bN b N (st 0)=some (.go (st n)):=by
 have hno:∀ (m i:Nat),aGh (fun _=>(none:Option ρ)) i m=none:=by
  intro m
  induction m with
  | zero=>intro i; rfl
  | succ m ih=>intro i; exact ih (i + 1)
 have:=aO2 st (fun _=>(none:Option ρ)) n b (fun i h=>hb i h) hend n 0 N (by omega) hN
 rw [this,hno]


theorem aKo {N:Nat} {α:Type} {l:List α} {f ok:α→Bool} (hf:∀ x,f x = !ok x) (hl:l.length < N) (hl':l.length≤1000000) (b:Int→Option (dA Int Int))
  (hb:∀ x,b x=cond (decide (x < ((l.length:Nat):Int))) (Option.bind (cM l x) fun e=>cond (f e) (some (.ret x)) (some (.cont (W (x + 1))))) (some (.brk x))) :
  (Option.bind (Option.bind (Option.bind (bN b N 0) fun x4=>exK x4 (fun _=>some (-1)) some) fun r=>some (decide (0≤r))) fun r=>some (!r))=some (l.all ok):=by
 have hany:l.any f = !l.all ok:=by
  rw [List.all_eq_not_any_not,Bool.not_not]
  congr 1
  exact funext hf
 rcases uW f l (by omega) b hb l.length 0 N (by omega) (by omega) with ⟨k,a1,a2,a3⟩ | ⟨a1,a2⟩
 ·rw [List.drop_zero,hany] at a3
  rw [show ((0:Nat):Int)=0 from rfl] at a1
  rw [a1]
  have:l.all ok=false:=by simpa using a3
  rw [this]
  simp [exK,a2]
 ·rw [List.drop_zero,hany] at a2
  rw [show ((0:Nat):Int)=0 from rfl] at a1
  rw [a1]
  have:l.all ok=true:=by simpa using a2
  rw [this]
  simp [exK]
end Go.Nilo
namespace Go.Nilo.Ba
structure Wx where
 f:Nat
 t:Nat
 lo:Int
 hi:Int
 x:Int
def w0:Wx:=⟨0,0,0,0,0⟩
def ovr:List Wx→Nat→Int
 | [],_=>0
 | w::l,p=>((if w.t=p then w.x else 0) - (if w.f=p then w.x else 0)) + ovr l p
def rL (S:Nat→Bool):List Wx→Int
 | []=>0
 | w::l=>((if S w.t=true then w.x else 0) - (if S w.f=true then w.x else 0)) + rL S l
def jE (f:Nat→Int):Nat→Int
 | 0=>0
 | n + 1=>jE f n + f n
theorem aCb (f g:Nat→Int):∀ n,jE (fun p=>f p + g p) n=jE f n + jE g n
 | 0=>rfl
 | n + 1=>by
  show jE (fun p=>f p + g p) n + (f n + g n)=jE f n + f n + (jE g n + g n)
  rw [aCb f g n]
  omega
theorem iN:∀ n,jE (fun _=>0) n=0
 | 0=>rfl
 | n + 1=>by
  show jE (fun _=>0) n + 0=0
  rw [iN n]
  rfl
theorem qR {f g:Nat→Int}:∀ {n},(∀ p,p < n→f p=g p)→jE f n=jE g n
 | 0,_=>rfl
 | n + 1,h=>by
  show jE f n + f n=jE g n + g n
  rw [qR fun p hp=>h p (by omega),h n (by omega)]
theorem oE {f g:Nat→Int}:∀ {n},(∀ p,p < n→f p≤g p)→jE f n≤jE g n
 | 0,_=>Int.le_refl _
 | n + 1,h=>by
  have a:=oE (f:=f) (g:=g) (n:=n) fun p hp=>h p (by omega)
  have b:=h n (by omega)
  show jE f n + f n≤jE g n + g n
  omega
theorem tC (c:Int):∀ n,jE (fun _=>c) n=n * c
 | 0=>by show (0:Int)=_; simp
 | n + 1=>by
  show jE (fun _=>c) n + c=_
  rw [tC c n]
  have:((n + 1:Nat):Int) * c=(n:Int) * c + c:=by push_cast; rw [Int.add_mul,Int.one_mul]
  omega
theorem aCu (S:Nat→Bool) (q:Nat) (x:Int):∀ n,jE (fun p=>if S p=true then (if q=p then x else 0) else 0) n=if q < n then (if S q=true then x else 0) else 0
 | 0=>by
  rw [if_neg (by omega)]
  rfl
 | n + 1=>by
  show jE (fun p=>if S p=true then (if q=p then x else 0) else 0) n + (if S n=true then (if q=n then x else 0) else 0)=_
  rw [aCu S q x n]
  by_cases h:q=n
  ·subst h
   rw [if_neg (show ¬ q < q by omega),if_pos (rfl:q=q),if_pos (show q < q + 1 by omega),Int.zero_add]
  ·rw [if_neg h]
   have e0:(if S n=true then (0:Int) else 0)=0:=by split <;> rfl
   rw [e0,Int.add_zero]
   by_cases h2:q < n
   ·rw [if_pos h2,if_pos (show q < n + 1 by omega)]
   ·rw [if_neg h2,if_neg (show ¬ q < n + 1 by omega)]
theorem aHj (f:Nat→Int):∀ n,jE (fun p=>-f p) n = -jE f n
 | 0=>rfl
 | n + 1=>by
  show jE (fun p=>-f p) n + -f n = -(jE f n + f n)
  rw [aHj f n]
  omega
theorem xY {K:Nat} {S:Nat→Bool}:∀ {l:List Wx},(∀ w ∈ l,w.f < K∧w.t < K)→jE (fun p=>if S p=true then ovr l p else 0) K=rL S l
 | [],_=>by
  have:(fun p=>if S p=true then ovr [] p else 0)=fun _=>(0:Int):=by funext p; unfold ovr; split <;> rfl
  rw [this,iN]
  rfl
 | w::l,h=>by
  have ih:=xY (K:=K) (S:=S) (l:=l) fun v hv=>h v (List.mem_cons_of_mem _ hv)
  obtain ⟨hf,ht⟩:=h w List.mem_cons_self
  have e:(fun p=>if S p=true then ovr (w::l) p else 0)=fun p=>(fun p=>if S p=true then (if w.t=p then w.x else 0) else 0) p + (fun p=>(fun p=>-(if S p=true then (if w.f=p then w.x else 0) else 0)) p + (if S p=true then ovr l p else 0)) p:=by
   funext p
   show (if S p=true then ((if w.t=p then w.x else 0) - (if w.f=p then w.x else 0)) + ovr l p else 0)=_
   dsimp only
   by_cases hs:S p=true
   ·rw [if_pos hs,if_pos hs,if_pos hs,if_pos hs]; omega
   ·rw [if_neg hs,if_neg hs,if_neg hs,if_neg hs]; rfl
  show jE (fun p=>if S p=true then ovr (w::l) p else 0) K=((if S w.t=true then w.x else 0) - (if S w.f=true then w.x else 0)) + rL S l
  rw [e,aCb,aCb,aHj,aCu,aCu,ih,if_pos ht,if_pos hf]
  omega
def Sim:List Wx→List Wx→Prop
 | [],[]=>True
 | a::l,b::m=>(a.f=b.f∧a.t=b.t∧a.lo=b.lo∧a.hi=b.hi)∧Sim l m
 | _,_=>False
theorem aIh {S:Nat→Bool}:∀ {l m:List Wx},Sim l m→(∀ i,i < l.length→(S (l.getD i w0).f=true→S (l.getD i w0).t=false→(m.getD i w0).x≤(l.getD i w0).x)∧(S (l.getD i w0).f=false→S (l.getD i w0).t=true→(l.getD i w0).x≤(m.getD i w0).x))→rL S l≤rL S m
 | [],[],_,_=>Int.le_refl _
 | [],_::_,h,_=>h.elim
 | _::_,[],h,_=>h.elim
 | w::l,v::m,hs,h=>by
  have ih:=aIh (S:=S) (l:=l) (m:=m) hs.2 fun i hi=>h (i + 1) (by simp; omega)
  obtain ⟨a,b⟩:=h 0 (by simp)
  have a':S w.f=true→S w.t=false→v.x≤w.x:=a
  have b':S w.f=false→S w.t=true→w.x≤v.x:=b
  obtain ⟨⟨e1,e2,-,-⟩,-⟩:=hs
  show ((if S w.t=true then w.x else 0) - (if S w.f=true then w.x else 0)) + rL S l≤((if S v.t=true then v.x else 0) - (if S v.f=true then v.x else 0)) + rL S m
  rw [← e1,← e2]
  cases hs:S w.t <;> cases hs':S w.f
  ·simp; omega
  ·have:=a' hs' hs
   simp; omega
  ·have:=b' hs' hs
   simp; omega
  ·simp; omega
theorem aMl {S:Nat→Bool} {l m:List Wx} (hs:Sim l m) {k:Nat} (hk:k < l.length) (h:∀ i,i < l.length→i ≠ k→(S (l.getD i w0).f=true→S (l.getD i w0).t=false→(m.getD i w0).x≤(l.getD i w0).x)∧(S (l.getD i w0).f=false→S (l.getD i w0).t=true→(l.getD i w0).x≤(m.getD i w0).x))
  (h1:S (l.getD k w0).f=false∧S (l.getD k w0).t=true∧(l.getD k w0).x < (m.getD k w0).x ∨ S (l.getD k w0).f=true∧S (l.getD k w0).t=false∧(m.getD k w0).x < (l.getD k w0).x):rL S l < rL S m:=by
 induction l generalizing m k with
 | nil=>simp at hk
 | cons w l ih=>
  cases m with
  | nil=>exact hs.elim
  | cons v m=>
   have hs':=hs
   obtain ⟨⟨e1,e2,-,-⟩,hs2⟩:=hs'
   show ((if S w.t=true then w.x else 0) - (if S w.f=true then w.x else 0)) + rL S l < ((if S v.t=true then v.x else 0) - (if S v.f=true then v.x else 0)) + rL S m
   rw [← e1,← e2]
   cases k with
   | zero=>
    have c:=aIh hs2 fun i hi=>h (i + 1) (by simp; omega) (by omega)
    have h1':S w.f=false∧S w.t=true∧w.x < v.x ∨ S w.f=true∧S w.t=false∧v.x < w.x:=h1
    rcases h1' with ⟨p,q,r⟩ | ⟨p,q,r⟩
    ·rw [p,q]; simp; omega
    ·rw [p,q]; simp; omega
   | succ k=>
    have c:=ih hs2 (k:=k) (by simpa using hk) (fun i hi hik=>h (i + 1) (by simp; omega) (by omega)) h1
    obtain ⟨a,b⟩:=h 0 (by simp) (by omega)
    have a':S w.f=true→S w.t=false→v.x≤w.x:=a
    have b':S w.f=false→S w.t=true→w.x≤v.x:=b
    cases hs:S w.t <;> cases hs':S w.f
    ·simp; omega
    ·have:=a' hs' hs
     simp; omega
    ·have:=b' hs' hs
     simp; omega
    ·simp; omega
theorem Sim.refl:∀ l:List Wx,Sim l l
 | []=>trivial
 | _::l=>⟨⟨rfl,rfl,rfl,rfl⟩,Sim.refl l⟩
theorem Sim.len:∀ {l m:List Wx},Sim l m→l.length=m.length
 | [],[],_=>rfl
 | [],_::_,h=>h.elim
 | _::_,[],h=>h.elim
 | _::l,_::m,h=>by simp [Sim.len h.2]
theorem Sim.get:∀ {l m:List Wx},Sim l m→∀ i,(l.getD i w0).f=(m.getD i w0).f∧(l.getD i w0).t=(m.getD i w0).t∧(l.getD i w0).lo=(m.getD i w0).lo∧(l.getD i w0).hi=(m.getD i w0).hi
 | [],[],_,i=>⟨rfl,rfl,rfl,rfl⟩
 | [],_::_,h,_=>h.elim
 | _::_,[],h,_=>h.elim
 | _::_,_::_,h,0=>h.1
 | _::_,_::_,h,i + 1=>Sim.get h.2 i
theorem Sim.symm':∀ {l m:List Wx},Sim l m→Sim m l
 | [],[],_=>trivial
 | [],_::_,h=>h.elim
 | _::_,[],h=>h.elim
 | _::_,_::_,h=>⟨⟨h.1.1.symm,h.1.2.1.symm,h.1.2.2.1.symm,h.1.2.2.2.symm⟩,Sim.symm' h.2⟩
theorem Sim.trans:∀ {l m n:List Wx},Sim l m→Sim m n→Sim l n
 | [],[],[],_,_=>trivial
 | [],[],_::_,_,h=>h.elim
 | [],_::_,_,h,_=>h.elim
 | _::_,[],_,h,_=>h.elim
 | _::_,_::_,[],_,h=>h.elim
 | _::_,_::_,_::_,h,g=>⟨⟨h.1.1.trans g.1.1,h.1.2.1.trans g.1.2.1,h.1.2.2.1.trans g.1.2.2.1,h.1.2.2.2.trans g.1.2.2.2⟩,Sim.trans h.2 g.2⟩
def Wx.free (w:Wx) (b:Bool):Int:=cond b (w.x - w.lo) (w.hi - w.x)
def Wx.push (w:Wx) (b:Bool) (n:Int):Wx:=⟨w.f,w.t,w.lo,w.hi,cond b (w.x - n) (w.x + n)⟩
def Wx.tg (w:Wx) (b:Bool):Nat:=cond b w.f w.t
def Wx.og (w:Wx) (b:Bool):Nat:=cond b w.t w.f
theorem Sim.set {w:Wx} {b:Bool} {n:Int}:∀ {l:List Wx} {i:Nat},Sim (l.set i ((l.getD i w0).push b n)) l
 | [],_=>trivial
 | _::l,0=>⟨⟨rfl,rfl,rfl,rfl⟩,Sim.refl l⟩
 | _::l,i + 1=>⟨⟨rfl,rfl,rfl,rfl⟩,Sim.set (w:=w) (l:=l) (i:=i)⟩
theorem aDk {b:Bool} {n:Int} {q:Nat}:∀ {l:List Wx} {i:Nat},i < l.length→ovr (l.set i ((l.getD i w0).push b n)) q=ovr l q + (if (l.getD i w0).tg b=q then n else 0) - (if (l.getD i w0).og b=q then n else 0)
 | [],_,h=>by simp at h
 | w::l,0,_=>by
  show ((if w.t=q then (cond b (w.x - n) (w.x + n)) else 0) - (if w.f=q then (cond b (w.x - n) (w.x + n)) else 0)) + ovr l q=((if w.t=q then w.x else 0) - (if w.f=q then w.x else 0)) + ovr l q + (if w.tg b=q then n else 0) - (if w.og b=q then n else 0)
  cases b
  ·show ((if w.t=q then w.x + n else 0) - (if w.f=q then w.x + n else 0)) + ovr l q=((if w.t=q then w.x else 0) - (if w.f=q then w.x else 0)) + ovr l q + (if w.t=q then n else 0) - (if w.f=q then n else 0)
   split <;> split <;> omega
  ·show ((if w.t=q then w.x - n else 0) - (if w.f=q then w.x - n else 0)) + ovr l q=((if w.t=q then w.x else 0) - (if w.f=q then w.x else 0)) + ovr l q + (if w.f=q then n else 0) - (if w.t=q then n else 0)
   split <;> split <;> omega
 | w::l,i + 1,h=>by
  have ih:=aDk (b:=b) (n:=n) (q:=q) (l:=l) (i:=i) (by simpa using h)
  show ((if w.t=q then w.x else 0) - (if w.f=q then w.x else 0)) + ovr (l.set i ((l.getD i w0).push b n)) q=((if w.t=q then w.x else 0) - (if w.f=q then w.x else 0)) + ovr l q + (if (l.getD i w0).tg b=q then n else 0) - (if (l.getD i w0).og b=q then n else 0)
  rw [ih]
  omega
theorem aEx {l:List Wx} {i j:Nat} {x:Wx} (hi:i < l.length):(l.set i x).getD j w0=if j=i then x else l.getD j w0:=by
 by_cases h:j=i
 ·subst h; simp [List.getD,hi]
 ·rw [if_neg h]; simp [List.getD,Ne.symm h]
def oC (n:Int):List (Nat × Bool)→List Wx→List Wx
 | [],ws=>ws
 | s::l,ws=>oC n l (ws.set s.1 ((ws.getD s.1 w0).push s.2 n))
theorem aBk {n:Int}:∀ {l:List (Nat × Bool)} {ws:List Wx},Sim (oC n l ws) ws
 | [],ws=>Sim.refl ws
 | s::l,ws=>Sim.trans (aBk (l:=l)) (Sim.set (w:=w0))
inductive aAa (ws:List Wx) (src:Nat):Nat→List (Nat × Bool)→Prop
 | nil:aAa ws src src []
 | cons {s:Nat × Bool} {l:List (Nat × Bool)} (h:aAa ws src ((ws.getD s.1 w0).og s.2) l) (hs:s.1 < ws.length):aAa ws src ((ws.getD s.1 w0).tg s.2) (s::l)
theorem aP6 {l m:List Wx} (h:Sim l m) (i:Nat) (b:Bool):(l.getD i w0).tg b=(m.getD i w0).tg b∧(l.getD i w0).og b=(m.getD i w0).og b:=by
 obtain ⟨e1,e2,-,-⟩:=h.get i
 unfold Wx.tg Wx.og
 rw [e1,e2]
 exact ⟨rfl,rfl⟩
theorem aAa.sim {ws vs:List Wx} {src p:Nat} {l:List (Nat × Bool)} (h:aAa ws src p l) (hs:Sim ws vs):aAa vs src p l:=by
 induction h with
 | nil=>exact .nil
 | @cons s l h hl ih=>
  obtain ⟨e1,e2⟩:=aP6 hs s.1 s.2
  rw [e1]
  rw [e2] at ih
  exact .cons ih (by rw [← hs.len]; exact hl)
theorem aFg {n:Int} {q src:Nat}:∀ {l:List (Nat × Bool)} {p:Nat} {ws:List Wx},aAa ws src p l→ovr (oC n l ws) q=ovr ws q + (if p=q then n else 0) - (if src=q then n else 0)
 | [],_,ws,.nil=>by
  show ovr ws q=_
  omega
 | s::l,_,ws,.cons h hs=>by
  have h':=h.sim (Sim.set (w:=w0) (b:=s.2) (n:=n) (l:=ws) (i:=s.1)).symm'
  rw [show oC n (s::l) ws=oC n l (ws.set s.1 ((ws.getD s.1 w0).push s.2 n)) from rfl,aFg h',aDk hs]
  omega
end Go.Nilo.Ba
namespace Go.Nilo.Ba
abbrev fr (ws:List Wx) (s:Nat × Bool):Int:=(ws.getD s.1 w0).free s.2
abbrev tg (ws:List Wx) (s:Nat × Bool):Nat:=(ws.getD s.1 w0).tg s.2
abbrev og (ws:List Wx) (s:Nat × Bool):Nat:=(ws.getD s.1 w0).og s.2
structure InS (K:Nat) (ws:List Wx):Prop where
 b:∀ i,i < ws.length→(ws.getD i w0).lo≤(ws.getD i w0).x∧(ws.getD i w0).x≤(ws.getD i w0).hi
 p:∀ i,i < ws.length→(ws.getD i w0).f < K∧(ws.getD i w0).t < K∧(ws.getD i w0).f ≠ (ws.getD i w0).t
theorem aDq {K:Nat} {n:Int} (hn:0≤n):∀ {l:List (Nat × Bool)} {ws:List Wx},InS K ws→(l.map Prod.fst).Nodup→(∀ s ∈ l,s.1 < ws.length∧n≤fr ws s)→InS K (oC n l ws)
 | [],_,h,_,_=>h
 | s::l,ws,h,hd,hl=>by
  rw [List.map_cons,List.nodup_cons] at hd
  obtain ⟨h1,h2⟩:=hl s List.mem_cons_self
  have g:∀ j,((ws.set s.1 ((ws.getD s.1 w0).push s.2 n)).getD j w0)=if j=s.1 then (ws.getD s.1 w0).push s.2 n else ws.getD j w0:=fun j=>aEx h1
  show InS K (oC n l (ws.set s.1 ((ws.getD s.1 w0).push s.2 n)))
  refine aDq hn ⟨fun i hi=>?_,fun i hi=>?_⟩ hd.2 fun u hu=>?_
  ·rw [List.length_set] at hi
   rw [g]
   split
   ·have hb:=h.b s.1 h1
    have h2':n≤(ws.getD s.1 w0).free s.2:=h2
    unfold Wx.free at h2'
    unfold Wx.push
    cases hs:s.2 with
    | true=>rw [hs] at h2'; dsimp only [cond_true] at h2' ⊢; omega
    | false=>rw [hs] at h2'; dsimp only [cond_false] at h2' ⊢; omega
   ·exact h.b i hi
  ·rw [List.length_set] at hi
   rw [g]
   split
   ·exact h.p s.1 h1
   ·exact h.p i hi
  ·obtain ⟨h3,h4⟩:=hl u (List.mem_cons_of_mem _ hu)
   refine ⟨by rw [List.length_set]; exact h3,?_⟩
   have hne:u.1 ≠ s.1:=fun e=>hd.1 (by rw [← e]; exact List.mem_map_of_mem hu)
   unfold fr
   rw [g,if_neg hne]
   exact h4
theorem aBd {ws:List Wx} {src:Nat} {m:Nat→Int}:∀ {l:List (Nat × Bool)} {p:Nat},aAa ws src p l→(∀ s ∈ l,m (og ws s) < m (tg ws s))→(∀ s ∈ l,m (tg ws s)≤m p)∧(l.map Prod.fst).Nodup
 | [],_,_,_=>⟨fun _ h=>by simp at h,List.nodup_nil⟩
 | s::l,_,.cons h hs,hm=>by
  obtain ⟨i1,i2⟩:=aBd h fun u hu=>hm u (List.mem_cons_of_mem _ hu)
  have h0:m (og ws s) < m (tg ws s):=hm s List.mem_cons_self
  refine ⟨fun u hu=>?_,?_⟩
  ·rcases List.mem_cons.mp hu with rfl | hu
   ·exact Int.le_refl _
   ·have:=i1 u hu
    show _≤m (tg ws s)
    have h0':m ((ws.getD s.1 w0).og s.2) < m (tg ws s):=h0
    omega
  ·rw [List.map_cons,List.nodup_cons]
   refine ⟨fun hx=>?_,i2⟩
   obtain ⟨u,hu,he⟩:=List.mem_map.mp hx
   have a:=i1 u hu
   have b:=hm u (List.mem_cons_of_mem _ hu)
   have h0':m ((ws.getD s.1 w0).og s.2) < m (tg ws s):=h0
   have e1:(ws.getD u.1 w0)=ws.getD s.1 w0:=by rw [he]
   unfold tg og at *
   rw [e1] at a b
   unfold Wx.tg Wx.og at *
   cases hub:u.2 <;> cases hsb:s.2 <;> rw [hub] at a b <;> rw [hsb] at a h0' <;> dsimp only [cond_true,cond_false] at a b h0' <;> omega
structure RS (K:Nat) (ws:List Wx) (cnt:Nat × Bool→Bool) (src:Nat) (O:Nat→Option (Int × Int × Nat × Bool)):Prop where
 src0:∃ s,O src=some (0,0,s)
 nn:∀ p c m s,O p=some (c,m,s)→p < K∧0≤c∧0≤m
 par:∀ p c m s,O p=some (c,m,s)→p ≠ src→s.1 < ws.length∧cnt s=true∧tg ws s=p∧∃ c' m' s',O (og ws s)=some (c',m',s')∧c' + (if 0 < fr ws s then 0 else 1)≤c∧(c' + (if 0 < fr ws s then 0 else 1)=c→m' + 1≤m)
 clo:∀ p m s',O p=some (0,m,s')→∀ s,s.1 < ws.length→og ws s=p→cnt s=true→0 < fr ws s→∃ m1 s1,O (tg ws s)=some (0,m1,s1)
 zero:(∀ s,s.1 < ws.length→cnt s=true→0 < fr ws s)→∀ p c m s,O p=some (c,m,s)→c=0
def met (O:Nat→Option (Int × Int × Nat × Bool)) (p:Nat):Bool:=match O p with
 | some (c,_,_)=>c == 0
 | none=>false
theorem vG {O:Nat→Option (Int × Int × Nat × Bool)} {p:Nat}:met O p=true ↔ ∃ m s,O p=some (0,m,s):=by
 unfold met
 constructor
 ·intro h
  cases ho:O p with
  | none=>rw [ho] at h; cases h
  | some v=>
   obtain ⟨c,m,s⟩:=v
   rw [ho] at h
   dsimp only at h
   obtain rfl:c=0:=by simpa using h
   exact ⟨m,s,rfl⟩
 ·rintro ⟨m,s,h⟩
  rw [h]
  rfl
theorem aG7 {f:Nat→Int} {q:Nat}:∀ {n},(∀ p,p < n→0≤f p)→q < n→0 < f q→0 < jE f n
 | 0,_,h,_=>by omega
 | n + 1,h,hq,hp=>by
  have a:=oE (f:=fun _=>0) (g:=f) (n:=n) fun p hp=>h p (by omega)
  rw [iN] at a
  have b:=h n (by omega)
  show 0 < jE f n + f n
  by_cases e:q=n
  ·subst e; omega
  ·have:=aG7 (f:=f) (q:=q) (n:=n) (fun p hp=>h p (by omega)) (by omega) hp
   omega
theorem aAu {f g:Nat→Int} {q:Nat}:∀ {n},(∀ p,p < n→f p≤g p)→q < n→f q < g q→jE f n < jE g n
 | 0,_,h,_=>by omega
 | n + 1,h,hq,hp=>by
  have a:=oE (f:=f) (g:=g) (n:=n) fun p hp=>h p (by omega)
  have b:=h n (by omega)
  show jE f n + f n < jE g n + g n
  by_cases e:q=n
  ·subst e; omega
  ·have:=aAu (f:=f) (g:=g) (q:=q) (n:=n) (fun p hp=>h p (by omega)) (by omega) hp
   omega
structure Tru (K:Nat) (ws vs:List Wx):Prop where
 s:Sim ws vs
 b:∀ i,i < vs.length→(vs.getD i w0).lo≤(vs.getD i w0).x∧(vs.getD i w0).x≤(vs.getD i w0).hi
 z:∀ p,p < K→ovr vs p=0
theorem aDl {l:List Wx} {w:Wx} (h:w ∈ l):∃ i,i < l.length∧l.getD i w0=w:=by
 obtain ⟨i,hi,rfl⟩:=List.getElem_of_mem h
 exact ⟨i,hi,by simp [List.getD,hi]⟩
theorem aE5 {K:Nat} {ws vs:List Wx} (hi:InS K ws) (ht:Tru K ws vs) (S:Nat→Bool):rL S vs=0:=by
 rw [← xY (K:=K) fun w hw=>?_,qR (g:=fun _=>0) fun p hp=>?_,iN]
 ·rw [ht.z p hp]; split <;> rfl
 ·obtain ⟨i,h1,rfl⟩:=aDl hw
  rw [← ht.s.len] at h1
  obtain ⟨e1,e2,-,-⟩:=ht.s.get i
  rw [← e1,← e2]
  exact ⟨(hi.p i h1).1,(hi.p i h1).2.1⟩
theorem aCd {K:Nat} {ws:List Wx} (hi:InS K ws) (S:Nat→Bool):jE (fun p=>if S p=true then ovr ws p else 0) K=rL S ws:=xY fun w hw=>by
 obtain ⟨i,h1,rfl⟩:=aDl hw
 exact ⟨(hi.p i h1).1,(hi.p i h1).2.1⟩
theorem aL1 {K:Nat} {ws vs:List Wx} {cnt:Nat × Bool→Bool} {src:Nat} {O:Nat→Option (Int × Int × Nat × Bool)} (hi:InS K ws) (ht:Tru K ws vs) (hr:RS K ws cnt src O) {i:Nat} (h:i < ws.length) (hc:∀ b,0 < fr ws (i,b)→cnt (i,b)=true) :
  (met O (ws.getD i w0).f=true→met O (ws.getD i w0).t=false→(vs.getD i w0).x≤(ws.getD i w0).x)∧(met O (ws.getD i w0).f=false→met O (ws.getD i w0).t=true→(ws.getD i w0).x≤(vs.getD i w0).x):=by
 have b1:=hi.b i h
 have b2:=ht.b i (by rw [← ht.s.len]; exact h)
 obtain ⟨-,-,e3,e4⟩:=ht.s.get i
 rw [← e3,← e4] at b2
 constructor
 ·intro m1 m2
  obtain ⟨m,s,h1⟩:=vG.mp m1
  rcases Int.lt_or_le 0 (fr ws (i,false)) with hf | hf
  ·have:=vG.mpr (hr.clo _ m s h1 (i,false) h rfl (hc false hf) hf)
   have m2':met O (tg ws (i,false))=false:=m2
   rw [this] at m2'
   cases m2'
  ·have hf':(ws.getD i w0).hi - (ws.getD i w0).x≤0:=hf
   omega
 ·intro m1 m2
  obtain ⟨m,s,h1⟩:=vG.mp m2
  rcases Int.lt_or_le 0 (fr ws (i,true)) with hf | hf
  ·have:=vG.mpr (hr.clo _ m s h1 (i,true) h rfl (hc true hf) hf)
   have m2':met O (tg ws (i,true))=false:=m1
   rw [this] at m2'
   cases m2'
  ·have hf':(ws.getD i w0).x - (ws.getD i w0).lo≤0:=hf
   omega
theorem aNo {K:Nat} {ws vs:List Wx} {cnt:Nat × Bool→Bool} {src:Nat} {O:Nat→Option (Int × Int × Nat × Bool)} (hi:InS K ws) (ht:Tru K ws vs) (hr:RS K ws cnt src O) (hc:∀ s,cnt s=true) (hs:src < K) (h0:0 < ovr ws src) :
  ∃ p,p < K∧ovr ws p < 0∧∃ m s,O p=some (0,m,s):=by
 apply Classical.byContradiction
 intro hn
 have c:=aIh (S:=met O) ht.s fun i h=>aL1 hi ht hr h fun b _=>hc _
 rw [aE5 hi ht,← aCd hi] at c
 have:0 < jE (fun p=>if met O p=true then ovr ws p else 0) K:=by
  refine aG7 (q:=src) (fun p hp=>?_) hs ?_
  ·by_cases hm:met O p=true
   ·rw [if_pos hm]
    rcases Int.lt_or_le (ovr ws p) 0 with hl | hl
    ·exact absurd ⟨p,hp,hl,vG.mp hm⟩ hn
    ·exact hl
   ·rw [if_neg hm]; exact Int.le_refl _
  ·obtain ⟨s,h⟩:=hr.src0
   rw [if_pos (vG.mpr ⟨0,s,h⟩)]
   exact h0
 omega
theorem stuck {K:Nat} {ws vs:List Wx} {cnt:Nat × Bool→Bool} {k:Nat} {up:Bool} {O:Nat→Option (Int × Int × Nat × Bool)} (hi:InS K ws) (ht:Tru K ws vs) (hz:∀ p,p < K→ovr ws p=0) (hk:k < ws.length) (hr:RS K ws cnt (tg ws (k,!up)) O) (hc:∀ s:Nat × Bool,s.1 < ws.length→s.1 ≠ k→0 < fr ws s→cnt s=true) (hm:O (tg ws (k,up))=none) :
  cond up ((vs.getD k w0).x≤(ws.getD k w0).x) ((ws.getD k w0).x≤(vs.getD k w0).x):=by
 have hzw:rL (met O) ws=0:=by
  rw [← aCd hi,qR (g:=fun _=>0) fun p hp=>?_,iN]
  rw [hz p hp]; split <;> rfl
 have hzv:=aE5 hi ht (met O)
 have m1:met O (tg ws (k,!up))=true:=by obtain ⟨s,h⟩:=hr.src0; exact vG.mpr ⟨0,s,h⟩
 have m2:met O (tg ws (k,up))=false:=by unfold met; rw [hm]
 have hb:∀ i,i < ws.length→i ≠ k→_:=fun i h hik=>aL1 hi ht hr h fun b hf=>hc (i,b) h hik hf
 cases up with
 | true=>
  show (vs.getD k w0).x≤(ws.getD k w0).x
  rcases Int.lt_or_le (ws.getD k w0).x (vs.getD k w0).x with hl | hl
  ·have:=aMl ht.s hk hb (.inl ⟨m2,m1,hl⟩)
   omega
  ·exact hl
 | false=>
  show (ws.getD k w0).x≤(vs.getD k w0).x
  rcases Int.lt_or_le (vs.getD k w0).x (ws.getD k w0).x with hl | hl
  ·have:=aMl ht.s hk hb (.inr ⟨m1,m2,hl⟩)
   omega
  ·exact hl
end Go.Nilo.Ba
namespace Go.Nilo.Ba
abbrev Far:=Int × Int × Nat × Bool
def upd (O:Nat→Option Far) (q:Nat) (v:Far):Nat→Option Far:=fun p=>if p=q then some v else O p
def eA (ws:List Wx) (s:Nat × Bool):Int:=if 0 < fr ws s then 0 else 1
theorem aC1 (ws:List Wx) (s:Nat × Bool):0≤eA ws s∧eA ws s≤1:=by unfold eA; split <;> omega
def rT (c m:Int):Option Far→Bool
 | none=>true
 | some (c',m',_)=>decide (c < c') || ((c == c') && decide (m < m'))
def rc:Option Far→Int
 | none=>0
 | some _=>1
def cp (K:Nat):Option Far→Int
 | none=>(K:Int) + 1
 | some (c,_)=>c
def mp:Option Far→Int
 | none=>0
 | some (_,m,_)=>m
theorem aHb {f g:Nat→Int} {q:Nat} (h:∀ p,p ≠ q→f p=g p):∀ {n},q < n→jE f n=jE g n + (f q - g q)
 | 0,hq=>by omega
 | n + 1,hq=>by
  show jE f n + f n=jE g n + g n + (f q - g q)
  by_cases e:q=n
  ·subst e
   rw [qR fun p hp=>h p (by omega)]
   omega
  ·rw [aHb h (n:=n) (by omega),h n (fun e2=>e e2.symm)]
   omega
def rS (K:Nat) (O:Nat→Option Far):Int:=jE (fun p=>rc (O p)) K
def cS (K:Nat) (O:Nat→Option Far):Int:=jE (fun p=>cp K (O p)) K
def mS (K:Nat) (O:Nat→Option Far):Int:=jE (fun p=>mp (O p)) K
def mu (K:Nat) (O:Nat→Option Far):Int:=74 * cS K O + mS K O
theorem rc_le:∀ o:Option Far,rc o≤1
 | none=>by decide
 | some _=>Int.le_refl _
theorem aN8 (K:Nat) (O:Nat→Option Far):rS K O≤K:=by
 have a:=oE (f:=fun p=>rc (O p)) (g:=fun _=>1) (n:=K) fun p _=>rc_le _
 rw [tC] at a
 unfold rS
 omega
theorem aHv {K:Nat} {O:Nat→Option Far} {q:Nat} {v:Far} (hq:q < K) (g:Option Far→Int):jE (fun p=>g (upd O q v p)) K=jE (fun p=>g (O p)) K + (g (some v) - g (O q)):=by
 rw [aHb (f:=fun p=>g (upd O q v p)) (g:=fun p=>g (O p)) (q:=q) (fun p hp=>by unfold upd; rw [if_neg hp]) hq]
 have:upd O q v q=some v:=by unfold upd; rw [if_pos rfl]
 rw [this]
structure RI (K:Nat) (ws:List Wx) (cnt:Nat × Bool→Bool) (src:Nat) (O:Nat→Option Far):Prop where
 src0:∃ s,O src=some (0,0,s)
 nn:∀ p c m s,O p=some (c,m,s)→p < K∧0≤c∧0≤m
 par:∀ p c m s,O p=some (c,m,s)→p ≠ src→s.1 < ws.length∧cnt s=true∧tg ws s=p∧∃ c' m' s',O (og ws s)=some (c',m',s')∧c' + eA ws s≤c∧(c' + eA ws s=c→m' + 1≤m)
 zero:(∀ s,s.1 < ws.length→cnt s=true→0 < fr ws s)→∀ p c m s,O p=some (c,m,s)→c=0
 cb:∀ p c m s,O p=some (c,m,s)→c + 1≤rS K O
 mb:∀ p c m s,O p=some (c,m,s)→m + cS K O≤72
theorem RI.start {K:Nat} {ws:List Wx} {cnt:Nat × Bool→Bool} {src:Nat} (hK:K≤8) (hs:src < K) (s0:Nat × Bool):RI K ws cnt src (upd (fun _=>none) src (0,0,s0)):=by
 have hu:∀ p c m s,upd (fun _=>none) src (0,0,s0) p=some (c,m,s)→p=src∧c=0∧m=0:=by
  intro p c m s h
  unfold upd at h
  split at h
  ·rename_i e; cases h; exact ⟨e,rfl,rfl⟩
  ·cases h
 have er:rS K (upd (fun _=>none) src (0,0,s0))=1:=by
  unfold rS
  rw [aHv hs rc]
  show jE (fun _=>0) K + (1 - 0)=1
  rw [iN]
  rfl
 have ec:cS K (upd (fun _=>none) src (0,0,s0))≤72:=by
  unfold cS
  rw [aHv hs (cp K)]
  show jE (fun _=>(K:Int) + 1) K + (0 - ((K:Int) + 1))≤72
  rw [tC]
  have:(K:Int) * ((K:Int) + 1)≤8 * 9:=Int.mul_le_mul (by omega) (by omega) (by omega) (by omega)
  omega
 refine ⟨⟨s0,by unfold upd; rw [if_pos rfl]⟩,?_,?_,?_,?_,?_⟩
 ·intro p c m s h
  obtain ⟨rfl,rfl,rfl⟩:=hu p c m s h
  exact ⟨hs,by omega,by omega⟩
 ·intro p c m s h hp
  exact absurd (hu p c m s h).1 hp
 ·intro _ p c m s h
  exact (hu p c m s h).2.1
 ·intro p c m s h
  obtain ⟨-,rfl,rfl⟩:=hu p c m s h
  rw [er]
  omega
 ·intro p c m s h
  obtain ⟨-,rfl,rfl⟩:=hu p c m s h
  omega
theorem aH6 {c m:Int} {o:Option Far} (h:rT c m o=false):∃ c' m' s',o=some (c',m',s')∧c'≤c:=by
 cases o with
 | none=>cases h
 | some v=>
  obtain ⟨c',m',s'⟩:=v
  refine ⟨c',m',s',rfl,?_⟩
  unfold rT at h
  simp at h
  omega
theorem RI.relax {K:Nat} {ws:List Wx} {cnt:Nat × Bool→Bool} {src:Nat} {O:Nat→Option Far} (h:RI K ws cnt src O) (hi:InS K ws) {c m:Int} {s s':Nat × Bool} (ho:O (og ws s)=some (c,m,s')) (hs:s.1 < ws.length) (hc:cnt s=true) (hb:rT (c + eA ws s) (m + 1) (O (tg ws s))=true) :
  RI K ws cnt src (upd O (tg ws s) (c + eA ws s,m + 1,s))∧mu K (upd O (tg ws s) (c + eA ws s,m + 1,s)) < mu K O∧upd O (tg ws s) (c + eA ws s,m + 1,s) (og ws s)=some (c,m,s'):=by
 obtain ⟨p1,p2⟩:=aC1 ws s
 have hp:=hi.p s.1 hs
 have hne:og ws s ≠ tg ws s:=by
  unfold og tg Wx.og Wx.tg
  cases s.2
  ·exact hp.2.2
  ·exact fun e=>hp.2.2 e.symm
 have htK:tg ws s < K:=by
  unfold tg Wx.tg
  cases s.2
  ·exact hp.2.1
  ·exact hp.1
 obtain ⟨hpK,c0,m0⟩:=h.nn _ _ _ _ ho
 have hcb:=h.cb _ _ _ _ ho
 have hmb:=h.mb _ _ _ _ ho
 have hrK:=aN8 K O
 have hsrc:tg ws s ≠ src:=by
  intro e
  obtain ⟨s1,h1⟩:=h.src0
  rw [e,h1] at hb
  unfold rT at hb
  simp at hb
  omega
 have ekeep:upd O (tg ws s) (c + eA ws s,m + 1,s) (og ws s)=some (c,m,s'):=by unfold upd; rw [if_neg hne]; exact ho
 have er:=aHv (O:=O) (v:=(c + eA ws s,m + 1,s)) htK rc
 have ec:=aHv (O:=O) (v:=(c + eA ws s,m + 1,s)) htK (cp K)
 have em:=aHv (O:=O) (v:=(c + eA ws s,m + 1,s)) htK mp
 have er':rS K (upd O (tg ws s) (c + eA ws s,m + 1,s))=rS K O + (1 - rc (O (tg ws s))):=er
 have ec':cS K (upd O (tg ws s) (c + eA ws s,m + 1,s))=cS K O + (c + eA ws s - cp K (O (tg ws s))):=ec
 have em':mS K (upd O (tg ws s) (c + eA ws s,m + 1,s))=mS K O + (m + 1 - mp (O (tg ws s))):=em
 -- what the sums do
 have key:c + eA ws s + 1≤rS K O + (1 - rc (O (tg ws s)))∧(m + 1 + (cS K O + (c + eA ws s - cp K (O (tg ws s))))≤72)∧c + eA ws s - cp K (O (tg ws s))≤0∧74 * (c + eA ws s - cp K (O (tg ws s))) + (m + 1 - mp (O (tg ws s))) < 0∧rc (O (tg ws s))≤1:=by
  cases hw:O (tg ws s) with
  | none=>
   have e1:rc none=0:=rfl
   have e2:cp K none=(K:Int) + 1:=rfl
   have e3:mp none=0:=rfl
   rw [e1,e2,e3]
   have hcs:0≤cS K O:=by
    have:=oE (f:=fun _=>0) (g:=fun p=>cp K (O p)) (n:=K) fun p _=>by
     cases hq:O p with
     | none=>show (0:Int)≤(K:Int) + 1; omega
     | some v=>obtain ⟨a,b,d⟩:=v; exact (h.nn _ _ _ _ hq).2.1
    rw [iN] at this
    exact this
   refine ⟨by omega,by omega,by omega,by omega,by omega⟩
  | some v=>
   obtain ⟨c1,m1,s1⟩:=v
   have e1:rc (some (c1,m1,s1))=1:=rfl
   have e2:cp K (some (c1,m1,s1))=c1:=rfl
   have e3:mp (some (c1,m1,s1))=m1:=rfl
   rw [hw] at hb
   have hb':c + eA ws s < c1 ∨ c + eA ws s=c1∧m + 1 < m1:=by
    unfold rT at hb
    simpa using hb
   have n1:=h.nn _ _ _ _ hw
   have n2:=h.cb _ _ _ _ hw
   have n3:=h.mb _ _ _ _ hw
   have hcs:0≤cS K O:=by
    have:=oE (f:=fun _=>0) (g:=fun p=>cp K (O p)) (n:=K) fun p _=>by
     cases hq:O p with
     | none=>show (0:Int)≤(K:Int) + 1; omega
     | some v=>obtain ⟨a,b,d⟩:=v; exact (h.nn _ _ _ _ hq).2.1
    rw [iN] at this
    exact this
   rw [e1,e2,e3]
   rcases hb' with hb' | ⟨hb1,hb2⟩
   ·refine ⟨by omega,by omega,by omega,by omega,by omega⟩
   ·refine ⟨by omega,by omega,by omega,by omega,by omega⟩
 obtain ⟨k1,k2,k3,k4,k5⟩:=key
 have hu:∀ p a b d,upd O (tg ws s) (c + eA ws s,m + 1,s) p=some (a,b,d)→p=tg ws s∧a=c + eA ws s∧b=m + 1∧d=s ∨ p ≠ tg ws s∧O p=some (a,b,d):=by
  intro p a b d hx
  unfold upd at hx
  split at hx
  ·rename_i e; cases hx; exact .inl ⟨e,rfl,rfl,rfl⟩
  ·rename_i e; exact .inr ⟨e,hx⟩
 refine ⟨⟨?_,?_,?_,?_,?_,?_⟩,?_,ekeep⟩
 ·obtain ⟨s1,h1⟩:=h.src0
  exact ⟨s1,by unfold upd; rw [if_neg fun e=>hsrc e.symm]; exact h1⟩
 ·intro p a b d hx
  rcases hu p a b d hx with ⟨rfl,rfl,rfl,rfl⟩ | ⟨-,hx⟩
  ·exact ⟨htK,by omega,by omega⟩
  ·exact h.nn _ _ _ _ hx
 ·intro p a b d hx hps
  rcases hu p a b d hx with ⟨rfl,rfl,rfl,rfl⟩ | ⟨hpt,hx⟩
  ·exact ⟨hs,hc,rfl,c,m,s',ekeep,Int.le_refl _,fun _=>Int.le_refl _⟩
  ·obtain ⟨g1,g2,g3,c',m',s'',g4,g5,g6⟩:=h.par _ _ _ _ hx hps
   refine ⟨g1,g2,g3,?_⟩
   by_cases e:og ws d=tg ws s
   ·refine ⟨c + eA ws s,m + 1,s,by unfold upd; rw [if_pos e],?_⟩
    rw [← e,g4] at hb
    have hb':c + eA ws s < c' ∨ c + eA ws s=c'∧m + 1 < m':=by
     unfold rT at hb
     simpa using hb
    rcases hb' with hb' | ⟨hb1,hb2⟩
    ·exact ⟨by omega,fun hq=>by omega⟩
    ·exact ⟨by omega,fun hq=>by have:=g6 (by omega); omega⟩
   ·exact ⟨c',m',s'',by unfold upd; rw [if_neg e]; exact g4,g5,g6⟩
 ·intro hz p a b d hx
  rcases hu p a b d hx with ⟨rfl,rfl,rfl,rfl⟩ | ⟨-,hx⟩
  ·have:=h.zero hz _ _ _ _ ho
   have hf:=hz d hs hc
   unfold eA
   rw [if_pos hf]
   omega
  ·exact h.zero hz _ _ _ _ hx
 ·intro p a b d hx
  rw [er']
  rcases hu p a b d hx with ⟨rfl,rfl,rfl,rfl⟩ | ⟨-,hx⟩
  ·omega
  ·have:=h.cb _ _ _ _ hx; omega
 ·intro p a b d hx
  rw [ec']
  rcases hu p a b d hx with ⟨rfl,rfl,rfl,rfl⟩ | ⟨-,hx⟩
  ·omega
  ·have:=h.mb _ _ _ _ hx; omega
 ·unfold mu
  rw [ec',em']
  omega
theorem RI.mu_bd {K:Nat} {ws:List Wx} {cnt:Nat × Bool→Bool} {src:Nat} {O:Nat→Option Far} (h:RI K ws cnt src O) (hK:K≤8):0≤mu K O∧mu K O≤6000:=by
 have hcs:0≤cS K O:=by
  have:=oE (f:=fun _=>0) (g:=fun p=>cp K (O p)) (n:=K) fun p _=>by
   cases hq:O p with
   | none=>show (0:Int)≤(K:Int) + 1; omega
   | some v=>obtain ⟨a,b,d⟩:=v; exact (h.nn _ _ _ _ hq).2.1
  rw [iN] at this
  exact this
 have hms:0≤mS K O:=by
  have:=oE (f:=fun _=>0) (g:=fun p=>mp (O p)) (n:=K) fun p _=>by
   cases hq:O p with
   | none=>exact Int.le_refl _
   | some v=>obtain ⟨a,b,d⟩:=v; exact (h.nn _ _ _ _ hq).2.2
  rw [iN] at this
  exact this
 have hm2:mS K O≤K * 72:=by
  have:=oE (f:=fun p=>mp (O p)) (g:=fun _=>72) (n:=K) fun p _=>by
   cases hq:O p with
   | none=>show (0:Int)≤72; omega
   | some v=>obtain ⟨a,b,d⟩:=v; have:=h.mb _ _ _ _ hq; show b≤72; omega
  rw [tC] at this
  exact this
 obtain ⟨s,h0⟩:=h.src0
 have:=h.mb _ _ _ _ h0
 unfold mu
 constructor
 ·omega
 ·omega
theorem RI.done {K:Nat} {ws:List Wx} {cnt:Nat × Bool→Bool} {src:Nat} {O:Nat→Option Far} (h:RI K ws cnt src O) (hc:∀ s c m s',s.1 < ws.length→cnt s=true→O (og ws s)=some (c,m,s')→rT (c + eA ws s) (m + 1) (O (tg ws s))=false):RS K ws cnt src O:=by
 refine ⟨h.src0,h.nn,h.par,?_,h.zero⟩
 intro p m s' ho s hs hp hcs hf
 subst hp
 obtain ⟨c',m',s'',e1,e2⟩:=aH6 (hc s 0 m s' hs hcs ho)
 have:eA ws s=0:=by unfold eA; rw [if_pos hf]
 have hn:=(h.nn _ _ _ _ e1).2.1
 obtain rfl:c'=0:=by omega
 exact ⟨m',s'',e1⟩
end Go.Nilo.Ba
namespace Go.Nilo.Ba
def wx (w:aE):Wx:=⟨w.from_.toNat,w.to_.toNat,w.span.Lo,w.span.Hi,w.now⟩
abbrev wl (l:List aE):List Wx:=l.map wx
structure WOk (K:Nat) (l:List aE):Prop where
 i:InS K (wl l)
 p:∀ j (h:j < l.length),0≤l[j].from_∧0≤l[j].to_
 b:∀ j (h:j < l.length),-100000≤l[j].span.Lo∧l[j].span.Hi≤100000
 n:l.length≤30
 k:1≤K∧K≤8
theorem mF {l:List aE} {j:Nat} (h:j < l.length):(wl l).getD j w0=wx l[j]:=by simp [wl,List.getD,h]
theorem WOk.now {K:Nat} {l:List aE} (h:WOk K l) {j:Nat} (hj:j < l.length):l[j].span.Lo≤l[j].now∧l[j].now≤l[j].span.Hi:=by
 have:=h.i.b j (by simpa using hj)
 rw [mF hj] at this
 exact this
theorem WOk.pl {K:Nat} {l:List aE} (h:WOk K l) {j:Nat} (hj:j < l.length):l[j].from_.toNat < K∧l[j].to_.toNat < K∧l[j].from_.toNat ≠ l[j].to_.toNat:=by
 have:=h.i.p j (by simpa using hj)
 rw [mF hj] at this
 exact this
def aDy (ws:List Wx) (s:Nat × Bool):Int:=if 0 < fr ws s then fr ws s else 10000000000
theorem xQ {N:Nat} {K:Nat} {l:List aE} (h:WOk K l) {o r:Int} {j:Nat} (hj:j < l.length) (b:Bool) :
  dW N ⟨⟨l,o⟩,r⟩ ⟨(j:Int),b⟩=some (eA (wl l) (j,b),aDy (wl l) (j,b)):=by
 obtain ⟨n1,n2⟩:=h.now hj
 obtain ⟨b1,b2⟩:=h.b j hj
 have ef:fr (wl l) (j,b)=cond b (l[j].now - l[j].span.Lo) (l[j].span.Hi - l[j].now):=by
  show ((wl l).getD j w0).free b=_
  rw [mF hj]
  rfl
 unfold dW aDy eA
 show (Option.bind (cM l (j:Int)) fun e_1=>cond b _ _)=_
 rw [cF hj,Option.bind_some,ef]
 cases b
 ·rw [cond_false,cond_false]
  unfold gO
  rw [show decide (l[j].now < l[j].span.Lo)=false by simp; omega,cond_false]
  by_cases hx:l[j].now < l[j].span.Hi
  ·rw [show decide (l[j].now < l[j].span.Hi)=true by simpa using hx,cond_true,if_pos (by omega),if_pos (by omega),eH (by omega) (by omega)]
  ·rw [show decide (l[j].now < l[j].span.Hi)=false by simpa using hx,cond_false,if_neg (by omega),if_neg (by omega)]
 ·rw [cond_true,cond_true]
  unfold gO
  rw [eH (n:=0 - l[j].now) (by omega) (by omega),eH (n:=0 - l[j].span.Hi) (by omega) (by omega),eH (n:=0 - l[j].span.Lo) (by omega) (by omega)]
  rw [show decide (0 - l[j].now < 0 - l[j].span.Hi)=false by simp; omega,cond_false]
  by_cases hx:l[j].span.Lo < l[j].now
  ·rw [show decide (0 - l[j].now < 0 - l[j].span.Lo)=true by simp; omega,cond_true,if_pos (by omega),if_pos (by omega),eH (by omega) (by omega)]
   congr 2
   omega
  ·rw [show decide (0 - l[j].now < 0 - l[j].span.Lo)=false by simp; omega,cond_false,if_neg (by omega),if_neg (by omega)]
theorem aHe {N:Nat} {K:Nat} {l:List aE} (h:WOk K l) {o r:Int} {j:Nat} (hj:j < l.length) (b:Bool) :
  eD N ⟨⟨l,o⟩,r⟩ ⟨(j:Int),b⟩=some ((tg (wl l) (j,b):Nat):Int):=by
 obtain ⟨p1,p2⟩:=h.p j hj
 have ef:tg (wl l) (j,b)=cond b l[j].from_.toNat l[j].to_.toNat:=by
  show ((wl l).getD j w0).tg b=_
  rw [mF hj]
  rfl
 unfold eD
 rw [ef]
 cases b
 ·show (Option.bind (cM l (j:Int)) fun e_2=>some e_2.to_)=_
  rw [cF hj,Option.bind_some,cond_false]
  congr 1
  omega
 ·show (Option.bind (cM l (j:Int)) fun e_1=>some e_1.from_)=_
  rw [cF hj,Option.bind_some,cond_true]
  congr 1
  omega
theorem aBb {K:Nat} {l:List aE} (h:WOk K l) {j:Nat} (hj:j < l.length) (b:Bool):og (wl l) (j,b)=cond b l[j].to_.toNat l[j].from_.toNat:=by
 show ((wl l).getD j w0).og b=_
 rw [mF hj]
 rfl
theorem aKb {N K:Nat} {l:List aE} (h:WOk K l) {o r:Int} {x:Nat} (hN:l.length < N) {σ:Type} {y:σ→aB→Option (σ × Bool)} (P:Nat→σ→Prop)
  (hs:∀ i s,i < l.length→(∀ b,og (wl l) (i,b) ≠ x)→P i s→P (i + 1) s)
  (hy:∀ i b s,i < l.length→og (wl l) (i,b)=x→P i s→∃ s',y s ⟨(i:Int),b⟩=some (s',true)∧P (i + 1) s') {s0:σ} (h0:P 0 s0) :
  ∃ s',dV N ⟨⟨l,o⟩,r⟩ (x:Int) y s0=some s'∧P l.length s':=by
 obtain ⟨s,h1,h2,h3⟩:=kW (ρ:=σ) (fun s3:Int × σ=>dK N ⟨⟨l,o⟩,r⟩ (x:Int) y s3.1 s3.2) (fun i s=>s.1=(i:Int)∧P i s.2) l.length (by
  rintro i ⟨z,s⟩ hi ⟨rfl,hp⟩
  dsimp only at hp
  obtain ⟨p1,p2⟩:=h.p i hi
  obtain ⟨-,-,p3⟩:=h.pl hi
  have o1:=aBb h hi false
  have o2:=aBb h hi true
  rw [cond_false] at o1
  rw [cond_true] at o2
  have hgo:dK N ⟨⟨l,o⟩,r⟩ (x:Int) y (i:Int) s=cond (l[i].from_ == (x:Int))
    (Option.bind (y s ⟨(i:Int),false⟩) fun ry=>cond (!ry.2) (some (.ret ry.1)) (cond (l[i].to_ == (x:Int))
     (Option.bind (y ry.1 ⟨(i:Int),true⟩) fun ry_1=>cond (!ry_1.2) (some (.ret ry_1.1)) (bT N (i:Int) ry_1.1)) (bT N (i:Int) ry.1)))
    (cond (l[i].to_ == (x:Int)) (Option.bind (y s ⟨(i:Int),true⟩) fun ry_2=>cond (!ry_2.2) (some (.ret ry_2.1)) (bT N (i:Int) ry_2.1)) (bT N (i:Int) s)):=by
   unfold dK
   show cond (decide ((i:Int) < ((l.length:Nat):Int))) (Option.bind (cM l (i:Int)) _) _=_
   rw [nF hi,cond_true,cF hi,Option.bind_some]
  show ∃ s',dK N ⟨⟨l,o⟩,r⟩ (x:Int) y (i:Int) s=some (.cont s')∧_
  have hj:∀ s':σ,bT N (i:Int) s'=some (.cont (((i + 1:Nat):Int),s')):=fun s'=>by
   unfold bT
   rw [iF (by have:=h.n; omega)]
  rw [hgo]
  by_cases hf:l[i].from_=(x:Int)
  ·obtain ⟨s',e1,e2⟩:=hy i false s hi (by rw [o1]; omega) hp
   rw [beq_iff_eq.2 hf,cond_true,e1,Option.bind_some]
   have ht:(l[i].to_ == (x:Int))=false:=by rw [beq_eq_false_iff_ne]; omega
   refine ⟨(((i + 1:Nat):Int),s'),?_,rfl,e2⟩
   show cond false _ (cond (l[i].to_ == (x:Int)) _ (bT N (i:Int) s'))=_
   rw [cond_false,ht,cond_false,hj]
  ·rw [beq_eq_false_iff_ne.2 hf,cond_false]
   by_cases ht:l[i].to_=(x:Int)
   ·obtain ⟨s',e1,e2⟩:=hy i true s hi (by rw [o2]; omega) hp
    rw [beq_iff_eq.2 ht,cond_true,e1,Option.bind_some]
    refine ⟨(((i + 1:Nat):Int),s'),?_,rfl,e2⟩
    show cond false _ (bT N (i:Int) s')=_
    rw [cond_false,hj]
   ·rw [beq_eq_false_iff_ne.2 ht,cond_false,hj]
    refine ⟨_,rfl,rfl,hs i s hi (fun b=>?_) hp⟩
    cases b
    ·rw [o1]; omega
    ·rw [o2]; omega) (by
  rintro ⟨z,s⟩ ⟨rfl,-⟩
  show dK N ⟨⟨l,o⟩,r⟩ (x:Int) y (l.length:Int) s=_
  unfold dK
  show cond (decide ((l.length:Int) < ((l.length:Nat):Int))) _ _=_
  rw [nC,cond_false]) l.length 0 (0,s0) N (by omega) (by omega) ⟨rfl,h0⟩
 unfold dV
 rw [h1,Option.bind_some]
 exact ⟨s.2,rfl,h3⟩
end Go.Nilo.Ba
namespace Go.Nilo.Ba
abbrev FM:=Int→Option aA
def f0:aA:=⟨0,0,⟨0,false⟩⟩
def mkF (v:Far):aA:=⟨v.1,v.2.1,⟨(v.2.2.1:Int),v.2.2.2⟩⟩
def MO (mp:FM) (O:Nat→Option Far):Prop:=∀ p:Nat,mp (p:Int)=(O p).map mkF
theorem MO.set {mp:FM} {O:Nat→Option Far} (h:MO mp O) (q:Nat) (v:Far):MO (gQ mp (q:Int) (mkF v)) (upd O q v):=fun p=>by
 unfold gQ upd
 by_cases e:p=q
 ·subst e; simp
 ·have:¬ ((p:Int)=(q:Int)):=by omega
  simp [e,this,h p]
theorem aD2 {mp:FM} {k:Int} {u v:aA}:gQ (gQ mp k u) k v=gQ mp k v:=by
 funext j
 unfold gQ
 by_cases e:j=k <;> simp [e]
def aFq (cnt:Nat × Bool→Bool) (ws:List Wx) (c m:Int) (O:Nat→Option Far) (s:Nat × Bool):Bool:=cnt s && rT (c + eA ws s) (m + 1) (O (tg ws s))
theorem aFk {mp:FM} {O:Nat→Option Far} (h:MO mp O) (c m:Int) (q:Nat) :
  ((((!((mp (q:Int)).isSome)) || (decide (c < (((mp (q:Int)).getD f0).cost)))) || ((c == (((mp (q:Int)).getD f0).cost)) && (decide (m < (((mp (q:Int)).getD f0).many))))))=rT c m (O q):=by
 rw [h q]
 cases O q with
 | none=>rfl
 | some v=>rfl
structure PI (K:Nat) (ws:List Wx) (cnt:Nat × Bool→Bool) (src:Nat) (O0:Nat→Option Far) (D:Nat × Bool→Prop) (b:Bool) (mp:FM) (O:Nat→Option Far):Prop where
 mo:MO mp O
 ri:RI K ws cnt src O
 f:b=false→O=O0∧∀ s,D s→s.1 < ws.length→cnt s=true→∀ c m s',O (og ws s)=some (c,m,s')→rT (c + eA ws s) (m + 1) (O (tg ws s))=false
 t:b=true→mu K O < mu K O0
abbrev St2:=Bool × FM
structure Rnd (K:Nat) (l:List aE) (cnt:Nat × Bool→Bool) (r24:Int→FM→Bool→FM→aB→Option (Rs St2)):Prop where
 r:∀ (x:Nat) (mp1:FM) (b:Bool) (mp:FM) (O:Nat→Option Far) (i:Nat) (bk:Bool),i < l.length→og (wl l) (i,bk)=x→MO mp O→∀ c m s',mp1 (x:Int)=some (mkF (c,m,s'))→-100000≤c∧c≤100000→-100000≤m∧m≤100000 →
  r24 (x:Int) mp1 b mp ⟨(i:Int),bk⟩=some (.go (if aFq cnt (wl l) c m O (i,bk) then (true,gQ mp ((tg (wl l) (i,bk):Nat):Int) (mkF (c + eA (wl l) (i,bk),m + 1,(i,bk)))) else (b,mp)))
theorem RI.bd {K:Nat} {ws:List Wx} {cnt:Nat × Bool→Bool} {src:Nat} {O:Nat→Option Far} (h:RI K ws cnt src O) (hK:K≤8) {p:Nat} {c m:Int} {s:Nat × Bool} (ho:O p=some (c,m,s)):(-100000≤c∧c≤100000)∧(-100000≤m∧m≤100000):=by
 have a:=h.nn _ _ _ _ ho
 have b:=h.cb _ _ _ _ ho
 have b2:=aN8 K O
 have d:=h.mb _ _ _ _ ho
 have hcs:0≤cS K O:=by
  have:=oE (f:=fun _=>0) (g:=fun p=>cp K (O p)) (n:=K) fun p _=>by
   cases hq:O p with
   | none=>show (0:Int)≤(K:Int) + 1; omega
   | some v=>obtain ⟨a,b,d⟩:=v; exact (h.nn _ _ _ _ hq).2.1
  rw [iN] at this
  exact this
 omega
theorem aKh {N K:Nat} {l:List aE} (h:WOk K l) {o r:Int} (hN:l.length < N) {cnt:Nat × Bool→Bool} {r24:Int→FM→Bool→FM→aB→Option (Rs St2)} (hr:Rnd K l cnt r24) {src x:Nat} {O0:Nat→Option Far} {b:Bool} {mp:FM} {O:Nat→Option Far}
  (hp:PI K (wl l) cnt src O0 (fun s=>og (wl l) s < x) b mp O) {c m:Int} {s':Nat × Bool} (ho:O x=some (c,m,s')) :
  ∃ z,dV N ⟨⟨l,o⟩,r⟩ (x:Int) (rY (fun (zz:St2) (ix:aB)=>r24 (x:Int) mp zz.1 zz.2 ix)) (.go (b,mp))=some (.go z)∧∃ O',PI K (wl l) cnt src O0 (fun s=>og (wl l) s < x + 1) z.1 z.2 O':=by
 have hK:=h.k.2
 have hb:=hp.ri.bd hK ho
 have hmp:mp (x:Int)=some (mkF (c,m,s')):=by rw [hp.mo x,ho]; rfl
 obtain ⟨s2,h1,z,rfl,O',h2,h3⟩:=aKb (o:=o) (r:=r) h (x:=x) hN (y:=rY (fun (zz:St2) (ix:aB)=>r24 (x:Int) mp zz.1 zz.2 ix))
  (fun i (s:Rs St2)=>∃ z,s=.go z∧∃ O',PI K (wl l) cnt src O0 (fun s=>og (wl l) s < x ∨ og (wl l) s=x∧s.1 < i) z.1 z.2 O'∧O' x=some (c,m,s'))
  (by
   rintro i s hi hne ⟨z,rfl,O',g1,g2⟩
   refine ⟨z,rfl,O',⟨g1.mo,g1.ri,fun hz=>?_,g1.t⟩,g2⟩
   obtain ⟨e1,e2⟩:=g1.f hz
   refine ⟨e1,fun s hs=>e2 s ?_⟩
   rcases hs with hs | ⟨hs1,hs2⟩
   ·exact .inl hs
   ·refine .inr ⟨hs1,?_⟩
    have:s.1 ≠ i:=by rintro rfl; exact hne s.2 hs1
    omega)
  (by
   rintro i bk s hi hog ⟨z,rfl,O',g1,g2⟩
   have e:=hr.r x mp z.1 z.2 O' i bk hi hog g1.mo c m s' hmp hb.1 hb.2
   have hil:(i,bk).1 < (wl l).length:=by simpa using hi
   by_cases hs:aFq cnt (wl l) c m O' (i,bk)=true
   ·rw [if_pos hs] at e
    unfold aFq at hs
    rw [Bool.and_eq_true] at hs
    obtain ⟨hs1,hs2⟩:=hs
    have g2':O' (og (wl l) (i,bk))=some (c,m,s'):=by rw [hog]; exact g2
    obtain ⟨r1,r2,r3⟩:=g1.ri.relax h.i g2' hil hs1 hs2
    refine ⟨.go (true,gQ z.2 ((tg (wl l) (i,bk):Nat):Int) (mkF (c + eA (wl l) (i,bk),m + 1,(i,bk)))),?_,_,rfl,upd O' (tg (wl l) (i,bk)) (c + eA (wl l) (i,bk),m + 1,(i,bk)),⟨g1.mo.set _ _,r1,fun hz=>(by cases hz),fun _=>?_⟩,?_⟩
    ·unfold rY
     simp only []
     rw [e]
     rfl
    ·cases hz:z.1 with
     | true=>have:=g1.t hz; omega
     | false=>obtain ⟨e1,-⟩:=g1.f hz; rw [← e1]; exact r2
    ·rw [hog] at r3
     exact r3
   ·rw [if_neg hs] at e
    refine ⟨.go z,?_,z,rfl,O',⟨g1.mo,g1.ri,fun hz=>?_,g1.t⟩,g2⟩
    ·unfold rY
     simp only []
     rw [e]
     rfl
    ·obtain ⟨e1,e2⟩:=g1.f hz
     refine ⟨e1,fun s hD hsl hsc c1 m1 s1 ho1=>?_⟩
     rcases hD with hD | ⟨hD1,hD2⟩
     ·exact e2 s (.inl hD) hsl hsc c1 m1 s1 ho1
     ·rcases Nat.lt_or_ge s.1 i with hlt | hge
      ·exact e2 s (.inr ⟨hD1,hlt⟩) hsl hsc c1 m1 s1 ho1
      ·have hsi:s.1=i:=by omega
       have hsb:s=(i,bk):=by
        have hog2:og (wl l) s=og (wl l) (i,bk):=by rw [hD1,hog]
        obtain ⟨si,sb⟩:=s
        dsimp only at hsi
        subst hsi
        rw [aBb h hi,aBb h hi] at hog2
        obtain ⟨-,-,p3⟩:=h.pl hi
        cases sb <;> cases bk <;> first | rfl | (simp only [cond_true,cond_false] at hog2; omega)
       subst hsb
       rw [hog,g2] at ho1
       cases ho1
       unfold aFq at hs
       rw [hsc,Bool.true_and] at hs
       simpa using hs)
  (s0:=.go (b,mp)) ⟨(b,mp),rfl,O,⟨hp.mo,hp.ri,fun hz=>by
   obtain ⟨e1,e2⟩:=hp.f hz
   exact ⟨e1,fun s hs=>e2 s (by rcases hs with hs | ⟨-,hs⟩; exact hs; omega)⟩,hp.t⟩,ho⟩
 refine ⟨z,h1,O',h2.mo,h2.ri,fun hz=>?_,h2.t⟩
 obtain ⟨e1,e2⟩:=h2.f hz
 refine ⟨e1,fun s hs hsl=>e2 s ?_ hsl⟩
 rcases Nat.lt_or_ge (og (wl l) s) x with hlt | hge
 ·exact .inl hlt
 ·exact .inr ⟨by omega,by simpa using hsl⟩
end Go.Nilo.Ba
