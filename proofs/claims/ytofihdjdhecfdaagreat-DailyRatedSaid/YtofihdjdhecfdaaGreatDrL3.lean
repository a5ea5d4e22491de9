/-
  What the plain functions compute, in plain arithmetic, part 3. Conditions: what each theorem names.
-/
import Derived.Test.YtofihdjdhecfdaaGreatDrL2
set_option linter.unusedSimpArgs false
set_option linter.unusedVariables false
namespace Go.Nilo
theorem dT {p:Prop} [Decidable p] (h:p):decide p=true:=decide_eq_true h
theorem dF {p:Prop} [Decidable p] (h:¬p):decide p=false:=decide_eq_false h
def mk0:aE:=⟨0,0⟩
theorem firstG_range {ρ:Type} {p:Nat→Bool} {v:ρ}:∀ n i,oJ (fun j=>cond (p j) none (some v)) i n=cond ((List.range' i n).all p) none (some v)
 | 0,i=>rfl
 | n + 1,i=>by
  unfold oJ
  rw [List.range'_succ,List.all_cons]
  cases p i with
  | false=>rfl
  | true=>exact firstG_range n (i + 1)
theorem range_all {p:Nat→Bool} {n:Nat}:(List.range' 0 n).all p=true ↔ ∀ j,j < n→p j=true:=by
 rw [List.all_eq_true]
 constructor
 ·intro h j hj
  exact h j (List.mem_range'_1.2 ⟨Nat.zero_le _,by omega⟩)
 ·intro h j hj
  have:=List.mem_range'_1.1 hj
  exact h j (by omega)
theorem getI_d {α:Type} {l:List α} {i:Nat} (d:α) (h:i < l.length):bG l (i:Int)=some (l.getD i d):=by rw [qP h,cF (d:=d) h]
theorem W_sm {n:Int} (h1 : -4000000000000000000≤n) (h2:n≤4000000000000000000):W n=n:=oT (by omega) (by omega)
def jH (l:List aE):Int:=if 2≤l.length∧l.length≤12 then (if l.all dU then 0 else 60) else 3
def aEv (l:List aE) (i:Nat):Bool:=decide ((l.getD i mk0).Stage < (l.getD (i + 1) mk0).Stage) && decide ((l.getD i mk0).Flow < (l.getD (i + 1) mk0).Flow)
def upF (l:List aE):Bool:=(List.range' 0 (l.length - 1)).all (aEv l)
theorem aE8 {N:Nat} {l:List aE} (hl:l.length < N) (hl':l.length≤1000000):fQ N l=some (l.all dU):=by
 unfold fQ cC cK
 exact sS (f:=eS) (ok:=dU) (fun x=>rfl) hl hl' _ (fun x=>rfl)
theorem aHw {n:Nat} {a b:Int}:aG (n:Int) a b=(decide (a≤(n:Int)) && decide ((n:Int)≤b)):=rfl
theorem aBk {N:Nat} (hN:700≤N) {l:List aE} (hl:l.length≤50):mV N l=some (jH l):=by
 unfold mV jH
 rw [aE8 (by omega) (by omega),aHw]
 by_cases h:2≤l.length∧l.length≤12
 ·have h1:decide ((2:Int)≤(l.length:Int))=true:=dT (by omega)
  have h2:decide ((l.length:Int)≤(12:Int))=true:=dT (by omega)
  rw [if_pos h,h1,h2]
  cases l.all dU <;> rfl
 ·have h1:(decide ((2:Int)≤(l.length:Int)) && decide ((l.length:Int)≤(12:Int)))=false:=by
   rw [Bool.eq_false_iff]
   intro hc
   simp at hc
   omega
  rw [if_neg h,h1]
  rfl
theorem aAx {N:Nat} (hN:700≤N) {l:List aE} (h0:1≤l.length) (hl:l.length≤50):mW N l=some (upF l):=by
 unfold mW upF
 have hsub:qX l 1 ((l.length:Nat):Int)=some ((l.drop 1).take (l.length - 1)):=by
  unfold qX
  rw [if_pos (by omega)]
  congr 1
 rw [hsub,Option.bind_some]
 have hlen:((l.drop 1).take (l.length - 1)).length=l.length - 1:=by simp
 have hs:=aCg (ρ:=Bool) (fun i:Nat=>(i:Int)) (fun j=>cond (aEv l j) none (some false)) (l.length - 1) (fun s4=>iJ N l ((l.drop 1).take (l.length - 1)) s4) (fun i hi=>by
  show iJ N l _ (i:Int)=_
  unfold iJ
  rw [hlen,lR hi,cond_true,fP (by omega),getI_d mk0 (by omega),getI_d mk0 (by omega)]
  simp only [Option.bind_some]
  unfold aEv
  rcases Int.lt_or_le (l.getD i mk0).Stage (l.getD (i + 1) mk0).Stage with h1 | h1
  ·have e1:decide ((l.getD (i + 1) mk0).Stage≤(l.getD i mk0).Stage)=false:=dF (by omega)
   have e2:decide ((l.getD i mk0).Stage < (l.getD (i + 1) mk0).Stage)=true:=dT (by omega)
   rw [e1,e2]
   rcases Int.lt_or_le (l.getD i mk0).Flow (l.getD (i + 1) mk0).Flow with h2 | h2
   ·have e3:decide ((l.getD (i + 1) mk0).Flow≤(l.getD i mk0).Flow)=false:=dF (by omega)
    have e4:decide ((l.getD i mk0).Flow < (l.getD (i + 1) mk0).Flow)=true:=dT (by omega)
    rw [e3,e4]
    rfl
   ·have e3:decide ((l.getD (i + 1) mk0).Flow≤(l.getD i mk0).Flow)=true:=dT (by omega)
    have e4:decide ((l.getD i mk0).Flow < (l.getD (i + 1) mk0).Flow)=false:=dF (by omega)
    rw [e3,e4]
    rfl
  ·have e1:decide ((l.getD (i + 1) mk0).Stage≤(l.getD i mk0).Stage)=true:=dT (by omega)
   have e2:decide ((l.getD i mk0).Stage < (l.getD (i + 1) mk0).Stage)=false:=dF (by omega)
   rw [e1,e2]
   rfl) (by
  show iJ N l _ ((l.length - 1:Nat):Int)=_
  unfold iJ
  rw [hlen,mJ,cond_false]) (l.length - 1) 0 N (by omega) (by omega)
 rw [show (0:Int)=((0:Nat):Int) from rfl,hs,firstG_range]
 cases (List.range' 0 (l.length - 1)).all (aEv l) <;> rfl
def aDn (l:List aE) (at_ sh:Int):Int:=if jH l ≠ 0 then jH l else if upF l=false then 9 else if (aY at_ && aG sh (-300) 300)=true then 0 else 4
theorem wI {l:List aE} (h:jH l=0):2≤l.length∧l.length≤12∧l.all dU=true:=by
 unfold jH at h
 split at h
 ·split at h
  ·exact ⟨by omega,by omega,by assumption⟩
  ·omega
 ·omega
theorem aE7 {N:Nat} (hN:700≤N) {l:List aE} (hl:l.length≤50) {at_ sh:Int}:oU N l at_ sh=some (aDn l at_ sh):=by
 unfold oU aDn
 rw [aBk hN hl,Option.bind_some]
 by_cases h:jH l=0
 ·have h1:(jH l != 0)=false:=by simp [h]
  rw [h1,cond_false,if_neg (by simp [h]),aAx hN (by have:=wI h; omega) hl,Option.bind_some]
  cases upF l with
  | false=>rfl
  | true=>
   cases aY at_ <;> cases aG sh (-300) 300 <;> rfl
 ·have h1:(jH l != 0)=true:=by simp [h]
  rw [h1,cond_true,if_pos h]
structure ROk (l:List aE):Prop where
 l2:2≤l.length
 l12:l.length≤12
 st:∀ i,i < l.length→-2000≤(l.getD i mk0).Stage∧(l.getD i mk0).Stage≤2000
 fl:∀ i,i < l.length→0≤(l.getD i mk0).Flow∧(l.getD i mk0).Flow≤1000000000
 su:∀ i,i + 1 < l.length→(l.getD i mk0).Stage < (l.getD (i + 1) mk0).Stage
 fu:∀ i,i + 1 < l.length→(l.getD i mk0).Flow < (l.getD (i + 1) mk0).Flow
theorem aCy {l:List aE}:(jH l=0∧upF l=true) ↔ ROk l:=by
 constructor
 ·rintro ⟨h1,h2⟩
  obtain ⟨a,b,c⟩:=wI h1
  have hall:∀ i,i < l.length→dU (l.getD i mk0)=true:=fun i hi=>by
   rw [← cF hi]
   exact List.all_eq_true.1 c _ (List.getElem_mem hi)
  have hup:=range_all.1 h2
  refine ⟨a,b,fun i hi=>?_,fun i hi=>?_,fun i hi=>?_,fun i hi=>?_⟩
  ·have:=hall i hi
   simp only [dU,aY,aG,Bool.and_eq_true,decide_eq_true_eq] at this
   omega
  ·have:=hall i hi
   simp only [dU,iA,aG,Bool.and_eq_true,decide_eq_true_eq] at this
   omega
  ·have:=hup i (by omega)
   simp only [aEv,Bool.and_eq_true,decide_eq_true_eq] at this
   exact this.1
  ·have:=hup i (by omega)
   simp only [aEv,Bool.and_eq_true,decide_eq_true_eq] at this
   exact this.2
 ·intro h
  refine ⟨?_,?_⟩
  ·unfold jH
   rw [if_pos ⟨h.l2,h.l12⟩,if_pos]
   rw [List.all_eq_true]
   intro x hx
   obtain ⟨i,hi,rfl⟩:=List.getElem_of_mem hx
   rw [cF (d:=mk0) hi]
   have h1:=h.st i hi
   have h2:=h.fl i hi
   simp only [dU,aY,iA,aG,Bool.and_eq_true,decide_eq_true_eq]
   omega
  ·refine range_all.2 fun j hj=>?_
   have h1:=h.su j (by omega)
   have h2:=h.fu j (by omega)
   simp only [aEv,Bool.and_eq_true,decide_eq_true_eq]
   exact ⟨h1,h2⟩
theorem aCt {l:List aE} {at_ sh:Int}:aDn l at_ sh=0 ↔ ROk l∧(-2000≤at_∧at_≤2000)∧(-300≤sh∧sh≤300):=by
 unfold aDn
 rw [← aCy]
 by_cases h:jH l=0
 ·rw [if_neg (by simp [h])]
  cases hu:upF l with
  | false=>simp
  | true=>
   simp only [h,aY,aG,Bool.true_eq_false,if_false]
   simp
   omega
 ·rw [if_pos h]
  simp [h]
end Go.Nilo
