/-
  What the plain functions compute, in plain arithmetic, part 11. Conditions: what each theorem names.
-/
import Derived.Test.YtofihdjdhecfdaaGreatDrL10
set_option linter.unusedSimpArgs false
set_option linter.unusedVariables false
namespace Go.Nilo
theorem aG7 {α:Type} {xs:List α} {n:Nat} (h:xs.length=n):qX xs ((0:Nat):Int) ((n:Nat):Int)=some xs:=by
 subst h
 unfold qX
 rw [if_pos ⟨by omega,by omega,by omega⟩]
 congr 1
 simp
def qI (l:List aA):Int:=qT (gB l) (l.getD 0 s00).Lo ((l.getD 0 s00).Hi - (l.getD 0 s00).Lo).toNat
def aDw (p:Option Int) (x:Int):Int:=(p.map (ap x)).getD 0
def qO (l:List aA) (left:Int) (p:Option Int) (x:Int):Bool:=decide ((l.getD 0 s00).Lo≤x∧x≤(l.getD 0 s00).Hi) && decide (aDw p x + gB l x=left)
theorem aBq {l:List aA} {left:Int} {p:Option Int} {x:Int}:qO l left p x=true ↔ ((l.getD 0 s00).Lo≤x∧x≤(l.getD 0 s00).Hi)∧aDw p x + gB l x=left:=by
 unfold qO
 rw [Bool.and_eq_true,decide_eq_true_eq,decide_eq_true_eq]
def aE5 (P:Int→Bool) (n:Nat):Nat:=(List.range n).findIdx fun k:Nat=>P ((k:Int) - 300)
def uZ (P:Int→Bool):Nat:=aE5 P 601
def gre:List aA→Int→Option Int→List Int
 | [],_,_=>[]
 | s::l,left,p=>((uZ (qO (s::l) left p):Int) - 300)::gre l (gB (s::l) ((uZ (qO (s::l) left p):Int) - 300)) (some ((uZ (qO (s::l) left p):Int) - 300))
theorem aG1 {P:Int→Bool} {x:Int} {n:Nat} (h1 : -300≤x) (h2:x < (n:Int) - 300) (h:P x=true):aE5 P n < n∧P ((aE5 P n:Int) - 300)=true∧∀ j:Nat,j < aE5 P n→P ((j:Int) - 300)=false:=by
 have hlt:aE5 P n < (List.range n).length:=by
  refine List.findIdx_lt_length.2 ⟨(x + 300).toNat,List.mem_range.2 (by omega),?_⟩
  rw [show (((x + 300).toNat:Nat):Int) - 300=x by omega]
  exact h
 have h601:aE5 P n < n:=by rwa [List.length_range] at hlt
 refine ⟨h601,?_,fun j hj=>?_⟩
 ·have:P ((((List.range n)[aE5 P n]'hlt:Nat):Int) - 300)=true:=List.findIdx_getElem (w:=hlt)
  rwa [List.getElem_range] at this
 ·have:=List.not_of_lt_findIdx (p:=fun k:Nat=>P ((k:Int) - 300)) (xs:=List.range n) (i:=j) hj
  rw [List.getElem_range] at this
  simpa using this
theorem aHf {P:Int→Bool} {x:Int} (h1 : -300≤x) (h2:x≤300) (h:P x=true):uZ P < 601∧P ((uZ P:Int) - 300)=true∧∀ j:Nat,j < uZ P→P ((j:Int) - 300)=false :=
 aG1 h1 (by omega) h
theorem aI7 {l:List aA} (h:VL l):∃ x,qO l (qI l) none x=true:=by
 have h1:=h.l1
 have hs:=h.at_ (i:=0) (by omega)
 obtain ⟨x,k1,k2,k3⟩:=rH (gB l) (l.getD 0 s00).Lo ((l.getD 0 s00).Hi - (l.getD 0 s00).Lo).toNat
 refine ⟨x,aBq.2 ⟨⟨k1,?_⟩,?_⟩⟩
 ·have:=hs.2.1
  omega
 ·unfold qI
  rw [k3]
  simp [aDw]
def aJ1 (l:List aA):List Int:=gre l (qI l) none
theorem aI6 {l:List aA} (h:VL l) {c:List Int} (hc:Crs l c):qI l≤move c:=by
 have h1:=h.l1
 cases l with
 | nil=>simp at h1
 | cons s l=>
  cases c with
  | nil=>exact hc.elim
  | cons x c=>
   have:=xC l s x c hc
   have:=vH (gB (s::l)) s.Lo (s.Hi - s.Lo).toNat x hc.1 (by have:=hc.1; have:=hc.2.1; omega)
   unfold qI
   show qT (gB (s::l)) s.Lo (s.Hi - s.Lo).toNat≤_
   omega
theorem aBh {N:Nat} (hN:700≤N) {a b:Int} (ha : -1000000≤a∧a≤1000000) (hb : -1000000≤b∧b≤1000000):mN N a b=some (ap a b):=by
 unfold mN nF
 rw [W_sm (n:=a - b) (by omega) (by omega),W_sm (n:=b - a) (by omega) (by omega)]
 have:=uM (ρ:=Int) (fun i:Nat=>((if i=0 then a - b else ap a b,(i:Int)):Int × Int)) 1 (fun s4=>nD N [b - a] s4.1 s4.2) (fun i hi=>by
  obtain rfl:i=0:=by omega
  rfl) rfl (N:=N) (by omega)
 rw [show ((a - b,0):Int × Int)=(if (0:Nat)=0 then a - b else ap a b,((0:Nat):Int)) from rfl,this]
 rfl
theorem aIa {N:Nat} (hN:700≤N) {xs:List Int} (h1:1≤xs.length) (h2:xs.length≤650):gV N xs=some (qT (fun y=>xs.getD y.toNat 0) 0 (xs.length - 1)):=by
 unfold gV
 rw [dF (show ¬ ((xs.length:Nat):Int) < 1 by omega),cond_false,show (0:Int)=((0:Nat):Int) from rfl,getI_d 0 (by omega),Option.bind_some]
 have:=uM (ρ:=Int) (fun i:Nat=>((qT (fun y=>xs.getD y.toNat 0) 0 i,((i + 1:Nat):Int)):Int × Int)) (xs.length - 1) (fun s7=>dM N xs s7.1 s7.2) (fun i hi=>by
  show dM N xs _ ((i + 1:Nat):Int)=_
  unfold dM
  rw [lR (by omega),cond_true,getI_d 0 (by omega),Option.bind_some,fP (by omega)]
  show some (cY.cont (min (qT (fun y=>xs.getD y.toNat 0) 0 i) (xs.getD (i + 1) 0),_))=some (cY.cont (min (qT (fun y=>xs.getD y.toNat 0) 0 i) (xs.getD (0 + ((i + 1:Nat):Int)).toNat 0),_))
  rw [Int.zero_add,Int.toNat_natCast]) (by
  show dM N xs _ ((xs.length - 1 + 1:Nat):Int)=_
  unfold dM
  rw [Nat.sub_add_cancel h1,mJ,cond_false]) (N:=N) (by omega)
 show Option.bind (bE _ N (qT (fun y=>xs.getD y.toNat 0) 0 0,((0 + 1:Nat):Int))) _=_
 rw [this]
 rfl
theorem aJ3 {l:List aA} (h:VL l):qT (fun y=>((aL 601 (bX (l.getD 0 s00) (kP l 0))).getD y.toNat 0)) 0 600=qI l:=by
 have h1:=h.l1
 have hs:=h.at_ (i:=0) (by omega)
 have hget:∀ k:Nat,k < 601→(aL 601 (bX (l.getD 0 s00) (kP l 0))).getD k 0=bX (l.getD 0 s00) (kP l 0) k:=fun k hk=>by simp [aL,List.getD,hk]
 have hre:kP l 0=gB l:=by unfold kP; rw [List.drop_zero]
 have hin:∀ x,(l.getD 0 s00).Lo≤x→x≤(l.getD 0 s00).Hi→bX (l.getD 0 s00) (kP l 0) (x + 300).toNat=gB l x:=fun x a b=>by
  unfold vQ at hs
  unfold bX
  rw [if_pos (by omega),show (((x + 300).toNat:Nat):Int) - 300=x by omega,if_pos ⟨a,b⟩,hre]
 obtain ⟨x,k1,k2,k3⟩:=rH (gB l) (l.getD 0 s00).Lo ((l.getD 0 s00).Hi - (l.getD 0 s00).Lo).toNat
 have hx:x≤(l.getD 0 s00).Hi:=by have:=hs.2.1; omega
 obtain ⟨y,j1,j2,j3⟩:=rH (fun y=>((aL 601 (bX (l.getD 0 s00) (kP l 0))).getD y.toNat 0)) 0 600
 refine Int.le_antisymm ?_ ?_
 ·have:=vH (fun y=>((aL 601 (bX (l.getD 0 s00) (kP l 0))).getD y.toNat 0)) 0 600 (x + 300) (by unfold vQ at hs; omega) (by unfold vQ at hs; omega)
  rw [hget _ (by unfold vQ at hs; omega),hin x k1 hx] at this
  unfold qI
  rw [k3]
  exact this
 ·rw [j3,hget _ (by omega)]
  unfold bX
  rw [if_pos (by omega)]
  split
  ·rename_i hc
   rw [hre]
   exact vH (gB l) _ _ _ hc.1 (by omega)
  ·have hb:=aAs h (i:=0) (by omega) k1 hx
   rw [hre] at hb
   unfold qI
   rw [k3]
   unfold nM
   omega
theorem aDt {N:Nat} (hN:700≤N) {l:List aA} (h:VL l) {i:Nat} (hi:i < l.length) {left:Int} {c:List Int} (hc:c.length=i) (hcb:∀ x ∈ c,-300≤x∧x≤300) {k:Nat} (hk:k < 601) :
  eV N (i:Int) (bX (l.getD i s00) (kP l i)) left c (k:Int) ((k:Int) - 300)=some (if qO (l.drop i) left c.getLast? ((k:Int) - 300)=true then Rs.brk (gB (l.drop i) ((k:Int) - 300),c++[(k:Int) - 300]) else Rs.go (left,c)):=by
 have h32:=h.l32
 have hj:∀ st,0≤st→st≤1000000→st=aDw c.getLast? ((k:Int) - 300)→iR N (bX (l.getD i s00) (kP l i)) left c (k:Int) ((k:Int) - 300) st=some (if qO (l.drop i) left c.getLast? ((k:Int) - 300)=true then Rs.brk (gB (l.drop i) ((k:Int) - 300),c++[(k:Int) - 300]) else Rs.go (left,c)):=fun st h0 h1 he=>by
  unfold iR
  rw [yP hk,Option.bind_some,Int.toNat_natCast]
  have e0:(l.drop i).getD 0 s00=l.getD i s00:=by rw [oC hi]; rfl
  unfold bX qO
  rw [if_pos hk,e0]
  by_cases hin:(l.getD i s00).Lo≤(k:Int) - 300∧(k:Int) - 300≤(l.getD i s00).Hi
  ·have b2:=aAs h hi hin.1 hin.2
   rw [if_pos hin,dT hin,Bool.true_and]
   have:(kP l i ((k:Int) - 300) != 1073741824)=true:=by simp; omega
   rw [this,cond_true,Option.bind_some,W_sm (by omega) (by omega)]
   unfold kP at *
   by_cases hq:st + gB (l.drop i) ((k:Int) - 300)=left
   ·rw [hq,beq_self_eq_true,cond_true,lB (by simp; omega),Option.bind_some,Option.bind_some,if_pos (by rw [decide_eq_true_eq]; rw [← he]; exact hq)]
   ·have:(st + gB (l.drop i) ((k:Int) - 300) == left)=false:=by simpa using hq
    rw [this,cond_false,if_neg (by rw [decide_eq_true_eq]; rw [← he]; exact hq)]
  ·rw [if_neg hin,dF hin,Bool.false_and]
   rfl
 unfold eV
 rcases Nat.eq_zero_or_pos i with h0 | h0
 ·subst h0
  have:c=[]:=List.eq_nil_of_length_eq_zero hc
  subst this
  rw [dF (by omega),cond_false]
  exact hj 0 (by omega) (by omega) rfl
 ·rw [dT (show (0:Int) < (i:Int) by omega),cond_true,W_sm (n:=(i:Int) - 1) (by omega) (by omega),show ((i:Nat):Int) - 1=((i - 1:Nat):Int) by omega,getI_d 0 (by omega),Option.bind_some]
  have hlast:c.getLast?=some (c.getD (i - 1) 0):=by
   rw [List.getLast?_eq_getElem?,hc,List.getElem?_eq_getElem (by omega),cF (d:=(0:Int))]
  have hb:=hcb (c.getD (i - 1) 0) (by rw [← cF (by omega)]; exact List.getElem_mem _)
  rw [aBh hN (by omega) (by omega),Option.bind_some]
  exact hj _ (aB6 _ _) (by unfold ap; omega) (by rw [hlast]; rfl)
theorem aFc {N:Nat} (hN:700≤N) {l:List aA} (h:VL l):∀ (m i M:Nat) (left:Int) (c:List Int),i + m=l.length→m < M→c.length=i→(∀ x ∈ c,-300≤x∧x≤300)→(i < l.length→∃ x,qO (l.drop i) left c.getLast? x=true) →
  ∃ z:Int × Int,bE (fun s16:Int × Int × List Int=>gQ N (nG l) s16.1 s16.2.1 s16.2.2) M ((i:Int),left,c)=some (.go (z.1,z.2,c++gre (l.drop i) left c.getLast?)):=by
 intro m
 have h32:=h.l32
 have hrl:(nG l).length=l.length:=by simp [nG]
 induction m with
 | zero=>
  intro i M left c hi hM hc hb hx
  obtain ⟨M,rfl⟩:∃ M',M=M' + 1:=⟨M - 1,by omega⟩
  obtain rfl:i=l.length:=by omega
  refine ⟨((l.length:Int),left),?_⟩
  unfold bE
  have:gQ N (nG l) (l.length:Int) left c=some (.brk ((l.length:Int),left,c)):=by
   unfold gQ
   rw [hrl,mJ,cond_false]
  simp only [this]
  rw [List.drop_eq_nil_of_le (Nat.le_refl _)]
  simp [gre]
 | succ m ih=>
  intro i M left c hi hM hc hb hx
  obtain ⟨M,rfl⟩:∃ M',M=M' + 1:=⟨M - 1,by omega⟩
  have hil:i < l.length:=by omega
  obtain ⟨x,hx⟩:=hx hil
  have hs:=h.at_ hil
  have e0:(l.drop i).getD 0 s00=l.getD i s00:=by rw [oC hil]; rfl
  have hxin:∀ y,qO (l.drop i) left c.getLast? y=true→((l.getD i s00).Lo≤y∧y≤(l.getD i s00).Hi)∧aDw c.getLast? y + gB (l.drop i) y=left:=fun y hy=>by
   have:=aBq.1 hy
   rwa [e0] at this
  have hx1:=(hxin x hx).1
  obtain ⟨f1,f2,f3⟩:=aHf (P:=qO (l.drop i) left c.getLast?) (x:=x) (by unfold vQ at hs; omega) (by unfold vQ at hs; omega) hx
  have hy:=hxin _ f2
  have hsh:cN N (rY (fun (zz:Int × (List Int)) (ix_:(Int × Int))=>eV N (i:Int) (bX (l.getD i s00) (kP l i)) zz.1 zz.2 ix_.1 ix_.2)) (.go (left,c))=some (.brk (gB (l.drop i) ((uZ (qO (l.drop i) left c.getLast?):Int) - 300),c++[(uZ (qO (l.drop i) left c.getLast?):Int) - 300])):=by
   refine aFi hN _ (fun _=>Rs.go (left,c)) _ _ f1 (fun j hj=>?_) ?_
   ·show Option.map _ (eV N (i:Int) _ left c (j:Int) ((j:Int) - 300))=_
    rw [aDt hN h hil hc hb (by omega),if_neg (by rw [f3 j hj]; simp)]
    rfl
   ·show Option.map _ (eV N (i:Int) _ left c _ _)=_
    rw [aDt hN h hil hc hb f1,if_pos f2]
    rfl
  have hstep:gQ N (nG l) (i:Int) left c=some (.cont (((i + 1:Nat):Int),gB (l.drop i) ((uZ (qO (l.drop i) left c.getLast?):Int) - 300),c++[(uZ (qO (l.drop i) left c.getLast?):Int) - 300])):=by
   unfold gQ
   rw [hrl,lR hil,cond_true]
   unfold nG
   rw [wY hil,Option.bind_some,hsh,Option.bind_some]
   show some (cY.cont (W ((i:Int) + 1),_,_))=_
   rw [fP (by omega)]
  unfold bE
  simp only [hstep]
  obtain ⟨z,k⟩:=ih (i + 1) M (gB (l.drop i) ((uZ (qO (l.drop i) left c.getLast?):Int) - 300)) (c++[(uZ (qO (l.drop i) left c.getLast?):Int) - 300]) (by omega) (by omega) (by simp [hc]) (fun y hy'=>by
   rcases List.mem_append.1 hy' with h1 | h1
   ·exact hb y h1
   ·simp only [List.mem_singleton] at h1
    rw [h1]
    have:=hy.1
    have:=hs.1
    have:=hs.2.2
    exact ⟨by omega,by omega⟩) (fun hi1=>by
   have hd:=oC hi1
   obtain ⟨w,w1,w2,w3⟩:=rH (fun w=>ap ((uZ (qO (l.drop i) left c.getLast?):Int) - 300) w + gB (l.drop (i + 1)) w) (l.getD (i + 1) s00).Lo ((l.getD (i + 1) s00).Hi - (l.getD (i + 1) s00).Lo).toNat
   have hs1:=h.at_ hi1
   have e0':(l.drop (i + 1)).getD 0 s00=l.getD (i + 1) s00:=by rw [hd]; rfl
   refine ⟨w,?_⟩
   rw [List.getLast?_concat]
   refine aBq.2 ⟨by rw [e0']; exact ⟨w1,by have:=hs1.2.1; omega⟩,?_⟩
   generalize ((uZ (qO (l.drop i) left c.getLast?):Nat):Int) - 300=y at *
   have e1:gB (l.drop i) y=qT (fun w=>ap y w + gB (l.drop (i + 1)) w) (l.getD (i + 1) s00).Lo ((l.getD (i + 1) s00).Hi - (l.getD (i + 1) s00).Lo).toNat:=by
    rw [oC hil,hd]
    rfl
   rw [e1,w3,aC0]
   rfl)
  refine ⟨z,?_⟩
  rw [k,List.getLast?_concat]
  have hg:gre (l.drop i) left c.getLast?=((uZ (qO (l.drop i) left c.getLast?):Int) - 300)::gre (l.drop (i + 1)) (gB (l.drop i) ((uZ (qO (l.drop i) left c.getLast?):Int) - 300)) (some ((uZ (qO (l.drop i) left c.getLast?):Int) - 300)):=by
   rw [oC hil]
   rfl
  rw [hg,List.append_assoc]
  rfl
theorem rW {r:aH} (hr:pT r) (h:(passes r).all eD=true):VL (passes r):=by
 refine ⟨by simpa [passes] using hr.g1,by have:=hr.g30; simp [passes]; omega,fun s hs=>?_⟩
 have hok:=of_decide_eq_true (List.all_eq_true.1 h s hs)
 obtain ⟨g,hg,rfl⟩:=List.mem_map.1 hs
 rcases tE (jW r.Rating g) 601 with ⟨a,b,c,d,e,f⟩ | ⟨a,b,c⟩
 ·have e':(eP (jW r.Rating g) 601).2 < 301:=e
  exact ⟨d,a,show (eP (jW r.Rating g) 601).2≤300 by omega⟩
 ·have hok':(eP (jW r.Rating g) 601).1≤(eP (jW r.Rating g) 601).2:=hok
  omega
theorem aFe {N:Nat} (hN:700≤N) {r:aH} (hr:pT r) (h:(passes r).all eD=true):mO N r=some (aJ1 (passes r),qI (passes r),0):=by
 have hv:=rW hr h
 have h1:=hv.l1
 unfold mO
 rcases opened_ok hN hr with ⟨o,-,k⟩ | ⟨k,-⟩
 ·rw [h] at k
  cases k
 rw [k,Option.bind_some]
 show Option.bind (kG N (passes r)) _=_
 have hg0:bG (nG (passes r)) ((0:Nat):Int)=some (bX ((passes r).getD 0 s00) (kP (passes r) 0)):=wY (G:=kP) (by omega)
 rw [yT hN hv,Option.bind_some,show (0:Int)=((0:Nat):Int) from rfl,hg0,Option.bind_some]
 have hsub:qX (aL 601 (bX ((passes r).getD 0 s00) (kP (passes r) 0))) ((0:Nat):Int) ((601:Nat):Int)=some (aL 601 (bX ((passes r).getD 0 s00) (kP (passes r) 0))):=by
  exact aG7 wG
 rw [hsub,Option.bind_some,aIa hN (by rw [wG]; omega) (by rw [wG]; omega),Option.bind_some,wG]
 rw [show 601 - 1=600 from rfl,aJ3 hv]
 obtain ⟨z,k⟩:=aFc hN hv (passes r).length 0 N (qI (passes r)) [] (by omega) (by have:=hv.l32; omega) rfl (fun x hx=>by simp at hx) (fun _=>aI7 hv)
 rw [k,Option.bind_some]
 rfl
end Go.Nilo
