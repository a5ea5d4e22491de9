/-
  What the plain functions compute, in plain arithmetic, part 14. Conditions: what each theorem names.
-/
import Derived.Test.YtofihdjdhecfdaaGreatDrL13
set_option linter.unusedSimpArgs false
set_option linter.unusedVariables false
namespace Go.Nilo
structure RInv (i:Nat) (out:List aE) (stage flow:Int):Prop where
 len:out.length=i
 s0 : -20≤stage∧stage≤20 + 30 * i
 f0:0≤flow∧flow≤49 + 400 * i
 e:∀ j,j < i→(-20≤mS out j∧mS out j < stage)∧0≤mF out j∧mF out j < flow
 up:∀ j,j + 1 < i→mS out j < mS out (j + 1)∧mF out j < mF out (j + 1)
theorem RInv.next {i:Nat} {out:List aE} {stage flow a b:Int} (h:RInv i out stage flow) (ha:1≤a∧a≤30) (hb:1≤b∧b≤400):RInv (i + 1) (out++[⟨stage,flow⟩]) (stage + a) (flow + b):=by
 obtain ⟨h1,h2,h3,h4,h5⟩:=h
 have hlt:∀ j,j < i→mS (out++[⟨stage,flow⟩]) j=mS out j∧mF (out++[⟨stage,flow⟩]) j=mF out j:=fun j hj=>by
  unfold mS mF
  rw [xP (by omega)]
  exact ⟨rfl,rfl⟩
 have heq:mS (out++[⟨stage,flow⟩]) i=stage∧mF (out++[⟨stage,flow⟩]) i=flow:=by
  subst h1
  unfold mS mF
  rw [xJ]
  exact ⟨rfl,rfl⟩
 refine ⟨by simp [h1],by push_cast; omega,by push_cast; omega,fun j hj=>?_,fun j hj=>?_⟩
 ·rcases Nat.lt_or_eq_of_le (show j≤i by omega) with c | c
  ·have:=h4 j c
   rw [(hlt j c).1,(hlt j c).2]
   omega
  ·subst c
   rw [heq.1,heq.2]
   omega
 ·have c:j < i:=by omega
  rw [(hlt j c).1,(hlt j c).2]
  rcases Nat.lt_or_eq_of_le (show j + 1≤i by omega) with d | d
  ·rw [(hlt _ d).1,(hlt _ d).2]
   exact h5 j d
  ·rw [d,heq.1,heq.2]
   have:=h4 j c
   omega
structure aGd (l:List aE):Prop where
 ok:ROk l
 l7:l.length≤7
 s:∀ j,j < l.length→-20≤mS l j∧mS l j≤230
 f:∀ j,j < l.length→mF l j≤2900
theorem aE2 {N:Nat} (hN:700≤N) {bs:List Int} (hb:yQ bs) {u m:Int} {k:Nat} (hs:SOk u m k) (hk:k≤100000) :
  ∃ l u' m' k',pD N ⟨bs,u,m⟩=some (l,u',m')∧SOk u' m' k'∧k'≤k + 20∧aGd l:=by
 unfold pD
 obtain ⟨st,u1,m1,a1,a2,a3,a4⟩:=gZ (N:=N) hb (lo:=-20) (hi:=20) hs (by omega) (by omega) (by omega) (by omega)
 rw [a1,Option.bind_some]
 obtain ⟨fl,u2,m2,b1,b2,b3,b4⟩:=rX (N:=N) hb (n:=50) a4 (by omega)
 show ∃ l u' m' k',Option.bind (cM N ⟨bs,u1,m1⟩ 50) _=_∧_
 rw [b1,Option.bind_some]
 obtain ⟨n,u3,m3,c1,c2,c3,c4⟩:=gZ (N:=N) hb (lo:=2) (hi:=7) b4 (by omega) (by omega) (by omega) (by omega)
 show ∃ l u' m' k',Option.bind (aZ N ⟨bs,u2,m2⟩ 2 7) _=_∧_
 rw [c1]
 simp only [Option.bind_some]
 obtain ⟨n,rfl⟩:=Int.eq_ofNat_of_zero_le (show 0≤n by omega)
 obtain ⟨s',e1,e2⟩:=aAh (ρ:=(List aE) × Int × Int) (fun s6:(List aE) × Int × Int × Int × Int × Int=>iE N ⟨bs,u,m⟩ ((n:Int),u3,m3) s6.1 s6.2.1 s6.2.2.1 s6.2.2.2.1 s6.2.2.2.2.1 s6.2.2.2.2.2)
  (fun i s=>RInv i s.1 s.2.1 s.2.2.1∧s.2.2.2.1=(i:Int)∧SOk s.2.2.2.2.1 s.2.2.2.2.2 (k + 3 + 2 * i)) n (fun i s hi hI=>by
   obtain ⟨out,stage,flow,x,v,q⟩:=s
   obtain ⟨i1,i2,i3⟩:=hI
   simp only at i1 i2 i3
   subst i2
   have il:=i1.len
   have is:=i1.s0
   have if0:=i1.f0
   obtain ⟨da,u4,m4,f1,f2,f3,f4⟩:=gZ (N:=N) hb (lo:=1) (hi:=30) i3 (by omega) (by omega) (by omega) (by omega)
   obtain ⟨db,u5,m5,g1,g2,g3,g4⟩:=gZ (N:=N) hb (lo:=1) (hi:=400) f4 (by omega) (by omega) (by omega) (by omega)
   refine ⟨(out++[⟨stage,flow⟩],stage + da,flow + db,((i + 1:Nat):Int),u5,m5),?_,i1.next ⟨f2,f3⟩ ⟨g2,g3⟩,rfl,?_⟩
   ·show iE N ⟨bs,u,m⟩ ((n:Int),u3,m3) out stage flow (i:Int) v q=_
    unfold iE
    rw [dT (show (i:Int) < (n:Int) by omega),cond_true,lB (by simp; omega),Option.bind_some]
    show Option.bind (aZ N ⟨bs,v,q⟩ 1 30) _=_
    rw [f1,Option.bind_some]
    show Option.bind (aZ N ⟨bs,u4,m4⟩ 1 400) _=_
    rw [g1,Option.bind_some,W_sm (n:=stage + da) (by omega) (by omega),W_sm (n:=flow + db) (by omega) (by omega),fP (by omega)]
   ·rw [show k + 3 + 2 * (i + 1)=k + 3 + 2 * i + 1 + 1 by omega]
    exact g4) (fun s hI=>by
   obtain ⟨out,stage,flow,x,v,q⟩:=s
   obtain ⟨i1,i2,i3⟩:=hI
   simp only at i2
   subst i2
   show iE N ⟨bs,u,m⟩ ((n:Int),u3,m3) out stage flow (n:Int) v q=_
   unfold iE
   rw [mJ,cond_false]) n 0 ([],st,fl,0,u3,m3) N (by omega) (by omega) ⟨⟨rfl,(by show -20≤st∧st≤20 + 30 * ((0:Nat):Int); omega),(by show 0≤fl∧fl≤49 + 400 * ((0:Nat):Int); omega),fun j hj=>by omega,fun j hj=>by omega⟩,rfl,c4⟩
 obtain ⟨out,stage,flow,x,v,q⟩:=s'
 obtain ⟨i1,i2,i3⟩:=e2
 refine ⟨out,v,q,k + 3 + 2 * n,?_,i3,by omega,?_⟩
 ·rw [e1,Option.bind_some]
  rfl
 ·have il:=i1.len
  have is:=i1.s0
  have if0:=i1.f0
  simp only at il is if0
  have he:∀ j,j < n→(-20≤mS out j∧mS out j < stage)∧0≤mF out j∧mF out j < flow:=i1.e
  have hu:∀ j,j + 1 < n→mS out j < mS out (j + 1)∧mF out j < mF out (j + 1):=i1.up
  refine ⟨⟨by omega,by omega,fun j hj=>?_,fun j hj=>?_,fun j hj=>(hu j (by omega)).1,fun j hj=>(hu j (by omega)).2⟩,by omega,fun j hj=>?_,fun j hj=>?_⟩
  ·have:=he j (by omega)
   show -2000≤mS out j∧mS out j≤2000
   omega
  ·have:=he j (by omega)
   show 0≤mF out j∧mF out j≤1000000000
   omega
  ·have:=he j (by omega)
   omega
  ·have:=he j (by omega)
   omega
theorem aC2 {l:List aE} (h:aGd l) (a:Int):(bB l a).N≤2900 * (bB l a).D:=by
 have hl:=h.ok
 have hlen:=hl.l2
 obtain ⟨a1,-,-,a2,-⟩:=gO hl a
 have f1:=h.f (l.length - 1) (by omega)
 have hm:(bB l a).N≤mF l (l.length - 1) * (bB l a).D:=by
  rcases Int.lt_or_le (mS l (l.length - 1)) a with c | c
  ·rcases a2 with ⟨h1,h2⟩ | ⟨h1,h2⟩ | ⟨i,hi,h1,h2,h3⟩
   ·have:=hl.mon (Nat.zero_le (l.length - 1)) (by omega)
    omega
   ·omega
   ·have:=hl.mon (show i + 1≤l.length - 1 by omega) (by omega)
    omega
  ·exact a2.hi hl (by omega) (by omega) c
 have:mF l (l.length - 1) * (bB l a).D≤2900 * (bB l a).D:=gW f1 (by omega)
 omega
end Go.Nilo
