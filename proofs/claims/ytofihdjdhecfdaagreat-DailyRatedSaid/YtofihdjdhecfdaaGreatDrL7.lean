/-
  What the plain functions compute, in plain arithmetic, part 7. Conditions: what each theorem names.
-/
import Derived.Test.YtofihdjdhecfdaaGreatDrL6
set_option linter.unusedSimpArgs false
set_option linter.unusedVariables false
namespace Go.Nilo
def ap (x y:Int):Int:=max (x - y) (y - x)
def qT (f:Int→Int) (lo:Int):Nat→Int
 | 0=>f lo
 | n + 1=>min (qT f lo n) (f (lo + (n + 1:Nat)))
theorem vH (f:Int→Int) (lo:Int):∀ (n:Nat) (y:Int),lo≤y→y≤lo + n→qT f lo n≤f y
 | 0,y,h1,h2=>by
  have:y=lo:=by omega
  subst this
  exact Int.le_refl _
 | n + 1,y,h1,h2=>by
  unfold qT
  rcases Int.lt_or_le (lo + n) y with h | h
  ·have:y=lo + ((n + 1:Nat):Int):=by omega
   subst this
   exact Int.min_le_right _ _
  ·exact Int.le_trans (Int.min_le_left _ _) (vH f lo n y h1 h)
theorem rH (f:Int→Int) (lo:Int):∀ n:Nat,∃ y,lo≤y∧y≤lo + n∧qT f lo n=f y
 | 0=>⟨lo,Int.le_refl _,by omega,rfl⟩
 | n + 1=>by
  obtain ⟨y,h1,h2,h3⟩:=rH f lo n
  unfold qT
  rcases Int.le_total (qT f lo n) (f (lo + ((n + 1:Nat):Int))) with h | h
  ·exact ⟨y,h1,by omega,by rw [Int.min_eq_left h]; exact h3⟩
  ·exact ⟨_,by omega,Int.le_refl _,Int.min_eq_right h⟩
def nM:Int:=1073741824
def bX (s:aA) (g:Int→Int):Nat→Int:=fun k=>if k < 601 then (if s.Lo≤(k:Int) - 300∧(k:Int) - 300≤s.Hi then g ((k:Int) - 300) else nM) else 0
def gB:List aA→Int→Int
 | _::t::l,x=>qT (fun y=>ap x y + gB (t::l) y) t.Lo (t.Hi - t.Lo).toNat
 | [_],_=>0
 | [],_=>0
def vQ (s:aA):Prop:=-300≤s.Lo∧s.Lo≤s.Hi∧s.Hi≤300
theorem aBd:∀ (l:List aA) (x:Int),(∀ s ∈ l,vQ s)→-300≤x∧x≤300→0≤gB l x∧gB l x≤600 * ((l.length:Int) - 1) ∨ l=[]
 | [],_,_,_=>.inr rfl
 | [_],_,_,_=>.inl ⟨Int.le_refl _,by simp [gB]⟩
 | s::t::l,x,h,hx=>by
  left
  have ht:=h t (by simp)
  unfold gB
  obtain ⟨y,h1,h2,h3⟩:=rH (fun y=>ap x y + gB (t::l) y) t.Lo (t.Hi - t.Lo).toNat
  obtain ⟨a,b,c⟩:=ht
  have hy : -300≤y∧y≤300:=by omega
  rcases aBd (t::l) y (fun s hs=>h s (List.mem_cons_of_mem _ hs)) hy with ⟨k1,k2⟩ | k
  ·rw [h3]
   simp only [List.length_cons,ap] at *
   omega
  ·cases k
theorem yP {i n:Nat} (h:i < n):inR (i:Int) n=some ():=by unfold inR; rw [if_pos ⟨by omega,by omega⟩]
theorem in_dec (x a b:Int):aG x a b=decide (a≤x∧x≤b):=by
 unfold aG
 by_cases h1:a≤x <;> by_cases h2:x≤b <;> simp [h1,h2]
theorem aEw {N:Nat} (hN:700≤N) (s:aA):pF N s=some (bX s fun _=>0):=by
 unfold pF
 have:=tH hN (rY (fun (zz:(Nat→Int)) (ix_:(Int × Int))=>iF N s zz ix_.1 ix_.2)) (fun i=>.go (fun k=>if k < i then (if s.Lo≤(k:Int) - 300∧(k:Int) - 300≤s.Hi then 0 else nM) else 0)) (fun i hi=>by
  show Option.map _ (iF N s _ (i:Int) ((i:Int) - 300))=_
  unfold iF
  rw [in_dec]
  by_cases h:s.Lo≤(i:Int) - 300∧(i:Int) - 300≤s.Hi
  ·rw [dT h,Bool.not_true,cond_false,Option.map_some]
   show some (Rs.go _,true)=some (Rs.go _,true)
   congr 2
   congr 1
   funext k
   by_cases hk:k=i
   ·subst hk
    rw [if_neg (by omega),if_pos (by omega),if_pos h]
   ·by_cases hk2:k < i
    ·rw [if_pos hk2,if_pos (show k < i + 1 by omega)]
    ·rw [if_neg hk2,if_neg (show ¬ k < i + 1 by omega)]
  ·rw [dF h,Bool.not_false,cond_true,yP hi,Option.bind_some,Option.map_some]
   show some (Rs.go _,true)=some (Rs.go _,true)
   congr 2
   congr 1
   funext k
   rw [Int.toNat_natCast]
   by_cases hk:k=i
   ·subst hk
    rw [rU,if_pos (by omega),if_neg h]
    rfl
   ·rw [vN hk]
    by_cases hk2:k < i
    ·rw [if_pos hk2,if_pos (show k < i + 1 by omega)]
    ·rw [if_neg hk2,if_neg (show ¬ k < i + 1 by omega)])
 have e:(fun k:Nat=>if k < 0 then (if s.Lo≤(k:Int) - 300∧(k:Int) - 300≤s.Hi then (0:Int) else nM) else 0)=fun _=>0:=by
  funext k
  rw [if_neg (by omega)]
 rw [← e,this]
 rfl
def bst (f:Nat→Int):Nat→Int
 | 0=>nM
 | n + 1=>min (bst f n + 1) (f n)
theorem aEs {f:Nat→Int}:∀ n,(∀ j,j < n→0≤f j)→0≤bst f n∧bst f n≤nM + n
 | 0,_=>by simp [bst,nM]
 | n + 1,h=>by
  have ih:=aEs n fun j hj=>h j (by omega)
  have:=h n (by omega)
  unfold bst
  push_cast
  omega
theorem aE9 {f:Nat→Int}:∀ n j,j < n→bst f n≤f j + ((n:Int) - 1 - j)
 | 0,j,h=>by omega
 | n + 1,j,h=>by
  unfold bst
  rcases Nat.lt_or_eq_of_le (show j≤n by omega) with h1 | h1
  ·have:=aE9 (f:=f) n j h1
   push_cast
   omega
  ·subst h1
   push_cast
   omega
theorem aFa {f:Nat→Int}:∀ n:Nat,bst f n=nM + n ∨ ∃ j,j < n∧bst f n=f j + ((n:Int) - 1 - j)
 | 0=>.inl (by simp [bst])
 | n + 1=>by
  unfold bst
  rcases Int.le_total (bst f n + 1) (f n) with h | h
  ·rw [Int.min_eq_left h]
   rcases aFa (f:=f) n with h1 | ⟨j,h1,h2⟩
   ·left
    rw [h1]
    push_cast
    omega
   ·right
    exact ⟨j,by omega,by rw [h2]; push_cast; omega⟩
  ·rw [Int.min_eq_right h]
   right
   exact ⟨n,by omega,by push_cast; omega⟩
theorem aHg {t:aA} {g:Int→Int} (ht:vQ t) (hg:∀ y,t.Lo≤y→y≤t.Hi→0≤g y∧g y≤20000) {k:Nat} (hk:k < 601) :
  min (bst (bX t g) (k + 1)) (bst (fun j=>bX t g (600 - j)) (601 - k))=qT (fun y=>ap ((k:Int) - 300) y + g y) t.Lo (t.Hi - t.Lo).toNat:=by
 obtain ⟨t1,t2,t3⟩:=ht
 have hn:(((t.Hi - t.Lo).toNat:Nat):Int)=t.Hi - t.Lo:=by omega
 have hin:∀ y,t.Lo≤y→y≤t.Hi→bX t g (y + 300).toNat=g y:=fun y h1 h2=>by
  unfold bX
  rw [if_pos (by omega),show (((y + 300).toNat:Nat):Int) - 300=y by omega,if_pos ⟨h1,h2⟩]
 have hle:∀ p,p < 601→min (bst (bX t g) (k + 1)) (bst (fun j=>bX t g (600 - j)) (601 - k))≤bX t g p + ap ((k:Int) - 300) ((p:Int) - 300):=fun p hp=>by
  rcases Nat.lt_or_ge k p with h | h
  ·have:=aE9 (f:=fun j=>bX t g (600 - j)) (601 - k) (600 - p) (by omega)
   simp only [show 600 - (600 - p)=p by omega] at this
   unfold ap
   omega
  ·have:=aE9 (f:=bX t g) (k + 1) p (by omega)
   unfold ap
   push_cast at this
   omega
 refine Int.le_antisymm ?_ ?_
 ·obtain ⟨y,h1,h2,h3⟩:=rH (fun y=>ap ((k:Int) - 300) y + g y) t.Lo (t.Hi - t.Lo).toNat
  rw [h3]
  have:=hle (y + 300).toNat (by omega)
  rw [hin y h1 (by omega),show (((y + 300).toNat:Nat):Int) - 300=y by omega] at this
  omega
 ·have hsm:min (bst (bX t g) (k + 1)) (bst (fun j=>bX t g (600 - j)) (601 - k)) < nM:=by
   have:=hle (t.Lo + 300).toNat (by omega)
   rw [hin t.Lo (Int.le_refl _) t2,show (((t.Lo + 300).toNat:Nat):Int) - 300=t.Lo by omega] at this
   have:=hg t.Lo (Int.le_refl _) t2
   unfold ap nM at *
   omega
  have hat:∃ p,p < 601∧min (bst (bX t g) (k + 1)) (bst (fun j=>bX t g (600 - j)) (601 - k))=bX t g p + ap ((k:Int) - 300) ((p:Int) - 300):=by
   rcases Int.le_total (bst (bX t g) (k + 1)) (bst (fun j=>bX t g (600 - j)) (601 - k)) with h | h
   ·rw [Int.min_eq_left h] at hsm ⊢
    rcases aFa (f:=bX t g) (k + 1) with h1 | ⟨j,h1,h2⟩
    ·omega
    ·refine ⟨j,by omega,?_⟩
     rw [h2]
     unfold ap
     push_cast
     omega
   ·rw [Int.min_eq_right h] at hsm ⊢
    rcases aFa (f:=fun j=>bX t g (600 - j)) (601 - k) with h1 | ⟨j,h1,h2⟩
    ·omega
    ·refine ⟨600 - j,by omega,?_⟩
     rw [h2]
     unfold ap
     omega
  obtain ⟨p,hp,he⟩:=hat
  have hpt:t.Lo≤(p:Int) - 300∧(p:Int) - 300≤t.Hi:=by
   rcases Classical.em (t.Lo≤(p:Int) - 300∧(p:Int) - 300≤t.Hi) with h | h
   ·exact h
   ·have:bX t g p=nM:=by
     unfold bX
     rw [if_pos hp,if_neg h]
    rw [this] at he
    unfold ap at he
    omega
  have hpv:bX t g p=g ((p:Int) - 300):=by
   unfold bX
   rw [if_pos hp,if_pos hpt]
  rw [he,hpv]
  have:=vH (fun y=>ap ((k:Int) - 300) y + g y) t.Lo (t.Hi - t.Lo).toNat ((p:Int) - 300) hpt.1 (by omega)
  omega
theorem aL4 {t:aA} {g:Int→Int} (hg:∀ y,t.Lo≤y→y≤t.Hi→0≤g y∧g y≤20000) (k:Nat):0≤bX t g k∧bX t g k≤nM:=by
 unfold bX
 split
 ·split
  ·rename_i h
   have:=hg _ h.1 h.2
   unfold nM
   omega
  ·unfold nM
   omega
 ·unfold nM
  omega
theorem aJ0 {N:Nat} (hN:700≤N) {t s:aA} {g:Int→Int} (ht:vQ t) (hg:∀ y,t.Lo≤y→y≤t.Hi→0≤g y∧g y≤20000) :
  lI N (bX t g) s=some (bX s fun x=>qT (fun y=>ap x y + g y) t.Lo (t.Hi - t.Lo).toNat):=by
 unfold lI
 have htb:=aL4 hg
 have hsub:∃ v,qX (aL 601 (bX t g)) 0 ((601:Nat):Int)=some v:=by
  unfold qX
  rw [if_pos ⟨by omega,by omega,by rw [wG]; omega⟩]
  exact ⟨_,rfl⟩
 obtain ⟨v,hv⟩:=hsub
 rw [hv,Option.bind_some]
 have b1:=fun n=>aEs (f:=bX t g) n fun j _=>(htb j).1
 have b2:=fun n=>aEs (f:=fun j=>bX t g (600 - j)) n fun j _=>(htb _).1
 have l1:=uM (ρ:=Nat→Int) (fun i:Nat=>((bst (bX t g) i,(i:Int),fun k=>if k < i then bst (bX t g) (k + 1) else 0):Int × Int × (Nat→Int))) 601 (fun s7=>jE N (bX t g) s7.1 s7.2.1 s7.2.2) (fun i hi=>by
  show jE N (bX t g) (bst (bX t g) i) (i:Int) _=_
  unfold jE
  have:=b1 i
  unfold nM at this
  rw [dT (by omega),cond_true,yP hi,Option.bind_some,Option.bind_some,W_sm (n:=bst (bX t g) i + 1) (by omega) (by omega),fP (by omega),Int.toNat_natCast]
  show some (cY.cont (bst (bX t g) (i + 1),((i + 1:Nat):Int),kF _ i (bst (bX t g) (i + 1))))=_
  refine congrArg (fun M=>some (cY.cont (bst (bX t g) (i + 1),((i + 1:Nat):Int),M))) (funext fun k=>?_)
  by_cases hk:k=i
  ·subst hk
   rw [rU,if_pos (by omega)]
  ·rw [vN hk]
   show (if k < i then bst (bX t g) (k + 1) else 0)=if k < i + 1 then bst (bX t g) (k + 1) else 0
   by_cases hk2:k < i
   ·rw [if_pos hk2,if_pos (show k < i + 1 by omega)]
   ·rw [if_neg hk2,if_neg (show ¬ k < i + 1 by omega)]) rfl (N:=N) (by omega)
 have e1:(fun k:Nat=>if k < 0 then bst (bX t g) (k + 1) else 0)=fun _=>0:=by
  funext k
  rw [if_neg (by omega)]
 rw [e1] at l1
 rw [show ((1073741824:Int),(0:Int),(fun _=>0:Nat→Int))=(bst (bX t g) 0,((0:Nat):Int),fun _=>0) from rfl,l1,Option.bind_some]
 have l2:=uM (ρ:=Nat→Int) (fun j:Nat=>((bst (fun j=>bX t g (600 - j)) j,600 - (j:Int),fun k=>if k < 601 then (if 600 < k + j then min (bst (bX t g) (k + 1)) (bst (fun j=>bX t g (600 - j)) (601 - k)) else bst (bX t g) (k + 1)) else 0):Int × Int × (Nat→Int))) 601 (fun s11=>iB N (bX t g) s11.1 s11.2.1 s11.2.2) (fun j hj=>by
  show iB N (bX t g) (bst (fun j=>bX t g (600 - j)) j) (600 - (j:Int)) _=_
  unfold iB
  have:=b2 j
  unfold nM at this
  rw [dT (by omega),cond_true,show (600:Int) - (j:Int)=((600 - j:Nat):Int) by omega,yP (by omega),Option.bind_some,Option.bind_some,Option.bind_some,W_sm (n:=bst (fun j=>bX t g (600 - j)) j + 1) (by omega) (by omega),W_sm (n:=((600 - j:Nat):Int) - 1) (by omega) (by omega),Int.toNat_natCast]
  show some (cY.cont (bst (fun j=>bX t g (600 - j)) (j + 1),((600 - j:Nat):Int) - 1,kF _ (600 - j) (min _ (bst (fun j=>bX t g (600 - j)) (j + 1)))))=_
  rw [show ((600 - j:Nat):Int) - 1=600 - ((j + 1:Nat):Int) by omega]
  refine congrArg (fun M=>some (cY.cont (bst (fun j=>bX t g (600 - j)) (j + 1),600 - ((j + 1:Nat):Int),M))) (funext fun k=>?_)
  by_cases hk:k=600 - j
  ·subst hk
   rw [rU]
   show min (if 600 - j < 601 then (if 600 < 600 - j + j then min (bst (bX t g) (600 - j + 1)) (bst (fun j=>bX t g (600 - j)) (601 - (600 - j))) else bst (bX t g) (600 - j + 1)) else 0) (bst (fun j=>bX t g (600 - j)) (j + 1))=if 600 - j < 601 then (if 600 < 600 - j + (j + 1) then min (bst (bX t g) (600 - j + 1)) (bst (fun j=>bX t g (600 - j)) (601 - (600 - j))) else bst (bX t g) (600 - j + 1)) else 0
   rw [if_pos (show 600 - j < 601 by omega),if_neg (show ¬ 600 < 600 - j + j by omega),if_pos (show 600 - j < 601 by omega),if_pos (show 600 < 600 - j + (j + 1) by omega),show 601 - (600 - j)=j + 1 by omega]
  ·rw [vN hk]
   show (if k < 601 then (if 600 < k + j then min (bst (bX t g) (k + 1)) (bst (fun j=>bX t g (600 - j)) (601 - k)) else bst (bX t g) (k + 1)) else 0)=if k < 601 then (if 600 < k + (j + 1) then min (bst (bX t g) (k + 1)) (bst (fun j=>bX t g (600 - j)) (601 - k)) else bst (bX t g) (k + 1)) else 0
   by_cases hk2:k < 601
   ·rw [if_pos hk2,if_pos hk2]
    by_cases hk3:600 < k + j
    ·rw [if_pos hk3,if_pos (show 600 < k + (j + 1) by omega)]
    ·rw [if_neg hk3,if_neg (show ¬ 600 < k + (j + 1) by omega)]
   ·rw [if_neg hk2,if_neg hk2]) rfl (N:=N) (by omega)
 have e2:(fun k:Nat=>if k < 601 then (if 600 < k + 0 then min (bst (bX t g) (k + 1)) (bst (fun j=>bX t g (600 - j)) (601 - k)) else bst (bX t g) (k + 1)) else 0)=fun k=>if k < 601 then bst (bX t g) (k + 1) else 0:=by
  funext k
  by_cases hk2:k < 601
  ·rw [if_pos hk2,if_pos hk2,if_neg (by omega)]
  ·rw [if_neg hk2,if_neg hk2]
 rw [e2] at l2
 show Option.bind (bE _ N (bst (fun j=>bX t g (600 - j)) 0,600 - ((0:Nat):Int),fun k=>if k < 601 then bst (bX t g) (k + 1) else 0)) _=_
 rw [l2,Option.bind_some]
 have e3:(fun k:Nat=>if k < 601 then (if 600 < k + 601 then min (bst (bX t g) (k + 1)) (bst (fun j=>bX t g (600 - j)) (601 - k)) else bst (bX t g) (k + 1)) else 0)=fun k:Nat=>if k < 601 then qT (fun y=>ap ((k:Int) - 300) y + g y) t.Lo (t.Hi - t.Lo).toNat else 0:=by
  funext k
  by_cases hk2:k < 601
  ·rw [if_pos hk2,if_pos hk2,if_pos (by omega),aHg ht hg hk2]
  ·rw [if_neg hk2,if_neg hk2]
 simp only [exK]
 rw [e3]
 have l3:=tH hN (rY (fun (zz:(Nat→Int)) (ix_:(Int × Int))=>fA N s zz ix_.1 ix_.2)) (fun i=>.go (fun k=>if k < 601 then (if k < i∧¬(s.Lo≤(k:Int) - 300∧(k:Int) - 300≤s.Hi) then nM else qT (fun y=>ap ((k:Int) - 300) y + g y) t.Lo (t.Hi - t.Lo).toNat) else 0)) (fun i hi=>by
  show Option.map _ (fA N s _ (i:Int) ((i:Int) - 300))=_
  unfold fA
  rw [in_dec]
  by_cases h:s.Lo≤(i:Int) - 300∧(i:Int) - 300≤s.Hi
  ·rw [dT h,Bool.not_true,cond_false,Option.map_some]
   show some (Rs.go _,true)=some (Rs.go _,true)
   refine congrArg (fun M=>some (Rs.go M,true)) (funext fun k=>?_)
   by_cases hk6:k < 601
   ·rw [if_pos hk6,if_pos hk6]
    by_cases hk:k=i
    ·subst hk
     rw [if_neg (by omega),if_neg (by omega)]
    ·by_cases hk2:k < i∧¬(s.Lo≤(k:Int) - 300∧(k:Int) - 300≤s.Hi)
     ·rw [if_pos hk2,if_pos (by omega)]
     ·rw [if_neg hk2,if_neg (by omega)]
   ·rw [if_neg hk6,if_neg hk6]
  ·rw [dF h,Bool.not_false,cond_true,yP hi,Option.bind_some,Option.map_some]
   show some (Rs.go _,true)=some (Rs.go _,true)
   refine congrArg (fun M=>some (Rs.go M,true)) (funext fun k=>?_)
   rw [Int.toNat_natCast]
   by_cases hk:k=i
   ·subst hk
    rw [rU,if_pos hi,if_pos (by omega)]
    rfl
   ·rw [vN hk]
    by_cases hk6:k < 601
    ·rw [if_pos hk6,if_pos hk6]
     by_cases hk2:k < i∧¬(s.Lo≤(k:Int) - 300∧(k:Int) - 300≤s.Hi)
     ·rw [if_pos hk2,if_pos (by omega)]
     ·rw [if_neg hk2,if_neg (by omega)]
    ·rw [if_neg hk6,if_neg hk6])
 have e4:(fun k:Nat=>if k < 601 then (if k < 0∧¬(s.Lo≤(k:Int) - 300∧(k:Int) - 300≤s.Hi) then nM else qT (fun y=>ap ((k:Int) - 300) y + g y) t.Lo (t.Hi - t.Lo).toNat) else 0)=fun k:Nat=>if k < 601 then qT (fun y=>ap ((k:Int) - 300) y + g y) t.Lo (t.Hi - t.Lo).toNat else 0:=by
  funext k
  by_cases hk2:k < 601
  ·rw [if_pos hk2,if_pos hk2,if_neg (by omega)]
  ·rw [if_neg hk2,if_neg hk2]
 rw [← e4,l3,Option.bind_some]
 refine congrArg some (funext fun k=>?_)
 unfold bX
 by_cases hk6:k < 601
 ·rw [if_pos hk6,if_pos hk6]
  by_cases h:s.Lo≤(k:Int) - 300∧(k:Int) - 300≤s.Hi
  ·rw [if_neg (by omega),if_pos h]
  ·rw [if_pos (by omega),if_neg h]
 ·rw [if_neg hk6,if_neg hk6]
end Go.Nilo
