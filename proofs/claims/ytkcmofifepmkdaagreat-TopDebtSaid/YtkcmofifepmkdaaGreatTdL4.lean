/-
  What the plain functions compute, in plain arithmetic, part 4. Conditions: what each theorem names.
-/
import Derived.Test.YtkcmofifepmkdaaGreatTdL3
set_option linter.unusedSimpArgs false
set_option linter.unusedVariables false
namespace Go.Nilo
structure yJ (l:List Int):Prop where
 el:∀ e ∈ l,0≤e∧e≤255
 len:l.length≤9223372036854775807
structure SOk (u m:Int) (k:Nat):Prop where
 u0:0≤u
 u1:u≤k
 m0:0≤m
 m1:m≤250


theorem aJo {N:Nat} {s_:aV} {n b2 b3:Int} {k:Nat} (hs:SOk s_.used s_.mix k) (hk:k≤1000000) (hn:2≤n) (h2:0≤b2∧b2≤2000000) (h3:0≤b3) :
  ∃ r u m,gF N s_ n b2 b3=some (r,u,m)∧0≤r∧r < n∧SOk u m (k + 1):=by
 obtain ⟨u0,u1,m0,m1⟩:=hs
 have e1:W (5 * s_.mix)=5 * s_.mix:=eH (by omega) (by omega)
 have e2:W (5 * s_.mix + b2)=5 * s_.mix + b2:=eH (by omega) (by omega)
 have e3:W (5 * s_.mix + b2 + 1)=5 * s_.mix + b2 + 1:=eH (by omega) (by omega)
 have e4:W (s_.used + 1)=s_.used + 1:=eH (by omega) (by omega)
 have hz:nz n=some ():=by unfold nz; rw [if_neg (by omega)]
 refine ⟨b3 % n,s_.used + 1,(5 * s_.mix + b2 + 1) % 251,?_,Int.emod_nonneg _ (by omega),Int.emod_lt_of_pos _ (by omega),⟨by omega,by push_cast; omega,Int.emod_nonneg _ (by omega),?_⟩⟩
 ·unfold gF
  rw [hz,e1,e2,e3,e4,sN h3,sN (by omega)]
  rfl
 ·have:=Int.emod_lt_of_pos (5 * s_.mix + b2 + 1) (show (0:Int) < 251 by omega)
  omega

theorem aNk {N:Nat} {s_:aV} {n b2:Int} {k:Nat} (hs:SOk s_.used s_.mix k) (hk:k≤1000000) (hn:2≤n) (h2:0≤b2∧b2≤2000000) :
  ∃ r u m,gH N s_ n b2=some (r,u,m)∧0≤r∧r < n∧SOk u m (k + 1):=by
 unfold gH
 obtain ⟨u0,u1,m0,m1⟩:=id hs
 have e1:W (5 * s_.mix)=5 * s_.mix:=eH (by omega) (by omega)
 have e2:W (5 * s_.mix + b2)=5 * s_.mix + b2:=eH (by omega) (by omega)
 have e3:W (5 * s_.mix + b2 + 1)=5 * s_.mix + b2 + 1:=eH (by omega) (by omega)
 have e5:W (256 * b2)=256 * b2:=eH (by omega) (by omega)
 have hm:0≤(5 * s_.mix + b2 + 1) % 251:=Int.emod_nonneg _ (by omega)
 have hm':=Int.emod_lt_of_pos (5 * s_.mix + b2 + 1) (show (0:Int) < 251 by omega)
 cases hb:decide (256 < n) with
 | true=>
  show ∃ r u m,gF N s_ n b2 _=some (r,u,m)∧_
  refine aJo hs hk hn h2 ?_
  rw [e1,e2,e3,e5,sN (by omega),eH (by omega) (by omega)]
  omega
 | false=>exact aJo (N:=N) hs hk hn h2 h2.1

theorem fO {N:Nat} {l:List Int} (hl:yJ l) {u m n:Int} {k:Nat} (hs:SOk u m k) (hk:k≤1000000) :
  ∃ r u' m',bW N ⟨l,u,m⟩ n=some (r,u',m')∧0≤r∧(r < n ∨ r=0)∧SOk u' m' (k + 1):=by
 obtain ⟨u0,u1,m0,m1⟩:=id hs
 unfold bW
 cases h1:(decide (n < 2) || (((l.length:Nat):Int) == 0)) with
 | true=>exact ⟨0,u,m,rfl,by omega,.inr rfl,⟨u0,by push_cast; omega,m0,m1⟩⟩
 | false=>
  simp at h1
  have hl0:0 < l.length:=by
   cases l with
   | nil=>simp at h1
   | cons=>simp
  have hz:nz ((l.length:Nat):Int)=some ():=by unfold nz; rw [if_neg (by omega)]
  have hmod:0≤u % (l.length:Int)∧u % (l.length:Int) < l.length:=⟨Int.emod_nonneg _ (by omega),Int.emod_lt_of_pos _ (by omega)⟩
  have hg:cM l (u.tmod ((l.length:Nat):Int))=some (l[(u % (l.length:Int)).toNat]'(by omega)):=by
   rw [sN u0]
   unfold cM
   rw [if_pos hmod.1]
   exact List.getElem?_eq_getElem _
  have he:=hl.el (l[(u % (l.length:Int)).toNat]'(by omega)) (List.getElem_mem _)
  generalize (l[(u % (l.length:Int)).toNat]'(by omega))=e at hg he
  have hd:0≤u / (l.length:Int)∧u / (l.length:Int)≤u:=⟨Int.ediv_nonneg u0 (by omega),Int.ediv_le_self _ u0⟩
  have ew:W e=e:=eH (by omega) (by omega)
  have ed:W (u / (l.length:Int))=u / (l.length:Int):=eH (by omega) (by omega)
  have e11:W (11 * m)=11 * m:=eH (by omega) (by omega)
  have es:W (11 * m + u / (l.length:Int))=11 * m + u / (l.length:Int):=eH (by omega) (by omega)
  have es2:W (e + (11 * m + u / (l.length:Int)))=e + (11 * m + u / (l.length:Int)):=eH (by omega) (by omega)
  have hgo:∀ b2,0≤b2∧b2≤2000000→∃ r u' m',gH N ⟨l,u,m⟩ n b2=some (r,u',m')∧0≤r∧(r < n ∨ r=0)∧SOk u' m' (k + 1):=by
   intro b2 hb2
   obtain ⟨r,u',m',h2,h3,h4,h5⟩:=aNk (N:=N) (s_:=⟨l,u,m⟩) (n:=n) hs hk (by omega) hb2
   exact ⟨r,u',m',h2,h3,.inl h4,h5⟩
  simp only [cond_false,hz,hg,Option.bind_some]
  rw [xG u0,ew,ed,e11,es,es2]
  cases decide (((l.length:Nat):Int)≤u) with
  | true=>exact hgo _ (by omega)
  | false=>exact hgo _ (by omega)

theorem mD {N:Nat} {l:List Int} (hl:yJ l) {u m lo hi:Int} {k:Nat} (hs:SOk u m k) (hk:k≤1000000) (h0 : -1000000000000000≤lo) (h1:hi≤1000000000000000) (hle:lo≤hi) :
  ∃ r u' m',dE N ⟨l,u,m⟩ lo hi=some (r,u',m')∧lo≤r∧r≤hi∧SOk u' m' (k + 1):=by
 obtain ⟨r,u',m',h2,h3,h4,h5⟩:=fO (N:=N) hl (n:=W (W (hi - lo) + 1)) hs hk
 have e1:W (hi - lo)=hi - lo:=eH (by omega) (by omega)
 have e2:W (hi - lo + 1)=hi - lo + 1:=eH (by omega) (by omega)
 rw [e1,e2] at h4 h2
 have e3:W (lo + r)=lo + r:=eH (by omega) (by omega)
 refine ⟨lo + r,u',m',?_,by omega,by omega,h5⟩
 unfold dE
 rw [e1,e2,h2]
 simp [e3]


end Go.Nilo
namespace Go.Nilo
structure BOk (b:bB):Prop where
 l2:2≤b.Table.length
 l12:b.Table.length≤12
 i:∀ j (h:j < b.Table.length),0≤b.Table[j].Index∧b.Table[j].Index≤1000000
 d:∀ j (h:j < b.Table.length),0≤b.Table[j].Due∧b.Table[j].Due≤1000000
 up:∀ j (h:j + 1 < b.Table.length),b.Table[j].Index < b.Table[j + 1].Index∧b.Table[j].Due≤b.Table[j + 1].Due
 c:0≤b.Credit∧b.Credit≤1000000
def bE (idx:Int) (p:bL):Bool:=decide (idx < p.Index)
def vA (T:List bL) (idx:Int):Int :=
 if h:0 < T.findIdx (bE idx)∧T.findIdx (bE idx) < T.length then
  T[T.findIdx (bE idx) - 1].Due + (T[T.findIdx (bE idx)].Due - T[T.findIdx (bE idx) - 1].Due) * (idx - T[T.findIdx (bE idx) - 1].Index) / (T[T.findIdx (bE idx)].Index - T[T.findIdx (bE idx) - 1].Index)
 else if T.findIdx (bE idx)=0 then (T.getD 0 ⟨0,0⟩).Due else (T.getD (T.length - 1) ⟨0,0⟩).Due

theorem rise {b:bB} (h:BOk b):∀ (k i:Nat) (hk:i + k < b.Table.length),(b.Table[i]'(by omega)).Due≤b.Table[i + k].Due
 | 0,i,hk=>Int.le_refl _
 | k + 1,i,hk=>Int.le_trans (rise h k i (by omega)) (h.up (i + k) hk).2
theorem aI2 {b:bB} (h:BOk b) {i j:Nat} (hij:i≤j) (hj:j < b.Table.length):(b.Table[i]'(by omega)).Due≤b.Table[j].Due:=by
 obtain ⟨k,rfl⟩:∃ k,j=i + k:=⟨j - i,by omega⟩
 exact rise h k i hj
theorem aMj {x0 x1 y0 y1 t:Int} (hx:x0 < x1) (hy:y0≤y1) (h0:x0≤t) (h1:t < x1):0≤(y1 - y0) * (t - x0) / (x1 - x0)∧(y1 - y0) * (t - x0) / (x1 - x0)≤y1 - y0:=by
 have a:0≤(y1 - y0) * (t - x0):=Int.mul_nonneg (by omega) (by omega)
 refine ⟨Int.ediv_nonneg a (by omega),?_⟩
 have b:(y1 - y0) * (t - x0)≤(y1 - y0) * (x1 - x0):=Int.mul_le_mul_of_nonneg_left (by omega) (by omega)
 have c:=Int.ediv_le_ediv (show 0 < x1 - x0 by omega) b
 rw [Int.mul_ediv_cancel _ (by omega)] at c
 exact c
theorem aL8 {x0 x1 y0 y1 t t':Int} (hx:x0 < x1) (hy:y0≤y1) (h:t≤t'):(y1 - y0) * (t - x0) / (x1 - x0)≤(y1 - y0) * (t' - x0) / (x1 - x0) :=
 Int.ediv_le_ediv (by omega) (Int.mul_le_mul_of_nonneg_left (by omega) (by omega))

theorem aIc {b:bB} {t:Int} (h:b.Table.findIdx (bE t) < b.Table.length):t < b.Table[b.Table.findIdx (bE t)].Index:=by
 have:=List.findIdx_getElem (w:=h)
 simpa [bE] using this
theorem aAo {b:bB} {t:Int} {j:Nat} (h:j < b.Table.findIdx (bE t)) (hj:j < b.Table.length):b.Table[j].Index≤t:=by
 have:=List.not_of_lt_findIdx h
 simpa [bE] using this

theorem aF2 {b:bB} (h:BOk b) (t:Int):(∀ j (hj:j < b.Table.length),j < b.Table.findIdx (bE t)→b.Table[j].Due≤vA b.Table t)∧(∀ j (hj:j < b.Table.length),b.Table.findIdx (bE t)≤j→vA b.Table t≤b.Table[j].Due)∧0≤vA b.Table t∧vA b.Table t≤1000000:=by
 have hl:=h.l2
 have hle:b.Table.findIdx (bE t)≤b.Table.length:=List.findIdx_le_length
 unfold vA
 split
 ·rename_i hh
  obtain ⟨h0,h1⟩:=hh
  have x1:=aIc h1
  have x0:=aAo (b:=b) (t:=t) (j:=b.Table.findIdx (bE t) - 1) (by omega) (by omega)
  have hu:=h.up (b.Table.findIdx (bE t) - 1) (by omega)
  simp only [show b.Table.findIdx (bE t) - 1 + 1=b.Table.findIdx (bE t) by omega] at hu
  have hs:=aMj hu.1 hu.2 x0 x1
  have d0:=h.d (b.Table.findIdx (bE t) - 1) (by omega)
  have d1:=h.d (b.Table.findIdx (bE t)) h1
  refine ⟨?_,?_,by omega,by omega⟩
  ·intro j hj hji
   have:=aI2 h (i:=j) (j:=b.Table.findIdx (bE t) - 1) (by omega) (by omega)
   omega
  ·intro j hj hji
   have:=aI2 h hji hj
   omega
 ·rename_i hh
  split
  ·rename_i h0
   rw [← cT (show 0 < b.Table.length by omega)]
   have d0:=h.d 0 (by omega)
   refine ⟨fun j hj hji=>by omega,fun j hj hji=>aI2 h (by omega) hj,d0.1,d0.2⟩
  ·rename_i h0
   rw [← cT (show b.Table.length - 1 < b.Table.length by omega)]
   have d0:=h.d (b.Table.length - 1) (by omega)
   refine ⟨fun j hj hji=>aI2 h (by omega) (by omega),fun j hj hji=>by omega,d0.1,d0.2⟩
theorem aKv {b:bB} (h:BOk b) {t t':Int} (ht:t≤t'):vA b.Table t≤vA b.Table t':=by
 have hl:=h.l2
 have hle:b.Table.findIdx (bE t)≤b.Table.length:=List.findIdx_le_length
 have hle':b.Table.findIdx (bE t')≤b.Table.length:=List.findIdx_le_length
 have hidx:b.Table.findIdx (bE t)≤b.Table.findIdx (bE t'):=by
  rcases Nat.lt_or_ge (b.Table.findIdx (bE t')) (b.Table.findIdx (bE t)) with hlt | hge
  ·exfalso
   have h1:=aIc (b:=b) (t:=t') (by omega)
   have h2:=aAo (b:=b) (t:=t) hlt (by omega)
   omega
  ·exact hge
 rcases Nat.lt_or_ge (b.Table.findIdx (bE t)) (b.Table.findIdx (bE t')) with hlt | hge
 ·have a:=(aF2 h t).2.1 (b.Table.findIdx (bE t)) (by omega) (Nat.le_refl _)
  have c:=(aF2 h t').1 (b.Table.findIdx (bE t)) (by omega) hlt
  omega
 ·have he:b.Table.findIdx (bE t)=b.Table.findIdx (bE t'):=by omega
  unfold vA
  simp only [he]
  split
  ·rename_i hh
   have hu:=h.up (b.Table.findIdx (bE t') - 1) (by omega)
   simp only [show b.Table.findIdx (bE t') - 1 + 1=b.Table.findIdx (bE t') by omega] at hu
   have:=aL8 hu.1 hu.2 ht
   omega
  ·exact Int.le_refl _
end Go.Nilo
namespace Go.Nilo
theorem aLh {N:Nat} (hN:60≤N) {b:bB} (h:BOk b) {t:Int} (ht:0≤t∧t≤1000000):lS N b t=some (vA b.Table t):=by
 have hl:=h.l2
 have hl':=h.l12
 have hi:cG N b.Table t=some (if b.Table.findIdx (bE t) < b.Table.length then ((b.Table.findIdx (bE t):Nat):Int) else -1):=by
  unfold cG
  rcases aAv (bE t) b.Table (by omega) (fun s4=>dU N b.Table t s4) (fun x=>rfl) b.Table.length 0 N (by omega) (by omega) (fun j _ hj=>by omega) with ⟨h1,h2⟩ | ⟨h1,h2⟩
  ·rw [show ((0:Nat):Int)=0 from rfl] at h2
   rw [h2,if_pos h1]
   rfl
  ·rw [show ((0:Nat):Int)=0 from rfl] at h2
   rw [h2,if_neg (by omega)]
   rfl
 unfold lS
 rw [hi]
 by_cases hk:b.Table.findIdx (bE t) < b.Table.length
 ·rw [if_pos hk]
  by_cases h0:b.Table.findIdx (bE t)=0
  ·have e0:(((b.Table.findIdx (bE t):Nat):Int) == 0)=true:=by rw [h0]; rfl
   simp only [Option.bind_some,e0,cond_true]
   unfold vA
   rw [dif_neg (by omega),if_pos h0,show (0:Int)=((0:Nat):Int) from rfl,cF (by omega),cT (d:=⟨0,0⟩) (by omega)]
   rfl
  ·have e0:(((b.Table.findIdx (bE t):Nat):Int) == 0)=false:=by simp; omega
   have e1:(((b.Table.findIdx (bE t):Nat):Int) == -1)=false:=by simp
   have wk:W (((b.Table.findIdx (bE t):Nat):Int) - 1)=((b.Table.findIdx (bE t) - 1:Nat):Int):=by rw [eH (by omega) (by omega)]; omega
   have hu:=h.up (b.Table.findIdx (bE t) - 1) (by omega)
   simp only [show b.Table.findIdx (bE t) - 1 + 1=b.Table.findIdx (bE t) by omega] at hu
   have x1:=aIc hk
   have x0:=aAo (b:=b) (t:=t) (j:=b.Table.findIdx (bE t) - 1) (by omega) (by omega)
   have i0:=h.i (b.Table.findIdx (bE t) - 1) (by omega)
   have i1:=h.i (b.Table.findIdx (bE t)) hk
   have d0:=h.d (b.Table.findIdx (bE t) - 1) (by omega)
   have d1:=h.d (b.Table.findIdx (bE t)) hk
   have hs:=aMj hu.1 hu.2 x0 x1
   have hm:=aP8 (a:=b.Table[b.Table.findIdx (bE t)].Due - b.Table[b.Table.findIdx (bE t) - 1].Due) (b:=t - b.Table[b.Table.findIdx (bE t) - 1].Index) (A:=1000000) (B:=1000000) (by omega) (by omega) (by omega) (by omega)
   simp only [Option.bind_some,e0,e1,cond_false,wk]
   rw [cF (by omega),cF hk]
   simp only [Option.bind_some]
   rw [eH (n:=b.Table[b.Table.findIdx (bE t)].Index - b.Table[b.Table.findIdx (bE t) - 1].Index) (by omega) (by omega),
    eH (n:=b.Table[b.Table.findIdx (bE t)].Due - b.Table[b.Table.findIdx (bE t) - 1].Due) (by omega) (by omega),
    eH (n:=t - b.Table[b.Table.findIdx (bE t) - 1].Index) (by omega) (by omega)]
   rw [eH (n:=(b.Table[b.Table.findIdx (bE t)].Due - b.Table[b.Table.findIdx (bE t) - 1].Due) * (t - b.Table[b.Table.findIdx (bE t) - 1].Index)) (by omega) (by omega),xG hm.1]
   rw [eH (n:=(b.Table[b.Table.findIdx (bE t)].Due - b.Table[b.Table.findIdx (bE t) - 1].Due) * (t - b.Table[b.Table.findIdx (bE t) - 1].Index) / (b.Table[b.Table.findIdx (bE t)].Index - b.Table[b.Table.findIdx (bE t) - 1].Index)) (by omega) (by omega),eH (by omega) (by omega)]
   have hz:nz (b.Table[b.Table.findIdx (bE t)].Index - b.Table[b.Table.findIdx (bE t) - 1].Index)=some ():=by unfold nz; rw [if_neg (by omega)]
   rw [hz]
   unfold vA
   rw [dif_pos ⟨by omega,hk⟩]
   rfl
 ·rw [if_neg hk]
  have wk:W (((b.Table.length:Nat):Int) - 1)=((b.Table.length - 1:Nat):Int):=by rw [eH (by omega) (by omega)]; omega
  simp only [Option.bind_some,show ((-1:Int) == 0)=false from rfl,show ((-1:Int) == -1)=true from rfl,cond_true,cond_false,wk]
  rw [cF (by omega)]
  unfold vA
  rw [dif_neg (by omega),if_neg (by omega),cT (d:=⟨0,0⟩) (by omega)]
  rfl
def pS (b:bB) (d:Int) (t:aR) (spill:Bool):Int:=cond spill 0 (max (0 - b.Credit) (d + vA b.Table t.Index - t.Delivered))
def aGx (T:List bL) (mp:Int→Option Int):Prop:=∀ k v,mp k=some v→v=vA T k
structure TOk (t:aR):Prop where
 i:0≤t.Index∧t.Index≤1000000
 d:0≤t.Delivered∧t.Delivered≤1000000
theorem aAy {N:Nat} (hN:60≤N) {b:bB} (h:BOk b) {t:aR} (ht:TOk t) {spill:Bool} {mp:Int→Option Int} (hm:aGx b.Table mp) {d:Int} (hd:d.natAbs≤1000000000) :
  ∃ mp',fU N t spill mp b d=some (pS b d t spill,mp',pS b d t spill)∧aGx b.Table mp':=by
 have hb:=(aF2 h t.Index).2.2
 have hc:=h.c
 have hti:=ht.i
 have htd:=ht.d
 have w1:W (0 - b.Credit)=0 - b.Credit:=eH (by omega) (by omega)
 have w2:W (d + vA b.Table t.Index)=d + vA b.Table t.Index:=eH (by omega) (by omega)
 have w3:W (d + vA b.Table t.Index - t.Delivered)=d + vA b.Table t.Index - t.Delivered:=eH (by omega) (by omega)
 have hj:∀ mp',fN N t spill b d (vA b.Table t.Index) mp'=some (pS b d t spill,mp',pS b d t spill):=by
  intro mp'
  unfold fN gU pS
  rw [w1,w2,w3]
  cases spill <;> rfl
 unfold fU
 cases hmk:mp t.Index with
 | none=>
  refine ⟨gQ mp t.Index (vA b.Table t.Index),?_,?_⟩
  ·simp only [Option.isSome_none,Bool.not_false,cond_true,aLh hN h hti,Option.bind_some,hj]
  ·intro k v hk
   unfold gQ at hk
   by_cases hkt:k=t.Index
   ·rw [if_pos hkt] at hk
    cases hk
    rw [hkt]
   ·rw [if_neg hkt] at hk
    exact hm k v hk
 | some v=>
  refine ⟨mp,?_,hm⟩
  have:=hm _ _ hmk
  simp only [Option.isSome_some,Bool.not_true,cond_false,Option.getD_some,this,hj]

structure YOk (y:aI):Prop where
 i:0≤y.Index.Lo∧y.Index.Lo≤y.Index.Hi∧y.Index.Hi≤1000000
 d:0≤y.Delivered.Lo∧y.Delivered.Lo≤y.Delivered.Hi∧y.Delivered.Hi≤1000000
def t0:aR:=⟨0,0⟩
def y0:aI:=⟨⟨0,0⟩,⟨0,0⟩,false⟩
def kP (b:bB) (years:List aI) (ts:Nat→aR) (start:Int):Nat→Int
 | 0=>start
 | n + 1=>pS b (kP b years ts start n) (ts n) (years.getD n y0).Spill
theorem xB {b:bB} (h:BOk b) {years:List aI} {ts:Nat→aR} {start:Int} {B:Nat} (hs:start.natAbs≤B):∀ n,(∀ j,j < n→TOk (ts j))→(kP b years ts start n).natAbs≤B + 1000000 * (n + 1)
 | 0,_=>by unfold kP; omega
 | n + 1,ht=>by
  have ih:=xB h (years:=years) hs n (fun j hj=>ht j (by omega))
  have hb:=(aF2 h (ts n).Index).2.2
  have hc:=h.c
  have htd:=(ht n (by omega)).d
  rw [kP]
  unfold pS
  cases (years.getD n y0).Spill
  ·rw [cond_false]; omega
  ·rw [cond_true]; omega
theorem aDn {b:bB} (h:BOk b) {d d':Int} {t t':aR} {s:Bool} (hd:d≤d') (hi:t.Index≤t'.Index) (hv:t'.Delivered≤t.Delivered):pS b d t s≤pS b d' t' s:=by
 have:=aKv h hi
 unfold pS
 cases s
 ·rw [cond_false,cond_false]; omega
 ·exact Int.le_refl _
theorem yR {b:bB} (h:BOk b) {years:List aI} {ts ts':Nat→aR} {s s':Int} (hs:s≤s'):∀ n,(∀ j,j < n→(ts j).Index≤(ts' j).Index∧(ts' j).Delivered≤(ts j).Delivered)→kP b years ts s n≤kP b years ts' s' n
 | 0,_=>hs
 | n + 1,ht=>by
  rw [kP,kP]
  exact aDn h (yR h hs n (fun j hj=>ht j (by omega))) (ht n (by omega)).1 (ht n (by omega)).2

theorem aH3 {N:Nat} {l:List bL} (hl:l.length≤40) (hN:60≤N) (h:∀ x ∈ l,dO x=false):gP N l=some true:=by
 unfold gP cW dC
 rcases uW dO l (by omega) (fun s4=>eE N l s4) (fun x=>rfl) l.length 0 N (by omega) (by omega) with ⟨k,h1,h2,h3⟩ | ⟨h1,h2⟩
 ·rw [List.drop_zero,List.any_eq_true] at h3
  obtain ⟨x,hx,hfx⟩:=h3
  rw [h x hx] at hfx
  cases hfx
 ·rw [show ((0:Nat):Int)=0 from rfl] at h1
  rw [h1]
  simp [exK]
theorem aKe {N:Nat} {l:List aI} (hl:l.length≤40) (hN:60≤N) (h:∀ x ∈ l,dY x=false):gS N l=some true:=by
 unfold gS cY dM
 rcases uW dY l (by omega) (fun s4=>eL N l s4) (fun x=>rfl) l.length 0 N (by omega) (by omega) with ⟨k,h1,h2,h3⟩ | ⟨h1,h2⟩
 ·rw [List.drop_zero,List.any_eq_true] at h3
  obtain ⟨x,hx,hfx⟩:=h3
  rw [h x hx] at hfx
  cases hfx
 ·rw [show ((0:Nat):Int)=0 from rfl] at h1
  rw [h1]
  simp [exK]
theorem aG1 {N:Nat} (hN:60≤N) {b:bB} (h:BOk b):lH N b=some 0:=by
 have hl:=h.l2
 have hl':=h.l12
 have hc:=h.c
 have h1:aW ((b.Table.length:Nat):Int) 2 12=true:=by unfold aW; simp; omega
 have h2:bP b.Credit=true:=by unfold bP aW; simp; omega
 have h3:=aH3 (N:=N) (l:=b.Table) (by omega) hN (by
  intro x hx
  obtain ⟨j,hj,rfl⟩:=List.getElem_of_mem hx
  have a:=h.i j hj
  have c:=h.d j hj
  unfold dO jN bP aW
  simp; omega)
 have h4:vS b.Table 1 ((b.Table.length:Nat):Int)=some (b.Table.drop 1):=by
  unfold vS
  rw [if_pos (by omega)]
  simp only [Int.toNat_one,Int.toNat_natCast]
  rw [List.take_of_length_le (by simp)]
 have hdl:(b.Table.drop 1).length=b.Table.length - 1:=by simp
 obtain ⟨x,h5,-⟩:=kW (fun s9=>iX N b (b.Table.drop 1) s9) (fun i s=>s=(i:Int)) (b.Table.length - 1)
  (by
   rintro i x hi rfl
   refine ⟨((i + 1:Nat):Int),?_,rfl⟩
   have hu:=h.up i (by omega)
   unfold iX
   have hlt:decide ((i:Int) < (((b.Table.drop 1).length:Nat):Int))=true:=by rw [hdl]; simp; omega
   rw [hlt,cF (by omega),iF (by omega),cF (by omega)]
   have d1:decide (b.Table[i + 1].Index≤(b.Table[i]'(by omega)).Index)=false:=by simp only [decide_eq_false_iff_not]; omega
   have d2:decide (b.Table[i + 1].Due < (b.Table[i]'(by omega)).Due)=false:=by simp only [decide_eq_false_iff_not]; omega
   simp only [cond_true,Option.bind_some,d1,d2,Bool.or_false,cond_false])
  (by
   rintro x rfl
   unfold iX
   rw [hdl,show decide (((b.Table.length - 1:Nat):Int) < ((b.Table.length - 1:Nat):Int))=false by simp]
   rfl)
  (b.Table.length - 1) 0 0 N (by omega) (by omega) rfl
 unfold lH
 rw [h1,h3,h2]
 simp only [Bool.not_true,cond_false,Option.bind_some,Bool.or_false,h4]
 rw [h5]
 rfl
theorem aDa {N:Nat} (hN:60≤N) {b:bB} (h:BOk b) {lo hi:Int} (hs : -1000000000≤lo∧lo≤hi∧hi≤1000000000) {years:List aI} (hl:years.length≤40) (hy:∀ y ∈ years,YOk y):pE N b ⟨lo,hi⟩ years=some 0:=by
 have h1:aW lo (-1000000000) hi=true:=by unfold aW; simp; omega
 have h2:decide (1000000000 < hi)=false:=by simp; omega
 have h3:decide (40 < ((years.length:Nat):Int))=false:=by simp; omega
 have h4:=aKe (N:=N) hl hN (by
  intro y hy'
  obtain ⟨a,c⟩:=hy y hy'
  unfold dY oQ gE bP aW
  simp; omega)
 unfold pE
 rw [aG1 hN h]
 simp only [Option.bind_some,bne_self_eq_false,cond_false,h1,h2,h3,h4,Bool.not_true,Bool.or_false]
end Go.Nilo
namespace Go.Nilo
structure aF0 (years:List aI) (ts:List aR):Prop where
 l:ts.length=years.length
 ok:∀ j,j < years.length→TOk (ts.getD j t0)
 i:∀ j,j < years.length→(years.getD j y0).Index.Lo≤(ts.getD j t0).Index∧(ts.getD j t0).Index≤(years.getD j y0).Index.Hi
 d:∀ j,j < years.length→(years.getD j y0).Delivered.Lo≤(ts.getD j t0).Delivered∧(ts.getD j t0).Delivered≤(years.getD j y0).Delivered.Hi

theorem aH9 {n:Nat} {d:Int} {B C:Nat} (hn:n≤40) (hB:B=20000000) (hC:C=1000000) (h:d.natAbs≤B + C * (n + 1)):d.natAbs≤1000000000:=by
 have:C * (n + 1)≤C * 41:=Nat.mul_le_mul_left _ (by omega)
 omega
theorem aJ8 {N:Nat} (hN:60≤N) {b:bB} (h:BOk b) {start:Int} (hs:start.natAbs≤20000000) {years:List aI} (hl:years.length≤40) (hy:∀ y ∈ years,YOk y) {ts:List aR} (ht:aF0 years ts) :
  ∃ out:List Int,qT N b start years ts=some (out,0)∧out.length=years.length∧∀ j,j < years.length→out.getD j 0=kP b years (fun j=>ts.getD j t0) start (j + 1):=by
 have hbd:∀ n,n≤years.length→(kP b years (fun j=>ts.getD j t0) start n).natAbs≤1000000000:=fun n hn=>by
  have:=xB h (years:=years) (ts:=fun j=>ts.getD j t0) hs n (fun j hj=>ht.ok j (by omega))
  exact aH9 (Nat.le_trans hn hl) rfl rfl this
 obtain ⟨⟨out,x,d,mp⟩,h1,-,hlen,hel,-,-⟩:=kW (fun s12=>nL N b years ts ((fun _=>none:Int→Option Int),b.Credit,start) s12.1 s12.2.1 s12.2.2.1 s12.2.2.2)
  (fun i s=>s.2.1=(i:Int)∧s.1.length=i∧(∀ j,j < i→s.1.getD j 0=kP b years (fun j=>ts.getD j t0) start (j + 1))∧s.2.2.1=kP b years (fun j=>ts.getD j t0) start i∧aGx b.Table s.2.2.2) years.length
  (by
   rintro i ⟨out,x,d,mp⟩ hi ⟨rfl,h2,h3,h4,h5⟩
   dsimp only at h2 h3 h4 h5 ⊢
   have hti:i < ts.length:=by rw [ht.l]; exact hi
   have hok:=ht.ok i hi
   have hii:=ht.i i hi
   have hdi:=ht.d i hi
   rw [← cT hti] at hok hii hdi
   rw [← cT hi] at hii hdi
   have hlt:decide ((i:Int) < ((years.length:Nat):Int))=true:=by simp; omega
   obtain ⟨mp',e1,m1⟩:=aAy hN h hok (spill:=years[i].Spill) h5 (d:=d) (by rw [h4]; exact hbd i (by omega))
   have hnx:pS b d ts[i] years[i].Spill=kP b years (fun j=>ts.getD j t0) start (i + 1):=by
    rw [kP,← h4,← cT hti,← cT hi]
   have i1:aW ts[i].Index years[i].Index.Lo years[i].Index.Hi=true:=by unfold aW; simp only [Bool.and_eq_true,decide_eq_true_eq]; omega
   have i2:aW ts[i].Delivered years[i].Delivered.Lo years[i].Delivered.Hi=true:=by unfold aW; simp only [Bool.and_eq_true,decide_eq_true_eq]; omega
   refine ⟨(out++[pS b d ts[i] years[i].Spill],((i + 1:Nat):Int),pS b d ts[i] years[i].Spill,mp'),?_,rfl,by simp [h2],?_,hnx,m1⟩
   ·unfold nL
    rw [hlt,cF hi,cF hti]
    have hbe:(⟨b.Table,b.Credit⟩:bB)=b:=rfl
    simp only [cond_true,Option.bind_some,i1,i2,Bool.not_true,Bool.or_false,cond_false,hbe,e1,iF (i:=i) (by omega)]
    rw [gY (by simp; omega)]
    rfl
   ·intro j hj
    dsimp only
    by_cases hji:j < i
    ·rw [jV (by omega)]; exact h3 j hji
    ·obtain rfl:j=out.length:=by omega
     rw [jS,h2]; exact hnx)
  (by
   rintro ⟨out,x,d,mp⟩ ⟨rfl,-⟩
   dsimp only
   unfold nL
   rw [show decide (((years.length:Nat):Int) < ((years.length:Nat):Int))=false by simp]
   rfl)
  years.length 0 ([],0,start,fun _=>none) N (by omega) (by omega) ⟨rfl,rfl,by intro j hj; omega,rfl,(by intro k v hk; cases hk)⟩
 dsimp only at hlen hel
 refine ⟨out,?_,hlen,hel⟩
 unfold qT gV
 rw [aDa hN h (by omega) hl hy,ht.l]
 simp only [Option.bind_some,bne_self_eq_false,cond_false]
 rw [h1]
 rfl

def aBo (years:List aI) (j:Nat):aR:=⟨(years.getD j y0).Index.Lo,(years.getD j y0).Delivered.Hi⟩
def uR (years:List aI) (j:Nat):aR:=⟨(years.getD j y0).Index.Hi,(years.getD j y0).Delivered.Lo⟩
theorem yget {years:List aI} (hy:∀ y ∈ years,YOk y) {j:Nat} (hj:j < years.length):YOk (years.getD j y0):=by
 rw [← cT hj]
 exact hy _ (List.getElem_mem _)
theorem aIx {years:List aI} (hy:∀ y ∈ years,YOk y) {j:Nat} (hj:j < years.length):TOk (aBo years j):=by
 obtain ⟨a,c⟩:=yget hy hj
 exact ⟨⟨a.1,Int.le_trans a.2.1 a.2.2⟩,⟨Int.le_trans c.1 c.2.1,c.2.2⟩⟩
theorem aC5 {years:List aI} (hy:∀ y ∈ years,YOk y) {j:Nat} (hj:j < years.length):TOk (uR years j):=by
 obtain ⟨a,c⟩:=yget hy hj
 exact ⟨⟨Int.le_trans a.1 a.2.1,a.2.2⟩,⟨c.1,Int.le_trans c.2.1 c.2.2⟩⟩

theorem aCo {N:Nat} (hN:60≤N) {b:bB} (h:BOk b) {lo hi:Int} (hs:lo.natAbs≤20000000∧hi.natAbs≤20000000∧lo≤hi) {years:List aI} (hl:years.length≤40) (hy:∀ y ∈ years,YOk y) :
  ∃ out:List aF,mC N b ⟨lo,hi⟩ years=some (out,0)∧out.length=years.length∧∀ j,j < years.length→out.getD j ⟨0,0⟩=⟨kP b years (aBo years) lo (j + 1),kP b years (uR years) hi (j + 1)⟩:=by
 have hbd1:∀ n,n≤years.length→(kP b years (aBo years) lo n).natAbs≤1000000000:=fun n hn=>by
  have:=xB h (years:=years) (ts:=aBo years) hs.1 n (fun j hj=>aIx hy (by omega))
  exact aH9 (Nat.le_trans hn hl) rfl rfl this
 have hbd2:∀ n,n≤years.length→(kP b years (uR years) hi n).natAbs≤1000000000:=fun n hn=>by
  have:=xB h (years:=years) (ts:=uR years) hs.2.1 n (fun j hj=>aC5 hy (by omega))
  exact aH9 (Nat.le_trans hn hl) rfl rfl this
 obtain ⟨⟨out,x,d1,d2,mp,mp1⟩,h1,-,hlen,hel,-,-,-,-⟩:=kW (fun s11=>mW N b years ((fun _=>none:Int→Option Int),b.Credit,lo) ((fun _=>none:Int→Option Int),b.Credit,hi) s11.1 s11.2.1 s11.2.2.1 s11.2.2.2.1 s11.2.2.2.2.1 s11.2.2.2.2.2)
  (fun i s=>s.2.1=(i:Int)∧s.1.length=i∧(∀ j,j < i→s.1.getD j ⟨0,0⟩=⟨kP b years (aBo years) lo (j + 1),kP b years (uR years) hi (j + 1)⟩)∧s.2.2.1=kP b years (aBo years) lo i∧s.2.2.2.1=kP b years (uR years) hi i∧aGx b.Table s.2.2.2.2.1∧aGx b.Table s.2.2.2.2.2) years.length
  (by
   rintro i ⟨out,x,d1,d2,mp,mp1⟩ hi' ⟨rfl,h2,h3,h4,h5,h6,h7⟩
   dsimp only at h2 h3 h4 h5 h6 h7 ⊢
   have hlt:decide ((i:Int) < ((years.length:Nat):Int))=true:=by simp; omega
   have k1:=aIx hy hi'
   have k2:=aC5 hy hi'
   obtain ⟨q1,e1,m1⟩:=aAy hN h k1 (spill:=years[i].Spill) h7 (d:=d1) (by rw [h4]; exact hbd1 i (by omega))
   obtain ⟨q2,e2,m2⟩:=aAy hN h k2 (spill:=years[i].Spill) h6 (d:=d2) (by rw [h5]; exact hbd2 i (by omega))
   have n1:pS b d1 (aBo years i) years[i].Spill=kP b years (aBo years) lo (i + 1):=by rw [kP,← h4,← cT hi']
   have n2:pS b d2 (uR years i) years[i].Spill=kP b years (uR years) hi (i + 1):=by rw [kP,← h5,← cT hi']
   have u1:aBo years i=⟨years[i].Index.Lo,years[i].Delivered.Hi⟩:=by unfold aBo; rw [← cT hi']
   have u2:uR years i=⟨years[i].Index.Hi,years[i].Delivered.Lo⟩:=by unfold uR; rw [← cT hi']
   rw [u1] at e1 n1
   rw [u2] at e2 n2
   refine ⟨(out++[⟨pS b d1 ⟨years[i].Index.Lo,years[i].Delivered.Hi⟩ years[i].Spill,pS b d2 ⟨years[i].Index.Hi,years[i].Delivered.Lo⟩ years[i].Spill⟩],((i + 1:Nat):Int),pS b d1 ⟨years[i].Index.Lo,years[i].Delivered.Hi⟩ years[i].Spill,pS b d2 ⟨years[i].Index.Hi,years[i].Delivered.Lo⟩ years[i].Spill,q2,q1),?_,rfl,by simp [h2],?_,n1,n2,m2,m1⟩
   ·unfold mW lB kY jP jO
    rw [hlt,cF hi']
    have hbe:(⟨b.Table,b.Credit⟩:bB)=b:=rfl
    simp only [cond_true,Option.bind_some,hbe,e1,e2,iF (i:=i) (by omega)]
    rw [gY (by simp; omega)]
    rfl
   ·intro j hj
    dsimp only
    by_cases hji:j < i
    ·rw [jV (by omega)]; exact h3 j hji
    ·obtain rfl:j=out.length:=by omega
     rw [jS,h2,n1,n2])
  (by
   rintro ⟨out,x,d1,d2,mp,mp1⟩ ⟨rfl,-⟩
   dsimp only
   unfold mW
   rw [show decide (((years.length:Nat):Int) < ((years.length:Nat):Int))=false by simp]
   rfl)
  years.length 0 ([],0,lo,hi,fun _=>none,fun _=>none) N (by omega) (by omega) ⟨rfl,rfl,by intro j hj; omega,rfl,rfl,(by intro k v hk; cases hk),(by intro k v hk; cases hk)⟩
 dsimp only at hlen hel
 refine ⟨out,?_,hlen,hel⟩
 unfold mC gV
 rw [aDa hN h (by omega) hl hy]
 simp only [Option.bind_some,bne_self_eq_false,cond_false]
 rw [h1]
 rfl
end Go.Nilo
namespace Go.Nilo
structure TInv (i:Nat) (index due:Int) (T:List bL):Prop where
 l:T.length=i
 b:0≤index∧index≤49 + 60 * i∧0≤due∧due≤19 + 49 * i
 a:∀ j (h:j < T.length),0≤T[j].Index∧T[j].Index < index∧0≤T[j].Due∧T[j].Due≤due
 up:∀ j (h:j + 1 < T.length),T[j].Index < T[j + 1].Index∧T[j].Due≤T[j + 1].Due
theorem TInv.step {i:Nat} {index due r s:Int} {T:List bL} (h:TInv i index due T) (hr:1≤r∧r≤60) (hs:0≤s∧s≤49):TInv (i + 1) (index + r) (due + s) (T++[⟨index,due⟩]):=by
 have hb:=h.b
 refine ⟨by simp [h.l],by omega,?_,?_⟩
 ·intro j hj
  by_cases hji:j < T.length
  ·rw [List.getElem_append_left hji]
   have:=h.a j hji
   omega
  ·have:j=T.length:=by simp at hj; omega
   subst this
   rw [List.getElem_append_right (Nat.le_refl _)]
   simp
   omega
 ·intro j hj
  have hj':j < T.length:=by simp at hj; omega
  rw [List.getElem_append_left hj']
  by_cases hji:j + 1 < T.length
  ·rw [List.getElem_append_left hji]
   exact h.up j hji
  ·have he:j + 1=T.length:=by simp at hj; omega
   rw [List.getElem_append_right (by omega)]
   have:=h.a j hj'
   simp [he]
   omega

structure YInv (i:Nat) (l:List aI) (truth:List aR):Prop where
 ll:l.length=i
 tt:truth.length=i
 y:∀ y ∈ l,YOk y
 w:aF0 l truth

theorem aEr {N:Nat} (hN:60≤N) {bytes:List Int} (hb:yJ bytes) {u m:Int} {k:Nat} (hs:SOk u m k) (hk:k≤1000) :
  ∃ b lo hi l truth u' m',nO N ⟨bytes,u,m⟩ 1=some (b,⟨lo,hi⟩,l,truth,u',m')∧BOk b∧(-40≤lo∧lo≤hi∧hi≤60)∧(1≤l.length∧l.length≤12)∧(∀ y ∈ l,YOk y)∧aF0 l truth:=by
 obtain ⟨c,u1,m1,e1,a1,b1,s1⟩:=fO (N:=N) hb (n:=60) hs (by omega)
 obtain ⟨ix,u2,m2,e2,a2,b2,s2⟩:=fO (N:=N) hb (n:=50) s1 (by omega)
 obtain ⟨du,u3,m3,e3,a3,b3,s3⟩:=fO (N:=N) hb (n:=20) s2 (by omega)
 obtain ⟨n',u4,m4,e4,a4,b4,s4⟩:=mD (N:=N) hb (lo:=2) (hi:=6) s3 (by omega) (by omega) (by omega) (by omega)
 obtain ⟨n,rfl⟩:∃ q:Nat,n'=(q:Int):=⟨n'.toNat,by omega⟩
 obtain ⟨⟨i6,d6,x6,u5,m5,T⟩,h6,-,hT,s5⟩:=kW (fun s6=>lA N ⟨bytes,u,m⟩ ((n:Int),u4,m4) s6.1 s6.2.1 s6.2.2.1 s6.2.2.2.1 s6.2.2.2.2.1 s6.2.2.2.2.2)
  (fun i s=>s.2.2.1=(i:Int)∧TInv i s.1 s.2.1 s.2.2.2.2.2∧SOk s.2.2.2.1 s.2.2.2.2.1 (k + 4 + 2 * i)) n
  (by
   rintro i ⟨index,due,x,v,w,T⟩ hi ⟨rfl,hT,hS⟩
   dsimp only at hT hS ⊢
   obtain ⟨r,u5,m5,e5,a5,b5,s5⟩:=mD (N:=N) hb (lo:=1) (hi:=60) hS (by omega) (by omega) (by omega) (by omega)
   obtain ⟨s,u6,m6,e6,a6,b6,s6⟩:=fO (N:=N) hb (n:=50) s5 (by omega)
   have hbb:=hT.b
   have w1:W (index + r)=index + r:=eH (by omega) (by omega)
   have w2:W (due + s)=due + s:=eH (by omega) (by omega)
   have hlt:decide ((i:Int) < (n:Int))=true:=by simp; omega
   refine ⟨(index + r,due + s,((i + 1:Nat):Int),u6,m6,T++[⟨index,due⟩]),?_,rfl,hT.step ⟨a5,b5⟩ (by omega),s6⟩
   unfold lA
   rw [hlt,cond_true,gY (by simp [hT.l]; omega)]
   simp only [Option.bind_some,e5,e6,w1,w2,iF (i:=i) (by omega)])
  (by
   rintro ⟨index,due,x,v,w,T⟩ ⟨rfl,-⟩
   dsimp only
   unfold lA
   rw [show decide ((n:Int) < (n:Int))=false by simp]
   rfl)
  n 0 (ix,du,0,u4,m4,[]) N (by omega) (by omega) ⟨rfl,⟨rfl,by dsimp only; omega,(by intro j hj; cases hj),(by intro j hj; cases hj)⟩,s4⟩
 dsimp only at hT s5
 obtain ⟨lo,u7,m7,e7,a7,b7,s7⟩:=mD (N:=N) hb (lo:=-40) (hi:=40) s5 (by omega) (by omega) (by omega) (by omega)
 obtain ⟨wd,u8,m8,e8,a8,b8,s8⟩:=fO (N:=N) hb (n:=20) s7 (by omega)
 obtain ⟨q',u9,m9,e9,a9,b9,s9⟩:=mD (N:=N) hb (lo:=1) (hi:=1) s8 (by omega) (by omega) (by omega) (by omega)
 obtain ⟨q,rfl⟩:∃ z:Nat,q'=(z:Int):=⟨q'.toNat,by omega⟩
 obtain ⟨⟨l,truth,x13,u10,m10⟩,h13,hx13,hY,-⟩:=kW (fun s13=>kH N ⟨bytes,u,m⟩ ((q:Int),u9,m9) s13.1 s13.2.1 s13.2.2.1 s13.2.2.2.1 s13.2.2.2.2)
  (fun i s=>s.2.2.1=(i:Int)∧YInv i s.1 s.2.1∧SOk s.2.2.2.1 s.2.2.2.2 (k + 4 + 2 * n + 3 + 7 * i)) q
  (by
   rintro i ⟨l,truth,x,v,w⟩ hi ⟨rfl,hY,hS⟩
   dsimp only at hY hS ⊢
   obtain ⟨p1,v1,w1,f1,c1,d1,t1⟩:=fO (N:=N) hb (n:=200) hS (by omega)
   obtain ⟨p2,v2,w2,f2,c2,d2,t2⟩:=fO (N:=N) hb (n:=120) t1 (by omega)
   obtain ⟨p3,v3,w3,f3,c3,d3,t3⟩:=fO (N:=N) hb (n:=20) t2 (by omega)
   obtain ⟨p4,v4,w4,f4,c4,d4,t4⟩:=fO (N:=N) hb (n:=20) t3 (by omega)
   obtain ⟨p5,v5,w5,f5,c5,d5,t5⟩:=fO (N:=N) hb (n:=9) t4 (by omega)
   obtain ⟨p6,v6,w6,f6,c6,d6',t6⟩:=fO (N:=N) hb (n:=9) t5 (by omega)
   obtain ⟨p7,v7,w7,f7,c7,d7,t7⟩:=fO (N:=N) hb (n:=9) t6 (by omega)
   have z1:W (p1 - p3)=p1 - p3:=eH (by omega) (by omega)
   have z2:W (p1 + p4)=p1 + p4:=eH (by omega) (by omega)
   have z3:W (p2 - p5)=p2 - p5:=eH (by omega) (by omega)
   have z4:W (p2 + p6)=p2 + p6:=eH (by omega) (by omega)
   have hlt:decide ((i:Int) < (q:Int))=true:=by simp; omega
   obtain ⟨yl,yt,yy,⟨wl,wo,wi,wd'⟩⟩:=hY
   refine ⟨(l++[⟨⟨max 0 (p1 - p3),p1 + p4⟩,⟨max 0 (p2 - p5),p2 + p6⟩,p7 == 0⟩],truth++[⟨p1,p2⟩],((i + 1:Nat):Int),v7,w7),?_,rfl,⟨by simp [yl],by simp [yt],?_,⟨by simp [wl],?_,?_,?_⟩⟩,t7⟩
   ·unfold kH oW
    rw [hlt]
    simp only [cond_true,Option.bind_some,f1,f2,f3,f4,f5,f6,f7,z1,z2,z3,z4,iF (i:=i) (by omega)]
    rw [gY (by simp; omega),gY (by simp; omega)]
    rfl
   ·intro y hy
    rcases List.mem_append.1 hy with h | h
    ·exact yy y h
    ·rw [List.mem_singleton.1 h]
     exact ⟨by dsimp only; omega,by dsimp only; omega⟩
   ·intro j hj
    by_cases hji:j < i
    ·rw [jV (by omega)]; exact wo j (by omega)
    ·have:j=truth.length:=by simp at hj; omega
     subst this
     rw [jS]
     exact ⟨by dsimp only; omega,by dsimp only; omega⟩
   ·intro j hj
    by_cases hji:j < i
    ·rw [jV (by omega),jV (by omega)]; exact wi j (by omega)
    ·have h1:j=truth.length:=by simp at hj; omega
     have h2:truth.length=l.length:=by omega
     subst h1
     rw [jS,h2,jS]
     dsimp only
     omega
   ·intro j hj
    by_cases hji:j < i
    ·rw [jV (by omega),jV (by omega)]; exact wd' j (by omega)
    ·have h1:j=truth.length:=by simp at hj; omega
     have h2:truth.length=l.length:=by omega
     subst h1
     rw [jS,h2,jS]
     dsimp only
     omega)
  (by
   rintro ⟨l,truth,x,v,w⟩ ⟨rfl,-⟩
   dsimp only
   unfold kH
   rw [show decide ((q:Int) < (q:Int))=false by simp]
   rfl)
  q 0 ([],[],0,u9,m9) N (by omega) (by omega) ⟨rfl,⟨rfl,rfl,(by intro y hy; cases hy),⟨rfl,(by intro j hj; cases hj),(by intro j hj; cases hj),(by intro j hj; cases hj)⟩⟩,s9⟩
 dsimp only at hx13 hY
 have w1:W (lo + wd)=lo + wd:=eH (by omega) (by omega)
 have hTl:=hT.l
 have hTb:=hT.b
 refine ⟨⟨T,c⟩,lo,lo + wd,l,truth,u10,m10,?_,⟨by dsimp only; omega,by dsimp only; omega,?_,?_,hT.up,by dsimp only; omega⟩,by omega,by rw [hY.ll]; omega,hY.y,hY.w⟩
 ·unfold nO oW
  simp only [e1,e2,e3,e4,Option.bind_some]
  rw [h6]
  simp only [exK,Option.bind_some,e7,e8,w1,e9]
  rw [h13]
  rfl
 ·intro j hj
  have:=hT.a j hj
  dsimp only at hj ⊢
  omega
 ·intro j hj
  have:=hT.a j hj
  dsimp only at hj ⊢
  omega
end Go.Nilo
namespace Go.Nilo
def aCl (L P d c:Int):Int:=min (min d c) (max L ((d + P - 1) / P))
def oI (L P:Int) (can:Nat→Int) (o:Int):Nat→Int
 | 0=>o
 | n + 1=>oI L P can o n - aCl L P (oI L P can o n) (can n)
theorem aGo {L P d c:Int} (hL:1≤L) (hP:1≤P) (hd:0≤d) (hc:L≤c):0≤aCl L P d c∧aCl L P d c≤d∧aCl L P d c≤c∧min d L≤aCl L P d c:=by
 unfold aCl
 omega
theorem aCa {L P:Int} {can:Nat→Int} {o:Int} (hL:1≤L) (hP:1≤P) (ho:0≤o):∀ n,(∀ i,i < n→L≤can i)→0≤oI L P can o n
 | 0,_=>ho
 | n + 1,h=>by
  have ih:=aCa (can:=can) hL hP ho n (fun i hi=>h i (by omega))
  have:=aGo (c:=can n) hL hP ih (h n (by omega))
  unfold oI
  omega
theorem aB8 {L P:Int} {can:Nat→Int} {o:Int} (hL:1≤L) (hP:1≤P) (ho:0≤o):∀ n:Nat,(∀ i,i < n→L≤can i)→oI L P can o n≤max 0 (o - L * n)
 | 0,_=>by unfold oI; simp; omega
 | n + 1,h=>by
  have ih:=aB8 (can:=can) hL hP ho n (fun i hi=>h i (by omega))
  have hn:=aCa (can:=can) hL hP ho n (fun i hi=>h i (by omega))
  have:=aGo (c:=can n) hL hP hn (h n (by omega))
  rw [oI]
  have e:L * ((n + 1:Nat):Int)=L * n + L:=by push_cast; rw [Int.mul_add,Int.mul_one]
  rw [e]
  omega
end Go.Nilo
namespace Go.Nilo
theorem aHd {σ ρ:Type} (b:σ→Option (dA σ ρ)) (Inv:Nat→σ→Prop) (Fin:σ→Prop) (n:Nat)
  (hstep:∀ i s,i < n→Inv i s→(∃ s',b s=some (.cont s')∧Inv (i + 1) s') ∨ (∃ s',b s=some (.brk s')∧Fin s')) (hend:∀ s,Inv n s→∃ s',b s=some (.brk s')∧Fin s') :
  ∀ (m i:Nat) (s:σ) (N:Nat),i + m=n→m < N→Inv i s→∃ s',bN b N s=some (.go s')∧Fin s'
 | m,i,s,0,_,h,_=>by omega
 | 0,i,s,N + 1,hi,_,hs=>by
  obtain rfl:i=n:=by omega
  obtain ⟨s',h1,h2⟩:=hend s hs
  exact ⟨s',by unfold bN; rw [h1],h2⟩
 | m + 1,i,s,N + 1,hi,hN,hs=>by
  rcases hstep i s (by omega) hs with ⟨s',h1,h2⟩ | ⟨s',h1,h2⟩
  ·obtain ⟨s'',h3,h4⟩:=aHd b Inv Fin n hstep hend m (i + 1) s' N (by omega) (by omega) h2
   exact ⟨s'',by unfold bN; rw [h1]; exact h3,h4⟩
  ·exact ⟨s',by unfold bN; rw [h1],h2⟩

theorem aIl {N:Nat} {l:List Int} (hl:l.length≤40) (hN:60≤N) (h:∀ x ∈ l,0≤x∧x≤1000000000):mU N l=some true:=by
 have hf:l.any hI=false:=by
  rw [List.any_eq_false]
  intro x hx
  have:=h x hx
  unfold hI bP aW
  simp; omega
 unfold mU gB gC
 rcases uW hI l (by omega) (fun s4=>iE N l s4) (fun x=>rfl) l.length 0 N (by omega) (by omega) with ⟨k,h1,h2,h3⟩ | ⟨h1,h2⟩
 ·rw [List.drop_zero,hf] at h3
  cases h3
 ·rw [show ((0:Nat):Int)=0 from rfl] at h1
  rw [h1]
  simp [exK]
structure Paid (L P o:Int) (can:Nat→Int) (m:Nat) (out:List Int):Prop where
 le:out.length≤m
 el:∀ j,j < out.length→out.getD j 0=aCl L P (oI L P can o j) (can j)
 pos:∀ j,j < out.length→0 < oI L P can o j
 fin:oI L P can o out.length=0 ∨ out.length=m

theorem aGc {N:Nat} (hN:60≤N) {L P o:Int} {C:List Int} (hL:1≤L∧L≤10000000) (hP:1≤P∧P≤100) (ho:0≤o∧o≤10000000) (hm:C.length≤40) (hC:∀ j,j < C.length→L≤C.getD j 0∧C.getD j 0≤10000000) :
  ∃ out,Paid L P o (fun j=>C.getD j 0) C.length out ∧
   mY N o ⟨L,P,C⟩=some (cond (decide (0 < oI L P (fun j=>C.getD j 0) o out.length)) (([]:List Int),5) (out,0)):=by
 have nn:∀ n,n≤C.length→0≤oI L P (fun j=>C.getD j 0) o n:=fun n hn=>aCa hL.1 hP.1 ho.1 n (fun i hi=>(hC i (by omega)).1)
 have le:∀ n,n≤C.length→oI L P (fun j=>C.getD j 0) o n≤o:=fun n hn=>by
  have h1:=aB8 (L:=L) (P:=P) (can:=fun j=>C.getD j 0) (o:=o) hL.1 hP.1 ho.1 n (fun i hi=>(hC i (by omega)).1)
  have h2:0≤L * n:=Int.mul_nonneg (by omega) (by omega)
  omega
 obtain ⟨⟨d,out,x⟩,h1,hd,hp⟩:=aHd (fun s12=>lG N ⟨L,P,C⟩ s12.1 s12.2.1 s12.2.2)
  (fun i s=>s.2.2=(i:Int)∧s.1=oI L P (fun j=>C.getD j 0) o i∧s.2.1.length=i∧(∀ j,j < i→s.2.1.getD j 0=aCl L P (oI L P (fun j=>C.getD j 0) o j) (C.getD j 0))∧(∀ j,j < i→0 < oI L P (fun j=>C.getD j 0) o j))
  (fun s=>s.1=oI L P (fun j=>C.getD j 0) o s.2.1.length∧Paid L P o (fun j=>C.getD j 0) C.length s.2.1) C.length
  (by
   rintro i ⟨d,out,x⟩ hi ⟨rfl,h2,h3,h4,h5⟩
   dsimp only at h2 h3 h4 h5 ⊢
   have hlt:decide ((i:Int) < ((C.length:Nat):Int))=true:=by simp; omega
   have hn:=nn i (by omega)
   have hle:=le i (by omega)
   unfold lG
   rw [hlt,sM hi]
   simp only [cond_true,Option.bind_some]
   cases hz:(d == 0) with
   | true=>
    right
    have hd0:d=0:=by simpa using hz
    refine ⟨(d,out,(i:Int)),rfl,by dsimp only; rw [h3]; exact h2,⟨by dsimp only; omega,by dsimp only; rw [h3]; exact h4,by dsimp only; rw [h3]; exact h5,.inl (by dsimp only; rw [h3,← h2]; exact hd0)⟩⟩
   | false=>
    left
    have hd0:¬ d=0:=by simpa using hz
    have hc:=hC i hi
    have hb:=aGo (L:=L) (P:=P) (d:=d) (c:=C.getD i 0) hL.1 hP.1 (by omega) hc.1
    have hnz:nz P=some ():=by unfold nz; rw [if_neg (by omega)]
    have w1:W (d + P)=d + P:=eH (by omega) (by omega)
    have w2:W (d + P - 1)=d + P - 1:=eH (by omega) (by omega)
    have q0:0≤(d + P - 1) / P:=Int.ediv_nonneg (by omega) (by omega)
    have q1:(d + P - 1) / P≤d + P - 1:=Int.ediv_le_self _ (by omega)
    have w3:W ((d + P - 1) / P)=(d + P - 1) / P:=eH (by omega) (by omega)
    have hp:min (min d (C.getD i 0)) (max L ((d + P - 1) / P))=aCl L P d (C.getD i 0):=rfl
    have w4:W (d - aCl L P d (C.getD i 0))=d - aCl L P d (C.getD i 0):=eH (by omega) (by omega)
    simp only [hnz,w1,w2,xG (show 0≤d + P - 1 by omega),w3,hp,w4,Option.bind_some,cond_false,iF (i:=i) (by omega)]
    rw [gY (by simp; omega)]
    refine ⟨_,rfl,rfl,?_,by simp [h3],?_,?_⟩
    ·dsimp only
     rw [h2]
     rfl
    ·intro j hj
     dsimp only
     by_cases hji:j < i
     ·rw [jV (by omega)]; exact h4 j hji
     ·obtain rfl:j=out.length:=by omega
      rw [jS,h3,h2]
    ·intro j hj
     by_cases hji:j < i
     ·exact h5 j hji
     ·obtain rfl:j=i:=by omega
      omega)
  (by
   rintro ⟨d,out,x⟩ ⟨rfl,h2,h3,h4,h5⟩
   dsimp only at h2 h3 h4 h5 ⊢
   refine ⟨(d,out,((C.length:Nat):Int)),?_,by dsimp only; rw [h3]; exact h2,⟨by dsimp only; omega,by dsimp only; rw [h3]; exact h4,by dsimp only; rw [h3]; exact h5,.inr h3⟩⟩
   unfold lG
   rw [show decide (((C.length:Nat):Int) < ((C.length:Nat):Int))=false by simp]
   rfl)
  C.length 0 (o,[],0) N (by omega) (by omega) ⟨rfl,rfl,rfl,by intro j hj; omega,by intro j hj; omega⟩
 dsimp only at hd hp
 refine ⟨out,hp,?_⟩
 have hw:bP o=true:=by unfold bP aW; simp; omega
 have hi1:aW L 1 1000000000=true:=by unfold aW; simp; omega
 have hi2:aW P 1 100=true:=by unfold aW; simp; omega
 have h40:decide (40 < ((C.length:Nat):Int))=false:=by simp; omega
 have hev:=aIl (N:=N) (l:=C) hm hN (by
  intro x hx
  obtain ⟨j,hj,rfl⟩:=List.getElem_of_mem hx
  have:=hC j hj
  rw [cT (d:=0) hj]
  omega)
 unfold mY
 dsimp only
 rw [hw,h40,hi1,hi2,hev]
 simp only [Bool.not_true,Bool.or_false,cond_false,Option.bind_some]
 rw [h1]
 simp only [Option.bind_some,exK,hd]
 cases decide (0 < oI L P (fun j=>C.getD j 0) o out.length) <;> rfl

theorem aCf {L P o:Int} {can:Nat→Int} {m:Nat} {out:List Int} (h:Paid L P o can m out):∀ j,j≤out.length→aHu id (out.take j)=o - oI L P can o j
 | 0,_=>by simp [aHu,oI]
 | j + 1,hj=>by
  rw [aCm _ _ _ (by omega),aCf h j (by omega),cT (d:=0) (by omega),h.el j (by omega)]
  rw [oI]
  simp only [id]
  omega
end Go.Nilo
