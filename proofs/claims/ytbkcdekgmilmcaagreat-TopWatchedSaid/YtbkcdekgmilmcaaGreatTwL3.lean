/-
  What the plain functions compute, in plain arithmetic, part 3. Conditions: what each theorem names.
-/
import Derived.Test.YtbkcdekgmilmcaaGreatTwL2
set_option linter.unusedSimpArgs false
set_option linter.unusedVariables false
namespace Go.Nilo
structure rX (l:List Int):Prop where
 el:∀ e ∈ l,0≤e∧e≤255
 len:l.length≤9223372036854775807
structure SOk (u m:Int) (k:Nat):Prop where
 u0:0≤u
 u1:u≤k
 m0:0≤m
 m1:m≤250


theorem aKv {N:Nat} {s_:aZ} {n b2 b3:Int} {k:Nat} (hs:SOk s_.used s_.mix k) (hk:k≤1000000) (hn:2≤n) (h2:0≤b2∧b2≤2000000) (h3:0≤b3) :
  ∃ r u m,iQ N s_ n b2 b3=some (r,u,m)∧0≤r∧r < n∧SOk u m (k + 1):=by
 obtain ⟨u0,u1,m0,m1⟩:=hs
 have e1:W (5 * s_.mix)=5 * s_.mix:=uW (by omega) (by omega)
 have e2:W (5 * s_.mix + b2)=5 * s_.mix + b2:=uW (by omega) (by omega)
 have e3:W (5 * s_.mix + b2 + 1)=5 * s_.mix + b2 + 1:=uW (by omega) (by omega)
 have e4:W (s_.used + 1)=s_.used + 1:=uW (by omega) (by omega)
 have hz:nz n=some ():=by unfold nz; rw [if_neg (by omega)]
 refine ⟨b3 % n,s_.used + 1,(5 * s_.mix + b2 + 1) % 251,?_,Int.emod_nonneg _ (by omega),Int.emod_lt_of_pos _ (by omega),⟨by omega,by push_cast; omega,Int.emod_nonneg _ (by omega),?_⟩⟩
 ·unfold iQ
  rw [hz,e1,e2,e3,e4,xS h3,xS (by omega)]
  rfl
 ·have:=Int.emod_lt_of_pos (5 * s_.mix + b2 + 1) (show (0:Int) < 251 by omega)
  omega

theorem aOg {N:Nat} {s_:aZ} {n b2:Int} {k:Nat} (hs:SOk s_.used s_.mix k) (hk:k≤1000000) (hn:2≤n) (h2:0≤b2∧b2≤2000000) :
  ∃ r u m,iR N s_ n b2=some (r,u,m)∧0≤r∧r < n∧SOk u m (k + 1):=by
 unfold iR
 obtain ⟨u0,u1,m0,m1⟩:=id hs
 have e1:W (5 * s_.mix)=5 * s_.mix:=uW (by omega) (by omega)
 have e2:W (5 * s_.mix + b2)=5 * s_.mix + b2:=uW (by omega) (by omega)
 have e3:W (5 * s_.mix + b2 + 1)=5 * s_.mix + b2 + 1:=uW (by omega) (by omega)
 have e5:W (256 * b2)=256 * b2:=uW (by omega) (by omega)
 have hm:0≤(5 * s_.mix + b2 + 1) % 251:=Int.emod_nonneg _ (by omega)
 have hm':=Int.emod_lt_of_pos (5 * s_.mix + b2 + 1) (show (0:Int) < 251 by omega)
 cases hb:decide (256 < n) with
 | true=>
  show ∃ r u m,iQ N s_ n b2 _=some (r,u,m)∧_
  refine aKv hs hk hn h2 ?_
  rw [e1,e2,e3,e5,xS (by omega),uW (by omega) (by omega)]
  omega
 | false=>exact aKv (N:=N) hs hk hn h2 h2.1

theorem aCg {N:Nat} {l:List Int} (hl:rX l) {u m n:Int} {k:Nat} (hs:SOk u m k) (hk:k≤1000000) :
  ∃ r u' m',bW N ⟨l,u,m⟩ n=some (r,u',m')∧0≤r∧(r < n ∨ r=0)∧SOk u' m' (k + 1):=by
 obtain ⟨u0,u1,m0,m1⟩:=id hs
 unfold bW
 cases h1:(decide (n < 2) || (((l.length:Nat):Int) == 0)) with
 | true=>exact ⟨0,u,m,rfl,by omega,.inr rfl,⟨u0,by push_cast; omega,m0,m1⟩⟩
 | false=>
  simp at h1
  have hl0:0 < l.length:=by
   cases l with
   | nil=>simp at h1
   | cons=>simp
  have hz:nz ((l.length:Nat):Int)=some ():=by unfold nz; rw [if_neg (by omega)]
  have hmod:0≤u % (l.length:Int)∧u % (l.length:Int) < l.length:=⟨Int.emod_nonneg _ (by omega),Int.emod_lt_of_pos _ (by omega)⟩
  have hg:bE l (u.tmod ((l.length:Nat):Int))=some (l[(u % (l.length:Int)).toNat]'(by omega)):=by
   rw [xS u0]
   unfold bE
   rw [if_pos hmod.1]
   exact List.getElem?_eq_getElem _
  have he:=hl.el (l[(u % (l.length:Int)).toNat]'(by omega)) (List.getElem_mem _)
  generalize (l[(u % (l.length:Int)).toNat]'(by omega))=e at hg he
  have hd:0≤u / (l.length:Int)∧u / (l.length:Int)≤u:=⟨Int.ediv_nonneg u0 (by omega),Int.ediv_le_self _ u0⟩
  have ew:W e=e:=uW (by omega) (by omega)
  have ed:W (u / (l.length:Int))=u / (l.length:Int):=uW (by omega) (by omega)
  have e11:W (11 * m)=11 * m:=uW (by omega) (by omega)
  have es:W (11 * m + u / (l.length:Int))=11 * m + u / (l.length:Int):=uW (by omega) (by omega)
  have es2:W (e + (11 * m + u / (l.length:Int)))=e + (11 * m + u / (l.length:Int)):=uW (by omega) (by omega)
  have hgo:∀ b2,0≤b2∧b2≤2000000→∃ r u' m',iR N ⟨l,u,m⟩ n b2=some (r,u',m')∧0≤r∧(r < n ∨ r=0)∧SOk u' m' (k + 1):=by
   intro b2 hb2
   obtain ⟨r,u',m',h2,h3,h4,h5⟩:=aOg (N:=N) (s_:=⟨l,u,m⟩) (n:=n) hs hk (by omega) hb2
   exact ⟨r,u',m',h2,h3,.inl h4,h5⟩
  simp only [cond_false,hz,hg,Option.bind_some]
  rw [aMj u0,ew,ed,e11,es,es2]
  cases decide (((l.length:Nat):Int)≤u) with
  | true=>exact hgo _ (by omega)
  | false=>exact hgo _ (by omega)

theorem xZ {N:Nat} {l:List Int} (hl:rX l) {u m lo hi:Int} {k:Nat} (hs:SOk u m k) (hk:k≤1000000) (h0 : -1000000000000000≤lo) (h1:hi≤1000000000000000) (hle:lo≤hi) :
  ∃ r u' m',jB N ⟨l,u,m⟩ lo hi=some (r,u',m')∧lo≤r∧r≤hi∧SOk u' m' (k + 1):=by
 obtain ⟨r,u',m',h2,h3,h4,h5⟩:=aCg (N:=N) hl (n:=W (W (hi - lo) + 1)) hs hk
 have e1:W (hi - lo)=hi - lo:=uW (by omega) (by omega)
 have e2:W (hi - lo + 1)=hi - lo + 1:=uW (by omega) (by omega)
 rw [e1,e2] at h4 h2
 have e3:W (lo + r)=lo + r:=uW (by omega) (by omega)
 refine ⟨lo + r,u',m',?_,by omega,by omega,h5⟩
 unfold jB
 rw [e1,e2,h2]
 simp [e3]


end Go.Nilo
namespace Go.Nilo.Wa
theorem mono {u m:Int} {k k':Nat} (h:SOk u m k) (hk:k≤k'):SOk u m k':=⟨h.u0,by have:=h.u1; omega,h.m0,h.m1⟩
theorem nxt {N:Nat} {l:List Int} (hl:rX l) {u m n:Int} {k:Nat} (hs:SOk u m k) (hk:k≤1000000) (hn:1≤n):∃ r u' m',bW N ⟨l,u,m⟩ n=some (r,u',m')∧0≤r∧r < n∧SOk u' m' (k + 1):=by
 obtain ⟨r,u',m',h1,h2,h3,h4⟩:=aCg (N:=N) hl (n:=n) hs hk
 exact ⟨r,u',m',h1,h2,by omega,h4⟩
theorem aQo {N:Nat} {numbers:List Int} (hb:rX numbers) {u0 m0:Int} {i:Nat} {x:List Int} {x1:List aN} {x2:List Int} {down u m:Int} {k:Nat} (hs:SOk u m k) (hk:k≤1000) (hi:i≤20) (hx:x.length=i) (hx1:x1.length=i) (hx2:x2.length≤i) :
  ∃ u' m' sp x2',lH N ⟨numbers,u0,m0⟩ (i:Int) x x1 x2 down u m=some (.cont (((i + 1:Nat):Int),u',m',x++[down],x1++[sp],x2'))∧(0≤sp.Lo∧sp.Lo≤sp.Hi∧sp.Hi≤20)∧(x2'=x2 ∨ (x2'=x2++[(i:Int)]∧x2.length < 8))∧SOk u' m' (k + 3):=by
 obtain ⟨a,u1,m1,a1,a2,a3,a4⟩:=nxt (N:=N) hb (n:=9) hs (by omega) (by omega)
 obtain ⟨b,u2,m2,b1,b2,b3,b4⟩:=nxt (N:=N) hb (n:=5) a4 (by omega) (by omega)
 unfold lH
 dsimp only
 rw [a1,Option.bind_some,kF (by rw [List.length_append,hx]; simp; omega),Option.bind_some]
 dsimp only
 rw [b1,Option.bind_some,kF (by rw [List.length_append,hx1]; simp; omega),Option.bind_some]
 dsimp only
 have hw:W (a + b)=a + b:=iU (by omega) (by omega)
 rw [hw]
 unfold oV
 rw [fF (by omega)]
 by_cases h8:x2.length < 8
 ·obtain ⟨c,u3,m3,c1,c2,c3,c4⟩:=nxt (N:=N) hb (n:=3) b4 (by omega) (by omega)
  rw [dT (show ((x2.length:Nat):Int) < 8 by omega),cond_true,c1,Option.bind_some,Option.bind_some]
  dsimp only
  cases hc:c == 0 with
  | true=>
   rw [cond_true,kF (by rw [List.length_append]; simp; omega),Option.bind_some]
   exact ⟨u3,m3,⟨a,a + b⟩,x2++[(i:Int)],rfl,by dsimp only; omega,.inr ⟨rfl,h8⟩,c4⟩
  | false=>
   rw [cond_false]
   exact ⟨u3,m3,⟨a,a + b⟩,x2,rfl,by dsimp only; omega,.inl rfl,c4⟩
 ·rw [dF (show ¬ ((x2.length:Nat):Int) < 8 by omega),cond_false,Option.bind_some]
  dsimp only
  rw [cond_false]
  exact ⟨u2,m2,⟨a,a + b⟩,x2,rfl,by dsimp only; omega,.inl rfl,mono b4 (by omega)⟩
structure aK2 (n i:Nat) (x:List Int) (x1:List aN) (x2:List Int):Prop where
 l:x.length=i
 l1:x1.length=i
 l2:x2.length≤i∧x2.length≤8
 d:∀ j,j < i→x.getD j (-1) = -1 ∨ (j:Int) < x.getD j (-1)∧x.getD j (-1) < (n:Int)
 t:∀ s ∈ x1,0≤s.Lo∧s.Lo≤s.Hi∧s.Hi≤20
 s:∀ s ∈ x2,0≤s∧s < (i:Int)
 a:x2.Pairwise (· < ·)
theorem aK2.step {n i:Nat} {x:List Int} {x1:List aN} {x2 x2':List Int} (h:aK2 n i x x1 x2) {down:Int} {sp:aN} (hd:down = -1 ∨ (i:Int) < down∧down < (n:Int)) (hs:0≤sp.Lo∧sp.Lo≤sp.Hi∧sp.Hi≤20) (h2:x2'=x2 ∨ (x2'=x2++[(i:Int)]∧x2.length < 8)):aK2 n (i + 1) (x++[down]) (x1++[sp]) x2':=by
 have hl:=h.l
 have hl2:=h.l2
 refine ⟨by rw [List.length_append,hl]; rfl,by rw [List.length_append,h.l1]; rfl,?_,fun j hj=>?_,fun s hs'=>?_,?_,?_⟩
 ·rcases h2 with rfl | ⟨rfl,h3⟩
  ·omega
  ·rw [List.length_append]; simp; omega
 ·by_cases e:j=i
  ·subst e
   have:(x++[down]).getD j (-1)=down:=by rw [← hl]; exact aOw
   rw [this]
   exact hd
  ·rw [aOo (by omega)]
   exact h.d j (by omega)
 ·rcases List.mem_append.1 hs' with hs' | hs'
  ·exact h.t s hs'
  ·rw [List.mem_singleton.1 hs']; exact hs
 ·rcases h2 with rfl | ⟨rfl,h3⟩
  ·intro s hs'
   have:=h.s s hs'
   omega
  ·intro s hs'
   rcases List.mem_append.1 hs' with hs' | hs'
   ·have:=h.s s hs'
    omega
   ·rw [List.mem_singleton.1 hs']; omega
 ·rcases h2 with rfl | ⟨rfl,h3⟩
  ·exact h.a
  ·refine List.pairwise_append.2 ⟨h.a,List.pairwise_singleton _ _,fun s hs' y hy=>?_⟩
   rw [List.mem_singleton.1 hy]
   exact (h.s s hs').2
theorem b6_ok {N:Nat} (hN:100≤N) {numbers:List Int} (hb:rX numbers) {u0 m0:Int} {n:Nat} (hn:n≤8) {rr:Int × Int} {u m:Int} {k:Nat} (hs:SOk u m k) (hk:k≤100) :
  ∃ u' m' x x1 x2,aX (fun s6=>lB N ⟨numbers,u0,m0⟩ ((n:Int),rr) s6.1 s6.2.1 s6.2.2.1 s6.2.2.2.1 s6.2.2.2.2.1 s6.2.2.2.2.2) N (0,u,m,[],[],[])=some (.go ((n:Int),u',m',x,x1,x2))∧aK2 n n x x1 x2∧SOk u' m' (k + 5 * n):=by
 obtain ⟨⟨z,u',m',x,x1,x2⟩,f1,rfl,f2,f3⟩:=qA (ρ:=aH × Int × Int) (fun s6=>lB N ⟨numbers,u0,m0⟩ ((n:Int),rr) s6.1 s6.2.1 s6.2.2.1 s6.2.2.2.1 s6.2.2.2.2.1 s6.2.2.2.2.2)
  (fun i s=>s.1=(i:Int)∧aK2 n i s.2.2.2.1 s.2.2.2.2.1 s.2.2.2.2.2∧SOk s.2.1 s.2.2.1 (k + 5 * i)) n (by
  rintro i ⟨z,p,q,x,x1,x2⟩ hi ⟨rfl,h1,h2⟩
  dsimp only at h1 h2
  show ∃ s',lB N ⟨numbers,u0,m0⟩ ((n:Int),rr) (i:Int) p q x x1 x2=_∧_
  unfold lB
  dsimp only
  rw [gD hi,cond_true,fF (by omega)]
  have fin:∀ (down p' q':Int) (k':Nat),SOk p' q' k'→k'≤k + 5 * i + 2→(down = -1 ∨ (i:Int) < down∧down < (n:Int)) →
    ∃ s',lH N ⟨numbers,u0,m0⟩ (i:Int) x x1 x2 down p' q'=some (.cont s')∧s'.1=((i + 1:Nat):Int)∧aK2 n (i + 1) s'.2.2.2.1 s'.2.2.2.2.1 s'.2.2.2.2.2∧SOk s'.2.1 s'.2.2.1 (k + 5 * (i + 1)):=by
   intro down p' q' k' hso hk' hd
   obtain ⟨u',m',sp,x2',g1,g2,g3,g4⟩:=aQo (N:=N) hb (u0:=u0) (m0:=m0) (i:=i) (x:=x) (x1:=x1) (x2:=x2) (down:=down) hso (by omega) (by omega) h1.l h1.l1 h1.l2.1
   exact ⟨_,g1,rfl,h1.step hd g2 g3,mono g4 (by omega)⟩
  by_cases hlt:i + 1 < n
  ·obtain ⟨a,u1,m1,a1,a2,a3,a4⟩:=nxt (N:=N) hb (n:=6) h2 (by omega) (by omega)
   rw [dT (show ((i + 1:Nat):Int) < (n:Int) by omega),cond_true,a1,Option.bind_some,Option.bind_some]
   dsimp only
   by_cases ha:0 < a
   ·rw [dT ha,cond_true]
    have e1:W ((n:Int) - 1)=(n:Int) - 1:=iU (by omega) (by omega)
    have e2:W ((i:Int) + 3)=(i:Int) + 3:=iU (by omega) (by omega)
    rw [e1,e2]
    obtain ⟨b,u2,m2,b1,b2,b3,b4⟩:=xZ (N:=N) hb (lo:=((i + 1:Nat):Int)) (hi:=min ((n:Int) - 1) ((i:Int) + 3)) a4 (by omega) (by omega) (by omega) (by omega)
    rw [b1,Option.bind_some]
    exact fin b u2 m2 _ b4 (by omega) (.inr ⟨by omega,by omega⟩)
   ·rw [dF ha,cond_false]
    exact fin (-1) u1 m1 _ a4 (by omega) (.inl rfl)
  ·rw [dF (show ¬ ((i + 1:Nat):Int) < (n:Int) by omega),cond_false,Option.bind_some]
   dsimp only
   rw [cond_false]
   exact fin (-1) p q _ h2 (by omega) (.inl rfl)) (by
  rintro ⟨z,p,q,x,x1,x2⟩ ⟨rfl,-⟩
  show lB N ⟨numbers,u0,m0⟩ ((n:Int),rr) (n:Int) p q x x1 x2=_
  unfold lB
  dsimp only
  rw [gC,cond_false]) n 0 (0,u,m,[],[],[]) N (by omega) (by omega) ⟨rfl,⟨rfl,rfl,by simp,fun j hj=>absurd hj (Nat.not_lt_zero _),fun s hs=>(List.not_mem_nil hs).elim,fun s hs=>(List.not_mem_nil hs).elim,List.Pairwise.nil⟩,hs⟩
 exact ⟨_,_,_,_,_,f1,f2,f3⟩
theorem aQj {N:Nat} (hN:100≤N) {numbers:List Int} (hb:rX numbers) {u0 m0:Int} {n:Nat} (hn1:1≤n) {rr:Int × Int} {u m c:Int} (hc:0≤c∧c≤20) {k:Nat} (hs:SOk u m k) (hk:k≤1000) :
  ∃ z u' m' T,aX (fun s10=>oX N ⟨numbers,u0,m0⟩ ((n:Int),rr) s10.1 s10.2.1 s10.2.2.1 s10.2.2.2) N (c,u,m,[])=some (.go (z,u',m',T))∧(T.length:Int)=c∧(∀ t ∈ T,(0≤t.Station∧t.Station < (n:Int))∧(0≤t.Lead∧t.Lead≤1000)∧(0≤t.Alarm∧t.Alarm≤2000))∧SOk u' m' (k + 60):=by
 obtain ⟨⟨z,u',m',T⟩,f1,f2,f3,f4⟩:=oL (f:=fun s10:Int × Int × Int × List aR=>oX N ⟨numbers,u0,m0⟩ ((n:Int),rr) s10.1 s10.2.1 s10.2.2.1 s10.2.2.2)
  (fun s=>0≤s.1∧s.1 + (s.2.2.2.length:Int)=c∧(∀ t ∈ s.2.2.2,(0≤t.Station∧t.Station < (n:Int))∧(0≤t.Lead∧t.Lead≤1000)∧(0≤t.Alarm∧t.Alarm≤2000))∧SOk s.2.1 s.2.2.1 (k + 3 * s.2.2.2.length))
  (fun s=>(s.2.2.2.length:Int)=c∧(∀ t ∈ s.2.2.2,(0≤t.Station∧t.Station < (n:Int))∧(0≤t.Lead∧t.Lead≤1000)∧(0≤t.Alarm∧t.Alarm≤2000))∧SOk s.2.1 s.2.2.1 (k + 60)) (fun s=>s.1.toNat) (by
  rintro ⟨z,p,q,T⟩ ⟨h0,h1,h2,h3⟩
  dsimp only at h0 h1 h2 h3 ⊢
  unfold oX
  dsimp only
  by_cases hz:0 < z
  ·right
   rw [dT hz,cond_true]
   obtain ⟨a,u1,m1,a1,a2,a3,a4⟩:=nxt (N:=N) hb (n:=(n:Int)) h3 (by omega) (by omega)
   rw [a1,Option.bind_some]
   dsimp only
   obtain ⟨b,u2,m2,b1,b2,b3,b4⟩:=nxt (N:=N) hb (n:=8) a4 (by omega) (by omega)
   rw [b1,Option.bind_some]
   dsimp only
   obtain ⟨d,u3,m3,d1,d2,d3,d4⟩:=xZ (N:=N) hb (lo:=100) (hi:=300) b4 (by omega) (by omega) (by omega) (by omega)
   rw [d1,Option.bind_some,kF (by rw [List.length_append]; simp; omega),Option.bind_some,iU (by omega) (by omega)]
   refine ⟨_,rfl,⟨by dsimp only; omega,by dsimp only; rw [List.length_append]; simp; omega,fun t ht=>?_,?_⟩,by dsimp only; omega⟩
   ·rcases List.mem_append.1 ht with ht | ht
    ·exact h2 t ht
    ·rw [List.mem_singleton.1 ht]
     exact ⟨⟨a2,a3⟩,⟨b2,by dsimp only; omega⟩,by dsimp only; omega,by dsimp only; omega⟩
   ·dsimp only
    rw [List.length_append]
    exact mono d4 (by simp; omega)
  ·left
   rw [dF hz,cond_false]
   exact ⟨_,rfl,by dsimp only; omega,h2,mono h3 (by omega)⟩) N (c,u,m,[]) ⟨hc.1,by simp,fun t ht=>(List.not_mem_nil ht).elim,hs⟩ (by dsimp only; omega)
 exact ⟨z,u',m',T,f1,f2,f3,f4⟩
theorem aQy {N:Nat} (hN:100≤N) {numbers:List Int} (hb:rX numbers) {u0 m0:Int} {x:List Int} (hx:wD x) (hxl:x.length≤12) {s:Int} (hso:ok x s) {u m:Int} {k:Nat} (hs:SOk u m k) (hk:k≤10000) :
  ∃ z u' m' S,aX (fun s23=>oS N ⟨numbers,u0,m0⟩ x s23.1 s23.2.1 s23.2.2.1 s23.2.2.2) N (s,u,m,[])=some (.go (z,u',m',S))∧S.length=(pth x s).length∧(∀ t ∈ S,0≤t∧t≤2000)∧SOk u' m' (k + 12):=by
 have hpl:=(wU hx s).2
 obtain ⟨⟨z,u',m',S⟩,f1,f2,f3,f4⟩:=oL (f:=fun s23:Int × Int × Int × List Int=>oS N ⟨numbers,u0,m0⟩ x s23.1 s23.2.1 s23.2.2.1 s23.2.2.2)
  (fun t=>(t.1 = -1 ∨ ok x t.1)∧t.2.2.2.length + (pth x t.1).length=(pth x s).length∧(∀ y ∈ t.2.2.2,0≤y∧y≤2000)∧SOk t.2.1 t.2.2.1 (k + t.2.2.2.length))
  (fun t=>t.2.2.2.length=(pth x s).length∧(∀ y ∈ t.2.2.2,0≤y∧y≤2000)∧SOk t.2.1 t.2.2.1 (k + 12)) (fun t=>(pth x t.1).length) (by
  rintro ⟨z,p,q,S⟩ ⟨h0,h1,h2,h3⟩
  dsimp only at h0 h1 h2 h3 ⊢
  unfold oS
  dsimp only
  by_cases hz:z = -1
  ·left
   have e:(z != (-1))=false:=by rw [hz]; rfl
   rw [e,cond_false]
   have hp:pth x z=[]:=pD (by rw [hz]; unfold ok; omega)
   rw [hp] at h1
   exact ⟨_,rfl,by simpa using h1,h2,mono h3 (by simp at h1; omega)⟩
  ·right
   have ho:ok x z:=by rcases h0 with h0 | h0; exact absurd h0 hz; exact h0
   have e:(z != (-1))=true:=by simpa using hz
   rw [e,cond_true]
   obtain ⟨a,u1,m1,a1,a2,a3,a4⟩:=nxt (N:=N) hb (n:=400) h3 (by omega) (by omega)
   rw [pQ hx ho,List.length_cons] at h1
   have hg:bE x z=some (nx x z):=by
    have ho':=ho
    unfold ok at ho'
    unfold bE nx
    rw [if_pos ho'.1]
    simp [List.getD,show z.toNat < x.length by omega]
   rw [a1,Option.bind_some,kF (by rw [List.length_append]; simp; omega),Option.bind_some,hg,Option.bind_some]
   refine ⟨_,rfl,⟨?_,by dsimp only; rw [List.length_append]; simp; omega,fun t ht=>?_,?_⟩,?_⟩
   ·dsimp only
    rcases aD6 hx ho with e1 | ⟨e1,e2⟩
    ·exact .inl e1
    ·exact .inr ⟨by have:=ho.1; omega,e2⟩
   ·rcases List.mem_append.1 ht with ht | ht
    ·exact h2 t ht
    ·rw [List.mem_singleton.1 ht]; omega
   ·dsimp only
    rw [List.length_append]
    exact a4
   ·dsimp only
    rw [pQ hx ho,List.length_cons]
    omega) N (s,u,m,[]) ⟨.inr hso,by simp,fun t ht=>(List.not_mem_nil ht).elim,hs⟩ (by dsimp only; omega)
 exact ⟨z,u',m',S,f1,f2,f3,f4⟩
theorem aQq {N:Nat} (hN:100≤N) {numbers:List Int} (hb:rX numbers) {u0 m0:Int} {x:List Int} (hx:wD x) (hxl:x.length≤12) {sp:List Int} (hsp1:1≤sp.length) (hsp:∀ s ∈ sp,ok x s) {u m c:Int} (hc:0≤c∧c≤20) {k:Nat} (hs:SOk u m k) (hk:k≤1000) :
  ∃ z u' m' F,aX (fun s15=>pB N ⟨numbers,u0,m0⟩ x sp s15.1 s15.2.1 s15.2.2.1 s15.2.2.2) N (c,u,m,[])=some (.go (z,u',m',F))∧(F.length:Int)=c∧(∀ f ∈ F,f.Spring ∈ sp∧f.Stages.length=(pth x f.Spring).length∧∀ x ∈ f.Stages,0≤x∧x≤2000)∧SOk u' m' (k + 400):=by
 obtain ⟨⟨z,u',m',F⟩,f1,f2,f3,f4⟩:=oL (f:=fun s15:Int × Int × Int × List cX=>pB N ⟨numbers,u0,m0⟩ x sp s15.1 s15.2.1 s15.2.2.1 s15.2.2.2)
  (fun s=>0≤s.1∧s.1 + (s.2.2.2.length:Int)=c∧(∀ f ∈ s.2.2.2,f.Spring ∈ sp∧f.Stages.length=(pth x f.Spring).length∧∀ x ∈ f.Stages,0≤x∧x≤2000)∧SOk s.2.1 s.2.2.1 (k + 13 * s.2.2.2.length))
  (fun s=>(s.2.2.2.length:Int)=c∧(∀ f ∈ s.2.2.2,f.Spring ∈ sp∧f.Stages.length=(pth x f.Spring).length∧∀ x ∈ f.Stages,0≤x∧x≤2000)∧SOk s.2.1 s.2.2.1 (k + 400)) (fun s=>s.1.toNat) (by
  rintro ⟨z,p,q,F⟩ ⟨h0,h1,h2,h3⟩
  dsimp only at h0 h1 h2 h3 ⊢
  unfold pB
  dsimp only
  by_cases hz:0 < z
  ·right
   rw [dT hz,cond_true]
   obtain ⟨a,u1,m1,a1,a2,a3,a4⟩:=nxt (N:=N) hb (n:=(sp.length:Int)) h3 (by omega) (by omega)
   obtain ⟨j,rfl⟩:=Int.eq_ofNat_of_zero_le a2
   have hj:j < sp.length:=by omega
   rw [a1,Option.bind_some]
   dsimp only
   rw [cS hj,Option.bind_some]
   obtain ⟨w,u2,m2,S,b1,b2,b3,b4⟩:=aQy (N:=N) hN hb (u0:=u0) (m0:=m0) hx hxl (hsp _ (List.getElem_mem hj)) a4 (by omega)
   rw [b1,Option.bind_some,exK_at]
   dsimp only
   rw [kF (by rw [List.length_append]; simp; omega),Option.bind_some,iU (by omega) (by omega)]
   refine ⟨_,rfl,⟨by dsimp only; omega,by dsimp only; rw [List.length_append]; simp; omega,fun t ht=>?_,?_⟩,by dsimp only; omega⟩
   ·rcases List.mem_append.1 ht with ht | ht
    ·exact h2 t ht
    ·rw [List.mem_singleton.1 ht]
     exact ⟨List.getElem_mem hj,b2,b3⟩
   ·dsimp only
    rw [List.length_append]
    exact mono b4 (by simp; omega)
  ·left
   rw [dF hz,cond_false]
   exact ⟨_,rfl,by dsimp only; omega,h2,mono h3 (by omega)⟩) N (c,u,m,[]) ⟨hc.1,by simp,fun t ht=>(List.not_mem_nil ht).elim,hs⟩ (by dsimp only; omega)
 exact ⟨z,u',m',F,f1,f2,f3,f4⟩
theorem aOe {N:Nat} (hN:100≤N) {numbers:List Int} (hb:rX numbers):∃ r u m,uP N ⟨numbers,0,0⟩ 8=some (r,u,m)∧pO r∧r.Down.length≤8:=by
 have s0:SOk 0 0 0:=⟨by omega,by simp,by omega,by omega⟩
 obtain ⟨a,u1,m1,a1,a2,a3,a4⟩:=xZ (N:=N) hb (lo:=1) (hi:=8) s0 (by omega) (by omega) (by omega) (by omega)
 obtain ⟨n,rfl⟩:=Int.eq_ofNat_of_zero_le (show 0≤a by omega)
 obtain ⟨u2,m2,x,x1,x2,b1,b2,b3⟩:=b6_ok (N:=N) hN hb (u0:=0) (m0:=0) (n:=n) (by omega) (rr:=(u1,m1)) a4 (by omega)
 have hx:wD x:=fun i hi=>by rw [b2.l] at hi ⊢; exact b2.d i hi
 have fin:∀ sp:List Int,(1≤sp.length∧sp.length≤8)→(∀ s ∈ sp,ok x s)→sp.Pairwise (· < ·)→∃ r u m,oE N ⟨numbers,0,0⟩ ((n:Int),u1,m1) u2 m2 x x1 sp=some (r,u,m)∧pO r∧r.Down.length≤8:=by
  intro sp hsl hs hsa
  have hl:=b2.l
  obtain ⟨c,u3,m3,c1,c2,c3,c4⟩:=nxt (N:=N) hb (n:=8) b3 (by omega) (by omega)
  obtain ⟨z,u4,m4,T,d1,d2,d3,d4⟩:=aQj (N:=N) hN hb (u0:=0) (m0:=0) (n:=n) (by omega) (rr:=(u1,m1)) (c:=c) (by omega) c4 (by omega)
  obtain ⟨e,u5,m5,e1,e2,e3,e4⟩:=nxt (N:=N) hb (n:=3) d4 (by omega) (by omega)
  obtain ⟨f,u6,m6,f1,f2,f3,f4⟩:=nxt (N:=N) hb (n:=3) e4 (by omega) (by omega)
  obtain ⟨g,u7,m7,g1,g2,g3,g4⟩:=nxt (N:=N) hb (n:=10) f4 (by omega) (by omega)
  obtain ⟨y,u8,m8,F,h1,h2,h3,h4⟩:=aQq (N:=N) hN hb (u0:=0) (m0:=0) hx (by omega) hsl.1 hs (c:=g) (by omega) g4 (by omega)
  unfold oE
  dsimp only
  rw [c1,Option.bind_some,d1,Option.bind_some,exK_at]
  dsimp only
  rw [e1,Option.bind_some]
  dsimp only
  rw [f1,Option.bind_some]
  dsimp only
  rw [g1,Option.bind_some,h1,Option.bind_some,exK_at]
  have hw:W (e + f)=e + f:=iU (by omega) (by omega)
  refine ⟨_,_,_,rfl,⟨⟨by dsimp only; omega,by dsimp only; omega⟩,hx,by dsimp only; rw [hl,b2.l1],fun i hi=>?_,hsl,hs,hsa,by dsimp only; omega,fun t ht=>?_,?_,by dsimp only; omega,h3⟩,by dsimp only; omega⟩
  ·dsimp only at hi ⊢
   rw [← mB hi]
   have:=b2.t _ (List.getElem_mem hi)
   omega
  ·have:=d3 t ht
   unfold ok
   dsimp only
   rw [hl]
   exact this
  ·dsimp only
   rw [hw]
   omega
 unfold uP
 rw [a1,Option.bind_some]
 dsimp only
 rw [b1,Option.bind_some,exK_at]
 dsimp only
 cases hz:((x2.length:Nat):Int) == 0 with
 | true=>
  rw [cond_true]
  exact fin [0] (by simp) (fun s hs=>by rw [List.mem_singleton.1 hs]; unfold ok; rw [b2.l]; omega) (List.pairwise_singleton _ _)
 | false=>
  rw [cond_false]
  have h2:=b2.l2
  have:x2.length ≠ 0:=by
   intro e
   rw [e] at hz
   cases hz
  exact fin x2 ⟨by omega,h2.2⟩ (fun s hs=>by unfold ok; rw [b2.l]; exact b2.s s hs) b2.a
end Go.Nilo.Wa
namespace Go.Nilo
theorem aOt {L:List Int} (hn:L.Nodup) {i j:Nat} (hi:i < L.length) (hj:j < L.length):(((L.set i L[j]).set j L[i]).Nodup)∧∀ x ∈ (L.set i L[j]).set j L[i],x ∈ L:=by
 have hg:∀ k (hk:k < ((L.set i L[j]).set j L[i]).length),∃ m,∃ hm:m < L.length,((L.set i L[j]).set j L[i])[k]=L[m]∧m=(if k=j then i else if k=i then j else k):=fun k hk=>by
  have hk':k < L.length:=by simpa using hk
  rw [List.getElem_set]
  by_cases h1:j=k
  ·subst h1
   exact ⟨i,hi,by rw [if_pos rfl],by rw [if_pos rfl]⟩
  ·rw [if_neg h1,List.getElem_set]
   by_cases h2:i=k
   ·subst h2
    exact ⟨j,hj,by rw [if_pos rfl],by rw [if_neg (fun e=>h1 e.symm),if_pos rfl]⟩
   ·exact ⟨k,hk',by rw [if_neg h2],by rw [if_neg (fun e=>h1 e.symm),if_neg (fun e=>h2 e.symm)]⟩
 constructor
 ·rw [List.nodup_iff_pairwise_ne,List.pairwise_iff_getElem]
  intro a b ha hb hab he
  obtain ⟨m,hm,e1,e2⟩:=hg a ha
  obtain ⟨n,hn',f1,f2⟩:=hg b hb
  rw [e1,f1] at he
  have:=(List.getElem_inj hn (h₀:=hm) (h₁:=hn')).1 he
  rw [e2,f2] at this
  split at this <;> split at this <;> (try split at this) <;> (try split at this) <;> omega
 ·intro x hx
  obtain ⟨k,hk,rfl⟩:=List.getElem_of_mem hx
  obtain ⟨m,hm,e1,-⟩:=hg k hk
  rw [e1]
  exact List.getElem_mem hm
theorem aIc {N:Nat} (hN:60≤N) {numbers:List Int} (hb:rX numbers) {u m:Int} {k n:Nat} (hk:k≤10000) (hn:n≤20) (hs:SOk u m k):∃ out u' m' k',tS N ⟨numbers,u,m⟩ (n:Int)=some (out,u',m')∧SOk u' m' k'∧k'≤k + n∧out.length=n∧out.Nodup∧∀ x ∈ out,0≤x∧x < (n:Int):=by
 unfold tS
 obtain ⟨s,g1,g2,g3,g4,g5,g6⟩:=qA (ρ:=List Int × Int × Int) (fun s5=>nU N ⟨numbers,u,m⟩ (n:Int) s5.1 s5.2.1 s5.2.2.1 s5.2.2.2) (fun i s=>s.2.1=(i:Int)∧s.1.length=i∧s.1.Nodup∧(∀ x ∈ s.1,0≤x∧x < (i:Int))∧SOk s.2.2.1 s.2.2.2 (k + i)) n (fun i s hi hI=>by
  obtain ⟨out,x,p,q⟩:=s
  obtain ⟨rfl,f1,f2,f3,f4⟩:=hI
  dsimp only at f1 f2 f3 f4
  have hW:W ((i:Int) + 1)=((i + 1:Nat):Int):=fF (by omega)
  obtain ⟨r,v,w,r1,r2,r3,r4⟩:=aCg (N:=N) hb (n:=((i + 1:Nat):Int)) f4 (by omega)
  obtain ⟨j,rfl⟩:=Int.eq_ofNat_of_zero_le r2
  have hj:j < (out++[(i:Int)]).length:=by rw [List.length_append,f1,List.length_cons,List.length_nil]; omega
  have hi2:i < (out++[(i:Int)]).length:=by rw [List.length_append,f1,List.length_cons,List.length_nil]; omega
  have hnd:(out++[(i:Int)]).Nodup:=by
   rw [List.nodup_append]
   exact ⟨f2,by simp,fun a ha b hb' e=>by rw [List.mem_singleton.1 hb'] at e; have:=(f3 a ha).2; omega⟩
  have hsw:=aOt hnd hi2 hj
  refine ⟨(((out++[(i:Int)]).set i (out++[(i:Int)])[j]).set j (out++[(i:Int)])[i],((i + 1:Nat):Int),v,w),?_,rfl,?_,hsw.1,fun x hx=>?_,?_⟩
  ·show nU N ⟨numbers,u,m⟩ (n:Int) out (i:Int) p q=_
   unfold nU
   dsimp only
   rw [show decide ((i:Int) < (n:Int))=true by rw [decide_eq_true_eq]; omega,cond_true,hW,r1,Option.bind_some,kF (by rw [List.length_append,f1,List.length_cons,List.length_nil]; omega),Option.bind_some,cS hj,Option.bind_some,cS hi2,Option.bind_some,Option.bind_some,Option.bind_some,Int.toNat_natCast,Int.toNat_natCast]
  ·dsimp only
   rw [List.length_set,List.length_set,List.length_append,f1]; rfl
  ·have:=hsw.2 x hx
   push_cast
   rcases List.mem_append.1 this with h | h
   ·have:=f3 x h; omega
   ·rw [List.mem_singleton.1 h]; omega
  ·have:k + (i + 1)=k + i + 1:=by omega
   dsimp only
   rw [this]; exact r4) (fun s hI=>by
  show nU N ⟨numbers,u,m⟩ (n:Int) s.1 s.2.1 s.2.2.1 s.2.2.2=_
  unfold nU
  dsimp only
  rw [hI.1,gC,cond_false,← hI.1]) n 0 ([],0,u,m) N (by omega) (by omega) ⟨rfl,rfl,List.nodup_nil,fun x hx=>(List.not_mem_nil hx).elim,hs⟩
 dsimp only
 rw [g1,Option.bind_some]
 exact ⟨_,_,_,_,rfl,g6,by omega,g3,g4,g5⟩
end Go.Nilo
