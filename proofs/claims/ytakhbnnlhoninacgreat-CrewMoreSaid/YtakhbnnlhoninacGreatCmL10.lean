/-
  What the plain functions compute, in plain arithmetic, part 10. Conditions: what each theorem names.
-/
import Derived.Test.YtakhbnnlhoninacGreatCmL9
set_option linter.unusedSimpArgs false
set_option linter.unusedVariables false
namespace Go.Nilo
structure vP (l:List Int):Prop where
 el:∀ e ∈ l,0≤e∧e≤255
 len:l.length≤9223372036854775807
structure SOk (u m:Int) (k:Nat):Prop where
 u0:0≤u
 u1:u≤k
 m0:0≤m
 m1:m≤250


theorem aFp {N:Nat} {s_:bD} {n b2 b3:Int} {k:Nat} (hs:SOk s_.used s_.mix k) (hk:k≤1000000) (hn:2≤n) (h2:0≤b2∧b2≤2000000) (h3:0≤b3) :
  ∃ r u m,eU N s_ n b2 b3=some (r,u,m)∧0≤r∧r < n∧SOk u m (k + 1):=by
 obtain ⟨u0,u1,m0,m1⟩:=hs
 have e1:W (5 * s_.mix)=5 * s_.mix:=pR (by omega) (by omega)
 have e2:W (5 * s_.mix + b2)=5 * s_.mix + b2:=pR (by omega) (by omega)
 have e3:W (5 * s_.mix + b2 + 1)=5 * s_.mix + b2 + 1:=pR (by omega) (by omega)
 have e4:W (s_.used + 1)=s_.used + 1:=pR (by omega) (by omega)
 have hz:nz n=some ():=by unfold nz; rw [if_neg (by omega)]
 refine ⟨b3 % n,s_.used + 1,(5 * s_.mix + b2 + 1) % 251,?_,Int.emod_nonneg _ (by omega),Int.emod_lt_of_pos _ (by omega),⟨by omega,by push_cast; omega,Int.emod_nonneg _ (by omega),?_⟩⟩
 ·unfold eU
  rw [hz,e1,e2,e3,e4,uT h3,uT (by omega)]
  rfl
 ·have:=Int.emod_lt_of_pos (5 * s_.mix + b2 + 1) (show (0:Int) < 251 by omega)
  omega

theorem aI0 {N:Nat} {s_:bD} {n b2:Int} {k:Nat} (hs:SOk s_.used s_.mix k) (hk:k≤1000000) (hn:2≤n) (h2:0≤b2∧b2≤2000000) :
  ∃ r u m,eW N s_ n b2=some (r,u,m)∧0≤r∧r < n∧SOk u m (k + 1):=by
 unfold eW
 obtain ⟨u0,u1,m0,m1⟩:=id hs
 have e1:W (5 * s_.mix)=5 * s_.mix:=pR (by omega) (by omega)
 have e2:W (5 * s_.mix + b2)=5 * s_.mix + b2:=pR (by omega) (by omega)
 have e3:W (5 * s_.mix + b2 + 1)=5 * s_.mix + b2 + 1:=pR (by omega) (by omega)
 have e5:W (256 * b2)=256 * b2:=pR (by omega) (by omega)
 have hm:0≤(5 * s_.mix + b2 + 1) % 251:=Int.emod_nonneg _ (by omega)
 have hm':=Int.emod_lt_of_pos (5 * s_.mix + b2 + 1) (show (0:Int) < 251 by omega)
 cases hb:decide (256 < n) with
 | true=>
  show ∃ r u m,eU N s_ n b2 _=some (r,u,m)∧_
  refine aFp hs hk hn h2 ?_
  rw [e1,e2,e3,e5,uT (by omega),pR (by omega) (by omega)]
  omega
 | false=>exact aFp (N:=N) hs hk hn h2 h2.1

theorem vE {N:Nat} {l:List Int} (hl:vP l) {u m n:Int} {k:Nat} (hs:SOk u m k) (hk:k≤1000000) :
  ∃ r u' m',fO N ⟨l,u,m⟩ n=some (r,u',m')∧0≤r∧(r < n ∨ r=0)∧SOk u' m' (k + 1):=by
 obtain ⟨u0,u1,m0,m1⟩:=id hs
 unfold fO
 cases h1:(decide (n < 2) || (((l.length:Nat):Int) == 0)) with
 | true=>exact ⟨0,u,m,rfl,by omega,.inr rfl,⟨u0,by push_cast; omega,m0,m1⟩⟩
 | false=>
  simp at h1
  have hl0:0 < l.length:=by
   cases l with
   | nil=>simp at h1
   | cons=>simp
  have hz:nz ((l.length:Nat):Int)=some ():=by unfold nz; rw [if_neg (by omega)]
  have hmod:0≤u % (l.length:Int)∧u % (l.length:Int) < l.length:=⟨Int.emod_nonneg _ (by omega),Int.emod_lt_of_pos _ (by omega)⟩
  have hg:bH l (u.tmod ((l.length:Nat):Int))=some (l[(u % (l.length:Int)).toNat]'(by omega)):=by
   rw [uT u0]
   unfold bH
   rw [if_pos hmod.1]
   exact List.getElem?_eq_getElem _
  have he:=hl.el (l[(u % (l.length:Int)).toNat]'(by omega)) (List.getElem_mem _)
  generalize (l[(u % (l.length:Int)).toNat]'(by omega))=e at hg he
  have hd:0≤u / (l.length:Int)∧u / (l.length:Int)≤u:=⟨Int.ediv_nonneg u0 (by omega),Int.ediv_le_self _ u0⟩
  have ew:W e=e:=pR (by omega) (by omega)
  have ed:W (u / (l.length:Int))=u / (l.length:Int):=pR (by omega) (by omega)
  have e11:W (11 * m)=11 * m:=pR (by omega) (by omega)
  have es:W (11 * m + u / (l.length:Int))=11 * m + u / (l.length:Int):=pR (by omega) (by omega)
  have es2:W (e + (11 * m + u / (l.length:Int)))=e + (11 * m + u / (l.length:Int)):=pR (by omega) (by omega)
  have hgo:∀ b2,0≤b2∧b2≤2000000→∃ r u' m',eW N ⟨l,u,m⟩ n b2=some (r,u',m')∧0≤r∧(r < n ∨ r=0)∧SOk u' m' (k + 1):=by
   intro b2 hb2
   obtain ⟨r,u',m',h2,h3,h4,h5⟩:=aI0 (N:=N) (s_:=⟨l,u,m⟩) (n:=n) hs hk (by omega) hb2
   exact ⟨r,u',m',h2,h3,.inl h4,h5⟩
  simp only [cond_false,hz,hg,Option.bind_some]
  rw [aHg u0,ew,ed,e11,es,es2]
  cases decide (((l.length:Nat):Int)≤u) with
  | true=>exact hgo _ (by omega)
  | false=>exact hgo _ (by omega)

theorem uF {N:Nat} {l:List Int} (hl:vP l) {u m lo hi:Int} {k:Nat} (hs:SOk u m k) (hk:k≤1000000) (h0 : -1000000000000000≤lo) (h1:hi≤1000000000000000) (hle:lo≤hi) :
  ∃ r u' m',fI N ⟨l,u,m⟩ lo hi=some (r,u',m')∧lo≤r∧r≤hi∧SOk u' m' (k + 1):=by
 obtain ⟨r,u',m',h2,h3,h4,h5⟩:=vE (N:=N) hl (n:=W (W (hi - lo) + 1)) hs hk
 have e1:W (hi - lo)=hi - lo:=pR (by omega) (by omega)
 have e2:W (hi - lo + 1)=hi - lo + 1:=pR (by omega) (by omega)
 rw [e1,e2] at h4 h2
 have e3:W (lo + r)=lo + r:=pR (by omega) (by omega)
 refine ⟨lo + r,u',m',?_,by omega,by omega,h5⟩
 unfold fI
 rw [e1,e2,h2]
 simp [e3]


end Go.Nilo
