/-
  What the plain functions compute, in plain arithmetic, part 4. Conditions: what each theorem names.
-/
import Derived.Test.YtofihdjdhecfdaaGreatDrL3
set_option linter.unusedSimpArgs false
set_option linter.unusedVariables false
namespace Go.Nilo
def mS (l:List aE) (i:Nat):Int:=(l.getD i mk0).Stage
def mF (l:List aE) (i:Nat):Int:=(l.getD i mk0).Flow
theorem ROk.lt {l:List aE} (h:ROk l) {i:Nat}:∀ k,i + k + 1 < l.length→mS l i < mS l (i + k + 1)∧mF l i < mF l (i + k + 1)
 | 0,hj=>⟨h.su i hj,h.fu i hj⟩
 | k + 1,hj=>by
  have h1:=h.lt (i:=i) k (by omega)
  have h2:=h.su (i + k + 1) (by omega)
  have h3:=h.fu (i + k + 1) (by omega)
  have e:i + (k + 1) + 1=i + k + 1 + 1:=by omega
  rw [e]
  simp only [mS,mF] at *
  omega
theorem ROk.slt {l:List aE} (h:ROk l) {i j:Nat} (hij:i < j) (hj:j < l.length):mS l i < mS l j∧mF l i < mF l j:=by
 have:=h.lt (i:=i) (j - i - 1) (by omega)
 rwa [show i + (j - i - 1) + 1=j by omega] at this
theorem ROk.mon {l:List aE} (h:ROk l) {i j:Nat} (hij:i≤j) (hj:j < l.length):mS l i≤mS l j∧mF l i≤mF l j:=by
 rcases Nat.lt_or_eq_of_le hij with h1 | h1
 ·have:=h.slt h1 hj
  omega
 ·subst h1
  omega
def Val (l:List aE) (at_ n d:Int):Prop :=
 (at_≤mS l 0∧n=mF l 0 * d) ∨ (mS l (l.length - 1)≤at_∧n=mF l (l.length - 1) * d) ∨
  ∃ i,i + 1 < l.length∧mS l i≤at_∧at_≤mS l (i + 1)∧n * (mS l (i + 1) - mS l i)=(mF l i * (mS l (i + 1) - mS l i) + (mF l (i + 1) - mF l i) * (at_ - mS l i)) * d
theorem gW {a b c:Int} (h:a≤b) (hc:0≤c):a * c≤b * c:=Int.mul_le_mul_of_nonneg_right h hc
theorem uY {a b c:Int} (h:a * c≤b * c) (hc:0 < c):a≤b:=Int.le_of_mul_le_mul_right h hc
theorem aLr {n d w F G x:Int} (hw:0 < w) (hd:0 < d) (hFG:F≤G) (hx:x≤w) (h:n * w=(F * w + (G - F) * x) * d):n≤G * d:=by
 have h1:(G - F) * x≤(G - F) * w:=Int.mul_le_mul_of_nonneg_left hx (by omega)
 have h2:(F * w + (G - F) * x) * d≤(F * w + (G - F) * w) * d:=gW (by omega) (by omega)
 refine uY (c:=w) ?_ hw
 rw [h]
 have e:(F * w + (G - F) * w) * d=G * d * w:=by grind
 omega
theorem aMd {n d w F G x:Int} (hw:0 < w) (hd:0 < d) (hFG:F≤G) (hx:0≤x) (h:n * w=(F * w + (G - F) * x) * d):F * d≤n:=by
 have h1:0≤(G - F) * x:=Int.mul_nonneg (by omega) hx
 have h2:(F * w) * d≤(F * w + (G - F) * x) * d:=gW (by omega) (by omega)
 refine uY (c:=w) ?_ hw
 rw [h]
 have e:F * w * d=F * d * w:=by grind
 omega
theorem aJy {n d w F G x:Int} (hw:0 < w) (hx:x=0) (h:n * w=(F * w + (G - F) * x) * d):n=F * d:=by
 subst hx
 refine Int.eq_of_mul_eq_mul_right (by omega:w ≠ 0) ?_
 rw [h]
 grind
theorem Val.hi {l:List aE} (hl:ROk l) {at_ n d:Int} (hd:0 < d) (h:Val l at_ n d) {j:Nat} (hj:j < l.length) (ha:at_≤mS l j):n≤mF l j * d:=by
 have hlen:=hl.l2
 rcases h with ⟨h1,h2⟩ | ⟨h1,h2⟩ | ⟨i,hi,h1,h2,h3⟩
 ·have:=hl.mon (Nat.zero_le j) hj
  rw [h2]
  exact gW this.2 (by omega)
 ·have hjl:j=l.length - 1:=by
   rcases Nat.lt_or_ge j (l.length - 1) with h | h
   ·have:=hl.slt h (by omega)
    omega
   ·omega
  subst hjl
  omega
 ·have hw:=hl.slt (Nat.lt_add_one i) hi
  have:=aLr (by omega) hd (by omega) (by omega) h3
  rcases Nat.lt_or_ge i j with hij | hij
  ·have hm:=hl.mon (show i + 1≤j from hij) hj
   have:=gW hm.2 (c:=d) (by omega)
   omega
  ·have hm:=hl.mon hij (by omega)
   have hje:j=i:=by
    rcases Nat.lt_or_eq_of_le hij with h | h
    ·have:=hl.slt h (by omega)
     omega
    ·exact h
   subst hje
   have:=aJy (by omega) (by omega) h3
   omega
theorem Val.lo {l:List aE} (hl:ROk l) {at_ n d:Int} (hd:0 < d) (h:Val l at_ n d) {j:Nat} (hj:j < l.length) (ha:mS l j≤at_):mF l j * d≤n:=by
 have hlen:=hl.l2
 rcases h with ⟨h1,h2⟩ | ⟨h1,h2⟩ | ⟨i,hi,h1,h2,h3⟩
 ·have hj0:j=0:=by
   rcases Nat.eq_zero_or_pos j with h | h
   ·exact h
   ·have:=hl.slt h hj
    omega
  subst hj0
  omega
 ·have:=hl.mon (show j≤l.length - 1 by omega) (by omega)
  rw [h2]
  exact gW this.2 (by omega)
 ·have hw:=hl.slt (Nat.lt_add_one i) hi
  have h0:=aMd (by omega) hd (by omega) (by omega) h3
  rcases Nat.lt_or_ge i j with hij | hij
  ·have hm:=hl.mon (show i + 1≤j from hij) hj
   have hje:j=i + 1:=by
    rcases Nat.lt_or_eq_of_le (show i + 1≤j from hij) with h | h
    ·have:=hl.slt h hj
     omega
    ·exact h.symm
   subst hje
   have e:(mF l i * (mS l (i + 1) - mS l i) + (mF l (i + 1) - mF l i) * (at_ - mS l i)) * d=mF l (i + 1) * d * (mS l (i + 1) - mS l i):=by
    rw [show at_=mS l (i + 1) by omega]
    grind
   rw [e] at h3
   have:=Int.eq_of_mul_eq_mul_right (by omega) h3
   omega
  ·have hm:=hl.mon hij (by omega)
   have:=gW hm.2 (c:=d) (by omega)
   omega
theorem cross {n d n' d' F:Int} (hd:0 < d) (hd':0 < d') (h1:n≤F * d) (h2:F * d'≤n'):n * d'≤n' * d:=by
 have a:=gW h1 (c:=d') (by omega)
 have b:=gW h2 (c:=d) (by omega)
 have e:F * d * d'=F * d' * d:=by grind
 omega
theorem Val.mono {l:List aE} (hl:ROk l) {at_ n d at' n' d':Int} (hd:0 < d) (hd':0 < d') (h:Val l at_ n d) (h':Val l at' n' d') (hle:at_≤at'):n * d'≤n' * d:=by
 have hlen:=hl.l2
 have key:∀ j,j < l.length→at_≤mS l j→mS l j≤at'→n * d'≤n' * d:=fun j hj h1 h2=>cross hd hd' (h.hi hl hd hj h1) (h'.lo hl hd' hj h2)
 by_cases hk:∃ j,j < l.length∧at_≤mS l j∧mS l j≤at'
 ·obtain ⟨j,a,b,c⟩:=hk
  exact key j a b c
 have hno:∀ j,j < l.length→mS l j < at_ ∨ at' < mS l j:=fun j hj=>by
  rcases Int.lt_or_le (mS l j) at_ with a | a
  ·exact .inl a
  ·rcases Int.lt_or_le at' (mS l j) with b | b
   ·exact .inr b
   ·exact absurd ⟨j,hj,a,b⟩ hk
 have h0:=hno 0 (by omega)
 have hn:=hno (l.length - 1) (by omega)
 rcases h with ⟨h1,h2⟩ | ⟨h1,h2⟩ | ⟨i,hi,h1,h2,h3⟩
 ·rcases h' with ⟨k1,k2⟩ | ⟨k1,k2⟩ | ⟨i',hi',k1,k2,k3⟩
  ·rw [h2,k2]
   have:mF l 0 * d * d'=mF l 0 * d' * d:=by grind
   omega
  ·have:=hl.mon (show 0≤l.length - 1 by omega) (by omega)
   omega
  ·have:=hl.mon (Nat.zero_le i') (by omega)
   omega
 ·rcases h' with ⟨k1,k2⟩ | ⟨k1,k2⟩ | ⟨i',hi',k1,k2,k3⟩
  ·have:=hl.mon (show 0≤l.length - 1 by omega) (by omega)
   omega
  ·rw [h2,k2]
   have:mF l (l.length - 1) * d * d'=mF l (l.length - 1) * d' * d:=by grind
   omega
  ·have:=hl.mon (show i' + 1≤l.length - 1 by omega) (by omega)
   omega
 ·have hi1:=hno i (by omega)
  have hi2:=hno (i + 1) hi
  have hw:=hl.slt (Nat.lt_add_one i) hi
  rcases h' with ⟨k1,k2⟩ | ⟨k1,k2⟩ | ⟨i',hi',k1,k2,k3⟩
  ·have:=hl.mon (Nat.zero_le i) (by omega)
   omega
  ·have:=hl.mon (show i + 1≤l.length - 1 by omega) (by omega)
   omega
  ·have hii:i'=i:=by
    rcases Nat.lt_trichotomy i' i with c | c | c
    ·have:=hl.mon (show i' + 1≤i from c) (by omega)
     omega
    ·exact c
    ·have:=hl.mon (show i + 1≤i' from c) (by omega)
     omega
   subst hii
   have hx:(mF l (i' + 1) - mF l i') * (at_ - mS l i')≤(mF l (i' + 1) - mF l i') * (at' - mS l i'):=Int.mul_le_mul_of_nonneg_left (by omega) (by omega)
   refine uY (c:=mS l (i' + 1) - mS l i') ?_ (by omega)
   have e1:n * d' * (mS l (i' + 1) - mS l i')=n * (mS l (i' + 1) - mS l i') * d':=by grind
   have e2:n' * d * (mS l (i' + 1) - mS l i')=n' * (mS l (i' + 1) - mS l i') * d:=by grind
   rw [e1,e2,h3,k3]
   have e3:=gW (gW (show mF l i' * (mS l (i' + 1) - mS l i') + (mF l (i' + 1) - mF l i') * (at_ - mS l i')≤mF l i' * (mS l (i' + 1) - mS l i') + (mF l (i' + 1) - mF l i') * (at' - mS l i') by omega) (c:=d) (by omega)) (c:=d') (by omega)
   generalize (mF l i' * (mS l (i' + 1) - mS l i') + (mF l (i' + 1) - mF l i') * (at_ - mS l i'))=A at *
   generalize (mF l i' * (mS l (i' + 1) - mS l i') + (mF l (i' + 1) - mF l i') * (at' - mS l i'))=B at *
   have e4:B * d * d'=B * d' * d:=by grind
   omega
end Go.Nilo
