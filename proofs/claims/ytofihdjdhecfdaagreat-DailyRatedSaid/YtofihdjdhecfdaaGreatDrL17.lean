/-
  What the plain functions compute, in plain arithmetic, part 17. Conditions: what each theorem names.
-/
import Derived.Test.YtofihdjdhecfdaaGreatDrL16
set_option linter.unusedSimpArgs false
set_option linter.unusedVariables false
namespace Go.Nilo.Dl
theorem dT {p:Prop} [Decidable p] (h:p):decide p=true:=decide_eq_true h
theorem dF {p:Prop} [Decidable p] (h:¬p):decide p=false:=decide_eq_false h
theorem firstG_range {ρ:Type} {p:Nat→Bool} {v:ρ}:∀ n i,oJ (fun j=>cond (p j) none (some v)) i n=cond ((List.range' i n).all p) none (some v)
 | 0,i=>rfl
 | n + 1,i=>by
  unfold oJ
  rw [List.range'_succ,List.all_cons]
  cases hp:p i with
  | true=>simpa using firstG_range n (i + 1)
  | false=>rfl
theorem range_all {p:Nat→Bool} {n:Nat}:(List.range' 0 n).all p=true ↔ ∀ j,j < n→p j=true:=by
 rw [List.all_eq_true]
 constructor
 ·intro h j hj
  exact h j (by rw [List.mem_range'_1]; omega)
 ·intro h j hj
  rw [List.mem_range'_1] at hj
  exact h j (by omega)
theorem getI_d {α:Type} {l:List α} {i:Nat} (d:α) (h:i < l.length):bG l (i:Int)=some (l.getD i d):=by rw [qP h,cF (d:=d) h]
theorem W_sm {n:Int} (h1 : -4000000000000000000≤n) (h2:n≤4000000000000000000):W n=n:=oT (by omega) (by omega)
theorem rO {α β:Type} {f:α→β} {l:List α} {i:Nat} {d:α} (h:i < l.length):(l.take (i + 1)).map f=(l.take i).map f++[f (l.getD i d)]:=by
 rw [List.take_succ_eq_append_getElem h,List.map_append,cF (d:=d) h]
 rfl
def U (rise fall:Int) (a b:Nat):Int:=if a < b then ((b - a:Nat):Int) * rise else ((a - b:Nat):Int) * fall
theorem aEz {r f:Int} {a:Nat}:U r f a a=0:=by
 unfold U
 rw [if_neg (by omega),Nat.sub_self]
 simp
theorem zV {r f:Int} {a b:Nat} (h:a≤b):U r f a b=((b - a:Nat):Int) * r:=by
 rcases Nat.lt_or_ge a b with h' | h'
 ·unfold U
  rw [if_pos h']
 ·obtain rfl:a=b:=by omega
  rw [aEz,Nat.sub_self]
  simp
theorem pO {r f:Int} {a b:Nat} (h:b≤a):U r f a b=((a - b:Nat):Int) * f:=by
 unfold U
 rw [if_neg (by omega)]
theorem xB {r f:Int} (hr:0≤r) (hf:0≤f) {a b:Nat}:0≤U r f a b:=by
 unfold U
 split
 ·exact Int.mul_nonneg (by omega) hr
 ·exact Int.mul_nonneg (by omega) hf
theorem pV {a b:Nat} {c:Int} (h:a≤b) (hc:0≤c):(a:Int) * c≤(b:Int) * c:=Int.mul_le_mul_of_nonneg_right (by omega) hc
theorem kC {a b c:Nat} {r:Int} (h:a + b=c):(a:Int) * r + (b:Int) * r=(c:Int) * r:=by
 subst h
 push_cast
 rw [Int.add_mul]
theorem aFu {r f:Int} (hr:0≤r) (hf:0≤f) {a b c:Nat}:U r f a c≤U r f a b + U r f b c:=by
 rcases Nat.le_total a c with h1 | h1
 ·rw [zV h1]
  rcases Nat.le_total a b with h2 | h2
  ·rcases Nat.le_total b c with h3 | h3
   ·rw [zV h2,zV h3,kC (show b - a + (c - b)=c - a by omega)]
    exact Int.le_refl _
   ·rw [zV h2]
    have:=xB hr hf (a:=b) (b:=c)
    have:=pV (show c - a≤b - a by omega) hr
    omega
  ·have h3:b≤c:=by omega
   rw [zV h3]
   have:=xB hr hf (a:=a) (b:=b)
   have:=pV (show c - a≤c - b by omega) hr
   omega
 ·rw [pO h1]
  rcases Nat.le_total b a with h2 | h2
  ·rcases Nat.le_total c b with h3 | h3
   ·rw [pO h2,pO h3,kC (show a - b + (b - c)=a - c by omega)]
    exact Int.le_refl _
   ·rw [pO h2]
    have:=xB hr hf (a:=b) (b:=c)
    have:=pV (show a - c≤a - b by omega) hf
    omega
  ·have h3:c≤b:=by omega
   rw [pO h3]
   have:=xB hr hf (a:=a) (b:=b)
   have:=pV (show a - c≤b - c by omega) hf
   omega
def pS (L:Nat→Int) (c:Int):Nat→Int
 | 0=>L 0
 | i + 1=>max (L (i + 1)) (pS L c i - c)
def oX (H:Nat→Int) (c:Int):Nat→Int
 | 0=>H 0
 | i + 1=>min (H (i + 1)) (oX H c i + c)
theorem sC {L:Nat→Int} {c:Int}:∀ (i:Nat) (t:Int),pS L c i≤t ↔ ∀ k,k≤i→L k≤t + ((i - k:Nat):Int) * c
 | 0,t=>by
  constructor
  ·intro h k hk
   obtain rfl:k=0:=by omega
   have h':L 0≤t:=h
   simpa using h'
  ·intro h
   have:=h 0 (Nat.le_refl _)
   show L 0≤t
   simpa using this
 | i + 1,t=>by
  have ih:=sC (L:=L) (c:=c) i (t + c)
  show max (L (i + 1)) (pS L c i - c)≤t ↔ _
  constructor
  ·intro h k hk
   rcases Nat.lt_or_ge k (i + 1) with h1 | h1
   ·have:=ih.1 (by omega) k (by omega)
    have e:=kC (r:=c) (show i - k + 1=i + 1 - k by omega)
    have:((1:Nat):Int) * c=c:=by simp
    omega
   ·obtain rfl:k=i + 1:=by omega
    rw [Nat.sub_self]
    simp only [Int.natCast_zero,Int.zero_mul,Int.add_zero]
    omega
  ·intro h
   have h0:=h (i + 1) (Nat.le_refl _)
   rw [Nat.sub_self] at h0
   simp only [Int.natCast_zero,Int.zero_mul,Int.add_zero] at h0
   have:=ih.2 (fun k hk=>by
    have:=h k (by omega)
    have e:=kC (r:=c) (show i - k + 1=i + 1 - k by omega)
    have:((1:Nat):Int) * c=c:=by simp
    omega)
   omega
theorem yH {H:Nat→Int} {c:Int}:∀ (i:Nat) (t:Int),t≤oX H c i ↔ ∀ k,k≤i→t≤H k + ((i - k:Nat):Int) * c
 | 0,t=>by
  constructor
  ·intro h k hk
   obtain rfl:k=0:=by omega
   have h':t≤H 0:=h
   simpa using h'
  ·intro h
   have:=h 0 (Nat.le_refl _)
   show t≤H 0
   simpa using this
 | i + 1,t=>by
  have ih:=yH (H:=H) (c:=c) i (t - c)
  show t≤min (H (i + 1)) (oX H c i + c) ↔ _
  constructor
  ·intro h k hk
   rcases Nat.lt_or_ge k (i + 1) with h1 | h1
   ·have:=ih.1 (by omega) k (by omega)
    have e:=kC (r:=c) (show i - k + 1=i + 1 - k by omega)
    have:((1:Nat):Int) * c=c:=by simp
    omega
   ·obtain rfl:k=i + 1:=by omega
    rw [Nat.sub_self]
    simp only [Int.natCast_zero,Int.zero_mul,Int.add_zero]
    omega
  ·intro h
   have h0:=h (i + 1) (Nat.le_refl _)
   rw [Nat.sub_self] at h0
   simp only [Int.natCast_zero,Int.zero_mul,Int.add_zero] at h0
   have:=ih.2 (fun k hk=>by
    have:=h k (by omega)
    have e:=kC (r:=c) (show i - k + 1=i + 1 - k by omega)
    have:((1:Nat):Int) * c=c:=by simp
    omega)
   omega
def uW (L:Nat→Int) (rise fall:Int) (n i:Nat):Int:=pS (fun j=>pS L fall (n - 1 - j)) rise (n - 1 - i)
def sG (H:Nat→Int) (rise fall:Int) (n i:Nat):Int:=oX (fun j=>oX H rise (n - 1 - j)) fall (n - 1 - i)
theorem vI {L:Nat→Int} {r f:Int} (hr:0≤r) (hf:0≤f) {n i:Nat} (hi:i < n) {t:Int}:uW L r f n i≤t ↔ ∀ k,k < n→L k≤t + U r f i k:=by
 unfold uW
 rw [sC]
 constructor
 ·intro h k hk
  rcases Nat.le_total i k with h1 | h1
  ·have:=(sC _ _).1 (h (n - 1 - k) (by omega)) k (by omega)
   rw [show n - 1 - (n - 1 - k)=k by omega,Nat.sub_self,show n - 1 - i - (n - 1 - k)=k - i by omega] at this
   rw [zV h1]
   simpa using this
  ·have:=(sC _ _).1 (h (n - 1 - i) (by omega)) k (by omega)
   rw [show n - 1 - (n - 1 - i)=i by omega,Nat.sub_self] at this
   rw [pO h1]
   simpa using this
 ·intro h j hj
  rw [sC]
  intro k hk
  have h1:=h k (by omega)
  have h2:U r f i k≤U r f i (n - 1 - j) + U r f (n - 1 - j) k:=aFu hr hf
  rw [zV (show i≤n - 1 - j by omega),pO hk,show n - 1 - j - i=n - 1 - i - j by omega] at h2
  omega
theorem vJ {H:Nat→Int} {r f:Int} (hr:0≤r) (hf:0≤f) {n i:Nat} (hi:i < n) {t:Int}:t≤sG H r f n i ↔ ∀ k,k < n→t≤H k + U r f k i:=by
 have sh:∀ {x:Int} (m:Nat) (s:Int),s≤oX H r m + x ↔ ∀ k,k≤m→s≤H k + ((m - k:Nat):Int) * r + x:=fun {x} m s=>by
  have:=yH (H:=H) (c:=r) m (s - x)
  constructor
  ·intro h k hk
   have:=this.1 (by omega) k hk
   omega
  ·intro h
   have:=this.2 fun k hk=>by
    have:=h k hk
    omega
   omega
 unfold sG
 rw [yH]
 constructor
 ·intro h k hk
  rcases Nat.le_total i k with h1 | h1
  ·have:=(sh _ _).1 (h (n - 1 - k) (by omega)) k (by omega)
   rw [show n - 1 - (n - 1 - k)=k by omega,Nat.sub_self,show n - 1 - i - (n - 1 - k)=k - i by omega] at this
   rw [pO h1]
   simpa using this
  ·have:=(sh _ _).1 (h (n - 1 - i) (by omega)) k (by omega)
   rw [show n - 1 - (n - 1 - i)=i by omega,Nat.sub_self] at this
   rw [zV h1]
   simpa using this
 ·intro h j hj
  rw [sh]
  intro k hk
  have h1:=h k (by omega)
  have h2:U r f k i≤U r f k (n - 1 - j) + U r f (n - 1 - j) i:=aFu hr hf
  rw [pO (show i≤n - 1 - j by omega),zV hk,show n - 1 - j - i=n - 1 - i - j by omega] at h2
  omega
theorem aIc {L:Nat→Int} {r f:Int} (hr:0≤r) (hf:0≤f) {n i j:Nat} (hi:i < n) (hj:j < n):uW L r f n i≤uW L r f n j + U r f j i:=by
 rw [vI hr hf hi]
 intro k hk
 have h1:=(vI (L:=L) hr hf hj).1 (Int.le_refl _) k hk
 have h2:U r f j k≤U r f j i + U r f i k:=aFu hr hf
 omega
theorem aIz {H:Nat→Int} {r f:Int} (hr:0≤r) (hf:0≤f) {n i j:Nat} (hi:i < n) (hj:j < n):sG H r f n i≤sG H r f n j + U r f j i:=by
 have:sG H r f n i - U r f j i≤sG H r f n j:=by
  rw [vJ hr hf hj]
  intro k hk
  have h1:=(vJ (H:=H) hr hf hi).1 (Int.le_refl _) k hk
  have h2:U r f k i≤U r f k j + U r f j i:=aFu hr hf
  omega
 omega
theorem aKx {L:Nat→Int} {r f:Int} (hr:0≤r) (hf:0≤f) {n i:Nat} (hi:i < n):L i≤uW L r f n i:=by
 have:=(vI (L:=L) hr hf hi).1 (Int.le_refl _) i hi
 rw [aEz] at this
 omega
theorem aK6 {H:Nat→Int} {r f:Int} (hr:0≤r) (hf:0≤f) {n i:Nat} (hi:i < n):sG H r f n i≤H i:=by
 have:=(vJ (H:=H) hr hf hi).1 (Int.le_refl _) i hi
 rw [aEz] at this
 omega
structure Tru (L H:Nat→Int) (r f:Int) (n:Nat) (x:Nat→Int):Prop where
 own:∀ i,i < n→L i≤x i∧x i≤H i
 st:∀ i,i + 1 < n→x (i + 1)≤x i + r∧x i≤x (i + 1) + f
theorem Tru.up {L H:Nat→Int} {r f:Int} {n:Nat} {x:Nat→Int} (h:Tru L H r f n x) (a:Nat):∀ m,a + m < n→x (a + m)≤x a + (m:Int) * r
 | 0,_=>by simp
 | m + 1,hm=>by
  have h1:=h.up a m (by omega)
  have h2:=(h.st (a + m) (by omega)).1
  have:=kC (r:=r) (show m + 1=m + 1 from rfl)
  have:((1:Nat):Int) * r=r:=by simp
  rw [← Nat.add_assoc]
  omega
theorem Tru.down {L H:Nat→Int} {r f:Int} {n:Nat} {x:Nat→Int} (h:Tru L H r f n x) (a:Nat):∀ m,a + m < n→x a≤x (a + m) + (m:Int) * f
 | 0,_=>by simp
 | m + 1,hm=>by
  have h1:=h.down a m (by omega)
  have h2:=(h.st (a + m) (by omega)).2
  have:=kC (r:=f) (show m + 1=m + 1 from rfl)
  have:((1:Nat):Int) * f=f:=by simp
  rw [← Nat.add_assoc]
  omega
theorem Tru.far {L H:Nat→Int} {r f:Int} {n:Nat} {x:Nat→Int} (h:Tru L H r f n x) {a b:Nat} (ha:a < n) (hb:b < n):x b≤x a + U r f a b:=by
 rcases Nat.le_total a b with h1 | h1
 ·have:=h.up a (b - a) (by omega)
  rw [show a + (b - a)=b by omega] at this
  rw [zV h1]
  exact this
 ·have:=h.down b (a - b) (by omega)
  rw [show b + (a - b)=a by omega] at this
  rw [pO h1]
  exact this
theorem Tru.told {L H:Nat→Int} {r f:Int} (hr:0≤r) (hf:0≤f) {n:Nat} {x:Nat→Int} (h:Tru L H r f n x) {i:Nat} (hi:i < n):uW L r f n i≤x i∧x i≤sG H r f n i:=by
 constructor
 ·rw [vI hr hf hi]
  intro k hk
  have:=h.far hi hk
  have:=h.own k hk
  omega
 ·rw [vJ hr hf hi]
  intro k hk
  have:=h.far hk hi
  have:=h.own k hk
  omega
def aB9 (L H:Nat→Int) (r f:Int) (n:Nat):Prop:=∀ i,i < n→uW L r f n i≤sG H r f n i
theorem aB9.low {L H:Nat→Int} {r f:Int} (hr:0≤r) (hf:0≤f) {n:Nat} (h:aB9 L H r f n):Tru L H r f n (uW L r f n):=by
 refine ⟨fun i hi=>⟨aKx hr hf hi,Int.le_trans (h i hi) (aK6 hr hf hi)⟩,fun i hi=>?_⟩
 have h1:=aIc (L:=L) hr hf (show i + 1 < n from hi) (show i < n by omega)
 have h2:=aIc (L:=L) hr hf (show i < n by omega) (show i + 1 < n from hi)
 rw [zV (by omega),show i + 1 - i=1 by omega] at h1
 rw [pO (by omega),show i + 1 - i=1 by omega] at h2
 simp only [Int.natCast_one,Int.one_mul] at h1 h2
 exact ⟨h1,h2⟩
theorem aB9.high {L H:Nat→Int} {r f:Int} (hr:0≤r) (hf:0≤f) {n:Nat} (h:aB9 L H r f n):Tru L H r f n (sG H r f n):=by
 refine ⟨fun i hi=>⟨Int.le_trans (aKx hr hf hi) (h i hi),aK6 hr hf hi⟩,fun i hi=>?_⟩
 have h1:=aIz (H:=H) hr hf (show i + 1 < n from hi) (show i < n by omega)
 have h2:=aIz (H:=H) hr hf (show i < n by omega) (show i + 1 < n from hi)
 rw [zV (by omega),show i + 1 - i=1 by omega] at h1
 rw [pO (by omega),show i + 1 - i=1 by omega] at h2
 simp only [Int.natCast_one,Int.one_mul] at h1 h2
 exact ⟨h1,h2⟩
theorem Tru.agree {L H:Nat→Int} {r f:Int} (hr:0≤r) (hf:0≤f) {n:Nat} {x:Nat→Int} (h:Tru L H r f n x):aB9 L H r f n:=fun i hi=>Int.le_trans (h.told hr hf hi).1 (h.told hr hf hi).2
end Go.Nilo.Dl
