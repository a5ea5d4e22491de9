/-
  What the plain functions compute, in plain arithmetic, part 19. Conditions: what each theorem names.
-/
import Derived.Test.YtofihdjdhecfdaaGreatDrL18
set_option linter.unusedSimpArgs false
set_option linter.unusedVariables false
namespace Go.Nilo.Dl
theorem in_dec (x a b:Int):bL x a b=decide (a≤x∧x≤b):=by
 unfold bL
 rw [Bool.eq_iff_iff,Bool.and_eq_true,decide_eq_true_eq,decide_eq_true_eq,decide_eq_true_eq]
theorem aCw {p:Prop} [Decidable p] (h:¬p):(!decide p)=true:=by rw [dF h]; rfl
theorem uD {p:Prop} [Decidable p] (h:p):(!decide p)=false:=by rw [dT h]; rfl
theorem yZ {ρ:Type} {g:Nat→Option ρ}:∀ m i,oJ g i m=none ↔ ∀ j,i≤j→j < i + m→g j=none
 | 0,i=>⟨fun _ j h1 h2=>absurd h1 (by omega),fun _=>rfl⟩
 | m + 1,i=>by
  unfold oJ
  cases hg:g i with
  | some r=>
   constructor
   ·intro h
    cases h
   ·intro h
    have:=h i (Nat.le_refl _) (by omega)
    rw [hg] at this
    cases this
  | none=>
   show oJ g (i + 1) m=none ↔ _
   rw [yZ m (i + 1)]
   constructor
   ·intro h j h1 h2
    by_cases e:j=i
    ·subst e
     exact hg
    ·exact h j (by omega) (by omega)
   ·exact fun h j h1 h2=>h j (by omega) (by omega)
def dv0:aK:=⟨false,⟨0,0⟩⟩
def sp0:aA:=⟨0,0⟩
def vs (v:aK):aA:=cond v.Known v.Flow ⟨0,1000000000⟩
theorem aLb {N:Nat} {v:aK}:fF N v=some (vs v):=by
 unfold fF vs
 cases v.Known <;> rfl
def gY (r:aF):Int:=if 1≤r.Days.length∧r.Days.length≤60 then (if ((0≤r.Rise∧r.Rise≤1000000000)∧(0≤r.Fall∧r.Fall≤1000000000))∧r.Days.all fL=true then 0 else 80) else 3
theorem aEk {N:Nat} {l:List aK} (hl:l.length < N) (hl':l.length≤1000000):fG N l=some (l.all fL):=by
 unfold fG bY cG
 exact sS (f:=eH) (ok:=fL) (fun x=>rfl) hl hl' _ (fun x=>rfl)
theorem aEr {N:Nat} {l:List aA} (hl:l.length < N) (hl':l.length≤1000000):dK N l=some (l.all iG):=by
 unfold dK cT dD
 exact sS (f:=fS) (ok:=iG) (fun x=>rfl) hl hl' _ (fun x=>rfl)
theorem Check_spec {N:Nat} (hN:100≤N) {r:aF} (h1:r.Days.length≤70):iU N r=some (gY r):=by
 unfold iU gY bF
 rw [in_dec,in_dec,in_dec,aEk (by omega) (by omega),Option.bind_some]
 by_cases h:1≤r.Days.length∧r.Days.length≤60
 ·rw [if_pos h,uD (by omega),cond_false]
  by_cases h2:0≤r.Rise∧r.Rise≤1000000000
  ·by_cases h3:0≤r.Fall∧r.Fall≤1000000000
   ·rw [uD h2,uD h3]
    cases h4:r.Days.all fL with
    | true=>
     rw [if_pos ⟨⟨h2,h3⟩,rfl⟩]
     rfl
    | false=>
     rw [if_neg (fun h=>by cases h.2)]
     rfl
   ·rw [uD h2,aCw h3,if_neg (fun h=>h3 h.1.2)]
    rfl
  ·rw [aCw h2,if_neg (fun h=>h2 h.1.1)]
   rfl
 ·rw [if_neg h,aCw (by omega)]
  rfl
structure ROk (r:aF):Prop where
 n1:1≤r.Days.length
 n60:r.Days.length≤60
 rise:0≤r.Rise∧r.Rise≤1000000000
 fall:0≤r.Fall∧r.Fall≤1000000000
 v:∀ v ∈ r.Days,v.Known=true→0≤v.Flow.Lo∧v.Flow.Lo≤v.Flow.Hi∧v.Flow.Hi≤1000000000
theorem aGp {v:aK}:fL v=true ↔ (v.Known=true→0≤v.Flow.Lo∧v.Flow.Lo≤v.Flow.Hi∧v.Flow.Hi≤1000000000):=by
 unfold fL jZ bF
 rw [in_dec,in_dec]
 cases v.Known with
 | true=>
  rw [Bool.not_true,Bool.false_or,Bool.and_eq_true,decide_eq_true_eq,decide_eq_true_eq]
  constructor
  ·rintro ⟨⟨a,b⟩,c,d⟩ _
   exact ⟨a,b,d⟩
  ·intro h
   have:=h rfl
   exact ⟨⟨this.1,this.2.1⟩,by omega,this.2.2⟩
 | false=>simp
theorem check_iff {r:aF}:gY r=0 ↔ ROk r:=by
 unfold gY
 constructor
 ·intro h
  split at h
  ·rename_i h1
   split at h
   ·rename_i h2
    exact ⟨h1.1,h1.2,h2.1.1,h2.1.2,fun v hv=>aGp.1 (List.all_eq_true.1 h2.2 v hv)⟩
   ·omega
  ·omega
 ·intro h
  rw [if_pos ⟨h.n1,h.n60⟩,if_pos ⟨⟨h.rise,h.fall⟩,List.all_eq_true.2 fun v hv=>aGp.2 (h.v v hv)⟩]
def lo (r:aF) (i:Nat):Int:=(vs (r.Days.getD i dv0)).Lo
def hi (r:aF) (i:Nat):Int:=(vs (r.Days.getD i dv0)).Hi
theorem yO {r:aF} (hr:ROk r) (i:Nat):0≤lo r i∧lo r i≤hi r i∧hi r i≤1000000000:=by
 unfold lo hi
 by_cases h:i < r.Days.length
 ·have hm:r.Days.getD i dv0 ∈ r.Days:=by
   rw [← cF h]
   exact List.getElem_mem _
  have:=hr.v _ hm
  unfold vs
  cases hk:(r.Days.getD i dv0).Known with
  | true=>exact this hk
  | false=>
   show (0:Int)≤0∧(0:Int)≤1000000000∧(1000000000:Int)≤1000000000
   decide
 ·have:r.Days.getD i dv0=dv0:=by
   simp [List.getD,List.getElem?_eq_none (show r.Days.length≤i by omega)]
  rw [this]
  decide
def rl {α:Type} (n:Nat) (g:Nat→α):List α:=(List.range n).map g
theorem kW {α:Type} {n:Nat} {g:Nat→α}:(rl n g).length=n:=by simp [rl]
theorem yL {α:Type} {n:Nat} {g:Nat→α} {i:Nat} (h:i < n):bG (rl n g) (i:Int)=some (g i):=by
 rw [qP (by rw [kW]; exact h)]
 simp [rl]
theorem aJn {α:Type} {n:Nat} {g:Nat→α} {i:Nat} {d:α} (h:i < n):(rl n g).getD i d=g i:=by
 rw [← cF (by rw [kW]; exact h)]
 simp [rl]
theorem wT {α:Type} {n:Nat} {g g':Nat→α} (h:∀ i,i < n→g i=g' i):rl n g=rl n g':=by
 unfold rl
 exact List.map_congr_left fun i hi=>h i (List.mem_range.1 hi)
theorem aLk {α:Type} {n:Nat} {g:Nat→α} {i:Nat} {v:α}:(rl n g).set i v=rl n fun j=>if i=j then v else g j:=by
 refine List.ext_getElem (by simp [rl]) fun m h1 h2=>?_
 rw [List.getElem_set]
 simp [rl]
theorem rl_of {α:Type} {l:List α} {d:α} {n:Nat} (hn:l.length=n):l=rl n fun i=>l.getD i d:=by
 refine List.ext_getElem (by simp [rl,hn]) fun m h1 h2=>?_
 rw [cF (d:=d)]
 simp [rl]
theorem aH5 {α:Type} {n:Nat} {g:Nat→α} {p:α→Bool}:(rl n g).all p=true ↔ ∀ i,i < n→p (g i)=true:=by
 rw [List.all_eq_true]
 constructor
 ·intro h i hi
  exact h _ (List.mem_map.2 ⟨i,List.mem_range.2 hi,rfl⟩)
 ·intro h x hx
  obtain ⟨i,hi,rfl⟩:=List.mem_map.1 hx
  exact h i (List.mem_range.1 hi)
theorem aGx {N n:Nat} (hN:100≤N) {days:List aK} (hn:days.length=n) (h1:1≤n) (h60:n≤70) {σ:Type} (y:σ→Int × Int→Option (σ × Bool)) (st:Nat→σ) {x x1:Int}
  (h:∀ i:Nat,i + 1 < n→y (st i) ((i:Int),((i + 1:Nat):Int))=some (st (i + 1),true)):dN N x x1 days false y (st 0)=some (st (n - 1)):=by
 unfold dN
 have:=uM (ρ:=σ) (fun i:Nat=>((i:Int),st i)) (n - 1) (fun s3=>bK N days false y s3.1 s3.2) (fun i hi=>by
  show bK N days false y (i:Int) (st i)=_
  unfold bK eQ
  rw [hn,W_sm (n:=(n:Int) - 1) (by omega) (by omega),dT (by omega),cond_true,cond_false,fP (by omega),h i (by omega),Option.bind_some]
  rfl) (by
  show bK N days false y ((n - 1:Nat):Int) (st (n - 1))=_
  unfold bK
  rw [hn,W_sm (n:=(n:Int) - 1) (by omega) (by omega),dF (by omega),cond_false]) (N:=N) (by omega)
 rw [show ((0:Int),st 0)=(((0:Nat):Int),st 0) from rfl,this]
 rfl
theorem aGz {N n:Nat} (hN:100≤N) {days:List aK} (hn:days.length=n) (h1:1≤n) (h60:n≤70) {σ:Type} (y:σ→Int × Int→Option (σ × Bool)) (st:Nat→σ) {x x1:Int}
  (h:∀ i:Nat,i + 1 < n→y (st i) (((n - 1 - i:Nat):Int),((n - 2 - i:Nat):Int))=some (st (i + 1),true)):dN N x x1 days true y (st 0)=some (st (n - 1)):=by
 unfold dN
 have:=uM (ρ:=σ) (fun i:Nat=>((i:Int),st i)) (n - 1) (fun s3=>bK N days true y s3.1 s3.2) (fun i hi=>by
  show bK N days true y (i:Int) (st i)=_
  unfold bK eQ
  rw [hn,W_sm (n:=(n:Int) - 1) (by omega) (by omega),dT (by omega),cond_true,cond_true,W_sm (n:=(n:Int) - 1 - (i:Int)) (by omega) (by omega),W_sm (n:=(n:Int) - 2) (by omega) (by omega),W_sm (n:=(n:Int) - 2 - (i:Int)) (by omega) (by omega),fP (by omega),
   show (n:Int) - 1 - (i:Int)=((n - 1 - i:Nat):Int) by omega,show (n:Int) - 2 - (i:Int)=((n - 2 - i:Nat):Int) by omega,h i (by omega),Option.bind_some]
  rfl) (by
  show bK N days true y ((n - 1:Nat):Int) (st (n - 1))=_
  unfold bK
  rw [hn,W_sm (n:=(n:Int) - 1) (by omega) (by omega),dF (by omega),cond_false]) (N:=N) (by omega)
 rw [show ((0:Int),st 0)=(((0:Nat):Int),st 0) from rfl,this]
 rfl
theorem zH {N n:Nat} {g:Nat→aA} {b:Nat} (hb:b < n) {l h:Int} {x x1:Int} {x2:List aK} :
  jU N (b:Int) l h x x1 x2 (rl n g)=some (rl n fun j=>if b=j then ⟨max (g b).Lo l,min (g b).Hi h⟩ else g j):=by
 unfold jU
 rw [yL hb,Option.bind_some,Int.toNat_natCast,List.set_set,aLk]
 unfold tS
 rw [if_pos (by rw [kW,kW])]
 rfl
theorem G_bd {L:Nat→Int} {c:Int} (hc:0≤c) (h:∀ i,0≤L i∧L i≤1000000000):∀ i,0≤pS L c i∧pS L c i≤1000000000
 | 0=>h 0
 | i + 1=>by
  have:=G_bd hc h i
  have:=h (i + 1)
  show 0≤max (L (i + 1)) (pS L c i - c)∧max (L (i + 1)) (pS L c i - c)≤_
  omega
theorem L_bd {L:Nat→Int} {c:Int} (hc:0≤c) (h:∀ i,0≤L i∧L i≤1000000000):∀ i,0≤oX L c i∧oX L c i≤1000000000
 | 0=>h 0
 | i + 1=>by
  have:=L_bd hc h i
  have:=h (i + 1)
  show 0≤min (L (i + 1)) (oX L c i + c)∧min (L (i + 1)) (oX L c i + c)≤_
  omega
def tG (r:aF) (i:Nat):Int:=uW (lo r) r.Rise r.Fall r.Days.length i
def tL (r:aF) (i:Nat):Int:=sG (hi r) r.Rise r.Fall r.Days.length i
def told (r:aF):List aA:=rl r.Days.length fun i=>⟨tG r i,tL r i⟩
theorem aC3 {r:aF} (hr:ROk r) (i:Nat):(0≤tG r i∧tG r i≤1000000000)∧0≤tL r i∧tL r i≤1000000000:=by
 have hL:∀ i,0≤lo r i∧lo r i≤1000000000:=fun i=>by have:=yO hr i; omega
 have hH:∀ i,0≤hi r i∧hi r i≤1000000000:=fun i=>by have:=yO hr i; omega
 exact ⟨G_bd hr.rise.1 (fun j=>G_bd hr.fall.1 hL _) _,L_bd hr.fall.1 (fun j=>L_bd hr.rise.1 hH _) _⟩
def fwd (r:aF) (k j:Nat):aA:=if j≤k then ⟨pS (lo r) r.Fall j,oX (hi r) r.Rise j⟩ else ⟨lo r j,hi r j⟩
def bwd (r:aF) (k j:Nat):aA:=if r.Days.length - 1 - j≤k then ⟨tG r j,tL r j⟩ else ⟨pS (lo r) r.Fall j,oX (hi r) r.Rise j⟩
theorem aEo {r:aF}:r.Days.map vs=rl r.Days.length (fwd r 0):=by
 refine List.ext_getElem (by simp [rl]) fun m h1 h2=>?_
 have hm:m < r.Days.length:=by simpa using h1
 simp only [List.getElem_map,rl,List.getElem_range]
 rw [cF (d:=dv0)]
 unfold fwd lo hi
 split
 ·rename_i h
  obtain rfl:m=0:=by omega
  rfl
 ·rfl
theorem aH4 {r:aF} (h1:1≤r.Days.length):rl r.Days.length (fwd r (r.Days.length - 1))=rl r.Days.length (bwd r 0):=by
 refine wT fun i hi=>?_
 unfold fwd bwd
 rw [if_pos (by omega)]
 split
 ·rename_i h
  obtain rfl:i=r.Days.length - 1:=by omega
  unfold tG tL uW sG
  rw [Nat.sub_self]
  show _=(⟨pS (lo r) r.Fall (r.Days.length - 1 - 0),oX _ _ (r.Days.length - 1 - 0)⟩:aA)
  rfl
 ·rfl
theorem aJg {r:aF}:rl r.Days.length (bwd r (r.Days.length - 1))=told r:=by
 refine wT fun i hi=>?_
 unfold bwd
 rw [if_pos (by omega)]
theorem aHp {N:Nat} {r:aF} (hr:ROk r) {x1:List aA} (hx:x1.length=r.Days.length) {i:Nat} (hi':i + 1 < r.Days.length):fH N r x1 (rl r.Days.length (fwd r i)) (i:Int) ((i + 1:Nat):Int)=some (.go (rl r.Days.length (fwd r (i + 1)))):=by
 have hL:∀ i,0≤lo r i∧lo r i≤1000000000:=fun i=>by have:=yO hr i; omega
 have hH:∀ i,0≤hi r i∧hi r i≤1000000000:=fun i=>by have:=yO hr i; omega
 have b1:=G_bd hr.fall.1 hL i
 have b2:=L_bd hr.rise.1 hH i
 have hr1:=hr.rise
 have hr2:=hr.fall
 have e:fwd r i i=⟨pS (lo r) r.Fall i,oX (hi r) r.Rise i⟩:=if_pos (Nat.le_refl _)
 have e2:fwd r i (i + 1)=⟨lo r (i + 1),hi r (i + 1)⟩:=if_neg (by omega)
 unfold fH
 rw [yL (by omega),Option.bind_some,Option.bind_some,e,W_sm (n:=pS (lo r) r.Fall i - r.Fall) (by omega) (by omega),W_sm (n:=oX (hi r) r.Rise i + r.Rise) (by omega) (by omega),zH hi',Option.bind_some,e2]
 unfold tS
 rw [if_pos (by rw [kW,hx]),Option.bind_some]
 congr 2
 refine wT fun j hj=>?_
 unfold fwd
 by_cases h:i + 1=j
 ·subst h
  rw [if_pos rfl,if_pos (Nat.le_refl _)]
  rfl
 ·rw [if_neg h]
  by_cases h2:j≤i
  ·rw [if_pos h2,if_pos (by omega)]
  ·rw [if_neg h2,if_neg (by omega)]
theorem aIe {N:Nat} {r:aF} (hr:ROk r) {x1:List aA} (hx:x1.length=r.Days.length) {i:Nat} (hi':i + 1 < r.Days.length):eB N r x1 (rl r.Days.length (bwd r i)) ((r.Days.length - 1 - i:Nat):Int) ((r.Days.length - 2 - i:Nat):Int)=some (.go (rl r.Days.length (bwd r (i + 1)))):=by
 have b1:=aC3 hr (r.Days.length - 1 - i)
 have hr1:=hr.rise
 have hr2:=hr.fall
 have e:bwd r i (r.Days.length - 1 - i)=⟨tG r (r.Days.length - 1 - i),tL r (r.Days.length - 1 - i)⟩:=if_pos (by omega)
 have e2:bwd r i (r.Days.length - 2 - i)=⟨pS (lo r) r.Fall (r.Days.length - 2 - i),oX (hi r) r.Rise (r.Days.length - 2 - i)⟩:=if_neg (by omega)
 unfold eB
 rw [yL (by omega),Option.bind_some,Option.bind_some,e,W_sm (n:=tG r (r.Days.length - 1 - i) - r.Rise) (by omega) (by omega),W_sm (n:=tL r (r.Days.length - 1 - i) + r.Fall) (by omega) (by omega),zH (by omega),Option.bind_some,e2]
 unfold tS
 rw [if_pos (by rw [kW,hx]),Option.bind_some]
 congr 2
 refine wT fun j hj=>?_
 by_cases h:r.Days.length - 2 - i=j
 ·subst h
  rw [if_pos rfl]
  unfold bwd
  rw [if_pos (by omega)]
  unfold tG tL uW sG
  rw [show r.Days.length - 1 - (r.Days.length - 2 - i)=i + 1 by omega,show r.Days.length - 1 - (r.Days.length - 1 - i)=i by omega]
  show _=(⟨max (pS (lo r) r.Fall (r.Days.length - 1 - (i + 1))) _,min (oX (hi r) r.Rise (r.Days.length - 1 - (i + 1))) _⟩:aA)
  rw [show r.Days.length - 1 - (i + 1)=r.Days.length - 2 - i by omega]
 ·rw [if_neg h]
  unfold bwd
  by_cases h2:r.Days.length - 1 - j≤i
  ·rw [if_pos h2,if_pos (by omega)]
  ·rw [if_neg h2,if_neg (by omega)]
def agB (r:aF):Bool:=(told r).all iG
theorem agB_iff {r:aF}:agB r=true ↔ aB9 (lo r) (hi r) r.Rise r.Fall r.Days.length:=by
 unfold agB told
 rw [aH5]
 constructor
 ·intro h i hi
  exact of_decide_eq_true (h i hi)
 ·intro h i hi
  exact dT (h i hi)
theorem opened_ok {N:Nat} (hN:100≤N) {r:aF} (hr:ROk r):kH N r=some (.inr (r.Rise,r.Fall,told r,agB r,0)):=by
 have h60:=hr.n60
 unfold kH
 rw [Check_spec hN (by omega),Option.bind_some,check_iff.2 hr]
 have hl:=uM (ρ:=(Bool × Int) ⊕ (Int × Int × (List aA) × Bool × Int)) (fun i:Nat=>((i:Int),(r.Days.take i).map vs)) r.Days.length (fun s9=>gS N r s9.1 s9.2) (fun i hi=>by
  show gS N r (i:Int) ((r.Days.take i).map vs)=_
  unfold gS
  rw [lR hi,cond_true,getI_d dv0 hi,Option.bind_some,aLb,Option.bind_some,lB (by simp; omega),Option.bind_some,fP (by omega),rO (d:=dv0) hi]) (by
  show gS N r (r.Days.length:Int) _=_
  unfold gS
  rw [mJ,cond_false]) (N:=N) (by omega)
 rw [show ((0:Int) != 0)=false from rfl,cond_false]
 rw [show ((0:Int),([]:List aA))=(((0:Nat):Int),(r.Days.take 0).map vs) from rfl,hl,Option.bind_some,List.take_length,aEo]
 simp only [exK,hO,Option.bind_some]
 have e0:=aEo (r:=r)
 have k1:=aGx hN (days:=r.Days) rfl hr.n1 (by omega) (x:=r.Rise) (x1:=r.Fall) (rY (fun (zz:(List aA)) (ix_:(Int × Int))=>fH N r (rl r.Days.length (fwd r 0)) zz ix_.1 ix_.2)) (fun i=>.go (rl r.Days.length (fwd r i))) (fun i hi=>by
  show Option.map _ (fH N r (rl r.Days.length (fwd r 0)) (rl r.Days.length (fwd r i)) (i:Int) ((i + 1:Nat):Int))=_
  rw [aHp hr kW hi]
  rfl)
 rw [k1,Option.bind_some,aH4 hr.n1]
 simp only [rsK]
 have k2:=aGz hN (days:=r.Days) rfl hr.n1 (by omega) (x:=r.Rise) (x1:=r.Fall) (rY (fun (zz:(List aA)) (ix_:(Int × Int))=>eB N r (rl r.Days.length (bwd r 0)) zz ix_.1 ix_.2)) (fun i=>.go (rl r.Days.length (bwd r i))) (fun i hi=>by
  show Option.map _ (eB N r (rl r.Days.length (bwd r 0)) (rl r.Days.length (bwd r i)) ((r.Days.length - 1 - i:Nat):Int) ((r.Days.length - 2 - i:Nat):Int))=_
  rw [aIe hr kW hi]
  rfl)
 rw [k2,Option.bind_some,aJg]
 have hlen:(told r).length=r.Days.length:=kW
 show Option.bind (dK N (told r)) _=_
 rw [aEr (by omega) (by omega)]
 rfl
theorem opened_bad {N:Nat} (hN:100≤N) {r:aF} (h1:r.Days.length≤70) (hc:gY r ≠ 0):kH N r=some (.inl (false,gY r)):=by
 unfold kH
 rw [Check_spec hN h1,Option.bind_some]
 have:(gY r != 0)=true:=by simp [hc]
 rw [this]
 rfl
theorem aCa {N:Nat} (hN:100≤N) {r:aF} (hr:ROk r):gF N r=some (.inr (r.Rise,r.Fall,told r,if agB r=true then 0 else 7)):=by
 unfold gF
 rw [opened_ok hN hr,Option.bind_some]
 show cond (((0:Int) == 0) && (!agB r)) _ _=_
 cases agB r <;> rfl
theorem aE1 {N:Nat} (hN:100≤N) {r:aF} (h1:r.Days.length≤70) (hc:gY r ≠ 0):gF N r=some (.inl (gY r)):=by
 unfold gF
 rw [opened_bad hN h1 hc,Option.bind_some]
 show cond ((gY r == 0) && (!false)) _ _=_
 have:(gY r == 0)=false:=by simp [hc]
 rw [this]
 rfl
def aFj (r:aF):List aA × Int:=if gY r=0 then (if agB r=true then (told r,0) else ([],7)) else ([],gY r)
theorem Fill_spec {N:Nat} (hN:100≤N) {r:aF} (h1:r.Days.length≤70):nX N r=some (aFj r):=by
 unfold nX aFj
 by_cases hc:gY r=0
 ·rw [if_pos hc,aCa hN (check_iff.1 hc),Option.bind_some]
  cases h:agB r <;> rfl
 ·rw [if_neg hc,aE1 hN h1 hc,Option.bind_some]
  show cond (gY r != 0) _ _=_
  have:(gY r != 0)=true:=by simp [hc]
  rw [this]
  rfl
end Go.Nilo.Dl
