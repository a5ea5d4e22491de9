/-
  What the plain functions compute, in plain arithmetic, part 20. Conditions: what each theorem names.
-/
import Derived.Test.YtofihdjdhecfdaaGreatDrL19
set_option linter.unusedSimpArgs false
set_option linter.unusedVariables false
namespace Go.Nilo.Dl
theorem aE3 {N:Nat} {l:List Int} (hl:l.length < N) (hl':l.length≤1000000):kQ N l=some (l.all bF):=by
 unfold kQ eU fZ
 exact sS (f:=jC) (ok:=bF) (fun x=>rfl) hl hl' _ (fun x=>rfl)
theorem aEn {x:Int}:bF x=true ↔ 0≤x∧x≤1000000000:=by
 unfold bF
 rw [in_dec,decide_eq_true_eq]
theorem aJv {l:List Int} (h:l.all bF=true) (i:Nat):0≤l.getD i 0∧l.getD i 0≤1000000000:=by
 by_cases hi:i < l.length
 ·rw [← cF hi]
  exact aEn.1 (List.all_eq_true.1 h _ (List.getElem_mem _))
 ·have:l.getD i 0=0:=by simp [List.getD,List.getElem?_eq_none (show l.length≤i by omega)]
  rw [this]
  decide
def vA (r:aF) (l:List Int) (i:Nat):Prop:=(lo r i≤l.getD i 0∧l.getD i 0≤hi r i)∧(i=0 ∨ (l.getD (i - 1) 0 - r.Fall≤l.getD i 0∧l.getD i 0≤l.getD (i - 1) 0 + r.Rise))
instance {r:aF} {l:List Int} {i:Nat}:Decidable (vA r l i):=by unfold vA; exact inferInstance
def aD2 (r:aF) (l:List Int):Option (Int × Int):=oJ (fun i=>cond (decide (vA r l i)) none (some ((i:Int),(0:Int)))) 0 r.Days.length
def aC1 (r:aF) (l:List Int):Int × Int :=
 if gY r=0 then (if l.length=r.Days.length then (if l.all bF=true then (aD2 r l).getD (-1,0) else (0,4)) else (0,2)) else (0,gY r)
theorem Holds_spec {N:Nat} (hN:100≤N) {r:aF} {l:List Int} (h1:r.Days.length≤70):mL N r l=some (aC1 r l):=by
 unfold mL aC1
 rw [Check_spec hN h1,Option.bind_some]
 by_cases hc:gY r=0
 ·rw [if_pos hc,hc,show ((0:Int) != 0)=false from rfl,cond_false]
  have hr:=check_iff.1 hc
  by_cases hl:l.length=r.Days.length
  ·have e:((((l.length:Nat):Int)) != ((r.Days.length:Nat):Int))=false:=by simp [hl]
   rw [if_pos hl,e,cond_false,aE3 (by omega) (by omega),Option.bind_some]
   cases hf:l.all bF with
   | false=>rfl
   | true=>
    rw [Bool.not_true,cond_false,if_pos rfl]
    have hr1:=hr.rise
    have hr2:=hr.fall
    have hs:=aCg (ρ:=Int × Int) (fun i:Nat=>(i:Int)) (fun i=>cond (decide (vA r l i)) none (some ((i:Int),(0:Int)))) r.Days.length (fun s12=>gU N r l s12) (fun i hi'=>by
     show gU N r l (i:Int)=_
     have b0:=yO hr i
     have hb:∀ x1 x2:Int,iQ N l (i:Int) x1 x2=some (cond (decide (x1≤l.getD i 0∧l.getD i 0≤x2)) (.cont ((i + 1:Nat):Int)) (.ret ((i:Int),0))):=fun x1 x2=>by
      unfold iQ
      rw [getI_d 0 (by omega),Option.bind_some,in_dec,fP (by omega)]
      cases decide (x1≤l.getD i 0∧l.getD i 0≤x2) <;> rfl
     unfold gU
     rw [lR hi',cond_true,getI_d dv0 hi',Option.bind_some,aLb,Option.bind_some]
     rcases Nat.eq_zero_or_pos i with h0 | h0
     ·subst h0
      rw [dF (show ¬ (0:Int) < ((0:Nat):Int) by omega),cond_false,hb]
      have e:((vs (r.Days.getD 0 dv0)).Lo≤l.getD 0 0∧l.getD 0 0≤(vs (r.Days.getD 0 dv0)).Hi) ↔ vA r l 0:=⟨fun h=>⟨h,.inl rfl⟩,fun h=>h.1⟩
      by_cases hg:vA r l 0
      ·rw [dT hg,dT (e.2 hg)]
       rfl
      ·rw [dF hg,dF fun h=>hg (e.1 h)]
       rfl
     ·have b1:=aJv hf (i - 1)
      rw [dT (show (0:Int) < (i:Int) by omega),cond_true,W_sm (n:=(i:Int) - 1) (by omega) (by omega),show ((i:Nat):Int) - 1=((i - 1:Nat):Int) by omega,getI_d 0 (by omega),Option.bind_some,Option.bind_some,W_sm (n:=l.getD (i - 1) 0 - r.Fall) (by omega) (by omega),W_sm (n:=l.getD (i - 1) 0 + r.Rise) (by omega) (by omega),hb]
      have e:(max (vs (r.Days.getD i dv0)).Lo (l.getD (i - 1) 0 - r.Fall)≤l.getD i 0∧l.getD i 0≤min (vs (r.Days.getD i dv0)).Hi (l.getD (i - 1) 0 + r.Rise)) ↔ vA r l i:=by
       unfold vA lo hi
       omega
      by_cases hg:vA r l i
      ·rw [dT hg,dT (e.2 hg)]
       rfl
      ·rw [dF hg,dF fun h=>hg (e.1 h)]
       rfl) (by
     show gU N r l (r.Days.length:Int)=_
     unfold gU
     rw [mJ,cond_false]) r.Days.length 0 N (by omega) (by omega)
    rw [show (0:Int)=((0:Nat):Int) from rfl,hs,Option.bind_some]
    unfold aD2
    cases oJ _ 0 r.Days.length <;> rfl
  ·have e:((((l.length:Nat):Int)) != ((r.Days.length:Nat):Int))=true:=by simp; omega
   rw [if_neg hl,e,cond_true]
 ·rw [if_neg hc]
  have:(gY r != 0)=true:=by simp [hc]
  rw [this]
  rfl
theorem aHk {r:aF} {l:List Int}:aD2 r l=none ↔ ∀ i,i < r.Days.length→vA r l i:=by
 unfold aD2
 rw [yZ]
 constructor
 ·intro h i hi
  by_cases hg:vA r l i
  ·exact hg
  ·have:=h i (Nat.zero_le _) (by omega)
   rw [dF hg] at this
   cases this
 ·intro h j h1 h2
  rw [dT (h j (by omega))]
  rfl
theorem aJd {r:aF} {l:List Int}:aD2 r l=none ↔ Tru (lo r) (hi r) r.Rise r.Fall r.Days.length fun i=>l.getD i 0:=by
 rw [aHk]
 constructor
 ·intro h
  refine ⟨fun i hi=>(h i hi).1,fun i hi=>?_⟩
  rcases (h (i + 1) hi).2 with h' | h'
  ·omega
  ·rw [Nat.add_sub_cancel] at h'
   show l.getD (i + 1) 0≤l.getD i 0 + r.Rise∧l.getD i 0≤l.getD (i + 1) 0 + r.Fall
   omega
 ·intro h i hi
  refine ⟨h.own i hi,?_⟩
  rcases Nat.eq_zero_or_pos i with h0 | h0
  ·exact .inl h0
  ·have:l.getD (i - 1 + 1) 0≤l.getD (i - 1) 0 + r.Rise∧l.getD (i - 1) 0≤l.getD (i - 1 + 1) 0 + r.Fall:=h.st (i - 1) (by omega)
   rw [show i - 1 + 1=i by omega] at this
   exact .inr (by omega)
end Go.Nilo.Dl
set_option linter.unusedSimpArgs false
set_option linter.unusedVariables false
namespace Go.Nilo.Dl
theorem told_len {r:aF}:(told r).length=r.Days.length:=kW

def psum (g:Nat→Int) (a:Nat):Nat→Int
 | 0=>0
 | m + 1=>psum g a m + g (a + m)
theorem aF9 {g:Nat→Int} {a:Nat} (h:∀ i,0≤g i∧g i≤1000000000):∀ m,0≤psum g a m∧psum g a m≤(m:Int) * 1000000000
 | 0=>⟨Int.le_refl _,by simp [psum]⟩
 | m + 1=>by
  have h1:=aF9 (a:=a) h m
  have h2:=h (a + m)
  show 0≤psum g a m + g (a + m)∧psum g a m + g (a + m)≤((m + 1:Nat):Int) * 1000000000
  push_cast
  omega
theorem aJw {N:Nat} {l:List aA} (hl:l.length≤70) (hN:100≤N):oB N l=some (l.map (·.Lo)):=by
 unfold oB
 have:=uM (ρ:=List Int) (fun i:Nat=>(((l.take i).map (·.Lo),(i:Int)):List Int × Int)) l.length (fun s5=>jG N l s5.1 s5.2) (fun i hi=>by
  show jG N l ((l.take i).map (·.Lo)) (i:Int)=_
  unfold jG gI
  rw [lR hi,cond_true,getI_d sp0 hi,Option.bind_some,lB (by simp; omega),Option.bind_some,fP (by omega),rO (d:=sp0) hi]) (by
  show jG N l _ (l.length:Int)=_
  unfold jG
  rw [mJ,cond_false]) (N:=N) (by omega)
 show Option.bind (bE _ N (((l.take 0).map (·.Lo)),((0:Nat):Int))) _=_
 rw [this,Option.bind_some,List.take_length]
 rfl
theorem aJp {N:Nat} {l:List aA} (hl:l.length≤70) (hN:100≤N):kV N l=some (l.map (·.Hi)):=by
 unfold kV
 have:=uM (ρ:=List Int) (fun i:Nat=>(((l.take i).map (·.Hi),(i:Int)):List Int × Int)) l.length (fun s5=>gD N l s5.1 s5.2) (fun i hi=>by
  show gD N l ((l.take i).map (·.Hi)) (i:Int)=_
  unfold gD gJ
  rw [lR hi,cond_true,getI_d sp0 hi,Option.bind_some,lB (by simp; omega),Option.bind_some,fP (by omega),rO (d:=sp0) hi]) (by
  show gD N l _ (l.length:Int)=_
  unfold gD
  rw [mJ,cond_false]) (N:=N) (by omega)
 show Option.bind (bE _ N (((l.take 0).map (·.Hi)),((0:Nat):Int))) _=_
 rw [this,Option.bind_some,List.take_length]
 rfl
theorem aHx {α β:Type} {n:Nat} {g:Nat→α} {f:α→β}:(rl n g).map f=rl n fun i=>f (g i):=by
 unfold rl
 rw [List.map_map]
 rfl
theorem aHy {N:Nat} (hN:100≤N) {g:Nat→Int} (h:∀ i,0≤g i∧g i≤1000000000) {a m:Nat} (hm:m≤70):qF N (rl m fun i=>g (a + i))=some (psum g a m):=by
 unfold qF
 have:=uM (ρ:=Int) (fun i:Nat=>((psum g a i,(i:Int)):Int × Int)) m (fun s5=>kE N (rl m fun i=>g (a + i)) s5.1 s5.2) (fun i hi=>by
  show kE N (rl m fun i=>g (a + i)) (psum g a i) (i:Int)=_
  unfold kE
  have h1:=aF9 (a:=a) h i
  have h2:=h (a + i)
  rw [kW,lR hi,cond_true,yL hi,Option.bind_some,fP (by omega),W_sm (by omega) (by omega)]
  rfl) (by
  show kE N (rl m fun i=>g (a + i)) _ (m:Int)=_
  unfold kE
  rw [kW,mJ,cond_false]) (N:=N) (by omega)
 show Option.bind (bE _ N (psum g a 0,((0:Nat):Int))) _=_
 rw [this,Option.bind_some]
 rfl
def volR (r:aF) (a b:Int):aA × Int :=
 if gY r=0 then (if (0≤a∧a≤b)∧b < (r.Days.length:Int) then (if agB r=true then (⟨psum (tG r) a.toNat (b + 1 - a).toNat,psum (tL r) a.toNat (b + 1 - a).toNat⟩,0) else (⟨0,0⟩,7)) else (⟨0,0⟩,2)) else (⟨0,0⟩,gY r)
theorem tG_bd {r:aF} (hr:ROk r):∀ i,0≤tG r i∧tG r i≤1000000000:=fun i=>(aC3 hr i).1
theorem tL_bd {r:aF} (hr:ROk r):∀ i,0≤tL r i∧tL r i≤1000000000:=fun i=>(aC3 hr i).2
theorem aIt {r:aF} {a b:Nat} (h1:a≤b) (h2:b < r.Days.length):qX (told r) (a:Int) ((b + 1:Nat):Int)=some (rl (b + 1 - a) fun i=>⟨tG r (a + i),tL r (a + i)⟩):=by
 unfold qX
 rw [if_pos (by rw [told_len]; omega)]
 congr 1
 refine List.ext_getElem ?_ fun m k1 k2=>?_
 ·rw [kW,List.length_take,List.length_drop,told_len]
  omega
 ·simp [told,rl]
theorem Volume_spec {N:Nat} (hN:100≤N) {r:aF} {a b:Int} (h1:r.Days.length≤70):iW N r a b=some (volR r a b):=by
 unfold iW volR
 rw [Check_spec hN h1,Option.bind_some]
 by_cases hc:gY r=0
 ·rw [if_pos hc,hc,show ((0:Int) != 0)=false from rfl,cond_false,in_dec]
  have hr:=check_iff.1 hc
  have h60:=hr.n60
  by_cases h:(0≤a∧a≤b)∧b < (r.Days.length:Int)
  ·obtain ⟨A,rfl⟩:=Int.eq_ofNat_of_zero_le h.1.1
   obtain ⟨B,rfl⟩:=Int.eq_ofNat_of_zero_le (show 0≤b by omega)
   rw [if_pos h,uD h.1,dF (by omega),Bool.or_false,cond_false,aCa hN hr,Option.bind_some]
   show cond ((if agB r=true then (0:Int) else 7) != 0) _ _=_
   cases hag:agB r with
   | false=>rfl
   | true=>
    rw [if_pos rfl,if_pos rfl,show ((0:Int) != 0)=false from rfl,cond_false,W_sm (n:=(B:Int) + 1) (by omega) (by omega)]
    show Option.bind (qX (told r) (A:Int) ((B + 1:Nat):Int)) _=_
    rw [aIt (by omega) (by omega),Option.bind_some,aJw (by rw [kW]; omega) hN,Option.bind_some,aHx,aHy hN (tG_bd hr) (by omega),Option.bind_some,aJp (by rw [kW]; omega) hN,Option.bind_some,aHx,aHy hN (tL_bd hr) (by omega),Option.bind_some]
    rw [show ((B:Int) + 1 - (A:Int)).toNat=B + 1 - A by omega,Int.toNat_natCast]
  ·rw [if_neg h]
   have:(!decide (0≤a∧a≤b) || decide ((r.Days.length:Int)≤b))=true:=by
    rw [Bool.or_eq_true,Bool.not_eq_true',decide_eq_false_iff_not,decide_eq_true_eq]
    omega
   rw [this]
   rfl
 ·rw [if_neg hc]
  have:(gY r != 0)=true:=by simp [hc]
  rw [this]
  rfl
theorem told_get {r:aF} {i:Nat} (h:i < r.Days.length):bG (told r) (i:Int)=some ⟨tG r i,tL r i⟩:=yL h

end Go.Nilo.Dl
set_option linter.unusedSimpArgs false
set_option linter.unusedVariables false
namespace Go.Nilo.Dl
theorem psum_mono {g h:Nat→Int} {a:Nat}:∀ m,(∀ i,i < m→g (a + i)≤h (a + i))→psum g a m≤psum h a m
 | 0,_=>Int.le_refl _
 | m + 1,hle=>by
  have h1:=psum_mono m fun i hi=>hle i (by omega)
  have h2:=hle m (by omega)
  show psum g a m + g (a + m)≤psum h a m + h (a + m)
  omega
theorem fillF_ok {r:aF} (hr:ROk r) (ha:agB r=true):aFj r=(told r,0):=by
 unfold aFj
 rw [if_pos (check_iff.2 hr),if_pos ha]
theorem volR_ok {r:aF} (hr:ROk r) (ha:agB r=true) {a b:Nat} (h1:a≤b) (h2:b < r.Days.length):volR r (a:Int) (b:Int)=(⟨psum (tG r) a (b + 1 - a),psum (tL r) a (b + 1 - a)⟩,0):=by
 unfold volR
 rw [if_pos (check_iff.2 hr),if_pos ⟨⟨by omega,by omega⟩,by omega⟩,if_pos ha,Int.toNat_natCast,show ((b:Int) + 1 - (a:Int)).toNat=b + 1 - a by omega]
theorem Tru.congr {L H:Nat→Int} {r f:Int} {n:Nat} {x y:Nat→Int} (h:Tru L H r f n x) (he:∀ i,i < n→x i=y i):Tru L H r f n y:=by
 refine ⟨fun i hi=>?_,fun i hi=>?_⟩
 ·rw [← he i hi]
  exact h.own i hi
 ·rw [← he i (by omega),← he (i + 1) hi]
  exact h.st i hi
theorem holds_ok {r:aF} (hr:ROk r) {z:Nat→Int} (hz:∀ i,i < r.Days.length→0≤z i∧z i≤1000000000) (ht:Tru (lo r) (hi r) r.Rise r.Fall r.Days.length z):aC1 r (rl r.Days.length z)=(-1,0):=by
 unfold aC1
 rw [if_pos (check_iff.2 hr),if_pos kW,if_pos (aH5.2 fun i hi=>aEn.2 (hz i hi)),aJd.2 (ht.congr fun i hi=>(aJn hi).symm)]
 rfl
theorem tru_bd {r:aF} (hr:ROk r) {z:Nat→Int} (ht:Tru (lo r) (hi r) r.Rise r.Fall r.Days.length z):∀ i,i < r.Days.length→0≤z i∧z i≤1000000000:=fun i hi=>by
 have:=ht.own i hi
 have:=yO hr i
 omega
theorem total_rl {N:Nat} (hN:100≤N) {g:Nat→Int} {a m:Nat} (h:∀ i,i < m→0≤g (a + i)∧g (a + i)≤1000000000) (hm:m≤70):oY N (rl m fun i=>g (a + i))=some (psum g a m)∧0≤psum g a m∧psum g a m≤(m:Int) * 1000000000:=by
 have hb:∀ k,k≤m→0≤psum g a k∧psum g a k≤(k:Int) * 1000000000:=by
  intro k
  induction k with
  | zero=>exact fun _=>⟨Int.le_refl _,by simp [psum]⟩
  | succ k ih=>
   intro hk
   have h1:=ih (by omega)
   have h2:=h k (by omega)
   show 0≤psum g a k + g (a + k)∧psum g a k + g (a + k)≤((k + 1:Nat):Int) * 1000000000
   push_cast
   omega
 refine ⟨?_,hb m (Nat.le_refl _)⟩
 unfold oY
 have:=uM (ρ:=Int) (fun i:Nat=>((psum g a i,(i:Int)):Int × Int)) m (fun s5=>iI N (rl m fun i=>g (a + i)) s5.1 s5.2) (fun i hi=>by
  show iI N (rl m fun i=>g (a + i)) (psum g a i) (i:Int)=_
  unfold iI
  have h1:=hb i (by omega)
  have h2:=h i hi
  rw [kW,lR hi,cond_true,yL hi,Option.bind_some,fP (by omega),W_sm (by omega) (by omega)]
  rfl) (by
  show iI N (rl m fun i=>g (a + i)) _ (m:Int)=_
  unfold iI
  rw [kW,mJ,cond_false]) (N:=N) (by omega)
 show Option.bind (bE _ N (psum g a 0,((0:Nat):Int))) _=_
 rw [this,Option.bind_some]
 rfl
end Go.Nilo.Dl
