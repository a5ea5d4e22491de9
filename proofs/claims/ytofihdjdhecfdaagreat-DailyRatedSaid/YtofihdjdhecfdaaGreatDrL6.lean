/-
  What the plain functions compute, in plain arithmetic, part 6. Conditions: what each theorem names.
-/
import Derived.Test.YtofihdjdhecfdaaGreatDrL5
set_option linter.unusedSimpArgs false
set_option linter.unusedVariables false
namespace Go.Nilo
def g0:aI:=⟨0,0,⟨0,0⟩⟩
def aGn (l:List aI):Bool:=(List.range' 0 l.length).all fun i=>decide (i=0) || decide ((l.getD (i - 1) g0).Day < (l.getD i g0).Day)
def wS (r:aH):Int :=
 if jH r.Rating=3 ∨ ¬(1≤r.Gaugings.length∧r.Gaugings.length≤30) then 3 else if jH r.Rating ≠ 0 then jH r.Rating else if r.Gaugings.all dZ=false then 60 else if upF r.Rating=false then 9 else if aGn r.Gaugings then 0 else 9
theorem aBx {N:Nat} {l:List aI} (hl:l.length < N) (hl':l.length≤1000000):eJ N l=some (l.all dZ):=by
 unfold eJ bQ bV
 exact sS (f:=dV) (ok:=dZ) (fun x=>rfl) hl hl' _ (fun x=>rfl)
theorem Check_spec {N:Nat} (hN:700≤N) {r:aH} (h1:r.Rating.length≤50) (h2:r.Gaugings.length≤50):oV N r=some (wS r):=by
 unfold oV wS
 rw [aBk hN h1,Option.bind_some,aHw]
 by_cases h3:jH r.Rating=3
 ·rw [if_pos (.inl h3),h3]
  rfl
 have e3:(jH r.Rating == 3)=false:=by simp [h3]
 rw [e3,Bool.false_or]
 by_cases h4:1≤r.Gaugings.length∧r.Gaugings.length≤30
 ·rw [if_neg (by rintro (h | h); exact h3 h; exact h h4)]
  have e4:(!(decide ((1:Int)≤(r.Gaugings.length:Int)) && decide ((r.Gaugings.length:Int)≤(30:Int))))=false:=by
   rw [dT (by omega),dT (by omega)]
   rfl
  rw [e4,cond_false]
  by_cases h5:jH r.Rating=0
  ·have e5:(jH r.Rating != 0)=false:=by simp [h5]
   rw [e5,cond_false,if_neg (by simp [h5]),aBx (by omega) (by omega),Option.bind_some]
   cases r.Gaugings.all dZ with
   | false=>rfl
   | true=>
    rw [if_neg (by simp),Bool.not_true,cond_false,aAx hN (by have:=wI h5; omega) h1,Option.bind_some]
    cases upF r.Rating with
    | false=>rfl
    | true=>
     rw [if_neg (by simp),Bool.not_true,cond_false]
     have hs:=aCg (ρ:=Int) (fun i:Nat=>(i:Int)) (fun j=>cond (decide (j=0) || decide ((r.Gaugings.getD (j - 1) g0).Day < (r.Gaugings.getD j g0).Day)) none (some 9)) r.Gaugings.length (fun s14=>gP N r s14) (fun i hi=>by
      show gP N r (i:Int)=_
      unfold gP
      rw [lR hi,cond_true,getI_d g0 hi,Option.bind_some,fP (by omega)]
      rcases Nat.eq_zero_or_pos i with h | h
      ·subst h
       rfl
      ·rw [dT (show (0:Int) < (i:Int) by omega),cond_true,W_sm (n:=(i:Int) - 1) (by omega) (by omega),show ((i:Nat):Int) - 1=((i - 1:Nat):Int) by omega,getI_d g0 (by omega),Option.bind_some,Option.bind_some,dF (show ¬ i=0 by omega),Bool.false_or]
       rcases Int.lt_or_le (r.Gaugings.getD (i - 1) g0).Day (r.Gaugings.getD i g0).Day with h | h
       ·rw [dT h,dF (by omega)]
        rfl
       ·rw [dT h,dF (by omega)]
        rfl) (by
      show gP N r (r.Gaugings.length:Int)=_
      unfold gP
      rw [mJ,cond_false]) r.Gaugings.length 0 N (by omega) (by omega)
     rw [show (0:Int)=((0:Nat):Int) from rfl,hs,firstG_range]
     unfold aGn
     cases (List.range' 0 r.Gaugings.length).all _ <;> rfl
  ·have e5:(jH r.Rating != 0)=true:=by simp [h5]
   rw [e5,cond_true,if_pos (by simp [h5])]
 ·rw [if_pos (.inr h4)]
  have e4:(!(decide ((1:Int)≤(r.Gaugings.length:Int)) && decide ((r.Gaugings.length:Int)≤(30:Int))))=true:=by
   rw [Bool.not_eq_true',Bool.eq_false_iff]
   intro hc
   simp only [Bool.and_eq_true,decide_eq_true_eq] at hc
   omega
  rw [e4]
  rfl
structure aHa (g:aI):Prop where
 d:0≤g.Day∧g.Day≤40000
 s : -2000≤g.Stage∧g.Stage≤2000
 f:0≤g.Flow.Lo∧g.Flow.Lo≤g.Flow.Hi∧g.Flow.Hi≤1000000000
theorem aFq {g:aI}:dZ g=true ↔ aHa g:=by
 simp only [dZ,aY,iA,aG,Bool.and_eq_true,decide_eq_true_eq]
 constructor
 ·intro h
  exact ⟨by omega,by omega,by omega⟩
 ·rintro ⟨a,b,c⟩
  omega
structure pT (r:aH):Prop where
 rt:ROk r.Rating
 g1:1≤r.Gaugings.length
 g30:r.Gaugings.length≤30
 g:∀ g ∈ r.Gaugings,aHa g
 d:∀ i,i + 1 < r.Gaugings.length→(r.Gaugings.getD i g0).Day < (r.Gaugings.getD (i + 1) g0).Day
theorem aDv {l:List aI}:aGn l=true ↔ ∀ i,i + 1 < l.length→(l.getD i g0).Day < (l.getD (i + 1) g0).Day:=by
 unfold aGn
 rw [range_all]
 constructor
 ·intro h i hi
  have:=h (i + 1) hi
  rw [dF (show ¬ i + 1=0 by omega),Bool.false_or,Nat.add_sub_cancel] at this
  exact of_decide_eq_true this
 ·intro h j hj
  rcases Nat.eq_zero_or_pos j with h0 | h0
  ·rw [dT h0]
   rfl
  ·rw [dF (show ¬ j=0 by omega),Bool.false_or]
   have:=h (j - 1) (by omega)
   rw [Nat.sub_add_cancel h0] at this
   exact dT this
theorem check_iff {r:aH}:wS r=0 ↔ pT r:=by
 unfold wS
 constructor
 ·intro h
  split at h
  ·omega
  ·rename_i h1
   split at h
   ·omega
   ·rename_i h2
    split at h
    ·omega
    ·rename_i h3
     split at h
     ·omega
     ·rename_i h4
      split at h
      ·rename_i h5
       have h6:1≤r.Gaugings.length∧r.Gaugings.length≤30:=by
        rcases Classical.em (1≤r.Gaugings.length∧r.Gaugings.length≤30) with c | c
        ·exact c
        ·exact absurd (.inr c) h1
       have h7:jH r.Rating=0:=by omega
       have h8:upF r.Rating=true:=by simpa using h4
       have h9:r.Gaugings.all dZ=true:=by simpa using h3
       exact ⟨aCy.1 ⟨h7,h8⟩,h6.1,h6.2,fun g hg=>aFq.1 (List.all_eq_true.1 h9 g hg),aDv.1 h5⟩
      ·omega
 ·intro h
  obtain ⟨h1,h2⟩:=aCy.2 h.rt
  have h3:r.Gaugings.all dZ=true:=List.all_eq_true.2 fun g hg=>aFq.2 (h.g g hg)
  rw [if_neg (by rintro (c | c); omega; exact c ⟨h.g1,h.g30⟩),if_neg (by simp [h1]),if_neg (by simp [h3]),if_neg (by simp [h2]),if_pos (aDv.2 h.d)]
theorem tH {N:Nat} (hN:700≤N) {σ:Type} (y:σ→Int × Int→Option (σ × Bool)) (st:Nat→σ) (h:∀ i:Nat,i < 601→y (st i) ((i:Int),(i:Int) - 300)=some (st (i + 1),true)):cN N y (st 0)=some (st 601):=by
 unfold cN
 have:=uM (ρ:=σ) (fun i:Nat=>((i:Int),st i)) 601 (fun s3=>dB N y s3.1 s3.2) (fun i hi=>by
  show dB N y (i:Int) (st i)=_
  unfold dB
  rw [dT (by omega),cond_true,W_sm (by omega) (by omega),h i hi,Option.bind_some,fP (by omega)]
  rfl) rfl (N:=N) (by omega)
 rw [show ((0:Int),st 0)=(((0:Nat):Int),st 0) from rfl,this]
 rfl
theorem aFi {N:Nat} (hN:700≤N) {σ:Type} (y:σ→Int × Int→Option (σ × Bool)) (st:Nat→σ) (z:σ) (k:Nat) (hk:k < 601) (h:∀ i:Nat,i < k→y (st i) ((i:Int),(i:Int) - 300)=some (st (i + 1),true)) (hz:y (st k) ((k:Int),(k:Int) - 300)=some (z,false)):cN N y (st 0)=some z:=by
 unfold cN
 have key:∀ m i M,i + m=k→m + 1 < M→bE (fun s3:Int × σ=>dB N y s3.1 s3.2) M ((i:Int),st i)=some (.out z):=by
  intro m
  induction m with
  | zero=>
   intro i M hi hM
   obtain ⟨M,rfl⟩:∃ M',M=M' + 1:=⟨M - 1,by omega⟩
   obtain rfl:i=k:=by omega
   unfold bE
   have:dB N y (i:Int) (st i)=some (.ret z):=by
    unfold dB
    rw [dT (by omega),cond_true,W_sm (by omega) (by omega),hz,Option.bind_some]
    rfl
   simp only [this]
  | succ m ih=>
   intro i M hi hM
   obtain ⟨M,rfl⟩:∃ M',M=M' + 1:=⟨M - 1,by omega⟩
   unfold bE
   have:dB N y (i:Int) (st i)=some (.cont (((i + 1:Nat):Int),st (i + 1))):=by
    unfold dB
    rw [dT (by omega),cond_true,W_sm (by omega) (by omega),h i (by omega),Option.bind_some,fP (by omega)]
    rfl
   simp only [this]
   exact ih (i + 1) M (by omega) (by omega)
 have:=key k 0 N (by omega) (by omega)
 rw [show ((0:Int),st 0)=(((0:Nat):Int),st 0) from rfl,this]
 rfl
def eP (P:Int→Bool):Nat→Int × Int
 | 0=>(1,0)
 | n + 1=>if P ((n:Int) - 300)=true then (if (eP P n).2 < (eP P n).1 then (n:Int) - 300 else (eP P n).1,(n:Int) - 300) else eP P n
theorem tE (P:Int→Bool):∀ n:Nat,((eP P n).1≤(eP P n).2∧P (eP P n).1=true∧P (eP P n).2=true∧-300≤(eP P n).1∧(eP P n).2 < (n:Int) - 300∧∀ x,-300≤x→x < (n:Int) - 300→P x=true→(eP P n).1≤x∧x≤(eP P n).2) ∨
  ((eP P n).1=1∧(eP P n).2=0∧∀ x,-300≤x→x < (n:Int) - 300→P x=false)
 | 0=>.inr ⟨rfl,rfl,fun x h1 h2=>by omega⟩
 | n + 1=>by
  have ih:=tE P n
  unfold eP
  by_cases hp:P ((n:Int) - 300)=true
  ·rw [if_pos hp]
   rcases ih with ⟨a,b,c,d,e,f⟩ | ⟨a,b,c⟩
   ·left
    rw [if_neg (by omega)]
    refine ⟨by omega,b,hp,d,by push_cast; omega,fun x h1 h2 hx=>?_⟩
    rcases Int.lt_or_le x ((n:Int) - 300) with h | h
    ·have:=f x h1 h hx
     omega
    ·show (eP P n).1≤x∧x≤(n:Int) - 300
     push_cast at h2
     omega
   ·left
    rw [if_pos (by omega)]
    refine ⟨Int.le_refl _,hp,hp,by omega,by push_cast; omega,fun x h1 h2 hx=>?_⟩
    rcases Int.lt_or_le x ((n:Int) - 300) with h | h
    ·rw [c x h1 h] at hx
     cases hx
    ·show (n:Int) - 300≤x∧x≤(n:Int) - 300
     push_cast at h2
     omega
  ·rw [if_neg hp]
   have hx:∀ x,-300≤x→x < ((n + 1:Nat):Int) - 300→P x=true→x < (n:Int) - 300:=fun x h1 h2 hx=>by
    rcases Int.lt_or_le x ((n:Int) - 300) with h | h
    ·exact h
    ·have:x=(n:Int) - 300:=by push_cast at h2; omega
     subst this
     exact absurd hx hp
   rcases ih with ⟨a,b,c,d,e,f⟩ | ⟨a,b,c⟩
   ·exact .inl ⟨a,b,c,d,by push_cast; omega,fun x h1 h2 hp=>f x h1 (hx x h1 h2 hp) hp⟩
   ·refine .inr ⟨a,b,fun x h1 h2=>?_⟩
    cases hpx:P x with
    | false=>rfl
    | true=>
     have:=c x h1 (hx x h1 h2 hpx)
     rw [hpx] at this
     cases this
def jW (l:List aE) (g:aI) (sh:Int):Bool:=decide (g.Flow.Lo * (bB l (g.Stage - sh)).D≤(bB l (g.Stage - sh)).N) && decide ((bB l (g.Stage - sh)).N≤g.Flow.Hi * (bB l (g.Stage - sh)).D)
def nV (l:List aE) (g:aI):aA:=⟨(eP (jW l g) 601).1,(eP (jW l g) 601).2⟩
theorem aEl {N:Nat} (hN:700≤N) {r:aH} (hr:ROk r.Rating) {o:List aA} {g:aI} (hg:aHa g) {sh:Int} (hs : -300≤sh∧sh≤300):jF N ⟨r,o⟩ g sh=some (jW r.Rating g sh):=by
 unfold jF
 have h1:=hg.s
 have h2:=hg.f
 show Option.bind (iX N r.Rating (W (g.Stage - sh))) _=_
 rw [W_sm (by omega) (by omega),tJ hN hr (by omega),Option.bind_some]
 obtain ⟨a,b,-,-,-⟩:=gO hr (g.Stage - sh)
 have m1:=yM h2.1 (show 0≤(bB r.Rating (g.Stage - sh)).D by omega) (show g.Flow.Lo≤1000000000 by omega) b
 have m2:=yM (show 0≤g.Flow.Hi by omega) (show 0≤(bB r.Rating (g.Stage - sh)).D by omega) h2.2.2 b
 rw [W_sm (by omega) (by omega),W_sm (by omega) (by omega)]
 rfl
theorem aG9 {N:Nat} (hN:700≤N) {r:aH} (hr:ROk r.Rating) {o:List aA} {g:aI} (hg:aHa g) :
  cN N (rY (fun (zz:Int × Int) (ix_:(Int × Int))=>fC N r o g zz.1 zz.2 ix_.1 ix_.2)) (.go (1,0))=some (.go ((nV r.Rating g).Lo,(nV r.Rating g).Hi)):=by
 have:=tH hN (rY (fun (zz:Int × Int) (ix_:(Int × Int))=>fC N r o g zz.1 zz.2 ix_.1 ix_.2)) (fun i=>.go (eP (jW r.Rating g) i)) (fun i hi=>by
  show Option.map _ (fC N r o g (eP (jW r.Rating g) i).1 (eP (jW r.Rating g) i).2 (i:Int) ((i:Int) - 300))=_
  unfold fC
  rw [aEl hN hr hg (by omega),Option.bind_some]
  rw [show eP (jW r.Rating g) (i + 1)=if jW r.Rating g ((i:Int) - 300)=true then (if (eP (jW r.Rating g) i).2 < (eP (jW r.Rating g) i).1 then (i:Int) - 300 else (eP (jW r.Rating g) i).1,(i:Int) - 300) else eP (jW r.Rating g) i from rfl]
  cases jW r.Rating g ((i:Int) - 300) with
  | false=>rfl
  | true=>
   rw [if_pos rfl,cond_true]
   by_cases h:(eP (jW r.Rating g) i).2 < (eP (jW r.Rating g) i).1
   ·rw [dT h,if_pos h]
    rfl
   ·rw [dF h,if_neg h]
    rfl)
 exact this
def eD (s:aA):Bool:=decide (s.Lo≤s.Hi)
theorem aD8 {N:Nat} (hN:700≤N) {r:aH} (hr:pT r):∀ (m i M:Nat) (o:List aA),i + m=r.Gaugings.length→m < M→o.length=i →
  ∃ x o',bE (fun s12:Int × Int × List aA=>gC N r s12.1 s12.2.1 s12.2.2) M (0,(i:Int),o)=some (.go (if ((r.Gaugings.drop i).map (nV r.Rating)).all eD then 0 else 6,x,o')) ∧
   (((r.Gaugings.drop i).map (nV r.Rating)).all eD=true→o'=o++(r.Gaugings.drop i).map (nV r.Rating)):=by
 intro m
 induction m with
 | zero=>
  intro i M o hi hM ho
  obtain ⟨M,rfl⟩:∃ M',M=M' + 1:=⟨M - 1,by omega⟩
  obtain rfl:i=r.Gaugings.length:=by omega
  have hd:r.Gaugings.drop r.Gaugings.length=[]:=List.drop_eq_nil_of_le (Nat.le_refl _)
  rw [hd]
  refine ⟨(r.Gaugings.length:Int),o,?_,fun _=>by simp⟩
  unfold bE
  have:gC N r 0 (r.Gaugings.length:Int) o=some (.brk (0,(r.Gaugings.length:Int),o)):=by
   unfold gC
   rw [mJ,cond_false]
  simp only [this]
  rfl
 | succ m ih=>
  intro i M o hi hM ho
  have h30:=hr.g30
  obtain ⟨M,rfl⟩:∃ M',M=M' + 1:=⟨M - 1,by omega⟩
  have hil:i < r.Gaugings.length:=by omega
  have hgm:r.Gaugings.getD i g0 ∈ r.Gaugings:=by
   rw [← cF hil]
   exact List.getElem_mem _
  have hd:r.Gaugings.drop i=r.Gaugings.getD i g0::r.Gaugings.drop (i + 1):=by rw [List.drop_eq_getElem_cons hil,cF (d:=g0) hil]
  rw [hd,List.map_cons,List.all_cons]
  unfold bE
  have hb:gC N r 0 (i:Int) o=(if eD (nV r.Rating (r.Gaugings.getD i g0))=true then some (.cont (0,((i + 1:Nat):Int),o++[nV r.Rating (r.Gaugings.getD i g0)])) else some (.brk (6,(i:Int),o))):=by
   unfold gC
   rw [lR hil,cond_true,getI_d g0 hil,Option.bind_some,aG9 hN hr.rt (hr.g _ hgm),Option.bind_some]
   show cond (decide ((nV r.Rating (r.Gaugings.getD i g0)).Hi < (nV r.Rating (r.Gaugings.getD i g0)).Lo)) _ _=_
   unfold eD
   by_cases h:(nV r.Rating (r.Gaugings.getD i g0)).Lo≤(nV r.Rating (r.Gaugings.getD i g0)).Hi
   ·rw [dF (by omega),dT h,cond_false,if_pos rfl,lB (by simp; omega),Option.bind_some,fP (by omega)]
   ·rw [dT (by omega),dF h,cond_true,if_neg (by simp)]
  cases hs:eD (nV r.Rating (r.Gaugings.getD i g0)) with
  | false=>
   rw [hs,if_neg (by simp)] at hb
   refine ⟨(i:Int),o,?_,fun h=>by simp at h⟩
   simp only [hb]
   rfl
  | true=>
   rw [hs,if_pos rfl] at hb
   obtain ⟨x,o',k1,k2⟩:=ih (i + 1) M (o++[nV r.Rating (r.Gaugings.getD i g0)]) (by omega) (by omega) (by simp [ho])
   refine ⟨x,o',?_,fun h=>?_⟩
   ·simp only [hb,Bool.true_and]
    exact k1
   ·have:=k2 (by simpa using h)
    rw [this]
    simp
def passes (r:aH):List aA:=r.Gaugings.map (nV r.Rating)
theorem opened_bad {N:Nat} (hN:700≤N) {r:aH} (h1:r.Rating.length≤50) (h2:r.Gaugings.length≤50) (hc:wS r ≠ 0):gK N r=some (.inl (wS r)):=by
 unfold gK
 rw [Check_spec hN h1 h2,Option.bind_some]
 have:(wS r != 0)=true:=by simp [hc]
 rw [this]
 rfl
theorem opened_ok {N:Nat} (hN:700≤N) {r:aH} (hr:pT r):(∃ o,gK N r=some (.inr (o,6))∧(passes r).all eD=false) ∨ (gK N r=some (.inr (passes r,0))∧(passes r).all eD=true):=by
 have h12:=hr.rt.l12
 have h30:=hr.g30
 unfold gK
 rw [Check_spec hN (by omega) (by omega),Option.bind_some,check_iff.2 hr]
 show (∃ o,Option.bind (bE _ N (0,((0:Nat):Int),([]:List aA))) _=_∧_) ∨ (Option.bind (bE _ N (0,((0:Nat):Int),([]:List aA))) _=_∧_)
 obtain ⟨x,o',k1,k2⟩:=aD8 hN hr r.Gaugings.length 0 N [] (by omega) (by omega) rfl
 rw [k1,Option.bind_some]
 rw [List.drop_zero] at *
 cases hs:(passes r).all eD with
 | false=>
  left
  refine ⟨o',?_,rfl⟩
  show some (Sum.inr (o',if (passes r).all eD=true then (0:Int) else 6))=_
  rw [hs]
  rfl
 | true=>
  right
  refine ⟨?_,rfl⟩
  show some (Sum.inr (o',if (passes r).all eD=true then (0:Int) else 6))=_
  rw [hs,k2 hs]
  rfl
end Go.Nilo
