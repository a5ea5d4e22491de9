/-
  What the plain functions compute, in plain arithmetic, part 3. Conditions: what each theorem names.
-/
import Derived.Test.YtkcmofifepmkdaaGreatTdL2
set_option linter.unusedSimpArgs false
set_option linter.unusedVariables false
namespace Go.Nilo.Ba
def rD:bD:=⟨0,0,⟨0,0⟩⟩
def sD:aF:=⟨0,0⟩
def wAt (n:bC) (x:Nat→Int) (i:Nat):aE:=if i < n.Reaches.length then ⟨(n.Reaches.getD i rD).From,(n.Reaches.getD i rD).To,(n.Reaches.getD i rD).Flow,x i⟩ else ⟨(n.Gains.length:Int),((i - n.Reaches.length:Nat):Int),n.Gains.getD (i - n.Reaches.length) sD,x i⟩
def nW (n:bC):Nat:=n.Reaches.length + n.Gains.length
def jM (n:bC) (x:Nat→Int):List aE:=(List.range (nW n)).map (wAt n x)
def spA (n:bC) (i:Nat):aF:=(wAt n (fun _=>0) i).span
theorem aI8 (n:bC) (x:Nat→Int) (i:Nat):(wAt n x i).now=x i:=by unfold wAt; split <;> rfl
theorem aAn (n:bC) (x:Nat→Int) (i:Nat):(wAt n x i).span=spA n i:=by unfold spA wAt; split <;> rfl
theorem aNn (n:bC) (x:Nat→Int) (i:Nat) (v:Int):(⟨(wAt n x i).from_,(wAt n x i).to_,(wAt n x i).span,v⟩:aE)=wAt n (fun j=>if j=i then v else x j) i:=by unfold wAt; split <;> simp
theorem yA (n:bC) {x y:Nat→Int} {i:Nat} (h:x i=y i):wAt n x i=wAt n y i:=by unfold wAt; rw [h]
theorem mV (n:bC) (x:Nat→Int):(jM n x).length=nW n:=by simp [jM]
theorem rP (n:bC) (x:Nat→Int) {i:Nat} (h:i < (jM n x).length):(jM n x)[i]=wAt n x i:=by simp [jM]
theorem aHp (n:bC) (x y:Nat→Int):Sim (wl (jM n x)) (wl (jM n y)):=by
 unfold jM wl
 generalize List.range (nW n)=l
 induction l with
 | nil=>trivial
 | cons i l ih=>
  refine ⟨?_,ih⟩
  show (wAt n x i).from_.toNat=_∧_
  unfold wAt wx
  split <;> exact ⟨rfl,rfl,rfl,rfl⟩
structure NOk (n:bC) (x:Nat→Int):Prop where
 g:1≤n.Gains.length∧n.Gains.length≤7
 r:n.Reaches.length≤13
 re:∀ i,i < n.Reaches.length→0≤(n.Reaches.getD i rD).From∧(n.Reaches.getD i rD).From < n.Gains.length∧0≤(n.Reaches.getD i rD).To∧(n.Reaches.getD i rD).To < n.Gains.length∧(n.Reaches.getD i rD).From ≠ (n.Reaches.getD i rD).To
 b:∀ i,i < nW n→-100000≤(spA n i).Lo∧(spA n i).Lo≤x i∧x i≤(spA n i).Hi∧(spA n i).Hi≤100000
 z:∀ p,ovr (wl (jM n x)) p=0
abbrev KK (n:bC):Nat:=n.Gains.length + 1
theorem NOk.wok {n:bC} {x:Nat→Int} (h:NOk n x) {y:Nat→Int} (hy:∀ i,i < nW n→(spA n i).Lo≤y i∧y i≤(spA n i).Hi):WOk (KK n) (jM n y):=by
 have hg:=h.g
 have hr:=h.r
 have hpl:∀ i,i < nW n→0≤(wAt n y i).from_∧0≤(wAt n y i).to_∧(wAt n y i).from_.toNat < KK n∧(wAt n y i).to_.toNat < KK n∧(wAt n y i).from_.toNat ≠ (wAt n y i).to_.toNat:=by
  intro i hi
  unfold nW at hi
  unfold wAt KK
  split
  ·rename_i h1
   have:=h.re i h1
   dsimp only
   omega
  ·dsimp only
   omega
 refine ⟨⟨fun i hi=>?_,fun i hi=>?_⟩,fun j hj=>?_,fun j hj=>?_,?_,?_⟩
 ·have hi':i < (jM n y).length:=by simpa using hi
  rw [mF hi',rP]
  rw [mV] at hi'
  show (wAt n y i).span.Lo≤(wAt n y i).now∧(wAt n y i).now≤(wAt n y i).span.Hi
  rw [aAn,aI8]
  exact hy i hi'
 ·have hi':i < (jM n y).length:=by simpa using hi
  rw [mF hi',rP]
  rw [mV] at hi'
  obtain ⟨-,-,a,b,c⟩:=hpl i hi'
  exact ⟨a,b,c⟩
 ·rw [rP]
  rw [mV] at hj
  obtain ⟨a,b,-⟩:=hpl j hj
  exact ⟨a,b⟩
 ·rw [rP,aAn]
  rw [mV] at hj
  have:=h.b j hj
  omega
 ·rw [mV]
  unfold nW
  omega
 ·unfold KK
  omega
theorem NOk.tru {n:bC} {x:Nat→Int} (h:NOk n x) (y:Nat→Int):Tru (KK n) (wl (jM n y)) (wl (jM n x)):=by
 have hw:=h.wok (y:=x) fun i hi=>by have:=h.b i hi; omega
 exact ⟨aHp n y x,hw.i.b,fun p _=>h.z p⟩
def stN (n:bC) (i:Nat):Int:=min (max 0 (spA n i).Lo) (spA n i).Hi
theorem aJ4 {m i:Nat} {F:Nat→aE} {v:aE}:((List.range m).map F).set i v=(List.range m).map fun j=>if j=i then v else F j:=by
 apply List.ext_getElem
 ·simp
 ·intro k h1 h2
  rw [List.getElem_set]
  simp only [List.getElem_map,List.getElem_range]
  by_cases e:i=k
  ·rw [if_pos e,if_pos e.symm]
  ·rw [if_neg e,if_neg (fun e2=>e e2.symm)]
theorem aKs {N:Nat} {n:bC} {x:Nat→Int} (h:NOk n x) (hN:60≤N):mZ N n=some ⟨⟨jM n (stN n),(n.Gains.length:Int)⟩,(n.Reaches.length:Int)⟩:=by
 have hg:=h.g
 have hr:=h.r
 have l1:=aEl (ρ:=aP) (fun i:Nat=>((i:Int),(List.range i).map (wAt n fun _=>0))) n.Reaches.length (fun s5:Int × List aE=>gJ N n s5.1 s5.2) (by
  intro i hi
  show gJ N n (i:Int) ((List.range i).map (wAt n fun _=>0))=_
  unfold gJ
  have e:(⟨n.Reaches[i].From,n.Reaches[i].To,n.Reaches[i].Flow,0⟩:aE)=wAt n (fun _=>0) i:=by unfold wAt; rw [if_pos hi,← cT (d:=rD) hi]
  rw [nF hi,cond_true,cF hi,Option.bind_some,gY (by simp; omega),Option.bind_some,iF (by omega),e,List.range_succ,List.map_append]
  rfl) (by
  show gJ N n (n.Reaches.length:Int) _=_
  unfold gJ
  rw [nC,cond_false]) (N:=N) (by omega)
 have l2:=aEl (ρ:=aP) (fun i:Nat=>((i:Int),(List.range (n.Reaches.length + i)).map (wAt n fun _=>0))) n.Gains.length (fun s8:Int × List aE=>fP N n s8.1 s8.2) (by
  intro i hi
  show fP N n (i:Int) ((List.range (n.Reaches.length + i)).map (wAt n fun _=>0))=_
  unfold fP
  have e:(⟨((n.Gains.length:Nat):Int),(i:Int),n.Gains[i],0⟩:aE)=wAt n (fun _=>0) (n.Reaches.length + i):=by
   unfold wAt
   rw [if_neg (by omega),Nat.add_sub_cancel_left,← cT (d:=sD) hi]
  rw [nF hi,cond_true,cF hi,Option.bind_some,gY (by simp; omega),Option.bind_some,iF (by omega),e,← Nat.add_assoc,List.range_succ,List.map_append]
  rfl) (by
  show fP N n (n.Gains.length:Int) _=_
  unfold fP
  rw [nC,cond_false]) (N:=N) (by omega)
 have l3:=aEl (ρ:=aP) (fun i:Nat=>(jM n (fun j=>if j < i then stN n j else 0),(i:Int))) (nW n) (fun s11:List aE × Int=>eX N (jM n fun _=>0) s11.1 s11.2) (by
  intro i hi
  show eX N (jM n fun _=>0) (jM n fun j=>if j < i then stN n j else 0) (i:Int)=_
  unfold eX
  have hi1:i < (jM n fun j=>if j < i then stN n j else 0).length:=by rw [mV]; exact hi
  have hnw:nW n≤20:=by unfold nW; omega
  rw [mV,nF hi,cond_true,cF hi1,Option.bind_some,Option.bind_some,iF (by omega),rP,aAn]
  have e2:=aNn n (fun j=>if j < i then stN n j else 0) i (stN n i)
  rw [aAn] at e2
  have e3:(min (max 0 (spA n i).Lo) (spA n i).Hi)=stN n i:=rfl
  rw [e3,e2,Int.toNat_natCast]
  congr 3
  unfold jM
  rw [aJ4]
  refine List.map_congr_left fun j _=>?_
  by_cases e:j=i
  ·subst e
   rw [if_pos rfl]
   refine yA n ?_
   simp
  ·rw [if_neg e]
   refine yA n ?_
   by_cases e4:j < i
   ·rw [if_pos e4,if_pos (show j < i + 1 by omega)]
   ·rw [if_neg e4,if_neg (show ¬ j < i + 1 by omega)]) (by
  show eX N (jM n fun _=>0) _ (nW n:Int)=_
  unfold eX
  rw [mV,nC,cond_false]) (N:=N) (by unfold nW; omega)
 have e0:jM n (fun j=>if j < 0 then stN n j else 0)=jM n fun _=>0:=by
  unfold jM
  exact List.map_congr_left fun j _=>yA n (if_neg (by omega))
 have e9:jM n (fun j=>if j < nW n then stN n j else 0)=jM n (stN n):=by
  unfold jM
  exact List.map_congr_left fun j hj=>yA n (if_pos (List.mem_range.1 hj))
 rw [e0,e9] at l3
 unfold mZ
 have l1':bN (fun s5:Int × List aE=>gJ N n s5.1 s5.2) N (0,([]:List aE))=_:=l1
 rw [l1',Option.bind_some]
 show (Option.bind (bN (fun s8:Int × List aE=>fP N n s8.1 s8.2) N (0,(List.range n.Reaches.length).map (wAt n fun _=>0))) _)=_
 have l2':bN (fun s8:Int × List aE=>fP N n s8.1 s8.2) N (0,(List.range n.Reaches.length).map (wAt n fun _=>0))=_:=l2
 rw [l2',Option.bind_some]
 show (Option.bind (bN (fun s11:List aE × Int=>eX N (jM n fun _=>0) s11.1 s11.2) N (jM n (fun _=>0),0)) _)=_
 have l3':bN (fun s11:List aE × Int=>eX N (jM n fun _=>0) s11.1 s11.2) N (jM n (fun _=>0),0)=_:=l3
 rw [l3',Option.bind_some]
 rfl
theorem NOk.st {n:bC} {x:Nat→Int} (h:NOk n x):WOk (KK n) (jM n (stN n)):=h.wok fun i hi=>by
 have:=h.b i hi
 unfold stN
 omega
end Go.Nilo.Ba
namespace Go.Nilo.Ba
def pJ (l:List aE):List Int:=l.map fun w=>w.now
theorem aJb {k:Nat} {S:List Int} (h:k≤S.length):cpL (List.replicate k (0:Int)) 0 k S=S.take k:=by
 have e:Nat.min S.length k=k:=Nat.min_eq_right h
 unfold cpL
 rw [e,if_pos (by simp)]
 simp
theorem aMf {N:Nat} {l:List aE} {r g:Nat} (hl:l.length=r + g) (hg:1≤g) (hb:r + g≤40) (hN:60≤N) :
  iP N ⟨⟨l,(g:Int)⟩,(r:Int)⟩=some ⟨(pJ l).take r,(pJ l).drop r⟩:=by
 have l1:=aEl (ρ:=cL) (fun i:Nat=>(pJ (l.take i),(i:Int))) l.length (fun s5:List Int × Int=>eB N ⟨⟨l,(g:Int)⟩,(r:Int)⟩ s5.1 s5.2) (by
  intro i hi
  show eB N ⟨⟨l,(g:Int)⟩,(r:Int)⟩ (pJ (l.take i)) (i:Int)=_
  unfold eB
  show cond (decide ((i:Int) < ((l.length:Nat):Int))) (Option.bind (cM l (i:Int)) _) _=_
  rw [nF hi,cond_true,cF hi,Option.bind_some]
  rw [gY (by simp [pJ]; omega),Option.bind_some,iF (by omega)]
  have:pJ (l.take (i + 1))=pJ (l.take i)++[l[i].now]:=by unfold pJ; rw [List.take_succ_eq_append_getElem hi,List.map_append]; rfl
  rw [this]) (by
  show eB N ⟨⟨l,(g:Int)⟩,(r:Int)⟩ _ (l.length:Int)=_
  unfold eB
  show cond (decide ((l.length:Int) < ((l.length:Nat):Int))) _ _=_
  rw [nC,cond_false]) (N:=N) (by omega)
 have l1':bN (fun s5:List Int × Int=>eB N ⟨⟨l,(g:Int)⟩,(r:Int)⟩ s5.1 s5.2) N (([]:List Int),0)=some (.go (pJ l,(l.length:Int))):=by
  have:=l1
  rw [List.take_length] at this
  exact this
 have hlen:(pJ l).length=r + g:=by simp [pJ,hl]
 unfold iP
 rw [l1',Option.bind_some]
 show (Option.bind (inM (r:Int)) fun un=>Option.bind (inM (g:Int)) fun un_1=>Option.bind (aEn (pJ l).length) fun un_2=>Option.bind (vS (pJ l) (r:Int) (((pJ l).length:Nat):Int)) fun sub=>Option.bind (aEn sub.length) fun un_3=>some (⟨(cpL (List.replicate ((r:Int)).toNat (0:Int)) 0 ((List.replicate ((r:Int)).toNat (0:Int)).length) (pJ l)),(cpL (List.replicate ((g:Int)).toNat (0:Int)) 0 ((List.replicate ((g:Int)).toNat (0:Int)).length) sub)⟩:cL))=_
 have m1:inM (r:Int)=some ():=by unfold inM; rw [if_pos (by omega)]
 have m2:inM (g:Int)=some ():=by unfold inM; rw [if_pos (by omega)]
 have m3:aEn (pJ l).length=some ():=by unfold aEn; rw [if_pos (by omega)]
 have m4:vS (pJ l) (r:Int) (((pJ l).length:Nat):Int)=some ((pJ l).drop r):=by
  unfold vS
  rw [if_pos (by omega),Int.toNat_natCast,Int.toNat_natCast]
  congr 1
  exact List.take_of_length_le (by rw [List.length_drop]; omega)
 have m5:aEn ((pJ l).drop r).length=some ():=by unfold aEn; rw [if_pos (by rw [List.length_drop]; omega)]
 rw [m1,Option.bind_some,m2,Option.bind_some,m3,Option.bind_some,m4,Option.bind_some,m5,Option.bind_some,Int.toNat_natCast,Int.toNat_natCast,List.length_replicate,List.length_replicate,aJb (by omega),aJb (by rw [List.length_drop]; omega)]
 have:((pJ l).drop r).take g=(pJ l).drop r:=List.take_of_length_le (by rw [List.length_drop]; omega)
 rw [this]
theorem aG2 {x:Int} {s:aF} (h:s.Lo≤x∧x≤s.Hi) (hb : -100000≤s.Lo∧s.Hi≤100000):bU x s=0:=by
 unfold bU
 rw [eH (n:=s.Lo - x) (by omega) (by omega),eH (n:=x - s.Hi) (by omega) (by omega)]
 omega
theorem aNt {N k:Nat} (hk:k≤50) (hN:60≤N):pI N (List.replicate k 0)=some 0:=by
 have l1:=aEl (ρ:=Int) (fun i:Nat=>((0:Int),(i:Int))) k (fun s5:Int × Int=>iU N (List.replicate k 0) s5.1 s5.2) (by
  intro i hi
  show iU N (List.replicate k 0) 0 (i:Int)=_
  unfold iU
  rw [List.length_replicate,nF hi,cond_true,cF (by simpa using hi),Option.bind_some,iF (by omega),List.getElem_replicate]
  rfl) (by
  show iU N (List.replicate k 0) 0 (k:Int)=_
  unfold iU
  rw [List.length_replicate,nC,cond_false]) (N:=N) (by omega)
 unfold pI
 have l1':bN (fun s5:Int × Int=>iU N (List.replicate k 0) s5.1 s5.2) N (0,0)=_:=l1
 rw [l1',Option.bind_some]
 rfl
theorem aKc {N:Nat} {n:bC} {x:Nat→Int} (h:NOk n x) (hN:60≤N) {t:cL} (hf:t.Flows.length=n.Reaches.length) (hg:t.Gains.length=n.Gains.length)
  (h1:∀ i,i < n.Reaches.length→(n.Reaches.getD i rD).Flow.Lo≤t.Flows.getD i 0∧t.Flows.getD i 0≤(n.Reaches.getD i rD).Flow.Hi) (h2:∀ i,i < n.Gains.length→(n.Gains.getD i sD).Lo≤t.Gains.getD i 0∧t.Gains.getD i 0≤(n.Gains.getD i sD).Hi):oA N n t=some 0:=by
 have hgl:=h.g
 have hrl:=h.r
 have l1:=aEl (ρ:=Int) (fun i:Nat=>(List.replicate i (0:Int),(i:Int))) n.Reaches.length (fun s5:List Int × Int=>iB N n t s5.1 s5.2) (by
  intro i hi
  show iB N n t (List.replicate i 0) (i:Int)=_
  unfold iB
  have hb:=h.b i (by unfold nW; omega)
  have hs:spA n i=(n.Reaches.getD i rD).Flow:=by unfold spA wAt; rw [if_pos hi]
  rw [hs] at hb
  rw [nF hi,cond_true,cF hi,Option.bind_some,cF (by omega),Option.bind_some,cT (d:=rD) hi,cT (d:=(0:Int)) (show i < t.Flows.length by omega),aG2 (h1 i hi) (by omega),gY (by simp; omega),Option.bind_some,iF (by omega),List.replicate_succ']) (by
  show iB N n t _ (n.Reaches.length:Int)=_
  unfold iB
  rw [nC,cond_false]) (N:=N) (by omega)
 have l2:=aEl (ρ:=Int) (fun i:Nat=>(List.replicate (n.Reaches.length + i) (0:Int),(i:Int))) n.Gains.length (fun s8:List Int × Int=>gD N n t s8.1 s8.2) (by
  intro i hi
  show gD N n t (List.replicate (n.Reaches.length + i) 0) (i:Int)=_
  unfold gD
  have hb:=h.b (n.Reaches.length + i) (by unfold nW; omega)
  have hs:spA n (n.Reaches.length + i)=n.Gains.getD i sD:=by unfold spA wAt; rw [if_neg (by omega),Nat.add_sub_cancel_left]
  rw [hs] at hb
  rw [nF hi,cond_true,cF hi,Option.bind_some,cF (by omega),Option.bind_some,cT (d:=sD) hi,cT (d:=(0:Int)) (show i < t.Gains.length by omega),aG2 (h2 i hi) (by omega),gY (by simp; omega),Option.bind_some,iF (by omega),← Nat.add_assoc,List.replicate_succ']) (by
  show gD N n t _ (n.Gains.length:Int)=_
  unfold gD
  rw [nC,cond_false]) (N:=N) (by omega)
 unfold oA
 have l1':bN (fun s5:List Int × Int=>iB N n t s5.1 s5.2) N (([]:List Int),0)=_:=l1
 rw [l1',Option.bind_some]
 show (Option.bind (bN (fun s8:List Int × Int=>gD N n t s8.1 s8.2) N (List.replicate n.Reaches.length 0,0)) _)=_
 have l2':bN (fun s8:List Int × Int=>gD N n t s8.1 s8.2) N (List.replicate n.Reaches.length 0,0)=_:=l2
 rw [l2',Option.bind_some]
 show (Option.bind (pI N (List.replicate (n.Reaches.length + n.Gains.length) 0)) _)=_
 rw [aNt (by omega) hN]
 rfl
theorem aJd {a b c:Int} (h:b≤a∧a≤c):bM a b c=true:=by
 unfold bM
 simp
 omega
theorem aJu {s:aF} (h : -100000≤s.Lo∧s.Lo≤s.Hi∧s.Hi≤100000):fK s=true:=by
 unfold fK bM
 simp
 omega
theorem aLs {N:Nat} {n:bC} {x:Nat→Int} (h:NOk n x) (hN:60≤N):oL N n=some 0:=by
 have hgl:=h.g
 have hrl:=h.r
 have e1:((!(bM ((n.Gains.length:Nat):Int) 1 8)) || (decide (14 < ((n.Reaches.length:Nat):Int))))=false:=by
  unfold bM
  simp
  omega
 have e2:jQ N n.Gains=some true:=by
  have hall:n.Gains.all fK=true:=by
   rw [List.all_eq_true]
   intro s hs
   obtain ⟨i,hi,rfl⟩:=List.getElem_of_mem hs
   have hb:=h.b (n.Reaches.length + i) (by unfold nW; omega)
   have e:spA n (n.Reaches.length + i)=n.Gains.getD i sD:=by unfold spA wAt; rw [if_neg (by omega),Nat.add_sub_cancel_left]
   rw [e,← cT hi] at hb
   exact aJu (by omega)
  have:=aKo (N:=N) (l:=n.Gains) (f:=fY) (ok:=fK) (fun s=>rfl) (by omega) (by omega) (fun s4=>fF N n.Gains s4) (fun _=>rfl)
  rw [hall] at this
  exact this
 have l1:=aEl (ρ:=Int) (fun i:Nat=>(i:Int)) n.Reaches.length (fun s9:Int=>gK N n s9) (by
  intro i hi
  show gK N n (i:Int)=_
  unfold gK
  obtain ⟨a1,a2,a3,a4,a5⟩:=h.re i hi
  have hb:=h.b i (by unfold nW; omega)
  have hs:spA n i=(n.Reaches.getD i rD).Flow:=by unfold spA wAt; rw [if_pos hi]
  rw [hs] at hb
  have c1:bM (n.Reaches.getD i rD).From 0 (W (((n.Gains.length:Nat):Int) - 1))=true:=by
   rw [eH (by omega) (by omega)]
   exact aJd (by omega)
  have c2:bM (n.Reaches.getD i rD).To 0 (W (((n.Gains.length:Nat):Int) - 1))=true:=by
   rw [eH (by omega) (by omega)]
   exact aJd (by omega)
  rw [nF hi,cond_true,cF hi,Option.bind_some,cT (d:=rD) hi,c1,c2,beq_eq_false_iff_ne.2 a5,aJu (by omega),iF (by omega)]
  rfl) (by
  show gK N n (n.Reaches.length:Int)=_
  unfold gK
  rw [nC,cond_false]) (N:=N) (by omega)
 unfold oL
 rw [e1,cond_false,e2,Option.bind_some,Bool.not_true,cond_false]
 have l1':bN (fun s9:Int=>gK N n s9) N 0=_:=l1
 rw [l1',Option.bind_some]
 rfl
structure Fit (n:bC) (l:List aE):Prop where
 ok:WOk (KK n) l
 len:l.length=nW n
 sim:∀ y,Sim (wl l) (wl (jM n y))
 z:∀ p,ovr (wl l) p=0
theorem Fit.sp {n:bC} {l:List aE} (h:Fit n l) {i:Nat} (hi:i < l.length):(spA n i).Lo≤l[i].now∧l[i].now≤(spA n i).Hi:=by
 obtain ⟨-,-,e1,e2⟩:=(h.sim fun _=>0).get i
 have hi2:i < (jM n fun _=>0).length:=by rw [mV,← h.len]; exact hi
 rw [mF hi,mF hi2,rP] at e1 e2
 have:=h.ok.now hi
 have f1:l[i].span.Lo=(wAt n (fun _=>0) i).span.Lo:=e1
 have f2:l[i].span.Hi=(wAt n (fun _=>0) i).span.Hi:=e2
 rw [aAn] at f1 f2
 omega
theorem aH1 {N:Nat} {n:bC} {x:Nat→Int} (h:NOk n x) (hN:50000000≤N):∃ l,mR N n=some (.inr (⟨⟨l,(n.Gains.length:Int)⟩,(n.Reaches.length:Int)⟩,0))∧Fit n l:=by
 have hgl:=h.g
 have hrl:=h.r
 have eK:((KK n:Nat):Int) - 1=(n.Gains.length:Int):=by show ((n.Gains.length + 1:Nat):Int) - 1=_; push_cast; omega
 obtain ⟨l,h1,h2⟩:=aIi (N:=N) (r:=(n.Reaches.length:Int)) h.st hN (h.tru (stN n))
 rw [eK] at h1
 have hfit:Fit n l:=⟨h2.ok,by rw [h2.len,mV],fun y=>h2.sim.trans (aHp n _ y),h2.z⟩
 have hlen:l.length=n.Reaches.length + n.Gains.length:=hfit.len
 have hnl:(pJ l).length=l.length:=by simp [pJ]
 have hng:∀ i (hi:i < l.length),(pJ l)[i]'(by omega)=l[i].now:=fun i hi=>by simp [pJ]
 refine ⟨l,?_,hfit⟩
 have hc:oA N n ⟨(pJ l).take n.Reaches.length,(pJ l).drop n.Reaches.length⟩=some 0:=by
  refine aKc h (by omega) ?_ ?_ (fun i hi=>?_) (fun i hi=>?_)
  ·simp; omega
  ·simp; omega
  ·have:=hfit.sp (i:=i) (by omega)
   have hs:spA n i=(n.Reaches.getD i rD).Flow:=by unfold spA wAt; rw [if_pos hi]
   rw [hs] at this
   have e:((pJ l).take n.Reaches.length).getD i 0=l[i].now:=by
    rw [← cT (by simp; omega),List.getElem_take,hng i (by omega)]
   dsimp only
   rw [e]
   exact this
  ·have:=hfit.sp (i:=n.Reaches.length + i) (by omega)
   have hs:spA n (n.Reaches.length + i)=n.Gains.getD i sD:=by unfold spA wAt; rw [if_neg (by omega),Nat.add_sub_cancel_left]
   rw [hs] at this
   have e:((pJ l).drop n.Reaches.length).getD i 0=l[n.Reaches.length + i].now:=by
    rw [← cT (by simp; omega),List.getElem_drop,hng _ (by omega)]
   dsimp only
   rw [e]
   exact this
 have hset:mQ N n=some (.inr (⟨⟨l,(n.Gains.length:Int)⟩,(n.Reaches.length:Int)⟩,0,0)):=by
  unfold mQ
  rw [aLs h (by omega),Option.bind_some]
  show (Option.bind (mZ N n) _)=_
  rw [aKs h (by omega),Option.bind_some]
  show (Option.bind (hX N (jM n (stN n)) (n.Gains.length:Int) (n.Reaches.length:Int)) _)=_
  rw [h1,Option.bind_some]
  show (Option.bind (iP N ⟨⟨l,(n.Gains.length:Int)⟩,(n.Reaches.length:Int)⟩) _)=_
  rw [aMf hlen hgl.1 (by omega) (by omega),Option.bind_some,hc]
  rfl
 unfold mR
 rw [hset]
 rfl
end Go.Nilo.Ba
namespace Go.Nilo.Ba
theorem aKt {K:Nat} {l:List aE} (h:WOk K l) {i:Nat} (hi:i < l.length) (b:Bool) {n x:Int} (h0:0≤n) (hn:n≤fr (wl l) (i,b)) (hx:x=cond b (l[i].now - n) (l[i].now + n)) :
  wl (l.set i ⟨l[i].from_,l[i].to_,l[i].span,x⟩)=(wl l).set i (((wl l).getD i w0).push b n)∧WOk K (l.set i ⟨l[i].from_,l[i].to_,l[i].span,x⟩):=by
 have key:wl (l.set i ⟨l[i].from_,l[i].to_,l[i].span,x⟩)=(wl l).set i (((wl l).getD i w0).push b n):=by
  rw [mF hi]
  show (l.set i _).map wx=(l.map wx).set i _
  rw [List.map_set]
  congr 1
  subst hx
  rfl
 have hins:InS K ((wl l).set i (((wl l).getD i w0).push b n)):=by
  refine aDq (K:=K) (n:=n) h0 (l:=[(i,b)]) (ws:=wl l) h.i (by simp) ?_
  intro s hs
  rw [List.mem_singleton] at hs
  subst hs
  exact ⟨by simpa using hi,hn⟩
 exact ⟨key,by rw [key]; exact hins,vO hi (P:=fun w=>0≤w.from_∧0≤w.to_) (fun _ _ h=>h) h.p,vO hi (P:=fun w=>-100000≤w.span.Lo∧w.span.Hi≤100000) (fun _ _ h=>h) h.b,by rw [List.length_set]; exact h.n,h.k⟩
def upr (up:Bool) (a b:Int):Prop:=cond up (b≤a) (a≤b)
theorem aIf {N:Nat} {n:bC} {x:Nat→Int} (h:NOk n x) (hN:7000≤N) {l:List aE} (hl:Fit n l) {r:Int} {k:Nat} (hk:k < l.length) (up:Bool) {total:Int} (ht:0≤total∧total≤200000) :
  (eV N (n.Gains.length:Int) r (k:Int) up 100000000 total l=some (.brk (total,l))∧upr up l[k].now (x k)) ∨
  (∃ (m:Int) (l':List aE) (hk':k < l'.length),eV N (n.Gains.length:Int) r (k:Int) up 100000000 total l=some (.cont (total + m,l'))∧Fit n l'∧0 < m∧l'[k].now=cond up (l[k].now + m) (l[k].now - m)):=by
 have hgl:=h.g
 have eK:((KK n:Nat):Int) - 1=(n.Gains.length:Int):=by show ((n.Gains.length + 1:Nat):Int) - 1=_; push_cast; omega
 rw [← eK]
 have hw:=hl.ok
 have hnw:k < nW n:=by rw [← hl.len]; exact hk
 have hsp:=hl.sp hk
 have hxb:=h.b k hnw
 have hT:Tru (KK n) (wl l) (wl (jM n x)):=(h.tru x).sim (hl.sim x)
 have hkw:k < (wl l).length:=by simpa using hk
 have hvx:((wl (jM n x)).getD k w0).x=x k:=by
  rw [mF (by rw [mV]; exact hnw),rP]
  show (wAt n x k).now=x k
  rw [aI8]
 have hwx:((wl l).getD k w0).x=l[k].now:=by rw [mF hk]; rfl
 have htg:tg (wl l) (k,!up) < KK n:=by
  obtain ⟨p1,p2,-⟩:=hw.pl hk
  rw [show tg (wl l) (k,!up)=og (wl l) (k,up) from aK4 (wl l) (k,up),aBb hw hk]
  cases up
  ·exact p1
  ·exact p2
 obtain ⟨mq,O,r1,r2⟩:=aIa (N:=N) (r:=r) (k:=k) hw hN htg
 have hgo:eV N (((KK n:Nat):Int) - 1) r (k:Int) up 100000000 total l=cond ((!((mq ((tg (wl l) (k,up):Nat):Int)).isSome)) || (decide (0 < eA (wl l) (k,!up))))
   (some (.brk (total,l)))
   (Option.bind (fG N l (((KK n:Nat):Int) - 1) r ((tg (wl l) (k,!up):Nat):Int) ((tg (wl l) (k,up):Nat):Int) mq (min (aDy (wl l) (k,!up)) (W (100000000 - total)))) fun r_4=>
    cond up
    (Option.bind (cM r_4.2 (k:Int)) fun e_1=>Option.bind (cM r_4.2 (k:Int)) fun e_2=>dS N total r_4 (r_4.2.set (k:Int).toNat (⟨e_2.from_,e_2.to_,e_2.span,W (e_1.now + r_4.1)⟩:aE)))
    (Option.bind (cM r_4.2 (k:Int)) fun e_3=>Option.bind (cM r_4.2 (k:Int)) fun e_4=>dS N total r_4 (r_4.2.set (k:Int).toNat (⟨e_4.from_,e_4.to_,e_4.span,W (e_3.now - r_4.1)⟩:aE)))):=by
  unfold eV
  rw [show decide (total < 100000000)=true by simp; omega,cond_true,xQ hw hk,Option.bind_some,aHe hw hk,Option.bind_some,aHe hw hk,Option.bind_some,r1,Option.bind_some]
 have efr:fr (wl l) (k,!up)=cond up ((spA n k).Hi - l[k].now) (l[k].now - (spA n k).Lo):=by
  obtain ⟨-,-,e1,e2⟩:=(hl.sim fun _=>0).get k
  have hi2:k < (jM n fun _=>0).length:=by rw [mV]; exact hnw
  rw [mF hk,mF hi2,rP] at e1 e2
  have f1:l[k].span.Lo=(wAt n (fun _=>0) k).span.Lo:=e1
  have f2:l[k].span.Hi=(wAt n (fun _=>0) k).span.Hi:=e2
  rw [aAn] at f1 f2
  show ((wl l).getD k w0).free (!up)=_
  rw [mF hk]
  cases up
  ·show l[k].now - l[k].span.Lo=_
   rw [f1]
   rfl
  ·show l[k].span.Hi - l[k].now=_
   rw [f2]
   rfl
 rw [hgo]
 cases ho:O (tg (wl l) (k,up)) with
 | none=>
  left
  have:mq ((tg (wl l) (k,up):Nat):Int)=none:=by rw [r2.mo,ho]; rfl
  rw [this]
  refine ⟨rfl,?_⟩
  have:=stuck hw.i hT (fun p _=>hl.z p) hkw r2.rs (fun s _ hs hf=>by unfold aG6; rw [decide_eq_true hf,beq_eq_false_iff_ne.2 hs]; rfl) ho
  rw [hvx,hwx] at this
  unfold upr
  cases up
  ·exact this
  ·exact this
 | some v=>
  obtain ⟨c,m,s⟩:=v
  have hmq:mq ((tg (wl l) (k,up):Nat):Int)=some (mkF (c,m,s)):=by rw [r2.mo,ho]; rfl
  rw [hmq]
  show (cond (false || decide (0 < eA (wl l) (k,!up))) _ _=_∧_) ∨ ∃ m l' hk',cond (false || decide (0 < eA (wl l) (k,!up))) _ _=_∧_
  by_cases hf:0 < fr (wl l) (k,!up)
  ·right
   have hp0:eA (wl l) (k,!up)=0:=by unfold eA; rw [if_pos hf]
   have hrm:aDy (wl l) (k,!up)=fr (wl l) (k,!up):=by unfold aDy; rw [if_pos hf]
   have hc:c=0:=r2.rs.zero (fun s hs hcs=>by
    unfold aG6 at hcs
    rw [Bool.and_eq_true] at hcs
    simpa using hcs.1) _ _ _ _ ho
   subst hc
   rw [hp0,hrm,eH (n:=100000000 - total) (by omega) (by omega)]
   obtain ⟨q,l2,m1,m2⟩:=aFf (N:=N) (r:=r) hw (by omega) r2 ho (most:=min (fr (wl l) (k,!up)) (100000000 - total)) (by omega)
   obtain ⟨q0,q1⟩:=m2.pos
   have hk2:k < l2.length:=by rw [m2.len]; exact hk
   have hkeep:=m2.keep k (fun b=>by unfold aG6; simp)
   have hg2:wx l2[k]=wx l[k]:=by rw [← mF hk2,← mF hk]; exact hkeep
   have hnow:l2[k].now=l[k].now:=congrArg Wx.x hg2
   have hfr2:fr (wl l2) (k,!up)=fr (wl l) (k,!up):=by
    show ((wl l2).getD k w0).free _=((wl l).getD k w0).free _
    rw [hkeep]
   obtain ⟨s1,s2⟩:=aKt m2.ok hk2 (!up) (n:=q) (x:=cond up (l[k].now + q) (l[k].now - q)) (by omega) (by rw [hfr2]; omega) (by rw [hnow]; cases up <;> rfl)
   have hfit:Fit n (l2.set k ⟨l2[k].from_,l2[k].to_,l2[k].span,cond up (l[k].now + q) (l[k].now - q)⟩):=by
    refine ⟨s2,by rw [List.length_set,m2.len,hl.len],fun y=>?_,fun p=>?_⟩
    ·rw [s1]
     exact (Sim.set (w:=w0)).trans (m2.sim.trans (hl.sim y))
    ·rw [s1,aDk (by simpa using hk2),m2.ov p,hl.z p]
     have t1:((wl l2).getD k w0).tg (!up)=tg (wl l) (k,!up):=by rw [hkeep]
     have t2:((wl l2).getD k w0).og (!up)=tg (wl l) (k,up):=by
      rw [hkeep]
      show og (wl l) (k,!up)=_
      rw [← aK4]
      dsimp only
      rw [Bool.not_not]
     rw [t1,t2]
     omega
   refine ⟨q,_,by rw [List.length_set]; exact hk2,?_,hfit,q0,by rw [List.getElem_set_self]⟩
   rw [show (false || decide (0 < (0:Int)))=false from rfl,cond_false,m1,Option.bind_some]
   have hj:∀ a:List aE,dS N total (q,l2) a=some (.cont (total + q,a)):=fun a=>by
    unfold dS
    rw [eH (by dsimp only; omega) (by dsimp only; omega)]
   cases up
   ·rw [cond_false,cond_false]
    dsimp only
    rw [cF hk2,Option.bind_some,Option.bind_some,hj,Int.toNat_natCast,hnow,eH (by omega) (by omega)]
   ·rw [cond_true,cond_true]
    dsimp only
    rw [cF hk2,Option.bind_some,Option.bind_some,hj,Int.toNat_natCast,hnow,eH (by omega) (by omega)]
  ·left
   have hp1:eA (wl l) (k,!up)=1:=by unfold eA; rw [if_neg hf]
   rw [hp1]
   refine ⟨rfl,?_⟩
   rw [efr] at hf
   unfold upr
   cases up
   ·rw [cond_false] at hf ⊢; omega
   ·rw [cond_true] at hf ⊢; omega
theorem aE9 {N:Nat} {n:bC} {x:Nat→Int} (h:NOk n x) (hN:300000≤N) {l:List aE} (hl:Fit n l) {r:Int} {k:Nat} (hk:k < l.length) (up:Bool) :
  ∃ (t:Int) (l':List aE) (hk':k < l'.length),fJ N l (n.Gains.length:Int) r (k:Int) up 100000000=some (t,l')∧Fit n l'∧upr up l'[k].now (x k):=by
 have hnw:k < nW n:=by rw [← hl.len]; exact hk
 have hxb:=h.b k hnw
 obtain ⟨z,h1,hkz,h2,h3⟩:=aAc (ρ:=Int × List aE) (f:=fun s6:Int × List aE=>eV N (n.Gains.length:Int) r (k:Int) up 100000000 s6.1 s6.2)
  (fun s=>Fit n s.2∧∃ hk':k < s.2.length,s.1=cond up (s.2[k].now - l[k].now) (l[k].now - s.2[k].now)∧0≤s.1) (fun s=>∃ hk':k < s.2.length,Fit n s.2∧upr up s.2[k].now (x k))
  (fun s=>(200000 - s.1).toNat) (by
  rintro ⟨t,a⟩ ⟨ha,hka,e1,e2⟩
  dsimp only at ha hka e1 e2
  have b1:=ha.sp hka
  have b2:=hl.sp hk
  have ht:t≤200000:=by
   rw [e1]
   cases up
   ·rw [cond_false]; omega
   ·rw [cond_true]; omega
  rcases aIf (N:=N) h (by omega) ha (r:=r) hka up (total:=t) ⟨e2,ht⟩ with ⟨g1,g2⟩ | ⟨m,a',hka',g1,g2,g3,g4⟩
  ·exact .inl ⟨(t,a),g1,hka,ha,g2⟩
  ·right
   refine ⟨(t + m,a'),g1,⟨g2,hka',?_,by dsimp only; omega⟩,?_⟩
   ·dsimp only
    rw [g4,e1]
    cases up
    ·simp only [cond_false]; omega
    ·simp only [cond_true]; omega
   ·have b3:=g2.sp hka'
    have:t + m≤200000:=by
     have:t + m=cond up (a'[k].now - l[k].now) (l[k].now - a'[k].now):=by
      rw [g4,e1]
      cases up
      ·simp only [cond_false]; omega
      ·simp only [cond_true]; omega
     rw [this]
     cases up
     ·rw [cond_false]; omega
     ·rw [cond_true]; omega
    dsimp only
    omega) N (0,l) ⟨hl,hk,by cases up <;> simp,Int.le_refl _⟩ (by dsimp only; omega)
 refine ⟨z.1,z.2,hkz,?_,h2,h3⟩
 unfold fJ
 rw [h1,Option.bind_some]
 show (Option.bind (qD z.2 l) _)=_
 unfold qD
 rw [if_pos (by rw [h2.len,hl.len])]
 rfl
def SpOk (n:bC) (x:Nat→Int) (i:Nat) (s:aF):Prop:=(spA n i).Lo≤s.Lo∧s.Lo≤x i∧x i≤s.Hi∧s.Hi≤(spA n i).Hi
theorem aLd {N:Nat} {n:bC} {x:Nat→Int} (h:NOk n x) (hN:300000≤N) {l:List aE} (hl:Fit n l) {k:Nat} (hk:k < l.length) :
  ∃ s,jG N ⟨⟨l,(n.Gains.length:Int)⟩,(n.Reaches.length:Int)⟩ (k:Int)=some s∧SpOk n x k s:=by
 have hn:=hl.ok.n
 have hcp:hU N ⟨⟨l,(n.Gains.length:Int)⟩,(n.Reaches.length:Int)⟩=some ⟨⟨l,(n.Gains.length:Int)⟩,(n.Reaches.length:Int)⟩:=by
  unfold hU dZ
  show (Option.bind (Option.bind (nQ l.length) fun un=>some l) _)=_
  rw [gY (by omega)]
  rfl
 obtain ⟨t1,a,ha,e1,f1,g1⟩:=aE9 h hN hl (r:=(n.Reaches.length:Int)) hk false
 obtain ⟨t2,b,hb,e2,f2,g2⟩:=aE9 h hN hl (r:=(n.Reaches.length:Int)) hk true
 refine ⟨⟨a[k].now,b[k].now⟩,?_,?_⟩
 ·unfold jG
  rw [hcp,Option.bind_some,Option.bind_some]
  show (Option.bind (fJ N l (n.Gains.length:Int) (n.Reaches.length:Int) (k:Int) false 100000000) fun r_2=>Option.bind (fJ N l (n.Gains.length:Int) (n.Reaches.length:Int) (k:Int) true 100000000) _)=_
  rw [e1,Option.bind_some,e2,Option.bind_some]
  dsimp only
  rw [cF ha,Option.bind_some,cF hb,Option.bind_some]
 ·have b1:=f1.sp ha
  have b2:=f2.sp hb
  exact ⟨b1.1,g1,g2,b2.2⟩
theorem aM2 {N:Nat} {n:bC} {x:Nat→Int} (h:NOk n x) (hN:50000000≤N):∃ fl ga,nA N n=some (fl,ga,0)∧fl.length=n.Reaches.length∧∀ i,i < n.Reaches.length→SpOk n x i (fl.getD i sD):=by
 have hgl:=h.g
 have hrl:=h.r
 obtain ⟨l,e1,hl⟩:=aH1 h hN
 have hlen:=hl.len
 have hnw:nW n=n.Reaches.length + n.Gains.length:=rfl
 obtain ⟨z,h1,h2,h3,h4,h5⟩:=kW (ρ:=List aF × List aF × Int) (fun s13:List aF × List aF × Int=>fV N (⟨⟨l,(n.Gains.length:Int)⟩,(n.Reaches.length:Int)⟩,0) s13.1 s13.2.1 s13.2.2)
  (fun i s=>s.2.2=(i:Int)∧s.1.length=min i n.Reaches.length∧s.2.1.length≤i∧∀ j,j < s.1.length→SpOk n x j (s.1.getD j sD)) l.length (by
  rintro i ⟨fl,ga,z⟩ hi ⟨rfl,f1,f2,f3⟩
  dsimp only at f1 f2 f3
  obtain ⟨s,s1,s2⟩:=aLd (N:=N) h (by omega) hl hi
  show ∃ s',fV N (⟨⟨l,(n.Gains.length:Int)⟩,(n.Reaches.length:Int)⟩,0) fl ga (i:Int)=some (.cont s')∧_
  unfold fV
  show ∃ s',cond (decide ((i:Int) < ((l.length:Nat):Int))) (Option.bind (jG N ⟨⟨l,(n.Gains.length:Int)⟩,(n.Reaches.length:Int)⟩ (i:Int)) fun r_2=>cond (decide ((i:Int) < (n.Reaches.length:Int))) _ _) _=_∧_
  rw [nF hi,cond_true,s1,Option.bind_some]
  have hj:∀ a b,jJ N (i:Int) a b=some (.cont (a,b,((i + 1:Nat):Int))):=fun a b=>by
   unfold jJ
   rw [iF (by omega)]
  by_cases hr:i < n.Reaches.length
  ·rw [nF hr,cond_true,gY (by simp; omega),Option.bind_some,hj]
   refine ⟨_,rfl,rfl,by dsimp only; rw [List.length_append,f1]; simp; omega,by dsimp only; omega,fun j hjl=>?_⟩
   dsimp only at hjl ⊢
   rw [List.length_append,List.length_singleton] at hjl
   by_cases hjf:j < fl.length
   ·rw [jV hjf]
    exact f3 j hjf
   ·obtain rfl:j=fl.length:=by omega
    rw [jS]
    have:fl.length=i:=by omega
    rw [this]
    exact s2
  ·have hd:decide ((i:Int) < (n.Reaches.length:Int))=false:=by simp; omega
   rw [hd,cond_false,gY (by simp; omega),Option.bind_some,hj]
   refine ⟨_,rfl,rfl,by dsimp only; omega,by dsimp only; simp; omega,f3⟩) (by
  rintro ⟨fl,ga,z⟩ ⟨rfl,-⟩
  show fV N (⟨⟨l,(n.Gains.length:Int)⟩,(n.Reaches.length:Int)⟩,0) fl ga (l.length:Int)=_
  unfold fV
  show cond (decide ((l.length:Int) < ((l.length:Nat):Int))) _ _=_
  rw [nC,cond_false]) l.length 0 ([],[],0) N (by omega) (by omega) ⟨rfl,by simp,by simp,fun j hj=>by simp at hj⟩
 refine ⟨z.1,z.2.1,?_,by omega,fun i hi=>h5 i (by omega)⟩
 unfold nA
 rw [e1]
 show (Option.bind (bN (fun s13:List aF × List aF × Int=>fV N (⟨⟨l,(n.Gains.length:Int)⟩,(n.Reaches.length:Int)⟩,0) s13.1 s13.2.1 s13.2.2) N (([]:List aF),([]:List aF),0)) fun x13=>exK x13 (fun s13=>some (s13.1,s13.2.1,(0:Int))) some)=_
 rw [h1]
 rfl
end Go.Nilo.Ba
