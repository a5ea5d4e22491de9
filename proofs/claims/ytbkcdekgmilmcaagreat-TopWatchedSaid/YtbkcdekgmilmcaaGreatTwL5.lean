/-
  What the plain functions compute, in plain arithmetic, part 5. Conditions: what each theorem names.
-/
import Derived.Test.YtbkcdekgmilmcaaGreatTwL4
set_option linter.unusedSimpArgs false
set_option linter.unusedVariables false
namespace Go.Nilo.Wa
theorem aKa {i:Int} {n:Nat} (h0:0≤i) (h1:i < (n:Int)):inR i n=some ():=by unfold inR; rw [if_pos ⟨h0,h1⟩]
def rW (r:aH) (d:aC):Int:=(gA r d).getLastD (-1)
def aGk (r:aH) (d:aC):Int:=((pth r.Down (rW r d)).length:Int)
def aLn (r:aH) (d:aC):Prop:=DmOk r d∧gA r d ≠ []
theorem xX {r:aH} {d:aC} (hne:gA r d ≠ []):rW r d=(gA r d).getLast hne:=by
 unfold rW
 rw [List.getLastD_eq_getLast?,List.getLast?_eq_some_getLast hne]
 rfl
theorem wK {r:aH} (h:pO r) {d:aC} {x:Int} (hx:x ∈ gA r d):ok r.Down x:=(xV h.d _ x (List.mem_filter.1 hx).1).1
theorem tW {r:aH} {d:aC} (hne:gA r d ≠ []):rW r d ∈ gA r d:=by
 rw [xX hne]
 exact List.getLast_mem hne
theorem aEn {r:aH} (h:pO r) {d:aC}:(gA r d).length≤12:=by
 have h1:=(wU h.d d.Spring).2
 have h2:(gA r d).length≤(pth r.Down d.Spring).length:=List.length_filter_le _ _
 have:=h.n
 omega
theorem aIg {r:aH} (h:pO r) {d:aC} (hne:gA r d ≠ []):bE (gA r d) (W (((gA r d).length:Int) - 1))=some (rW r d):=by
 have h1:=aEn h (d:=d)
 have h0:0 < (gA r d).length:=List.length_pos_iff.2 hne
 rw [iU (by omega) (by omega)]
 have e:(((gA r d).length:Nat):Int) - 1=(((gA r d).length - 1:Nat):Int):=by omega
 rw [e,cS (by omega),xX hne,List.getLast_eq_getElem]
theorem aQk {r:aH} (h:pO r) {a b:aC} (ha:gA r a ≠ []) (hb:gA r b ≠ []) (hd:aGk r b≤aGk r a) {q:Int} (hq:q ∈ gA r a) (hq':q ∈ gA r b):rW r a ∈ gA r b:=by
 unfold aGk at hd
 rw [xX ha,xX hb] at hd
 rw [xX ha]
 exact aOb h.d h.lo ha hb (Int.ofNat_le.1 hd) hq hq'
theorem aEz {N:Nat} (hN:60≤N) {r:aH} (h:pO r) {d:aC} (hd:aLn r d):eD N d ⟨r,Fr r⟩=some (aGk r d):=by
 have hn:=h.n
 have hm:=wK h (tW hd.2)
 have hpl:=(wU h.d (rW r d)).2
 unfold eD
 rw [tY hN h hd.1,Option.bind_some,aIg h hd.2,Option.bind_some]
 unfold gW
 rw [Option.bind_some]
 dsimp only
 obtain ⟨z,hz⟩:=vW (N:=N) h.d hn.2 (x1:=⟨r.Down,r.Travel,r.Springs,r.Towns,⟨r.Delay.Lo,r.Delay.Hi⟩,r.Floods⟩) rfl (by omega) (.inr hm) (aB9 (y:=fun (zz:Int) (ix_:(Int × Int))=>iI N zz ix_.1 ix_.2) (fun _ _=>rfl) (pth r.Down (rW r d)) 0 0 (by omega) (by omega))
 rw [hz,Option.bind_some]
 show some (0 + ((pth r.Down (rW r d)).length:Int))=_
 rw [Int.zero_add]
 rfl
theorem cm_ok {r:aH} (h:pO r):Cm (aLn r) (aGk r) ⟨r,Fr r⟩:=by
 intro N a b hN ha hb
 unfold eW
 have h1:eD N b ⟨r,Fr r⟩=some (aGk r b):=aEz (by omega) h hb
 have h2:eD N a ⟨r,Fr r⟩=some (aGk r a):=aEz (by omega) h ha
 show Option.bind (eD N b ⟨r,Fr r⟩) _=_
 rw [h1,Option.bind_some]
 show Option.bind (eD N a ⟨r,Fr r⟩) _=_
 rw [h2]
 rfl
theorem aMg {N:Nat} (hN:70≤N) {r:aH} (h:pO r) (hne:∀ d ∈ iP r,gA r d ≠ []):jG N (iP r) ⟨r,Fr r⟩=some true:=by
 have hl:=aBu h
 have:=aEo (ρ:=Int) (fun i:Nat=>(i:Int)) (iP r).length (fun s4=>bJ N (iP r) ⟨r,Fr r⟩ s4) (fun i hi=>by
  have hm:=List.getElem_mem hi
  unfold bJ
  rw [gD hi,cond_true,cS hi,Option.bind_some]
  have h1:iJ N (iP r)[i] ⟨r,Fr r⟩=some false:=by
   unfold iJ lQ
   have h2:bN N ⟨r,Fr r⟩ (iP r)[i]=some (gA r (iP r)[i]):=tY (by omega) h (zM h hm)
   show Option.bind (Option.bind (bN N ⟨r,Fr r⟩ (iP r)[i]) _) _=_
   rw [h2,Option.bind_some,Option.bind_some]
   have h0:0 < (gA r (iP r)[i]).length:=List.length_pos_iff.2 (hne _ hm)
   rw [dT (show (0:Int) < ((gA r (iP r)[i]).length:Int) by omega)]
   rfl
  rw [h1,Option.bind_some,cond_false,fF (by omega)]) (by
  unfold bJ
  rw [gC,cond_false]) (N:=N) (by omega)
 have h2:aX (fun s4=>bJ N (iP r) ⟨r,Fr r⟩ s4) N 0=some (.go ((iP r).length:Int)):=this
 unfold jG dH dZ
 rw [h2]
 rfl
structure Gr (r:aH) (T:List aC) (Wt:List Int) (A:List aC) (f:Nat→Bool):Prop where
 w:Wt=A.map (rW r)
 s:A.Sublist T
 f:∀ k:Nat,f k=true ↔ (k:Int) ∈ Wt
 c:∀ d ∈ T,∃ w ∈ Wt,w ∈ gA r d
 p:A.Pairwise (fun a b=>rW r a ∉ gA r b)
theorem aM1 {N:Nat} (hN:100≤N) {r:aH} (h:pO r) {R:List aC} (hR:∀ d ∈ R,aLn r d) (hRl:R.length≤64) {i:Nat} (hi:i < R.length) {Wt:List Int} {A:List aC} {f:Nat→Bool} (hg:Gr r (R.take i) Wt A f) :
  ∃ Wt' A' f',fA N ⟨r,Fr r⟩ R Wt A (i:Int) f=some (.cont (Wt',A',((i + 1:Nat):Int),f'))∧Gr r (R.take (i + 1)) Wt' A' f':=by
 have hd:=hR _ (List.getElem_mem hi)
 have hn:=h.n
 have htk:R.take (i + 1)=R.take i++[R[i]]:=List.take_succ_eq_append_getElem hi
 have hal:A.length≤i:=by
  have:=hg.s.length_le
  rw [List.length_take] at this
  omega
 have hwl:Wt.length≤i:=by rw [hg.w,List.length_map]; exact hal
 have hst:bN N ⟨r,Fr r⟩ R[i]=some (gA r R[i]):=tY (by omega) h hd.1
 have hsl:=aEn h (d:=R[i])
 have hmem:∀ x ∈ gA r R[i],ok r.Down x:=fun x hx=>wK h hx
 generalize hq:R[i]=d at *
 have hscan:=aEu (fun e:Int=>if f e.toNat=true then some (bY.cont (Wt,A,((i + 1:Nat):Int),f):bY ((List Int) × (List aC) × Int × (Nat→Bool)) ((List Int) × (List aC) × Bool)) else none) (gA r d) (by omega) (fun s25=>gE N Wt A (i:Int) f (gA r d) s25) (fun j hj=>by
  have ho:=hmem _ (List.getElem_mem hj)
  unfold ok at ho
  unfold gE gF
  rw [gD hj,cond_true,cS hj,Option.bind_some,aKa ho.1 (by omega),Option.bind_some,fF (by omega),fF (by omega)]
  cases f ((gA r d)[j]).toNat <;> rfl) (by
  unfold gE
  rw [gC,cond_false]) (gA r d).length 0 N (by omega) (by omega)
 have hscan':aX (fun s25=>gE N Wt A (i:Int) f (gA r d) s25) N 0=_:=hscan
 rw [List.drop_zero] at hscan'
 unfold fA
 rw [gD hi,cond_true,cS hi,Option.bind_some,hq]
 show ∃ Wt' A' f',Option.bind (bN N ⟨r,Fr r⟩ d) _=_∧_
 rw [hst,Option.bind_some,hscan',Option.bind_some]
 by_cases hex:∃ x ∈ gA r d,f x.toNat=true
 ·obtain ⟨x,hx,hfx⟩:=hex
  have hsome:(gA r d).findSome? (fun e:Int=>if f e.toNat=true then some (bY.cont (Wt,A,((i + 1:Nat):Int),f):bY ((List Int) × (List aC) × Int × (Nat→Bool)) ((List Int) × (List aC) × Bool)) else none)=some (bY.cont (Wt,A,((i + 1:Nat):Int),f)):=by
   cases hfs:(gA r d).findSome? (fun e:Int=>if f e.toNat=true then some (bY.cont (Wt,A,((i + 1:Nat):Int),f):bY ((List Int) × (List aC) × Int × (Nat→Bool)) ((List Int) × (List aC) × Bool)) else none) with
   | none=>
    have:=List.findSome?_eq_none_iff.1 hfs x hx
    rw [if_pos hfx] at this
    cases this
   | some v=>
    obtain ⟨y,hy,hv⟩:=List.exists_of_findSome?_eq_some hfs
    split at hv
    ·rw [← hv]
    ·cases hv
  rw [hsome]
  refine ⟨Wt,A,f,rfl,⟨hg.w,?_,hg.f,?_,hg.p⟩⟩
  ·rw [htk]
   exact hg.s.trans (List.sublist_append_left _ _)
  ·intro d' hd'
   rw [htk] at hd'
   rcases List.mem_append.1 hd' with hd' | hd'
   ·exact hg.c d' hd'
   ·rw [List.mem_singleton.1 hd']
    have ho:=hmem x hx
    unfold ok at ho
    refine ⟨x,?_,hx⟩
    have:=(hg.f x.toNat).1 hfx
    rw [show ((x.toNat:Nat):Int)=x by omega] at this
    exact this
 ·have hnone:(gA r d).findSome? (fun e:Int=>if f e.toNat=true then some (bY.cont (Wt,A,((i + 1:Nat):Int),f):bY ((List Int) × (List aC) × Int × (Nat→Bool)) ((List Int) × (List aC) × Bool)) else none)=none:=by
   rw [List.findSome?_eq_none_iff]
   intro x hx
   rw [if_neg (fun e=>hex ⟨x,hx,e⟩)]
  rw [hnone]
  have hlm:=tW hd.2
  have hlo:=hmem _ hlm
  unfold ok at hlo
  have hno:∀ w ∈ Wt,w ∉ gA r d:=fun w hw hwd=>by
   have ho:=hmem w hwd
   unfold ok at ho
   refine hex ⟨w,hwd,(hg.f w.toNat).2 ?_⟩
   rw [show ((w.toNat:Nat):Int)=w by omega]
   exact hw
  refine ⟨Wt++[rW r d],A++[d],rT f (rW r d).toNat true,?_,⟨?_,?_,?_,?_,?_⟩⟩
  ·show Option.bind (bE (gA r d) (W (((gA r d).length:Int) - 1))) _=_
   rw [aIg h hd.2,Option.bind_some,aKa hlo.1 (by omega),Option.bind_some,kF (by rw [List.length_append]; simp; omega),Option.bind_some,kF (by rw [List.length_append]; simp; omega),Option.bind_some]
   unfold gF
   rw [fF (by omega)]
  ·rw [hg.w,List.map_append]
   rfl
  ·rw [htk]
   exact hg.s.append (List.Sublist.refl _)
  ·intro k
   by_cases hk:k=(rW r d).toNat
   ·subst hk
    rw [aCr]
    simp
    right
    omega
   ·rw [aDz hk,hg.f k,List.mem_append,List.mem_singleton]
    constructor
    ·exact .inl
    ·rintro (hw | hw)
     ·exact hw
     ·exact absurd hw (by omega)
  ·intro d' hd'
   rw [htk] at hd'
   rcases List.mem_append.1 hd' with hd' | hd'
   ·obtain ⟨w,h1,h2⟩:=hg.c d' hd'
    exact ⟨w,List.mem_append_left _ h1,h2⟩
   ·rw [List.mem_singleton.1 hd']
    exact ⟨rW r d,List.mem_append_right _ (List.mem_singleton_self _),hlm⟩
  ·refine List.pairwise_append.2 ⟨hg.p,List.pairwise_singleton _ _,fun a ha b hb=>?_⟩
   rw [List.mem_singleton.1 hb]
   refine hno _ ?_
   rw [hg.w]
   exact List.mem_map_of_mem ha
structure WsOk (r:aH) (Wt:List Int):Prop where
 o:∀ w ∈ Wt,ok r.Down w
 a:Wt.Pairwise (· < ·)
 c:∀ d ∈ iP r,∃ w ∈ Wt,w ∈ gA r d
 p:∀ w ∈ Wt,∃ d ∈ iP r,w ∈ gA r d∧∀ w' ∈ Wt,w' ∈ gA r d→w'=w
theorem aI8 {N:Nat} (hN:600≤N) {r:aH} (h:pO r) (hne:∀ d ∈ iP r,gA r d ≠ []):∃ Wt,pG N r=some (Wt,0)∧WsOk r Wt:=by
 have hl:=aBu h
 have hG:∀ d ∈ iP r,aLn r d:=fun d hd=>⟨zM h hd,hne d hd⟩
 obtain ⟨R,s1,s2,s3⟩:=aK6 (cm_ok h) hN hG hl
 have hRG:∀ d ∈ R,aLn r d:=fun d hd=>hG d (s2.mem_iff.1 hd)
 have hRl:R.length≤64:=by rw [s2.length_eq]; exact hl
 obtain ⟨⟨Wt,A,z,f⟩,g1,rfl,g3⟩:=qA (ρ:=(List Int) × (List aC) × Bool) (fun s15=>fA N ⟨r,Fr r⟩ R s15.1 s15.2.1 s15.2.2.1 s15.2.2.2) (fun i s=>s.2.2.1=(i:Int)∧Gr r (R.take i) s.1 s.2.1 s.2.2.2) R.length (by
  rintro i ⟨Wt,A,z,f⟩ hi ⟨rfl,hg⟩
  obtain ⟨Wt',A',f',k1,k2⟩:=aM1 (N:=N) (by omega) h hRG hRl hi hg
  exact ⟨(Wt',A',((i + 1:Nat):Int),f'),k1,rfl,k2⟩) (by
  rintro ⟨Wt,A,z,f⟩ ⟨rfl,hg⟩
  show fA N ⟨r,Fr r⟩ R Wt A (R.length:Int) f=_
  unfold fA
  rw [gC,cond_false]) R.length 0 ([],[],0,fun _=>false) N (by omega) (by omega) ⟨rfl,rfl,List.nil_sublist _,fun k=>by simp,fun d hd=>by simp at hd,List.Pairwise.nil⟩
 dsimp only at g3
 rw [List.take_length] at g3
 -- the sorted watches
 have hAG:∀ d ∈ A,aLn r d:=fun d hd=>hRG d (g3.s.subset hd)
 have hAd:A.Pairwise (fun a b=>aGk r b≤aGk r a):=s3.sublist g3.s
 have hboth:A.Pairwise (fun a b=>rW r a ∉ gA r b∧rW r b ∉ gA r a):=by
  have hab:=List.Pairwise.and_mem.1 (hAd.and g3.p)
  refine hab.imp (fun {a b} hq=>?_)
  obtain ⟨ha,hb,hq1,hq2⟩:=hq
  refine ⟨hq2,fun hq3=>hq2 ?_⟩
  exact aQk h (hAG a ha).2 (hAG b hb).2 hq1 hq3 (tW (hAG b hb).2)
 have hnd:Wt.Nodup:=by
  rw [g3.w,List.nodup_iff_pairwise_ne,List.pairwise_map]
  have hab:=List.Pairwise.and_mem.1 hboth
  refine hab.imp (fun {a b} hq he=>?_)
  obtain ⟨ha,hb,hq1,hq2⟩:=hq
  rw [he] at hq1
  exact hq1 (tW (hAG b hb).2)
 have hWl:Wt.length≤64:=by
  rw [g3.w,List.length_map]
  have:=g3.s.length_le
  omega
 have hperm:(Wt.mergeSort fun x y=>decide (x≤y)).Perm Wt:=List.mergeSort_perm _ _
 have hmem:∀ w,w ∈ (Wt.mergeSort fun x y=>decide (x≤y)) ↔ w ∈ Wt:=fun w=>hperm.mem_iff
 have hwD:∀ w ∈ Wt,∃ d ∈ A,w=rW r d:=fun w hw=>by
  rw [g3.w] at hw
  obtain ⟨d,hd,e⟩:=List.mem_map.1 hw
  exact ⟨d,hd,e.symm⟩
 refine ⟨Wt.mergeSort fun x y=>decide (x≤y),?_,⟨?_,?_,?_,?_⟩⟩
 ·have hf:jQ N ⟨r,Fr r⟩=some (Wt.mergeSort (fun x y=>decide (x≤y)),A,true):=by
   unfold jQ
   rw [wW (by omega) h,Option.bind_some,aMg (by omega) h hne,Option.bind_some,Bool.not_true,cond_false,s1,Option.bind_some,g1,Option.bind_some,exK_at]
   unfold mC aKc
   dsimp only
   rw [if_pos (by omega)]
   rfl
  unfold pG
  rw [opened_ok (by omega) h,Option.bind_some]
  show Option.bind (jQ N ⟨r,Fr r⟩) _=_
  rw [hf]
  rfl
 ·intro w hw
  obtain ⟨d,hd,rfl⟩:=hwD w ((hmem w).1 hw)
  exact wK h (tW (hAG d hd).2)
 ·have hs:(Wt.mergeSort fun x y=>decide (x≤y)).Pairwise (fun x y=>x≤y):=by
   have:=List.pairwise_mergeSort (le:=fun x y:Int=>decide (x≤y)) (fun a b c h1 h2=>by simp at h1 h2 ⊢; omega) (fun a b=>by simp; omega) Wt
   exact this.imp (fun {a b} hq=>by simpa using hq)
  have hn2:(Wt.mergeSort fun x y=>decide (x≤y)).Pairwise (· ≠ ·):=List.nodup_iff_pairwise_ne.1 (hperm.nodup_iff.2 hnd)
  exact (hs.and hn2).imp (fun {a b} hq=>by obtain ⟨h1,h2⟩:=hq; omega)
 ·intro d hd
  obtain ⟨w,h1,h2⟩:=g3.c d (s2.mem_iff.2 hd)
  exact ⟨w,(hmem w).2 h1,h2⟩
 ·intro w hw
  obtain ⟨d,hd,rfl⟩:=hwD w ((hmem w).1 hw)
  refine ⟨d,s2.mem_iff.1 (g3.s.subset hd),tW (hAG d hd).2,fun w' hw' hwd=>?_⟩
  obtain ⟨d',hd',rfl⟩:=hwD w' ((hmem w').1 hw')
  obtain ⟨i,hi,rfl⟩:=List.getElem_of_mem hd
  obtain ⟨j,hj,rfl⟩:=List.getElem_of_mem hd'
  rcases Nat.lt_trichotomy i j with hij | hij | hij
  ·have:=(List.pairwise_iff_getElem.1 hboth i j hi hj hij).2
   exact absurd hwd this
  ·subst hij
   rfl
  ·have:=(List.pairwise_iff_getElem.1 hboth j i hj hi hij).1
   exact absurd hwd this
end Go.Nilo.Wa
namespace Go.Nilo.Wa
theorem aEq {α:Type} {l:List α} {p:α→Bool} {b:Int→Option (bY Int Int)} (hb:∀ (i:Nat) (h:i < l.length),b (i:Int)=some (cond (p l[i]) (.ret (i:Int)) (.cont ((i + 1:Nat):Int)))) (he:b (l.length:Int)=some (.brk (l.length:Int))) :
  ∀ (m i N:Nat),i + m=l.length→m < N→(∀ j (h:j < l.length),j < i→p l[j]=false)→(∃ k,∃ h:k < l.length,aX b N (i:Int)=some (.out (k:Int))∧p l[k]=true∧∀ j (h:j < l.length),j < k→p l[j]=false) ∨ (aX b N (i:Int)=some (.go (l.length:Int))∧∀ x ∈ l,p x=false)
 | m,i,0,_,h,_=>by omega
 | 0,i,N + 1,hi,_,hp=>by
  right
  obtain rfl:i=l.length:=by omega
  unfold aX
  rw [he]
  exact ⟨rfl,fun x hx=>by obtain ⟨j,hj,rfl⟩:=List.getElem_of_mem hx; exact hp j hj hj⟩
 | m + 1,i,N + 1,hi,hN,hp=>by
  have hil:i < l.length:=by omega
  unfold aX
  rw [hb i hil]
  cases hpi:p l[i] with
  | true=>exact .inl ⟨i,hil,rfl,hpi,hp⟩
  | false=>exact aEq hb he m (i + 1) N (by omega) (by omega) (fun j hj hji=>by
    by_cases e:j=i
    ·subst e; exact hpi
    ·exact hp j hj (by omega))
theorem aEi {α ρ:Type} {l:List α} {p:α→Bool} {b:List α × Int × Int→Option (bY (List α × Int × Int) ρ)}
  (hb:∀ (s:List α) (i j:Nat) (e:α),s.length=l.length→i < j→j < l.length→s[j]?=some e→e ∈ l→b (s,(i:Int),(j:Int))=some (.cont (cond (p e) (s,(i:Int),((j + 1:Nat):Int)) (s.set i e,((i + 1:Nat):Int),((j + 1:Nat):Int)))))
  (he:∀ (s:List α) (i:Nat),s.length=l.length→b (s,(i:Int),(l.length:Int))=some (.brk (s,(i:Int),(l.length:Int)))) :
  ∀ (m j i N:Nat) (s:List α),j + m=l.length→m < N→i < j→s.length=l.length→s.take i=(l.take j).filter (fun x=>!p x)→s.drop j=l.drop j →
   ∃ s' i',aX b N (s,(i:Int),(j:Int))=some (.go (s',((i':Nat):Int),(l.length:Int)))∧s'.length=l.length∧i' < l.length∧s'.take i'=l.filter (fun x=>!p x)
 | m,j,i,0,s,_,h,_,_,_,_=>by omega
 | 0,j,i,N + 1,s,hj,_,hij,hs,h1,h2=>by
  obtain rfl:j=l.length:=by omega
  unfold aX
  rw [he s i hs]
  exact ⟨s,i,rfl,hs,hij,by rw [h1,List.take_length]⟩
 | m + 1,j,i,N + 1,s,hj,hN,hij,hs,h1,h2=>by
  have hjl:j < l.length:=by omega
  have hsj:s[j]?=some l[j]:=by
   have:(s.drop j)[0]?=(l.drop j)[0]?:=by rw [h2]
   simpa [hjl] using this
  have htk:l.take (j + 1)=l.take j++[l[j]]:=List.take_succ_eq_append_getElem hjl
  have hdr:s.drop (j + 1)=l.drop (j + 1):=by
   have:=congrArg (List.drop 1) h2
   rw [List.drop_drop,List.drop_drop] at this
   exact this
  unfold aX
  rw [hb s i j l[j] hs hij hjl hsj (List.getElem_mem hjl)]
  cases hp:p l[j] with
  | true=>
   simp only [cond_true]
   refine aEi hb he m (j + 1) i N s (by omega) (by omega) (by omega) hs ?_ hdr
   rw [htk,List.filter_append,h1]
   simp [hp]
  | false=>
   simp only [cond_false]
   refine aEi hb he m (j + 1) (i + 1) N (s.set i l[j]) (by omega) (by omega) (by omega) (by rw [List.length_set]; exact hs) ?_ ?_
   ·rw [htk,List.filter_append,← h1,List.take_succ_eq_append_getElem (by rw [List.length_set]; omega),List.take_set_of_le (Nat.le_refl i)]
    simp [hp]
   ·rw [List.drop_set_of_lt (by omega)]
    exact hdr
theorem aKy {α:Type} {l:List α} {p:α→Bool} {b0:Int→Option (bY Int Int)} {b:List α × Int × Int→Option (bY (List α × Int × Int) (List α))} {N:Nat} (hN:l.length < N) (hl:l.length≤1000)
  (hb0:∀ (i:Nat) (h:i < l.length),b0 (i:Int)=some (cond (p l[i]) (.ret (i:Int)) (.cont ((i + 1:Nat):Int)))) (he0:b0 (l.length:Int)=some (.brk (l.length:Int)))
  (hb:∀ (s:List α) (i j:Nat) (e:α),s.length=l.length→i < j→j < l.length→s[j]?=some e→e ∈ l→b (s,(i:Int),(j:Int))=some (.cont (cond (p e) (s,(i:Int),((j + 1:Nat):Int)) (s.set i e,((i + 1:Nat):Int),((j + 1:Nat):Int)))))
  (he:∀ (s:List α) (i:Nat),s.length=l.length→b (s,(i:Int),(l.length:Int))=some (.brk (s,(i:Int),(l.length:Int)))) :
  (Option.bind (Option.bind (aX b0 N 0) fun x4=>exK x4 (fun _=>some (-1)) some) fun r=>cond (r == (-1)) (some l) (Option.bind (aX b N (l,r,W (r + 1))) fun x8=>exK x8 (fun s8=>Option.bind (rH s8.1 s8.2.1 ((s8.1.length:Nat):Int)) fun sub=>Option.bind (aGy sub.length) fun _=>Option.bind (rH s8.1 0 s8.2.1) fun sub_1=>some sub_1) some))=some (l.filter fun x=>!p x):=by
 rcases aEq hb0 he0 l.length 0 N (by omega) hN (fun j _ hj=>absurd hj (Nat.not_lt_zero _)) with ⟨k,hk,a1,a2,a3⟩ | ⟨a1,a2⟩
 ·have a1':aX b0 N 0=some (.out (k:Int)):=a1
  rw [a1',Option.bind_some]
  have hp:l.take k=(l.take k).filter (fun x=>!p x):=by
   symm
   rw [List.filter_eq_self]
   intro x hx
   obtain ⟨j,hj,rfl⟩:=List.getElem_of_mem hx
   rw [List.length_take] at hj
   rw [List.getElem_take,a3 j (by omega) (by omega)]
   rfl
  have hp2:l.take k=(l.take (k + 1)).filter (fun x=>!p x):=by
   rw [List.take_succ_eq_append_getElem hk,List.filter_append,← hp]
   simp [a2]
  obtain ⟨s,i,c1,c2,c3,c4⟩:=aEi hb he (l.length - (k + 1)) (k + 1) k N l (by omega) (by omega) (by omega) rfl hp2 rfl
  show cond ((k:Int) == (-1)) (some l) _=_
  have e1:((k:Int) == (-1))=false:=by rw [beq_eq_false_iff_ne]; omega
  rw [e1,fF (by omega),c1]
  simp only [cond_false]
  rw [Option.bind_some,exK_at]
  dsimp only
  have s1:rH s (i:Int) ((s.length:Nat):Int)=some (s.drop i):=by
   unfold rH
   rw [if_pos (by omega)]
   congr 1
   apply List.take_of_length_le
   rw [List.length_drop]
   omega
  have s2:rH s 0 (i:Int)=some (s.take i):=by
   unfold rH
   rw [if_pos (by omega)]
   simp
  have s3:aGy (s.drop i).length=some ():=by
   unfold aGy
   rw [if_pos (by rw [List.length_drop]; omega)]
  rw [s1,Option.bind_some,s3,Option.bind_some,s2,Option.bind_some,c4]
 ·have a1':aX b0 N 0=some (.go (l.length:Int)):=a1
  rw [a1',Option.bind_some,exK_at,Option.bind_some]
  show some l=_
  congr 1
  symm
  rw [List.filter_eq_self]
  intro x hx
  rw [a2 x hx]
  rfl
theorem aL8 {N:Nat} {r2:Int × Int × (Int × Int→Option (List Int)) × Int} {Wt:List Int} (hl:Wt.length < N) (hl':Wt.length≤1000) (ho:∀ w ∈ Wt,0≤w∧w < 12) :
  ∃ f,lZ N Wt r2 0=some (.inr (r2.1,r2.2.1,r2.2.2.1,f,0))∧∀ k:Nat,f k=true ↔ (k:Int) ∈ Wt:=by
 obtain ⟨⟨z,f⟩,g1,rfl,g2⟩:=qA (ρ:=((Nat→Bool) × Int) ⊕ (Int × Int × (Int × Int→Option (List Int)) × (Nat→Bool) × Int)) (fun s23:Int × (Nat→Bool)=>kU N Wt s23.1 s23.2) (fun i s=>s.1=(i:Int)∧∀ k:Nat,s.2 k=true ↔ (k:Int) ∈ Wt.take i) Wt.length (by
  rintro i ⟨z,f⟩ hi ⟨rfl,hf⟩
  dsimp only at hf
  have hw:=ho _ (List.getElem_mem hi)
  refine ⟨(((i + 1:Nat):Int),rT f (Wt[i]).toNat true),?_,rfl,fun k=>?_⟩
  ·show kU N Wt (i:Int) f=_
   unfold kU
   rw [gD hi,cond_true,cS hi,Option.bind_some,aKa hw.1 (by omega),Option.bind_some,fF (by omega)]
  ·dsimp only
   rw [List.take_succ_eq_append_getElem hi,List.mem_append,List.mem_singleton]
   by_cases hk:k=(Wt[i]).toNat
   ·subst hk
    rw [aCr]
    simp
    right
    omega
   ·rw [aDz hk,hf k]
    constructor
    ·exact .inl
    ·rintro (hq | hq)
     ·exact hq
     ·exact absurd hq (by omega)) (by
  rintro ⟨z,f⟩ ⟨rfl,-⟩
  show kU N Wt (Wt.length:Int) f=_
  unfold kU
  rw [gC,cond_false]) Wt.length 0 (0,fun _=>false) N (by omega) hl ⟨rfl,fun k=>by simp⟩
 dsimp only at g2
 rw [List.take_length] at g2
 refine ⟨f,?_,g2⟩
 unfold lZ
 show Option.bind (aX _ N (0,fun _=>false)) _=_
 rw [g1]
 rfl
def srv (r:aH) (f:Nat→Bool) (d:aC):Bool:=(gA r d).any fun s=>f s.toNat
theorem aH6 {N:Nat} (hN:60≤N) {r:aH} (h:pO r) {d:aC} (hd:DmOk r d) {f:Nat→Bool}:qO N d ⟨r,Fr r⟩ f=some (srv r f d):=by
 have hsl:=aEn h (d:=d)
 have hn:=h.n
 unfold qO
 have hst:bN N ⟨r,Fr r⟩ d=some (gA r d):=tY hN h hd
 show Option.bind (bN N ⟨r,Fr r⟩ d) _=_
 rw [hst,Option.bind_some]
 unfold gH iO srv
 rcases aEq (l:=gA r d) (p:=fun s=>f s.toNat) (b:=fun s4=>cY N (gA r d) f s4) (fun i hi=>by
  have ho:=wK h (List.getElem_mem hi)
  unfold ok at ho
  unfold cY sG
  rw [gD hi,cond_true,cS hi,Option.bind_some,aKa ho.1 (by omega),Option.bind_some,Option.bind_some,fF (by omega)]
  cases f ((gA r d)[i]).toNat <;> rfl) (by
  unfold cY
  rw [gC,cond_false]) (gA r d).length 0 N (by omega) (by omega) (fun j _ hj=>absurd hj (Nat.not_lt_zero _)) with ⟨k,hk,a1,a2,a3⟩ | ⟨a1,a2⟩
 ·have a1':aX (fun s4=>cY N (gA r d) f s4) N 0=some (.out (k:Int)):=a1
  rw [a1',List.any_eq_true.2 ⟨_,List.getElem_mem hk,a2⟩]
  show Option.bind (some (decide (0≤(k:Int)))) _=_
  rw [dT (by omega)]
  rfl
 ·have a1':aX (fun s4=>cY N (gA r d) f s4) N 0=some (.go ((gA r d).length:Int)):=a1
  rw [a1',List.any_eq_false.2 (fun x hx=>by rw [a2 x hx]; decide)]
  rfl
theorem aOh {N:Nat} (hN:100≤N) {r:aH} (h:pO r) {Wt:List Int} (ho:∀ w ∈ Wt,ok r.Down w) (ha:Wt.Pairwise (· < ·)) (hl:Wt.length≤20) :
  ∃ D,sD N r Wt=some (D,0)∧∀ d,d ∈ D ↔ d ∈ iP r∧∀ w ∈ Wt,w ∉ gA r d:=by
 have hn:=h.n
 have hdl:=aBu h
 obtain ⟨f,f1,f2⟩:=aL8 (N:=N) (r2:=(r.Delay.Lo,r.Delay.Hi,Fr r,0)) (Wt:=Wt) (by omega) (by omega) (fun w hw=>by have:=ho w hw; unfold ok at this; omega)
 have hp:sN N r Wt=some (.inr (r.Delay.Lo,r.Delay.Hi,Fr r,f,0)):=by
  unfold sN
  rw [opened_ok (by omega) h,Option.bind_some]
  show Option.bind (Option.bind (mS N Wt (r.Down.length:Int)) _) _=_
  rw [aFn (by omega) (by omega) (by omega) (fun x hx=>ho x hx) ha]
  exact f1
 have hdel:bT N (iP r) ⟨r,Fr r⟩ f=some ((iP r).filter fun x=>!srv r f x):=by
  unfold bT dW
  exact aKy (l:=iP r) (p:=srv r f) (b0:=fun s4=>cA N (iP r) ⟨r,Fr r⟩ f s4) (b:=fun s8=>cI N ⟨r,Fr r⟩ f s8.1 s8.2.1 s8.2.2) (by omega) (by omega) (fun i hi=>by
   unfold cA
   rw [gD hi,cond_true,cS hi,Option.bind_some,aH6 (by omega) h (zM h (List.getElem_mem hi)),Option.bind_some,fF (by omega)]
   cases srv r f (iP r)[i] <;> rfl) (by
   unfold cA
   rw [gC,cond_false]) (fun s i j e hs hij hj hse he=>by
   obtain ⟨hjs,hje⟩:=List.getElem?_eq_some_iff.1 hse
   dsimp only
   unfold cI cD
   rw [gD hjs,cond_true,cS hjs,Option.bind_some,hje,aH6 (by omega) h (zM h he),Option.bind_some,cS (show i < s.length by omega),Option.bind_some,fF (by omega),fF (by omega),Int.toNat_natCast]
   cases srv r f e <;> rfl) (fun s i hs=>by
   dsimp only
   unfold cI
   rw [← hs,gC,cond_false])
 refine ⟨(iP r).filter fun x=>!srv r f x,?_,fun d=>?_⟩
 ·unfold sD
  rw [hp,Option.bind_some]
  show Option.bind (eN N ⟨r,Fr r⟩) _=_
  rw [wW (by omega) h,Option.bind_some]
  show Option.bind (bT N (iP r) ⟨r,Fr r⟩ f) _=_
  rw [hdel]
  rfl
 ·rw [List.mem_filter]
  refine and_congr_right fun hd=>?_
  unfold srv
  rw [Bool.not_eq_true',List.any_eq_false]
  constructor
  ·intro hq w hw hwd
   have ho':=wK h hwd
   unfold ok at ho'
   refine hq w hwd ((f2 w.toNat).2 ?_)
   rw [show ((w.toNat:Nat):Int)=w by omega]
   exact hw
  ·intro hq x hx hfx
   have ho':=wK h hx
   unfold ok at ho'
   have:=(f2 x.toNat).1 hfx
   rw [show ((x.toNat:Nat):Int)=x by omega] at this
   exact hq x this hx
end Go.Nilo.Wa
namespace Go.Nilo.Wa
def aLa (n:Nat) (l:List Int):Prop:=l.length=n∧l.Nodup∧∀ x ∈ l,0≤x∧x < (n:Int)
theorem aK9 {N:Nat} (hN:100≤N) {orders:List Int} (hb:rX orders) {more:Int} {r4:(List Int) × Int} {k:Nat} (hk:k≤12) (hw:r4.1.length≤8)
  (hke:W (((r4.1.length:Nat):Int) + ((W (more)).tmod (W ((W (12 - ((r4.1.length:Nat):Int))) + 1))))=(k:Int)) :
  ∃ u m L,aX (fun s15=>gT N orders more r4 s15.1 s15.2.1 s15.2.2.1 s15.2.2.2) N (0,0,0,[])=some (.go ((k:Int),u,m,L))∧L.length=k∧(∀ l ∈ L,aLa r4.1.length l)∧SOk u m 200:=by
 obtain ⟨⟨z,u,m,L⟩,f1,rfl,f2,f3,f4⟩:=qA (ρ:=Bool) (fun s15=>gT N orders more r4 s15.1 s15.2.1 s15.2.2.1 s15.2.2.2) (fun i s=>s.1=(i:Int)∧s.2.2.2.length=i∧(∀ l ∈ s.2.2.2,aLa r4.1.length l)∧SOk s.2.1 s.2.2.1 (12 * i)) k (by
  rintro i ⟨z,u,m,L⟩ hi ⟨rfl,h1,h2,h3⟩
  dsimp only at h1 h2 h3
  obtain ⟨out,u',m',k',a1,a2,a3,a4,a5,a6⟩:=aIc (N:=N) (by omega) hb (k:=12 * i) (n:=r4.1.length) (by omega) (by omega) h3
  refine ⟨(((i + 1:Nat):Int),u',m',L++[out]),?_,rfl,by dsimp only; rw [List.length_append,h1]; rfl,fun l hl=>?_,mono a2 (by omega)⟩
  ·show gT N orders more r4 (i:Int) u m L=_
   unfold gT
   rw [hke,gD hi,cond_true,a1,Option.bind_some,kF (by rw [List.length_append,h1]; simp; omega),Option.bind_some,fF (by omega)]
  ·rcases List.mem_append.1 hl with hl | hl
   ·exact h2 l hl
   ·rw [List.mem_singleton.1 hl]
    exact ⟨a4,a5,a6⟩) (by
  rintro ⟨z,u,m,L⟩ ⟨rfl,-⟩
  show gT N orders more r4 (k:Int) u m L=_
  unfold gT
  rw [hke,gC,cond_false]) k 0 (0,0,0,[]) N (by omega) (by omega) ⟨rfl,rfl,fun l hl=>(List.not_mem_nil hl).elim,⟨by decide,by decide,by decide,by decide⟩⟩
 exact ⟨u,m,L,f1,f2,f3,mono f4 (by omega)⟩
theorem aHu {N:Nat} (hN:100≤N) {orders:List Int} (hb:rX orders) {more:Int} {r4:(List Int) × Int} {k:Nat} (hk:k≤12) (hw:r4.1.length≤8) {u0 m0:Int} (hs:SOk u0 m0 200)
  (hke:W (((r4.1.length:Nat):Int) + ((W (more)).tmod (W ((W (12 - ((r4.1.length:Nat):Int))) + 1))))=(k:Int)) :
  ∃ u m L,aX (fun s18=>gQ N orders more r4 s18.1 s18.2.1 s18.2.2.1 s18.2.2.2) N (0,u0,m0,[])=some (.go ((r4.1.length:Int),u,m,L))∧L.length=r4.1.length∧(∀ x ∈ L,x.Places=1∧aLa k x.Order)∧SOk u m 400:=by
 obtain ⟨⟨z,u,m,L⟩,f1,rfl,f2,f3,f4⟩:=qA (ρ:=Bool) (fun s18=>gQ N orders more r4 s18.1 s18.2.1 s18.2.2.1 s18.2.2.2) (fun i s=>s.1=(i:Int)∧s.2.2.2.length=i∧(∀ x ∈ s.2.2.2,x.Places=1∧aLa k x.Order)∧SOk s.2.1 s.2.2.1 (200 + 12 * i)) r4.1.length (by
  rintro i ⟨z,u,m,L⟩ hi ⟨rfl,h1,h2,h3⟩
  dsimp only at h1 h2 h3
  obtain ⟨out,u',m',k',a1,a2,a3,a4,a5,a6⟩:=aIc (N:=N) (by omega) hb (k:=200 + 12 * i) (n:=k) (by omega) (by omega) h3
  refine ⟨(((i + 1:Nat):Int),u',m',L++[⟨1,out⟩]),?_,rfl,by dsimp only; rw [List.length_append,h1]; rfl,fun l hl=>?_,mono a2 (by omega)⟩
  ·show gQ N orders more r4 (i:Int) u m L=_
   unfold gQ
   rw [hke,gD hi,cond_true,a1,Option.bind_some,kF (by rw [List.length_append,h1]; simp; omega),Option.bind_some,fF (by omega)]
  ·rcases List.mem_append.1 hl with hl | hl
   ·exact h2 l hl
   ·rw [List.mem_singleton.1 hl]
    exact ⟨rfl,a4,a5,a6⟩) (by
  rintro ⟨z,u,m,L⟩ ⟨rfl,-⟩
  show gQ N orders more r4 (r4.1.length:Int) u m L=_
  unfold gQ
  rw [gC,cond_false]) r4.1.length 0 (0,u0,m0,[]) N (by omega) (by omega) ⟨rfl,rfl,fun l hl=>(List.not_mem_nil hl).elim,hs⟩
 exact ⟨u,m,L,f1,f2,f3,mono f4 (by omega)⟩
theorem aLi {N:Nat} (hN:100≤N) {r4 r6:(List Int) × Int} (hw:r4.1.length≤8) (h6:r6.1.length≤12) (hall:∀ i:Nat,i < r4.1.length→(i:Int) ∈ r6.1) :
  aX (fun s26=>gS N r4 r6 s26.1 s26.2) N ([],0)=some (.go (r4.1,(r4.1.length:Int))):=by
 have:=aEo (ρ:=Bool) (fun i:Nat=>(r4.1.take i,(i:Int))) r4.1.length (fun s26=>gS N r4 r6 s26.1 s26.2) (fun i hi=>by
  show gS N r4 r6 (r4.1.take i) (i:Int)=_
  unfold gS lL
  rw [gD hi,cond_true,cS hi,Option.bind_some,aEy (by omega) (by omega),Option.bind_some,List.contains_iff_mem.2 (hall i hi),cond_true,kF (by rw [List.length_append,List.length_take]; simp; omega),Option.bind_some,fF (by omega),List.take_succ_eq_append_getElem hi]) (by
  show gS N r4 r6 _ (r4.1.length:Int)=_
  unfold gS
  rw [gC,cond_false]) (N:=N) (by omega)
 rw [List.take_length] at this
 exact this
theorem aN7 {N:Nat} {l:List Int} (hl:l.length < N) (hl':l.length≤1000):mI N l l=some true:=by
 unfold mI
 have e:((((l.length:Nat):Int)) != ((l.length:Nat):Int))=false:=by simp
 rw [e,cond_false,aM5 l (by omega) (fun s7=>oC N l l s7) (fun i hi=>by
  unfold oC
  rw [gD hi,cond_true,cS hi,Option.bind_some,Option.bind_some,fF (by omega)]
  have:(l[i] != l[i])=false:=by simp
  rw [this]
  rfl) (by
  unfold oC
  rw [gC,cond_false]) hl]
 rfl
theorem aLl {N:Nat} {l:List Int} {d:Int} (hN:l.length < N) (hl:l.length≤1000):gP N l d=some (l.filter fun x=>!(x == d)):=by
 unfold gP iE
 exact aKy (l:=l) (p:=fun x=>x == d) (b0:=fun s4=>eR N l d s4) (b:=fun s8=>fI N d s8.1 s8.2.1 s8.2.2) hN hl (fun i hi=>by
  unfold eR iX
  rw [gD hi,cond_true,cS hi,Option.bind_some,fF (by omega)]
  cases l[i] == d <;> rfl) (by
  unfold eR
  rw [gC,cond_false]) (fun s i j e hs hij hj hse he=>by
  obtain ⟨hjs,hje⟩:=List.getElem?_eq_some_iff.1 hse
  dsimp only
  unfold fI eZ iX
  rw [gD hjs,cond_true,cS hjs,Option.bind_some,hje,cS (show i < s.length by omega),Option.bind_some,fF (by omega),fF (by omega),Int.toNat_natCast]
  cases e == d <;> rfl) (fun s i hs=>by
  dsimp only
  unfold fI
  rw [← hs,gC,cond_false])
theorem aI7 {N:Nat} (hN:100≤N) {L:List (List Int)} {r9:Int × Int × Int} (hL:L.length≤12) (hl:∀ l ∈ L,l.length≤12) :
  aX (fun s34=>gN N L r9 s34.1 s34.2) N (L,0)=some (.go (L.map fun l=>l.filter fun x=>!(x == r9.1),(L.length:Int))):=by
 have:=aEo (ρ:=Bool) (fun i:Nat=>((L.take i).map (fun l=>l.filter fun x=>!(x == r9.1))++L.drop i,(i:Int))) L.length (fun s34=>gN N L r9 s34.1 s34.2) (fun i hi=>by
  show gN N L r9 ((L.take i).map (fun l=>l.filter fun x=>!(x == r9.1))++L.drop i) (i:Int)=_
  have hli:=hl _ (List.getElem_mem hi)
  have hd:L.drop i=L[i]::L.drop (i + 1):=List.drop_eq_getElem_cons hi
  have hln:((L.take i).map (fun l=>l.filter fun x=>!(x == r9.1))).length=i:=by rw [List.length_map,List.length_take]; omega
  have hg:bE ((L.take i).map (fun l=>l.filter fun x=>!(x == r9.1))++L[i]::L.drop (i + 1)) (i:Int)=some L[i]:=rE (by rw [hln])
  unfold gN
  rw [gD hi,cond_true,hd,hg,Option.bind_some]
  unfold pL
  rw [kF (by omega),Option.bind_some,Option.bind_some,aLl (by omega) (by omega),Option.bind_some,Option.bind_some,fF (by omega),Int.toNat_natCast,aAu hln.symm,List.take_succ_eq_append_getElem hi,List.map_append]
  simp) (by
  show gN N L r9 _ (L.length:Int)=_
  unfold gN
  rw [gC,cond_false]) (N:=N) (by omega)
 simp only [List.take_length,List.drop_length,List.append_nil,List.take_zero,List.map_nil,List.drop_zero,List.nil_append] at this
 exact this
theorem aMx {k w:Nat} (hk1:1≤k) (hk:k≤12) (hw1:1≤w) (hw:w≤8) {L:List (List Int)} {S:List aJ} (hL:L.length=k) (hl:∀ l ∈ L,l.Nodup∧∀ x ∈ l,0≤x∧x < (w:Int)) (hS:S.length=w) (hs:∀ x ∈ S,x.Places=1∧aLa k x.Order):rZ ⟨L,S⟩ :=
 ⟨by show 1≤L.length; omega,by show L.length≤12; omega,by show 1≤S.length; omega,by show S.length≤12; omega,fun l h=>(hl l h).1,fun l h x hx=>by
  have:=(hl l h).2 x hx
  show 0≤x∧x < (S.length:Int)
  omega,fun x hx=>by rw [(hs x hx).1]; omega,fun x hx=>(hs x hx).2.2.1,fun x hx p hp=>by
  have:=(hs x hx).2.2.2 p hp
  show 0≤p∧p < (L.length:Int)
  omega⟩
end Go.Nilo.Wa
namespace Go.Nilo.Wa
theorem aFj {l:List Int} (h:l.Pairwise (· < ·)):l.Nodup:=List.nodup_iff_pairwise_ne.2 (h.imp fun hq=>by omega)
theorem aM2 {r:aH} {Wt:List Int} (h:WsOk r Wt) {d:Nat} (hd:d < Wt.length):∃ q ∈ iP r,∀ w ∈ Wt.take d++Wt.drop (d + 1),w ∉ gA r q:=by
 obtain ⟨q,h1,h2,h3⟩:=h.p _ (List.getElem_mem hd)
 refine ⟨q,h1,fun w hw hwd=>?_⟩
 have hnd:=aFj h.a
 have e:Wt=Wt.take d++Wt[d]::Wt.drop (d + 1):=by
  rw [← List.drop_eq_getElem_cons hd,List.take_append_drop]
 have hwW:w ∈ Wt:=by
  rcases List.mem_append.1 hw with hw | hw
  ·exact List.mem_of_mem_take hw
  ·exact List.mem_of_mem_drop hw
 have hwe:=h3 w hwW hwd
 rw [e] at hnd
 obtain ⟨n1,n2,n3⟩:=List.nodup_append.1 hnd
 rcases List.mem_append.1 hw with hw | hw
 ·exact n3 w hw _ List.mem_cons_self hwe
 ·rw [hwe] at hw
  exact (List.nodup_cons.1 n2).1 hw
theorem aMp {w:Nat} {l:List Int} (h:aLa w l) (d:Int):(l.filter fun x=>!(x == d)).Nodup∧∀ x ∈ l.filter (fun x=>!(x == d)),0≤x∧x < (w:Int) :=
 ⟨h.2.1.filter _,fun x hx=>h.2.2 x (List.mem_filter.1 hx).1⟩
theorem watched_law' {numbers orders:List Int} {more:Int} (hb:rX numbers) (hc:rX orders) (hm:0≤more∧more≤255):oZ 700 numbers orders more=some true:=by
 obtain ⟨r,u,m,a1,a2,a3⟩:=aOe (N:=700) (by omega) hb
 obtain ⟨T,b1,b2,b3⟩:=aOs (N:=700) (by omega) a2
 obtain ⟨Wt,c1,c2⟩:=aI8 (N:=700) (by omega) b2 b3
 have hnd:=aFj c2.a
 have hwl:Wt.length≤r.Down.length:=tX hnd (fun x hx=>c2.o x hx)
 have c1':pG 700 (⟨r.Down,r.Travel,r.Springs,T,(⟨r.Delay.Lo,r.Delay.Hi⟩:aN),r.Floods⟩:aH)=some (Wt,0):=c1
 have hLate:∀ (V:List Int),(∀ w ∈ V,w ∈ Wt)→V.Pairwise (· < ·)→V.length≤20→∃ D,sD 700 (⟨r.Down,r.Travel,r.Springs,T,(⟨r.Delay.Lo,r.Delay.Hi⟩:aN),r.Floods⟩:aH) V=some (D,0)∧∀ d,d ∈ D ↔ d ∈ iP (wt r T)∧∀ w ∈ V,w ∉ gA (wt r T) d:=fun V h1 h2 h3=>aOh (N:=700) (by omega) b2 (fun w hw=>c2.o w (h1 w hw)) h2 h3
 have hguard:(((!true) || ((0:Int) != 0)) || (decide (((r.Down.length:Nat):Int) < ((Wt.length:Nat):Int))))=false:=by
  rw [dF (show ¬ ((r.Down.length:Nat):Int) < ((Wt.length:Nat):Int) by omega)]
  rfl
 unfold oZ aBe
 rw [Option.bind_some,a1,Option.bind_some]
 dsimp only
 rw [b1,Option.bind_some,Option.bind_some]
 dsimp only
 rw [c1',Option.bind_some]
 dsimp only
 rw [hguard,cond_false]
 by_cases hw0:Wt.length=0
 ·have e:(((Wt.length:Nat):Int) == 0)=true:=by rw [hw0]; rfl
  rw [e,cond_true,aQc]
  rfl
 ·have e:(((Wt.length:Nat):Int) == 0)=false:=by rw [beq_eq_false_iff_ne]; omega
  have hz:W ((W (12 - ((Wt.length:Nat):Int))) + 1)=13 - (Wt.length:Int):=by
   rw [iU (n:=12 - ((Wt.length:Nat):Int)) (by omega) (by omega),iU (by omega) (by omega)]
   omega
  have hmd0:0≤more % (13 - (Wt.length:Int)):=Int.emod_nonneg _ (by omega)
  have hmd1:more % (13 - (Wt.length:Int)) < 13 - (Wt.length:Int):=Int.emod_lt_of_pos _ (by omega)
  obtain ⟨k,hk⟩:∃ k:Nat,(Wt.length:Int) + more % (13 - (Wt.length:Int))=(k:Int):=⟨((Wt.length:Int) + more % (13 - (Wt.length:Int))).toNat,by omega⟩
  have hke:W (((Wt.length:Nat):Int) + ((W (more)).tmod (W ((W (12 - ((Wt.length:Nat):Int))) + 1))))=(k:Int):=by
   rw [hz,iU (n:=more) (by omega) (by omega),xS hm.1,hk,iU (by omega) (by omega)]
  have hnz:nz (W ((W (12 - ((Wt.length:Nat):Int))) + 1))=some ():=by
   rw [hz]
   unfold nz
   rw [if_neg (by omega)]
  obtain ⟨u1,m1,L,d1,d2,d3,d4⟩:=aK9 (N:=700) (by omega) hc (more:=more) (r4:=(Wt,0)) (k:=k) (by omega) (by dsimp only; omega) hke
  obtain ⟨u2,m2,S,e1,e2,e3,e4⟩:=aHu (N:=700) (by omega) hc (more:=more) (r4:=(Wt,0)) (k:=k) (by omega) (by dsimp only; omega) d4 hke
  dsimp only at d3 e1 e2
  have hros:rZ ⟨L,S⟩:=aMx (k:=k) (w:=Wt.length) (by omega) (by omega) (by omega) (by omega) d2 (fun l hl=>(d3 l hl).2) e2 e3
  obtain ⟨b,f1,f2,f3⟩:=aFm hros
  dsimp only at f3
  have hall:∀ i:Nat,i < Wt.length→(i:Int) ∈ b:=fun i hi=>aI1 hros f2 (by show S.length≤L.length; omega) (fun p hp s hs=>by
   have hs':0≤s∧s < (S.length:Int):=hs
   obtain ⟨g1,g2,g3⟩:=d3 _ (wO hp)
   exact aHn g2 g1 g3 (by omega)) (fun s hs p hp=>by
   have hp':0≤p∧p < (L.length:Int):=hp
   obtain ⟨-,g1,g2,g3⟩:=e3 _ (aG8 hs)
   exact aHn g2 g1 g3 (by omega)) (fun s hs=>(e3 _ (aG8 hs)).1) (show 0≤(i:Int)∧(i:Int) < (S.length:Int) by omega)
  have hkl:=aLi (N:=700) (by omega) (r4:=(Wt,0)) (r6:=(b,0)) (by dsimp only; omega) (by dsimp only; omega) hall
  obtain ⟨D,g1,g2⟩:=hLate Wt (fun w hw=>hw) c2.a (by omega)
  have hD:D=[]:=by
   apply List.eq_nil_iff_forall_not_mem.2
   intro d hd
   obtain ⟨h1,h2⟩:=(g2 d).1 hd
   obtain ⟨w,h3,h4⟩:=c2.c d h1
   exact h2 w h3 h4
  obtain ⟨dd,u3,m3,i1,i2,i3,i4⟩:=nxt (N:=700) hc (n:=(Wt.length:Int)) e4 (by omega) (by omega)
  obtain ⟨d,rfl⟩:=Int.eq_ofNat_of_zero_le i2
  have hdl:d < Wt.length:=by omega
  have hwo:=aI7 (N:=700) (by omega) (L:=L) (r9:=((d:Int),u3,m3)) (by omega) (fun l hl=>by have:=(d3 l hl).1; omega)
  dsimp only at hwo
  have hros2:rZ ⟨L.map fun l=>l.filter fun x=>!(x == (d:Int)),S⟩:=aMx (k:=k) (w:=Wt.length) (by omega) (by omega) (by omega) (by omega) (by rw [List.length_map]; exact d2) (fun l hl=>by
   obtain ⟨l0,h1,rfl⟩:=List.mem_map.1 hl
   exact aMp (d3 l0 h1) _) e2 e3
  obtain ⟨b',j1,j2,j3⟩:=aFm hros2
  dsimp only at j3
  rw [List.length_map] at j3
  have hnot:(d:Int) ∉ b':=aJo j2 (by omega) (fun p hp hq=>by
   obtain ⟨l0,h1,h2⟩:=List.mem_map.1 (wO hp)
   rw [← h2,List.mem_filter] at hq
   simp at hq)
  have hcont:b'.contains (d:Int)=false:=by
   rw [Bool.eq_false_iff]
   intro hq
   exact hnot (List.contains_iff_mem.1 hq)
  have hsub:(Wt.take d++Wt.drop (d + 1)).Sublist Wt:=by
   have e:Wt.take d++Wt.drop d=Wt:=List.take_append_drop _ _
   conv=>rhs; rw [← e]
   refine List.Sublist.append (List.Sublist.refl _) ?_
   rw [List.drop_eq_getElem_cons hdl]
   exact List.sublist_cons_self _ _
  obtain ⟨D',k1,k2⟩:=hLate (Wt.take d++Wt.drop (d + 1)) (fun w hw=>hsub.subset hw) (c2.a.sublist hsub) (by have:=hsub.length_le; omega)
  have hD':0 < D'.length:=by
   obtain ⟨q,h1,h2⟩:=aM2 c2 hdl
   exact List.length_pos_of_mem ((k2 q).2 ⟨h1,h2⟩)
  have hdel:jD 700 Wt (d:Int) (W ((d:Int) + 1))=some (Wt.take d++Wt.drop (d + 1)):=by
   unfold jD delO
   rw [fF (by omega),if_pos (by omega)]
   simp
  rw [e,cond_false,hnz,Option.bind_some,d1,Option.bind_some,exK_at]
  dsimp only
  rw [e1,Option.bind_some,exK_at]
  dsimp only
  rw [f1,Option.bind_some]
  dsimp only
  have q1:((((0:Int) != 0)) || (((b.length:Nat):Int) != (k:Int)))=false:=by
   rw [f3,d2]
   simp
  have q2:((((0:Int) != 0)) || (((b'.length:Nat):Int) != (k:Int)))=false:=by
   rw [j3,d2]
   simp
  rw [hke,q1,cond_false,hkl,Option.bind_some,exK_at]
  dsimp only
  rw [g1,Option.bind_some]
  dsimp only
  have q3:((((0:Int) != 0)) || (decide (0 < ((D.length:Nat):Int))))=false:=by
   rw [hD]
   rfl
  rw [q3,cond_false,aN7 (by omega) (by omega),Option.bind_some,Bool.not_true,Option.bind_some,cond_false,i1,Option.bind_some]
  rw [hwo,Option.bind_some,exK_at]
  dsimp only
  rw [j1,Option.bind_some]
  dsimp only
  rw [q2,cond_false,aEy (by omega) (by omega),hcont,Option.bind_some,Option.bind_some,cond_false]
  unfold pL
  rw [kF (by omega),Option.bind_some,Option.bind_some,hdel,Option.bind_some,k1,Option.bind_some]
  dsimp only
  have q4:((((0:Int) == 0)) && (decide (0 < ((D'.length:Nat):Int))))=true:=by
   rw [dT (by omega)]
   rfl
  rw [q4,cond_true,aQc]
  rfl
end Go.Nilo.Wa
namespace Go.Nilo
theorem aH2 {numbers orders:List Int} {more:Int} (hb:rX numbers) (hc:rX orders) (hm:0≤more∧more≤255):oZ 700 numbers orders more=some true:=Wa.watched_law' hb hc hm
end Go.Nilo
