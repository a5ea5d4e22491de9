/-
  What the plain functions compute, in plain arithmetic, part 5. Conditions: what each theorem names.
-/
import Derived.Test.YtfgdaecfjidahaaGreatTmL4
set_option linter.unusedSimpArgs false
set_option linter.unusedVariables false
namespace Go.Nilo.Lv
theorem uX {σ ρ:Type} {f:σ→Option (cP σ ρ)} (Inv Post:σ→Prop) (R:ρ→Prop) (μ:σ→Nat)
  (h:∀ s,Inv s→(∃ s',f s=some (.brk s')∧Post s') ∨ (∃ s',f s=some (.cont s')∧Inv s'∧μ s' < μ s) ∨ (∃ r,f s=some (.ret r)∧R r)) :
  ∀ (N:Nat) (s:σ),Inv s→μ s < N→(∃ s',bC f N s=some (.go s')∧Post s') ∨ (∃ r,bC f N s=some (.out r)∧R r)
 | 0,s,_,hN=>by omega
 | N + 1,s,hs,hN=>by
  unfold bC
  rcases h s hs with ⟨s',h1,h2⟩ | ⟨s',h1,h2,h3⟩ | ⟨r,h1,h2⟩
  ·exact .inl ⟨s',by rw [h1],h2⟩
  ·rcases uX Inv Post R μ h N s' h2 (by omega) with ⟨s'',h4,h5⟩ | ⟨r,h4,h5⟩
   ·exact .inl ⟨s'',by rw [h1]; exact h4,h5⟩
   ·exact .inr ⟨r,by rw [h1]; exact h4,h5⟩
  ·exact .inr ⟨r,by rw [h1],h2⟩

theorem aJo {N:Nat} (hN:40≤N) {σ:Type} {M v:Int} {ls:List aF} (hl:ls.length≤30) {y:σ→aE→Option (σ × Bool)} (P Q:σ→Prop)
  (hy:∀ s (i:Nat) b,i < ls.length→P s→stF ls ⟨(i:Int),b⟩=v→(∃ s',y s ⟨(i:Int),b⟩=some (s',true)∧P s') ∨ (∃ s',y s ⟨(i:Int),b⟩=some (s',false)∧Q s')) {s0:σ} (h0:P s0) :
  ∃ r,cA N M ls v y s0=some r∧(P r ∨ Q r):=by
 have hin:∀ (i:Nat) (s:σ),i < ls.length→P s→(∃ s':Int × σ,bC (fun s10:Int × σ=>bH N M ls v y (i:Int) s10.1 s10.2) N (0,s)=some (.go s')∧P s'.2) ∨
   (∃ r,bC (fun s10:Int × σ=>bH N M ls v y (i:Int) s10.1 s10.2) N (0,s)=some (.out r)∧∃ s',r=.ret s'∧Q s'):=by
  intro i s hi hs
  refine uX (fun s:Int × σ=>∃ k:Nat,s.1=(k:Int)∧k≤2∧P s.2) (fun s:Int × σ=>P s.2) (fun r:cP (Int × σ) σ=>∃ s',r=.ret s'∧Q s') (fun s:Int × σ=>2 - s.1.toNat) ?_ N (0,s) ⟨0,rfl,by omega,hs⟩ (by dsimp only; omega)
  rintro ⟨x,s⟩ ⟨k,h1,h2,h3⟩
  dsimp only at h1 h3 ⊢
  subst h1
  unfold bH
  by_cases hk:k < 2
  ·have hg:∃ b,bQ ([(⟨(i:Int),false⟩:aE),(⟨(i:Int),true⟩:aE)]:List aE) (k:Int)=some ⟨(i:Int),b⟩:=by
    rcases Nat.lt_or_ge k 1 with h | h
    ·have:k=0:=by omega
     subst this; exact ⟨false,rfl⟩
    ·have:k=1:=by omega
     subst this; exact ⟨true,rfl⟩
   obtain ⟨b,hg⟩:=hg
   rw [dT (show (k:Int) < 2 by omega),cond_true,hg,Option.bind_some,aBc hi,Option.bind_some]
   unfold dL
   rw [dQ (by omega)]
   by_cases hv:stF ls ⟨(i:Int),b⟩=v
   ·rw [beq_iff_eq.2 hv,cond_true]
    rcases hy s i b hi h3 hv with ⟨s',k1,k2⟩ | ⟨s',k1,k2⟩
    ·rw [k1]
     exact .inr (.inl ⟨(((k + 1:Nat):Int),s'),rfl,⟨k + 1,rfl,by omega,k2⟩,by dsimp only; omega⟩)
    ·rw [k1]
     exact .inr (.inr ⟨_,rfl,s',rfl,k2⟩)
   ·rw [beq_eq_false_iff_ne.2 hv,cond_false]
    exact .inr (.inl ⟨(((k + 1:Nat):Int),s),rfl,⟨k + 1,rfl,by omega,h3⟩,by dsimp only; omega⟩)
  ·rw [dF (show ¬ (k:Int) < 2 by omega),cond_false]
   exact .inl ⟨_,rfl,h3⟩
 have hout:(∃ s':Int × σ,bC (fun s3:Int × σ=>bJ N M ls v y s3.1 s3.2) N (0,s0)=some (.go s')∧P s'.2) ∨
   (∃ r,bC (fun s3:Int × σ=>bJ N M ls v y s3.1 s3.2) N (0,s0)=some (.out r)∧Q r):=by
  refine uX (fun s:Int × σ=>∃ k:Nat,s.1=(k:Int)∧k≤ls.length∧P s.2) (fun s:Int × σ=>P s.2) Q (fun s:Int × σ=>ls.length - s.1.toNat) ?_ N (0,s0) ⟨0,rfl,by omega,h0⟩ (by dsimp only; omega)
  rintro ⟨x,s⟩ ⟨k,h1,h2,h3⟩
  dsimp only at h1 h3 ⊢
  subst h1
  unfold bJ
  by_cases hk:k < ls.length
  ·rw [dT (show (k:Int) < ((ls.length:Nat):Int) by omega),cond_true]
   rcases hin k s hk h3 with ⟨s',k1,k2⟩ | ⟨r,k1,s',rfl,k2⟩
   ·rw [k1,Option.bind_some,lI,dQ (by omega)]
    exact .inr (.inl ⟨_,rfl,⟨k + 1,rfl,by omega,k2⟩,by dsimp only; omega⟩)
   ·rw [k1,Option.bind_some]
    exact .inr (.inr ⟨s',rfl,k2⟩)
  ·rw [dF (show ¬ (k:Int) < ((ls.length:Nat):Int) by omega),cond_false]
   exact .inl ⟨_,rfl,h3⟩
 unfold cA
 rcases hout with ⟨s',k1,k2⟩ | ⟨r,k1,k2⟩
 ·rw [k1,Option.bind_some,lI]
  exact ⟨_,rfl,.inl k2⟩
 ·rw [k1,Option.bind_some]
  exact ⟨_,rfl,.inr k2⟩

theorem aKq {N V:Nat} (hN:40≤N) {w:aP} (hV:w.Net.Marks=(V:Int)) (hn:oF V w.Net.Lines) (hc:∀ q,0≤q∧q < (V:Int)→row V q w.can=D (Eto w.Net.Lines V) V q∧∀ v,-20000000000≤D (Eto w.Net.Lines V) V q v∧D (Eto w.Net.Lines V) V q v≤FAR) :
  ∃ b,cD N w=some b:=by
 have hv:=hn.v2
 have hg:∀ q v,0≤q∧q < (V:Int)→0≤v∧v < (V:Int)→-20000000000≤w.can (q * 13 + v).toNat∧w.can (q * 13 + v).toNat≤FAR:=fun q v hq hv'=>by
  have h1:w.can (q * 13 + v).toNat=D (Eto w.Net.Lines V) V q v:=by rw [← (hc q hq).1,uN hv']
  rw [h1]; exact (hc q hq).2 v
 have h12:∀ (m:Int),0≤m∧m < (V:Int)→∀ (z:Bool) (i:Nat) (b:Bool),i < w.Net.Lines.length→bP N w m z ⟨(i:Int),b⟩=some (.go z) ∨ bP N w m z ⟨(i:Int),b⟩=some (.ret true):=by
  intro m hm z i b hi
  obtain ⟨l1,l2,l3,l4,l5⟩:=yS hn hi b
  have key:=uX (f:=fun s16:Int=>eJ N w m ⟨(i:Int),b⟩ s16) (fun s:Int=>∃ j:Nat,s=(j:Int)∧j≤V) (fun _=>True) (fun r:Rs Bool=>r=.ret true) (fun s:Int=>V - s.toNat) (by
   rintro s ⟨j,rfl,hj⟩
   unfold eJ
   by_cases hjv:j < V
   ·have hjn:0≤(j:Int)∧(j:Int) < (V:Int):=by omega
    rw [dT (show (j:Int) < w.Net.Marks by omega),cond_true,inR_ok (show 0≤(j:Int) by omega) (show (j:Int) < ((13:Nat):Int) by omega),Option.bind_some,inR_ok hm.1 (by omega),Option.bind_some,dQ (by omega)]
    have b1:=hg _ _ hjn hm
    have b2:=hg _ _ hjn l2
    rw [xA] at b1 b2
    by_cases hf:w.can ((j:Int) * 13 + m).toNat < 1099511627776
    ·rw [dT hf,cond_true,aDy hn hi b,Option.bind_some,aEc hi b,Option.bind_some,inR_ok l2.1 (by omega),Option.bind_some,Option.bind_some]
     cases decide (W (w.can ((j:Int) * 13 + m).toNat + rsF w.Net.Lines ⟨(i:Int),b⟩) < w.can ((j:Int) * 13 + glF w.Net.Lines ⟨(i:Int),b⟩).toNat)
     ·exact .inr (.inl ⟨((j + 1:Nat):Int),rfl,⟨j + 1,rfl,by omega⟩,by omega⟩)
     ·exact .inr (.inr ⟨_,rfl,rfl⟩)
    ·rw [dF hf,cond_false,Option.bind_some,cond_false]
     exact .inr (.inl ⟨((j + 1:Nat):Int),rfl,⟨j + 1,rfl,by omega⟩,by omega⟩)
   ·rw [dF (by omega),cond_false]
    exact .inl ⟨_,rfl,trivial⟩) N 0 ⟨0,rfl,by omega⟩ (by show V - (0:Int).toNat < N; omega)
  unfold bP
  rcases key with ⟨s',k1,-⟩ | ⟨r,k1,rfl⟩
  ·rw [k1,Option.bind_some,lI]; exact .inl rfl
  ·rw [k1,Option.bind_some]; exact .inr rfl
 have key:=uX (f:=fun s4:Int × Bool=>dE N w s4.1 s4.2) (fun s:Int × Bool=>∃ j:Nat,s=((j:Int),false)∧j≤V) (fun _=>True) (fun _:Bool=>True) (fun s:Int × Bool=>V - s.1.toNat) (by
  rintro s ⟨j,rfl,hj⟩
  dsimp only
  unfold dE
  by_cases hjv:j < V
  ·have hjn:0≤(j:Int)∧(j:Int) < (V:Int):=by omega
   have e3:eM N w (j:Int)=some (j:Int):=rfl
   obtain ⟨r,k1,k2⟩:=aJo hN (M:=w.Net.Marks) (v:=(j:Int)) hn.n (y:=rY (fun (zz:Bool) (ix_:aE)=>bP N w (j:Int) zz ix_)) (fun s:Rs Bool=>s=.go false) (fun s:Rs Bool=>s=.ret true) (by
    rintro s i b hi rfl hst
    rcases h12 _ hjn false i b hi with h | h
    ·refine .inl ⟨.go false,?_,rfl⟩
     show Option.map (fun r=>(r,r.on)) (bP N w (j:Int) false ⟨(i:Int),b⟩)=_
     rw [h]; rfl
    ·refine .inr ⟨.ret true,?_,rfl⟩
     show Option.map (fun r=>(r,r.on)) (bP N w (j:Int) false ⟨(i:Int),b⟩)=_
     rw [h]; rfl) (s0:=.go false) rfl
   rw [dT (show (j:Int) < w.Net.Marks by omega),cond_true,e3,Option.bind_some,k1,Option.bind_some]
   rcases k2 with rfl | rfl
   ·show (∃ s',Option.bind (inR (j:Int) 13) _=_∧_) ∨ (∃ s',Option.bind (inR (j:Int) 13) _=_∧_) ∨ (∃ r,Option.bind (inR (j:Int) 13) _=_∧_)
    rw [inR_ok (by omega) (by omega),Option.bind_some,Option.bind_some,dQ (by omega)]
    cases decide (w.can ((j:Int) * 13 + (j:Int)).toNat < 0)
    ·exact .inr (.inl ⟨(((j + 1:Nat):Int),false),rfl,⟨j + 1,rfl,by omega⟩,by dsimp only; omega⟩)
    ·exact .inr (.inr ⟨_,rfl,trivial⟩)
   ·exact .inr (.inr ⟨_,rfl,trivial⟩)
  ·rw [dF (by omega),cond_false]
   exact .inl ⟨_,rfl,trivial⟩) N (0,false) ⟨0,rfl,by omega⟩ (by show V - (0:Int).toNat < N; omega)
 unfold cD
 rcases key with ⟨s',k1,-⟩ | ⟨r,k1,-⟩
 ·rw [k1,Option.bind_some,lI]; exact ⟨_,rfl⟩
 ·rw [k1,Option.bind_some]; exact ⟨r,rfl⟩
theorem aE5 {N V:Nat} (hN:40≤N) {n:aO} (hV:n.Marks=(V:Int)) (hn:oF V n.Lines):∃ can by_ b,kY N n=some (n.Marks,can,by_)∧cD N (⟨⟨n.Marks,n.Lines⟩,can,by_⟩:aP)=some b∧∀ h,Tr V n.Lines h→b=false:=by
 obtain ⟨can,by_,h1,h2⟩:=aIw hN hV hn
 obtain ⟨b,h3⟩:=aKq hN (w:=⟨⟨n.Marks,n.Lines⟩,can,by_⟩) hV hn h2
 refine ⟨can,by_,b,h1,h3,fun h ht=>?_⟩
 have:=aLk hN (w:=⟨⟨n.Marks,n.Lines⟩,can,by_⟩) hV hn ht (fun q hq=>(h2 q hq).1)
 rw [h3] at this
 exact Option.some.inj this
end Go.Nilo.Lv
namespace Go.Nilo.Lv
theorem getI_at {α:Type} {A B:List α} {x:α} {p:Int} (hp:p=(A.length:Int)):bQ (A++x::B) p=some x:=by
 subst hp
 unfold bQ
 simp
theorem set_at {α:Type} {A B:List α} {x y:α} {p:Nat} (hp:p=A.length):(A++x::B).set p y=A++y::B:=by
 subst hp
 simp
def pl (V:Nat) (mark day:Int) (l:aF):aF:=if l.Day < day then l else ⟨if l.From=mark then (V:Int) else l.From,if l.To=mark then (V:Int) else l.To,l.Day,l.Rise,l.Error⟩

theorem aIp {N V:Nat} (hN:40≤N) {n:aO} (hV:n.Marks=(V:Int)) (hv:V≤11) (hl:n.Lines.length≤30) (mark day:Int):oB N n ⟨mark,day⟩=some ⟨((V + 1:Nat):Int),n.Lines.map (pl V mark day)⟩:=by
 unfold oB dO
 rw [mX (by omega),Option.bind_some,Option.bind_some]
 obtain ⟨s,k1,A,B,k2,k3,k4⟩:=jK (ρ:=aO) (fun s5:Int × List aF=>lG N n ⟨mark,day⟩ n.Lines s5.1 s5.2) (fun i s=>∃ A B,n.Lines=A++B∧A.length=i∧s=((i:Int),A.map (pl V mark day)++B)) n.Lines.length (by
  rintro i s hi ⟨A,B,h1,h2,rfl⟩
  cases B with
  | nil=>
   exfalso
   have:=congrArg List.length h1
   simp at this
   omega
  | cons l B=>
   refine ⟨(((i + 1:Nat):Int),A.map (pl V mark day)++pl V mark day l::B),?_,A++[l],B,by rw [h1]; simp,by simp [h2],by simp⟩
   have hA:((i:Nat):Int)=((A.map (pl V mark day)).length:Int):=by rw [List.length_map]; omega
   have hA':i=(A.map (pl V mark day)).length:=by rw [List.length_map]; omega
   have hg:∀ z:aF,bQ (A.map (pl V mark day)++z::B) (i:Int)=some z:=fun z=>getI_at hA
   have hs:∀ z z':aF,(A.map (pl V mark day)++z::B).set i z'=A.map (pl V mark day)++z'::B:=fun z z'=>set_at hA'
   dsimp only
   unfold lG
   rw [dT (by omega),cond_true,hg,Option.bind_some]
   dsimp only
   unfold pl
   by_cases hd:l.Day < day
   ·rw [dT hd,cond_true,if_pos hd]
    unfold eX
    rw [dQ (by omega)]
   ·rw [dF hd,cond_false,if_neg hd]
    by_cases hf:l.From=mark
    ·rw [beq_iff_eq.2 hf,cond_true,if_pos hf,Int.toNat_natCast]
     unfold iZ
     have hg2:=hg (⟨n.Marks,l.To,l.Day,l.Rise,l.Error⟩:aF)
     have hs2:=hs l (⟨n.Marks,l.To,l.Day,l.Rise,l.Error⟩:aF)
     unfold pl at hg2 hs2
     rw [hs2,hg2,Option.bind_some]
     dsimp only
     by_cases ht:l.To=mark
     ·have hs3:=hs (⟨n.Marks,l.To,l.Day,l.Rise,l.Error⟩:aF) (⟨n.Marks,n.Marks,l.Day,l.Rise,l.Error⟩:aF)
      unfold pl at hs3
      rw [beq_iff_eq.2 ht,cond_true,Option.bind_some,Int.toNat_natCast,hs3,if_pos ht,hV]
      unfold eX
      rw [dQ (by omega)]
     ·rw [beq_eq_false_iff_ne.2 ht,cond_false,if_neg ht,hV]
      unfold eX
      rw [dQ (by omega)]
    ·rw [beq_eq_false_iff_ne.2 hf,cond_false,if_neg hf]
     unfold iZ
     have hg2:=hg l
     unfold pl at hg2
     rw [hg2,Option.bind_some]
     by_cases ht:l.To=mark
     ·have hs3:=hs l (⟨l.From,n.Marks,l.Day,l.Rise,l.Error⟩:aF)
      unfold pl at hs3
      rw [beq_iff_eq.2 ht,cond_true,Option.bind_some,Int.toNat_natCast,hs3,if_pos ht,hV]
      unfold eX
      rw [dQ (by omega)]
     ·rw [beq_eq_false_iff_ne.2 ht,cond_false,if_neg ht]
      unfold eX
      rw [dQ (by omega)]) (by
  rintro s ⟨A,B,h1,h2,rfl⟩
  dsimp only
  unfold lG
  rw [pZ,cond_false]) n.Lines.length 0 (0,n.Lines) N (by omega) (by omega) ⟨[],n.Lines,rfl,rfl,rfl⟩
 have hB:B=[]:=List.eq_nil_of_length_eq_zero (by
  have:=congrArg List.length k2
  simp at this
  omega)
 subst hB
 rw [List.append_nil] at k2 k4
 rw [k1,Option.bind_some,lI,k4,hV,dQ (by omega),← k2]

theorem aOl {ς τ:Type} (s:ς) (f g:ς→Option τ):rsK (Rs.go s) f g=f s:=rfl
theorem aFr:∀ {l l':List Int},l.Nodup→(∀ x ∈ l,x ∈ l')→l.length≤l'.length
 | [],_,_,_=>Nat.zero_le _
 | x::l,l',hn,h=>by
  rw [List.nodup_cons] at hn
  have hx:x ∈ l':=h x (List.mem_cons_self)
  have:=aFr (l:=l) (l':=l'.erase x) hn.2 (fun y hy=>by
   refine (List.mem_erase_of_ne ?_).2 (h y (List.mem_cons_of_mem _ hy))
   rintro rfl
   exact hn.1 hy)
  rw [List.length_erase_of_mem hx] at this
  have h0:0 < l'.length:=List.length_pos_of_mem hx
  simp only [List.length_cons]
  omega
def atM (l:aF) (mark:Int):Prop:=l.From=mark ∨ l.To=mark
theorem aLz {N V:Nat} (hN:40≤N) {w:aP} (hw:oF V w.Net.Lines) (mark:Int) :
  ∃ ds,level_survey_days N w mark=some ds∧ds.length≤31∧∀ k,k ∈ ds ↔ k ≠ 40001∧(k=1 ∨ ∃ i:Nat,i < w.Net.Lines.length∧atM (w.Net.Lines.getD i ln0) mark∧k=(w.Net.Lines.getD i ln0).Day + 1):=by
 let stp:Rs (Int→Option Bool)→aE→Rs (Int→Option Bool):=fun s g=>match s with
  | .go mp=>.go (rM mp ((lnA w.Net.Lines g).Day + 1) true)
  | s=>s
 obtain ⟨h1,-⟩:=aE1 hN (M:=w.Net.Marks) (v:=mark) hw.n (y:=rY (fun (zz:(Int→Option Bool)) (ix_:aE)=>eU N w zz ix_)) stp (fun s=>∃ mp,s=.go mp) (by
  rintro s i b hi ⟨mp,rfl⟩ hst
  refine ⟨?_,_,rfl⟩
  show Option.map (fun r=>(r,r.on)) (eU N w mp ⟨(i:Int),b⟩)=_
  have hd:=(hw.l i hi).d
  unfold eU
  dsimp only
  rw [getI_d ln0 hi,Option.bind_some,W_sm (by omega) (by omega)]
  rfl) (s0:=.go (rM (fun _=>none:Int→Option Bool) 1 true)) ⟨_,rfl⟩
 -- what the map has
 have key:∀ (L:List aE) (mp:Int→Option Bool),∃ mp',L.foldl stp (.go mp)=.go mp'∧∀ k,(mp' k).isSome=true ↔ (mp k).isSome=true ∨ ∃ g ∈ L,k=(lnA w.Net.Lines g).Day + 1:=by
  intro L
  induction L with
  | nil=>intro mp; exact ⟨mp,rfl,fun k=>by simp⟩
  | cons g L ih=>
   intro mp
   obtain ⟨mp',k1,k2⟩:=ih (rM mp ((lnA w.Net.Lines g).Day + 1) true)
   refine ⟨mp',k1,fun k=>?_⟩
   rw [k2]
   unfold rM
   by_cases hk:k=(lnA w.Net.Lines g).Day + 1
   ·simp [hk]
   ·simp [hk]
 obtain ⟨mp,k1,k2⟩:=key (oS w.Net.Lines mark) (rM (fun _=>none:Int→Option Bool) 1 true)
 have hm:∀ k,((yK mp 40001) k).isSome=true ↔ k ≠ 40001∧(k=1 ∨ ∃ i:Nat,i < w.Net.Lines.length∧atM (w.Net.Lines.getD i ln0) mark∧k=(w.Net.Lines.getD i ln0).Day + 1):=by
  intro k
  have h2:((rM (fun _=>none:Int→Option Bool) 1 true) k).isSome=true ↔ k=1:=by
   unfold rM
   by_cases hk:k=1 <;> simp [hk]
  unfold yK
  by_cases hk:k=40001
  ·simp [hk]
  ·rw [if_neg hk,k2,h2]
   constructor
   ·rintro (h | ⟨g,hg,h⟩)
    ·exact ⟨hk,.inl h⟩
    ·obtain ⟨hs,i,hi,b,rfl⟩:=qZ.1 hg
     refine ⟨hk,.inr ⟨i,hi,?_,h⟩⟩
     cases b
     ·exact .inl hs
     ·exact .inr hs
   ·rintro ⟨-,h | ⟨i,hi,h3,h4⟩⟩
    ·exact .inl h
    ·right
     rcases h3 with h3 | h3
     ·exact ⟨⟨(i:Int),false⟩,qZ.2 ⟨h3,i,hi,false,rfl⟩,h4⟩
     ·exact ⟨⟨(i:Int),true⟩,qZ.2 ⟨h3,i,hi,true,rfl⟩,h4⟩
 have hr:∀ k,((yK mp 40001) k).isSome=true→0≤k∧k≤50000:=by
  intro k hk
  rcases ((hm k).1 hk).2 with h | ⟨i,hi,-,h⟩
  ·omega
  ·have:=(hw.l i hi).d
   omega
 obtain ⟨ds,hds⟩:∃ ds,ds=((List.range 50001).map (fun n:Nat=>(n:Int))).filter fun k=>((yK mp 40001) k).isSome:=⟨_,rfl⟩
 have hmem:∀ k,k ∈ ds ↔ ((yK mp 40001) k).isSome=true:=by
  intro k
  rw [hds,List.mem_filter]
  constructor
  ·exact fun h=>h.2
  ·intro h
   have:=hr k h
   exact ⟨List.mem_map.2 ⟨k.toNat,List.mem_range.2 (by omega),by omega⟩,h⟩
 refine ⟨ds,?_,?_,fun k=>by rw [hmem,hm]⟩
 ·unfold level_survey_days
  have e3:eM N w mark=some mark:=rfl
  rw [e3,Option.bind_some,h1,k1,Option.bind_some,aOl]
  have e4:dI N (yK mp 40001)=some (yK mp 40001):=rfl
  rw [e4,Option.bind_some]
  unfold slices_Sorted_int keysO
  rw [if_pos hr,Option.bind_some,hds]
 ·have hnd:ds.Nodup:=by
   rw [hds]
   refine List.Pairwise.filter _ ?_
   rw [List.pairwise_map]
   exact List.pairwise_lt_range.imp fun h=>by omega
  have:=aFr (l':=1::w.Net.Lines.map (fun l=>l.Day + 1)) hnd (by
   intro k hk
   rcases ((hm k).1 ((hmem k).1 hk)).2 with h | ⟨i,hi,-,h⟩
   ·rw [h]; exact List.mem_cons_self
   ·refine List.mem_cons_of_mem _ (List.mem_map.2 ⟨w.Net.Lines.getD i ln0,?_,h.symm⟩)
    rw [gD hi]
    exact List.getElem_mem _)
  have hn:=hw.n
  simp at this
  omega
end Go.Nilo.Lv
namespace Go.Nilo.Lv
theorem aE3 {V:Nat} {ls:List aF} (h:oF V ls) (hv:V≤11) {mark:Int} (hm:0≤mark∧mark < (V:Int)) (day:Int):oF (V + 1) (ls.map (pl V mark day)):=by
 refine ⟨by omega,by omega,by rw [List.length_map]; exact h.n,fun i hi=>?_⟩
 rw [List.length_map] at hi
 have hg:(ls.map (pl V mark day)).getD i ln0=pl V mark day (ls.getD i ln0):=by
  rw [gD (by rw [List.length_map]; exact hi),List.getElem_map,gD hi]
 rw [hg]
 obtain ⟨f,t,ne,d,r,e⟩:=h.l i hi
 unfold pl
 split
 ·exact ⟨by omega,by omega,ne,d,r,e⟩
 ·refine ⟨?_,?_,?_,d,r,e⟩
  ·dsimp only; split <;> omega
  ·dsimp only; split <;> omega
  ·dsimp only
   split <;> split <;> omega

theorem aEw {N V:Nat} (hN:40≤N) {n:aO} (hV:n.Marks=(V:Int)) (hn:oF V n.Lines) (hv:V≤11) {x:Nat} (hx:x < V) {ds:List Int} (hd:ds.length≤31) {base:List aZ} (hb:∀ m ∈ base,m.Mark < (x:Int)) (hbl:base.length≤12) :
  ∃ s:List aZ × Int,bC (fun s25:List aZ × Int=>jU N n (x:Int) ds s25.1 s25.2) N (base,0)=some (.go s)∧(s.1=base ∨ ∃ d,s.1=base++[⟨(x:Int),d⟩]) ∧
   ((∃ d ∈ ds,∃ h,Tr (V + 1) (n.Lines.map (pl V (x:Int) d)) h)→∃ d,s.1=base++[⟨(x:Int),d⟩]):=by
 obtain ⟨s,k1,k2,k3⟩:=jK (ρ:=cP (List aZ × Int) (List aZ × Int)) (fun s25:List aZ × Int=>jU N n (x:Int) ds s25.1 s25.2)
  (fun j s=>s.2=(j:Int)∧((s.1=base∧∀ k,k < j→¬ ∃ h,Tr (V + 1) (n.Lines.map (pl V (x:Int) (ds.getD k 0))) h) ∨ ∃ d,s.1=base++[⟨(x:Int),d⟩])) ds.length (by
   rintro j ⟨out,y⟩ hj ⟨h1,h2⟩
   dsimp only at h1 h2 ⊢
   subst h1
   unfold jU
   rw [dT (show (j:Int) < ((ds.length:Nat):Int) by omega),cond_true,getI_d (0:Int) hj,Option.bind_some]
   rcases h2 with ⟨rfl,h2⟩ | ⟨d,rfl⟩
   ·-- not yet found
    have ht1:(cond (decide (0≤(W (((out.length:Nat):Int) - 1)))) (Option.bind (bQ out (W (((out.length:Nat):Int) - 1))) fun e_2=>Option.bind (bQ out (W (((out.length:Nat):Int) - 1))) fun e_3=>some (e_2.Mark == (x:Int) && e_2.Day == e_3.Day)) (some false))=some false:=by
     rcases List.eq_nil_or_concat out with h0 | ⟨L,b,h0⟩
     ·subst h0
      rw [W_sm (by simp) (by simp),dF (by simp),cond_false]
     ·rw [List.concat_eq_append] at h0
      subst h0
      have e1:W ((((L++[b]).length:Nat):Int) - 1)=(L.length:Int):=by
       rw [W_sm (by simp <;> omega) (by simp at hbl ⊢; omega)]; simp
      have e2:bQ (L++[b]) (L.length:Int)=some b:=getI_at rfl
      have hm:=hb b (by simp)
      rw [e1,dT (by omega),cond_true,e2,Option.bind_some,Option.bind_some,beq_eq_false_iff_ne.2 (show b.Mark ≠ (x:Int) by omega),Bool.false_and]
    have hV1:(⟨((V + 1:Nat):Int),n.Lines.map (pl V (x:Int) (ds.getD j 0))⟩:aO).Marks=((V + 1:Nat):Int):=rfl
    have hn1:=aE3 hn hv (mark:=(x:Int)) (by omega) (ds.getD j 0)
    obtain ⟨can,by_,b,w1,w2,w3⟩:=aE5 hN hV1 hn1
    rw [ht1,Option.bind_some,cond_false,aIp hN hV hv hn.n,Option.bind_some,w1,Option.bind_some]
    dsimp only at w2 ⊢
    rw [w2,Option.bind_some]
    unfold iH
    rw [dQ (by omega)]
    cases b with
    | false=>
     rw [Bool.not_false,cond_true,mX (by rw [List.length_append]; simp; omega),Option.bind_some]
     exact ⟨_,rfl,rfl,.inr ⟨_,rfl⟩⟩
    | true=>
     rw [Bool.not_true,cond_false]
     refine ⟨_,rfl,rfl,.inl ⟨rfl,fun k hk=>?_⟩⟩
     rcases Nat.lt_or_ge k j with h | h
     ·exact h2 k h
     ·have:k=j:=by omega
      subst this
      rintro ⟨h,ht⟩
      have:=w3 h ht
      cases this
   ·-- found
    have e1:W ((((base++[(⟨(x:Int),d⟩:aZ)]).length:Nat):Int) - 1)=(base.length:Int):=by
     rw [W_sm (by simp <;> omega) (by simp; omega)]; simp
    have e2:bQ (base++[(⟨(x:Int),d⟩:aZ)]) (base.length:Int)=some ⟨(x:Int),d⟩:=getI_at rfl
    rw [e1,dT (by omega),cond_true,e2,Option.bind_some,Option.bind_some,Option.bind_some]
    dsimp only
    rw [beq_self_eq_true,beq_self_eq_true,Bool.and_self,cond_true]
    unfold iH
    rw [dQ (by omega)]
    exact ⟨_,rfl,rfl,.inr ⟨d,rfl⟩⟩) (by
   rintro ⟨out,y⟩ ⟨h1,h2⟩
   dsimp only at h1 ⊢
   subst h1
   unfold jU
   rw [pZ,cond_false]) ds.length 0 (base,0) N (by omega) (by omega) ⟨rfl,.inl ⟨rfl,fun k hk=>by omega⟩⟩
 refine ⟨s,k1,?_,?_⟩
 ·rcases k3 with ⟨h,-⟩ | h
  ·exact .inl h
  ·exact .inr h
 ·rintro ⟨d,hd,ht⟩
  rcases k3 with ⟨-,h⟩ | h
  ·obtain ⟨k,hk,rfl⟩:=List.getElem_of_mem hd
   have:=h k hk
   rw [gD hk] at this
   exact absurd ht this
  ·exact h
def aJj (ls:List aF) (mark:Int) (ds:List Int):Prop:=∀ k,k ∈ ds ↔ k ≠ 40001∧(k=1 ∨ ∃ i:Nat,i < ls.length∧atM (ls.getD i ln0) mark∧k=(ls.getD i ln0).Day + 1)

theorem convict_ok {N V:Nat} (hN:40≤N) {n:aO} (hV:n.Marks=(V:Int)) (hn:oF V n.Lines) (hv:V≤11) {st:Nat} (hst:st < V)
  (hT:∀ ds,aJj n.Lines (st:Int) ds→∃ d ∈ ds,∃ h,Tr (V + 1) (n.Lines.map (pl V (st:Int) d)) h) :
  (kE N n=some (true,0)∧level_Convict N n=some (0,8)) ∨ (kE N n=some (false,0)∧(level_Convict N n=some ((st:Int),0) ∨ level_Convict N n=some (0,11))):=by
 obtain ⟨can,by_,b,w1,w2,-⟩:=aE5 hN hV hn
 have ho:kX N n=some (.inr (n.Marks,can,by_,0)):=by
  unfold kX
  rw [aJb hN hV hn,Option.bind_some,bne_self_eq_false,cond_false,w1,Option.bind_some]
 have hA:kE N n=some (!b,0):=by
  unfold kE
  rw [ho,Option.bind_some]
  show cond ((0:Int) != 0) _ (Option.bind (cD N (⟨⟨n.Marks,n.Lines⟩,can,by_⟩:aP)) fun r_2=>some ((!r_2),0))=_
  rw [bne_self_eq_false,cond_false,w2,Option.bind_some]
 cases b with
 | false=>
  refine .inl ⟨hA,?_⟩
  unfold level_Convict level_Moves
  rw [ho,Option.bind_some]
  show Option.bind (cond ((0:Int) != 0) _ (Option.bind (cD N (⟨⟨n.Marks,n.Lines⟩,can,by_⟩:aP)) _)) _=_
  rw [bne_self_eq_false,cond_false,w2,Option.bind_some,Bool.not_false,cond_true,Option.bind_some]
  rfl
 | true=>
  refine .inr ⟨hA,?_⟩
  obtain ⟨s,k1,k2,k3,k4,k5⟩:=jK (ρ:=List aZ × Int) (fun s17:List aZ × Int=>level_Moves_b17 N n (n.Marks,can,by_,0) s17.1 s17.2)
   (fun i s=>s.2=(i:Int)∧(∀ m ∈ s.1,m.Mark < (i:Int))∧s.1.length≤i∧(st < i→∃ m ∈ s.1,m.Mark=(st:Int))) V (by
    rintro i ⟨out,y⟩ hi ⟨h1,h2,h3,h4⟩
    dsimp only at h1 h2 h3 h4 ⊢
    subst h1
    obtain ⟨ds,d1,d2,d3⟩:=aLz hN (w:=⟨⟨n.Marks,n.Lines⟩,can,by_⟩) hn (i:Int)
    obtain ⟨t,t1,t2,t3⟩:=aEw hN hV hn hv hi d2 h2 (by omega)
    refine ⟨(t.1,((i + 1:Nat):Int)),?_,rfl,?_,?_,?_⟩
    ·unfold level_Moves_b17
     dsimp only
     rw [dT (show (i:Int) < n.Marks by omega),cond_true,d1,Option.bind_some,t1,Option.bind_some,lI,dQ (by omega)]
    ·dsimp only
     intro m hm
     rcases t2 with h | ⟨d,h⟩
     ·rw [h] at hm; have:=h2 m hm; omega
     ·rw [h] at hm
      rcases List.mem_append.1 hm with hm | hm
      ·have:=h2 m hm; omega
      ·simp at hm; subst hm; dsimp only; omega
    ·dsimp only
     rcases t2 with h | ⟨d,h⟩
     ·rw [h]; omega
     ·rw [h,List.length_append]; simp; omega
    ·dsimp only
     intro hs
     rcases Nat.lt_or_ge st i with h | h
     ·obtain ⟨m,hm,he⟩:=h4 h
      refine ⟨m,?_,he⟩
      rcases t2 with h | ⟨d,h⟩
      ·rw [h]; exact hm
      ·rw [h]; exact List.mem_append_left _ hm
     ·have:st=i:=by omega
      subst this
      obtain ⟨d,h⟩:=t3 (hT ds d3)
      rw [h]
      exact ⟨⟨(st:Int),d⟩,by simp,rfl⟩) (by
    rintro ⟨out,y⟩ ⟨h1,-⟩
    dsimp only at h1 ⊢
    subst h1
    unfold level_Moves_b17
    rw [dF (by omega),cond_false]) V 0 (([]:List aZ),0) N (by omega) (by omega) ⟨rfl,by simp,by simp,by omega⟩
  have hMv:level_Moves N n=some (s.1,0):=by
   unfold level_Moves
   rw [ho,Option.bind_some]
   show cond ((0:Int) != 0) _ (Option.bind (cD N (⟨⟨n.Marks,n.Lines⟩,can,by_⟩:aP)) _)=_
   rw [bne_self_eq_false,cond_false,w2,Option.bind_some,Bool.not_true,cond_false,beq_eq_false_iff_ne.2 (show n.Marks ≠ 12 by omega),cond_false,k1,Option.bind_some,lI]
  obtain ⟨m,hm,hme⟩:=k5 hst
  unfold level_Convict
  rw [hMv,Option.bind_some]
  dsimp only
  rw [bne_self_eq_false,cond_false]
  cases hs1:s.1 with
  | nil=>rw [hs1] at hm; cases hm
  | cons a L=>
   rw [hs1] at hm
   rw [beq_eq_false_iff_ne.2 (by simp <;> omega),cond_false]
   cases L with
   | nil=>
    have:m=a:=by simpa using hm
    subst this
    left
    rw [dF (by simp),cond_false,show bQ [m] 0=some m from rfl,Option.bind_some,hme]
   | cons a' L=>
    right
    rw [dT (by simp <;> omega),cond_true]
end Go.Nilo.Lv
namespace Go.Nilo.Lv
theorem SOk.mono9 {u m:Int} {k k':Nat} (h:SOk u m k) (hk:k≤k'):SOk u m k':=⟨h.u0,by have:=h.u1; omega,h.m0,h.m1⟩
structure Ml (V:Nat) (hs:List Int) (l:aF):Prop where
 f:0≤l.From∧l.From < (V:Int)
 t:0≤l.To∧l.To < (V:Int)
 ne:l.From ≠ l.To
 d:0≤l.Day∧l.Day≤29
 e:0≤l.Error∧l.Error≤8
 r:hs.getD l.To.toNat 0 - hs.getD l.From.toNat 0 - l.Error≤l.Rise∧l.Rise≤hs.getD l.To.toNat 0 - hs.getD l.From.toNat 0 + l.Error
structure Md (V:Nat) (ls:List aF) (hs:List Int):Prop where
 v:2≤V∧V≤6
 h:hs.length=V
 b:∀ j,-300≤hs.getD j 0∧hs.getD j 0≤300
 n:ls.length≤14
 l:∀ x ∈ ls,Ml V hs x

theorem made_ok {N:Nat} (hN:40≤N) {bs:List Int} (hb:aAc bs) {u m:Int} {k:Nat} (hs:SOk u m k) (hk:k≤100000) :
  ∃ V ls hts u' m',oP N ⟨bs,u,m⟩ 6=some (⟨((V:Nat):Int),ls⟩,hts,u',m')∧Md V ls hts:=by
 unfold oP
 obtain ⟨v,u1,m1,a1,a2,a3,a4⟩:=nS (N:=N) hb (lo:=2) (hi:=6) hs (by omega) (by omega) (by omega) (by omega)
 rw [a1,Option.bind_some]
 obtain ⟨V,rfl⟩:=Int.eq_ofNat_of_zero_le (show 0≤v by omega)
 dsimp only
 obtain ⟨⟨hts,u2,m2⟩,b1,b2,b3,b4⟩:=jK (ρ:=aO × List Int × Int × Int) (fun s5:List Int × Int × Int=>mQ N ⟨bs,u,m⟩ ((V:Int),u1,m1) s5.1 s5.2.1 s5.2.2)
  (fun i s=>s.1.length=i∧(∀ j,-300≤s.1.getD j 0∧s.1.getD j 0≤300)∧SOk s.2.1 s.2.2 (k + 1 + i)) V (by
   rintro i ⟨h,u,m⟩ hi ⟨h1,h2,h3⟩
   dsimp only at h1 h2 h3 ⊢
   obtain ⟨z,u',m',c1,c2,c3,c4⟩:=nS (N:=N) hb (lo:=-300) (hi:=300) h3 (by omega) (by omega) (by omega) (by omega)
   refine ⟨(h++[z],u',m'),?_,by simp [h1],fun j=>?_,SOk.mono9 c4 (by omega)⟩
   ·unfold mQ
    dsimp only
    rw [dT (by omega),cond_true,c1,Option.bind_some,mX (by rw [List.length_append]; simp; omega),Option.bind_some]
   ·dsimp only
    rcases Nat.lt_or_ge j h.length with hj | hj
    ·rw [lN hj]; exact h2 j
    ·rcases Nat.eq_or_lt_of_le hj with e | e
     ·rw [← e,lO]; omega
     ·rw [gD0 (by rw [List.length_append]; simp; omega)]; omega) (by
   rintro ⟨h,u,m⟩ ⟨h1,-⟩
   dsimp only at h1 ⊢
   unfold mQ
   dsimp only
   rw [dF (by omega),cond_false]) (V - 1) 1 (([0]:List Int),u1,m1) N (by omega) (by omega) ⟨rfl,fun j=>by cases j with
    | zero=>simp
    | succ j=>rw [gD0 (by simp)]; omega,SOk.mono9 a4 (by omega)⟩
 dsimp only at b2 b3 b4
 rw [b1,Option.bind_some,lI]
 dsimp only
 obtain ⟨c,u3,m3,c1,c2,c3,c4⟩:=nS (N:=N) hb (lo:=1) (hi:=14) b4 (by omega) (by omega) (by omega) (by omega)
 rw [c1,Option.bind_some]
 obtain ⟨c,rfl⟩:=Int.eq_ofNat_of_zero_le (show 0≤c by omega)
 obtain ⟨⟨x,u4,m4,ls⟩,d1,d2,d3,d4,d5⟩:=jK (ρ:=aO × List Int × Int × Int) (fun s8:Int × Int × Int × List aF=>mV N ⟨bs,u,m⟩ ((V:Int),u1,m1) hts ((c:Int),u3,m3) s8.1 s8.2.1 s8.2.2.1 s8.2.2.2)
  (fun i s=>s.1=(i:Int)∧s.2.2.2.length=i∧(∀ l ∈ s.2.2.2,Ml V hts l)∧SOk s.2.1 s.2.2.1 (k + 10 + 5 * i)) c (by
   rintro i ⟨x,u,m,ls⟩ hi ⟨h1,h2,h3,h4⟩
   dsimp only at h1 h2 h3 h4 ⊢
   subst h1
   obtain ⟨a,v1,n1,e1,e2,e3,e4⟩:=mH (N:=N) hb (n:=((V:Nat):Int)) h4 (by omega)
   obtain ⟨q,v2,n2,f1,f2,f3,f4⟩:=mH (N:=N) hb (n:=((V:Nat):Int) - 1) e4 (by omega)
   obtain ⟨dy,v3,n3,g1,g2,g3,g4⟩:=mH (N:=N) hb (n:=30) f4 (by omega)
   obtain ⟨er,v4,n4,p1,p2,p3,p4⟩:=mH (N:=N) hb (n:=9) g4 (by omega)
   obtain ⟨z,v5,n5,q1,q2,q3,q4⟩:=nS (N:=N) hb (lo:=-er) (hi:=er) p4 (by omega) (by omega) (by omega) (by omega)
   obtain ⟨a,rfl⟩:=Int.eq_ofNat_of_zero_le e2
   have haV:a < V:=by omega
   obtain ⟨bb,hbb⟩:∃ bb,bb=((a:Int) + 1 + q) % (V:Int):=⟨_,rfl⟩
   have hb0:0≤bb:=by rw [hbb]; exact Int.emod_nonneg _ (by omega)
   have hb1:bb < (V:Int):=by rw [hbb]; exact Int.emod_lt_of_pos _ (by omega)
   have hba:bb ≠ (a:Int):=by
    intro e
    rcases Int.lt_or_le ((a:Int) + 1 + q) (V:Int) with h | h
    ·rw [Int.emod_eq_of_lt (by omega) h] at hbb
     omega
    ·have:((a:Int) + 1 + q) % (V:Int)=(a:Int) + 1 + q - V:=by
      rw [← Int.sub_emod_right,Int.emod_eq_of_lt (by omega) (by omega)]
     omega
   obtain ⟨b,rfl⟩:=Int.eq_ofNat_of_zero_le hb0
   have hbV:b < V:=by omega
   have ha:=b3 a
   have hb2:=b3 b
   have hmod:(W (W ((a:Int) + 1) + q)).tmod (V:Int)=(b:Int):=by
    rw [W_sm (n:=(a:Int) + 1) (by omega) (by omega),W_sm (by omega) (by omega),oZ (by omega),← hbb]
   have hlev:mA N ⟨bs,v3,n3⟩ hts (a:Int) (b:Int) dy=some (⟨(a:Int),(b:Int),dy,hts.getD b 0 - hts.getD a 0 + z,er⟩,v5,n5):=by
    unfold mA
    rw [p1,Option.bind_some,getI_d (0:Int) (show b < hts.length by omega),Option.bind_some,getI_d (0:Int) (show a < hts.length by omega),Option.bind_some]
    dsimp only
    rw [W_sm (n:=0 - er) (by omega) (by omega),Int.zero_sub,q1,Option.bind_some]
    dsimp only
    rw [W_sm (n:=hts.getD b 0 - hts.getD a 0) (by omega) (by omega),W_sm (by omega) (by omega)]
   refine ⟨(((i + 1:Nat):Int),v5,n5,ls++[⟨(a:Int),(b:Int),dy,hts.getD b 0 - hts.getD a 0 + z,er⟩]),?_,rfl,by simp [h2],?_,SOk.mono9 q4 (by omega)⟩
   ·unfold mV
    have hnz:nz (V:Int)=some ():=by unfold nz; rw [if_neg (by omega)]
    dsimp only
    rw [dT (by omega),cond_true,e1,Option.bind_some,W_sm (n:=(V:Int) - 1) (by omega) (by omega)]
    dsimp only
    rw [f1,Option.bind_some,hnz,Option.bind_some]
    dsimp only
    rw [g1,Option.bind_some]
    dsimp only
    rw [hmod,hlev,Option.bind_some]
    dsimp only
    rw [mX (by rw [List.length_append]; simp; omega),Option.bind_some,dQ (by omega)]
   ·intro l hl
    rcases List.mem_append.1 hl with hl | hl
    ·exact h3 l hl
    ·rw [List.mem_singleton] at hl
     subst hl
     refine ⟨⟨by dsimp only; omega,by dsimp only; omega⟩,⟨by dsimp only; omega,by dsimp only; omega⟩,fun e=>hba (by exact e.symm),⟨by dsimp only; omega,by dsimp only; omega⟩,⟨by dsimp only; omega,by dsimp only; omega⟩,?_⟩
     dsimp only
     rw [Int.toNat_natCast,Int.toNat_natCast]
     omega) (by
   rintro ⟨x,u,m,ls⟩ ⟨h1,-⟩
   dsimp only at h1 ⊢
   subst h1
   unfold mV
   dsimp only
   rw [dF (by omega),cond_false]) c 0 (0,u3,m3,([]:List aF)) N (by omega) (by omega) ⟨rfl,rfl,by simp,SOk.mono9 c4 (by omega)⟩
 dsimp only at d2 d3 d4 d5
 rw [d1,Option.bind_some,lI]
 exact ⟨V,ls,hts,u4,m4,rfl,⟨by omega,by omega⟩,b2,b3,by omega,d4⟩

def sk (st when sank:Int) (l:aF):aF:=⟨l.From,l.To,l.Day,l.Rise + (if when≤l.Day∧l.From=st then sank else 0) - (if when≤l.Day∧l.To=st then sank else 0),l.Error⟩

theorem aDc {w:Int}:∀ {l:List Int},(∃ x ∈ l,x≤w)→∃ x ∈ l,x≤w∧∀ y ∈ l,y≤w→y≤x
 | [],h=>by obtain ⟨x,hx,_⟩:=h; cases hx
 | a::l,h=>by
  by_cases hl:∃ x ∈ l,x≤w
  ·obtain ⟨x,h1,h2,h3⟩:=aDc hl
   by_cases ha:a≤w∧x≤a
   ·refine ⟨a,List.mem_cons_self,ha.1,fun y hy hyw=>?_⟩
    rcases List.mem_cons.1 hy with rfl | hy
    ·exact Int.le_refl _
    ·exact Int.le_trans (h3 y hy hyw) ha.2
   ·refine ⟨x,List.mem_cons_of_mem _ h1,h2,fun y hy hyw=>?_⟩
    rcases List.mem_cons.1 hy with rfl | hy
    ·omega
    ·exact h3 y hy hyw
  ·obtain ⟨x,hx,hxw⟩:=h
   rcases List.mem_cons.1 hx with rfl | hx
   ·refine ⟨x,List.mem_cons_self,hxw,fun y hy hyw=>?_⟩
    rcases List.mem_cons.1 hy with rfl | hy
    ·exact Int.le_refl _
    ·exact absurd ⟨y,hy,hyw⟩ hl
   ·exact absurd ⟨x,hx,hxw⟩ hl

theorem sk_netok {V:Nat} {ls:List aF} {hs:List Int} (h:Md V ls hs) {st when sank:Int} (hs0:0≤sank∧sank≤79):oF V (ls.map (sk st when sank)):=by
 have hv:=h.v
 refine ⟨by omega,by omega,by rw [List.length_map]; have:=h.n; omega,fun i hi=>?_⟩
 rw [List.length_map] at hi
 have hg:(ls.map (sk st when sank)).getD i ln0=sk st when sank ls[i]:=by
  rw [gD (by rw [List.length_map]; exact hi),List.getElem_map]
 rw [hg]
 obtain ⟨f,t,ne,d,e,r⟩:=h.l ls[i] (List.getElem_mem _)
 have b1:=h.b ls[i].To.toNat
 have b2:=h.b ls[i].From.toNat
 unfold sk
 refine ⟨f,t,ne,by dsimp only; omega,?_,by dsimp only; omega⟩
 dsimp only
 split <;> split <;> omega

theorem sk_truth {V:Nat} {ls:List aF} {hs:List Int} (h:Md V ls hs) {st:Nat} (hst:st + 1=V) {when sank:Int} (hw:1≤when) (hs0:0≤sank∧sank≤79) {ds:List Int} (hds:aJj (ls.map (sk (st:Int) when sank)) (st:Int) ds) :
  ∃ d ∈ ds,∃ g,Tr (V + 1) ((ls.map (sk (st:Int) when sank)).map (pl V (st:Int) d)) g:=by
 obtain ⟨d,hd,hdw,hmax⟩:=aDc (w:=when) (l:=ds) ⟨1,(hds 1).2 ⟨by omega,.inl rfl⟩,hw⟩
 have hv:=h.v
 have hday:∀ i (hi:i < ls.length),(ls[i].From=(st:Int) ∨ ls[i].To=(st:Int))→(d≤ls[i].Day ↔ when≤ls[i].Day):=by
  intro i hi hat
  obtain ⟨f,t,ne,dd,e,r⟩:=h.l ls[i] (List.getElem_mem _)
  constructor
  ·intro h1
   rcases Int.lt_or_le ls[i].Day when with h2 | h2
   ·have hm:ls[i].Day + 1 ∈ ds:=(hds _).2 ⟨by omega,.inr ⟨i,by rw [List.length_map]; exact hi,?_,?_⟩⟩
    ·have:=hmax _ hm (by omega)
     omega
    ·rw [gD (by rw [List.length_map]; exact hi),List.getElem_map]
     exact hat
    ·rw [gD (by rw [List.length_map]; exact hi),List.getElem_map]
     rfl
   ·exact h2
  ·omega
 have hnk:=aE3 (sk_netok h (st:=(st:Int)) (when:=when) hs0) (by omega) (mark:=(st:Int)) (by omega) d
 refine ⟨d,hd,fun v=>if v=(V:Int) then hs.getD st 0 - sank else if 0≤v then hs.getD v.toNat 0 else 0,⟨?_,?_⟩⟩
 ·-- the heights agree with each line
  have hline:∀ i (hi:i < ls.length),let l:=pl V (st:Int) d (sk (st:Int) when sank ls[i]); let g:Int→Int:=fun v=>if v=(V:Int) then hs.getD st 0 - sank else if 0≤v then hs.getD v.toNat 0 else 0
    g l.To - g l.From≤l.Error + l.Rise∧g l.From - g l.To≤l.Error - l.Rise:=by
   intro i hi
   obtain ⟨f,t,ne,dd,e,r⟩:=h.l ls[i] (List.getElem_mem _)
   have hD:=hday i hi
   dsimp only
   generalize ls[i]=x at *
   have hsf:x.From=(st:Int)→hs.getD x.From.toNat 0=hs.getD st 0:=fun e=>by rw [e,Int.toNat_natCast]
   have hst':x.To=(st:Int)→hs.getD x.To.toNat 0=hs.getD st 0:=fun e=>by rw [e,Int.toNat_natCast]
   have hgv:∀ v:Int,0≤v→v < (V:Int)→(if v=(V:Int) then hs.getD st 0 - sank else if 0≤v then hs.getD v.toNat 0 else 0)=hs.getD v.toNat 0:=fun v h0 h1=>by rw [if_neg (by omega),if_pos h0]
   have hgV:(if (V:Int)=(V:Int) then hs.getD st 0 - sank else if 0≤(V:Int) then hs.getD (V:Int).toNat 0 else 0)=hs.getD st 0 - sank:=if_pos rfl
   unfold pl sk
   dsimp only
   by_cases h1:x.From=(st:Int)
   ·have h2:x.To ≠ (st:Int):=fun e=>ne (h1.trans e.symm)
    have hD':=hD (.inl h1)
    rw [if_neg (show ¬ (when≤x.Day∧x.To=(st:Int)) from fun e=>h2 e.2)]
    by_cases h3:when≤x.Day
    ·rw [if_pos (show when≤x.Day∧x.From=(st:Int) from ⟨h3,h1⟩),if_neg (show ¬ x.Day < d by omega)]
     dsimp only
     rw [if_pos h1,if_neg h2,hgV,hgv _ t.1 t.2]
     have:=hsf h1
     omega
    ·rw [if_neg (show ¬ (when≤x.Day∧x.From=(st:Int)) from fun e=>h3 e.1),if_pos (show x.Day < d by omega)]
     dsimp only
     rw [hgv _ t.1 t.2,hgv _ f.1 f.2]
     omega
   ·rw [if_neg (show ¬ (when≤x.Day∧x.From=(st:Int)) from fun e=>h1 e.2)]
    by_cases h2:x.To=(st:Int)
    ·have hD':=hD (.inr h2)
     by_cases h3:when≤x.Day
     ·rw [if_pos (show when≤x.Day∧x.To=(st:Int) from ⟨h3,h2⟩),if_neg (show ¬ x.Day < d by omega)]
      dsimp only
      rw [if_neg h1,if_pos h2,hgV,hgv _ f.1 f.2]
      have:=hst' h2
      omega
     ·rw [if_neg (show ¬ (when≤x.Day∧x.To=(st:Int)) from fun e=>h3 e.1),if_pos (show x.Day < d by omega)]
      dsimp only
      rw [hgv _ t.1 t.2,hgv _ f.1 f.2]
      omega
    ·rw [if_neg (show ¬ (when≤x.Day∧x.To=(st:Int)) from fun e=>h2 e.2)]
     by_cases hdd:x.Day < d
     ·rw [if_pos hdd]
      dsimp only
      rw [hgv _ t.1 t.2,hgv _ f.1 f.2]
      omega
     ·rw [if_neg hdd]
      dsimp only
      rw [if_neg h1,if_neg h2,hgv _ t.1 t.2,hgv _ f.1 f.2]
      omega
  intro e he
  obtain ⟨i,hi,b,rfl⟩:=(aEt hnk).1 he
  rw [List.length_map,List.length_map] at hi
  have hl:=hline i hi
  have hg:((ls.map (sk (st:Int) when sank)).map (pl V (st:Int) d)).getD i ln0=pl V (st:Int) d (sk (st:Int) when sank ls[i]):=by
   rw [gD (by rw [List.length_map,List.length_map]; exact hi),List.getElem_map,List.getElem_map]
  dsimp only at hl
  unfold wR stF glF rsF lnA
  dsimp only
  rw [Int.toNat_natCast,hg]
  cases b
  ·exact hl.1
  ·exact hl.2
 ·intro v
  have b1:=h.b st
  have b2:=h.b v.toNat
  split
  ·omega
  ·split <;> omega
end Go.Nilo.Lv
namespace Go.Nilo
open Lv (sk Md)
theorem aL0 {ls:List aF} {V st:Nat} {hs:List Int} (hM:Md V ls hs) (hst:st + 1=V) {by_ day when sank:Int} (hwhen:W (1 + (W day).tmod 29)=when) (hsank:(W by_).tmod 80=sank) (hs0:0≤sank∧sank≤79) {r_1:aO × List Int × Int × Int} (hr:r_1.1=⟨(V:Int),ls⟩) :
  bC (fun s8:List aF × Int=>iI 700 by_ day r_1 s8.1 s8.2) 700 (ls,0)=some (.go (ls.map (sk (st:Int) when sank),(ls.length:Int))):=by
 have hn:=hM.n
 have hv:=hM.v
 have hWst:W ((V:Int) - 1)=(st:Int):=by rw [W_sm (by omega) (by omega)]; omega
 obtain ⟨s,k1,A,B,k2,k3,k4⟩:=jK (ρ:=Bool) (fun s8:List aF × Int=>iI 700 by_ day r_1 s8.1 s8.2) (fun i s=>∃ A B,ls=A++B∧A.length=i∧s=(A.map (sk (st:Int) when sank)++B,(i:Int))) ls.length (by
  rintro i s hi ⟨A,B,h1,h2,rfl⟩
  cases B with
  | nil=>
   exfalso
   have:=congrArg List.length h1
   simp at this
   omega
  | cons l B=>
   refine ⟨(A.map (sk (st:Int) when sank)++sk (st:Int) when sank l::B,((i + 1:Nat):Int)),?_,A++[l],B,by rw [h1]; simp,by simp [h2],by simp⟩
   have hl:=hM.l l (by rw [h1]; simp)
   have b1:=hM.b l.To.toNat
   have b2:=hM.b l.From.toNat
   have hR:=hl.r
   have hE:=hl.e
   have hA:((i:Nat):Int)=((A.map (sk (st:Int) when sank)).length:Int):=by rw [List.length_map]; omega
   have hA':i=(A.map (sk (st:Int) when sank)).length:=by rw [List.length_map]; omega
   have hg:∀ z:aF,bQ (A.map (sk (st:Int) when sank)++z::B) (i:Int)=some z:=fun z=>Lv.getI_at hA
   have hset:∀ z z':aF,(A.map (sk (st:Int) when sank)++z::B).set i z'=A.map (sk (st:Int) when sank)++z'::B:=fun z z'=>Lv.set_at hA'
   dsimp only
   unfold iI
   rw [hr]
   dsimp only
   rw [dT (by omega),cond_true,hg,Option.bind_some,hwhen,hsank,hWst]
   have hj38:∀ z:aF,iV 700 (i:Int) (A.map (sk (st:Int) when sank)++z::B)=some (.cont (A.map (sk (st:Int) when sank)++z::B,((i + 1:Nat):Int))):=fun z=>by
    unfold iV
    rw [dQ (by omega)]
   have hj40:∀ (z:aF) (b:Bool),b=(decide (when≤l.Day) && (l.To == (st:Int)))→iY 700 by_ day r_1 (i:Int) l (A.map (sk (st:Int) when sank)++z::B)=cond b (some (.cont (A.map (sk (st:Int) when sank)++⟨z.From,z.To,z.Day,W (z.Rise - sank),z.Error⟩::B,((i + 1:Nat):Int)))) (some (.cont (A.map (sk (st:Int) when sank)++z::B,((i + 1:Nat):Int)))):=fun z b hb=>by
    unfold iY
    rw [hr]
    dsimp only
    rw [hwhen,hsank,hWst,← hb,hg,Option.bind_some,Option.bind_some,Int.toNat_natCast,hset,hj38,hj38]
   by_cases hw:when≤l.Day
   ·rw [dT hw,Bool.true_and]
    by_cases hf:l.From=(st:Int)
    ·have ht:l.To ≠ (st:Int):=fun e=>hl.ne (hf.trans e.symm)
     rw [beq_iff_eq.2 hf,cond_true,Option.bind_some,Option.bind_some,Int.toNat_natCast,hset,hj40 _ false (by rw [dT hw,beq_eq_false_iff_ne.2 ht]; rfl),cond_false,W_sm (by omega) (by omega)]
     unfold sk
     rw [if_pos ⟨hw,hf⟩,if_neg (fun e=>ht e.2),Int.sub_zero]
    ·rw [beq_eq_false_iff_ne.2 hf,cond_false]
     by_cases ht:l.To=(st:Int)
     ·rw [hj40 _ true (by rw [dT hw,beq_iff_eq.2 ht]; rfl),cond_true,W_sm (by omega) (by omega)]
      unfold sk
      rw [if_neg (fun e=>hf e.2),if_pos ⟨hw,ht⟩,Int.add_zero]
     ·rw [hj40 _ false (by rw [dT hw,beq_eq_false_iff_ne.2 ht]; rfl),cond_false]
      unfold sk
      rw [if_neg (fun e=>hf e.2),if_neg (fun e=>ht e.2),Int.add_zero,Int.sub_zero]
   ·rw [dF hw,Bool.false_and,cond_false,hj40 _ false (by rw [dF hw]; rfl),cond_false]
    unfold sk
    rw [if_neg (fun e=>hw e.1),if_neg (fun e=>hw e.1),Int.add_zero,Int.sub_zero]) (by
  rintro s ⟨A,B,h1,h2,rfl⟩
  dsimp only
  unfold iI
  rw [hr]
  dsimp only
  rw [pZ,cond_false]) ls.length 0 (ls,0) 700 (by omega) (by omega) ⟨[],ls,rfl,rfl,rfl⟩
 have hB:B=[]:=List.eq_nil_of_length_eq_zero (by
  have:=congrArg List.length k2
  simp at this
  omega)
 subst hB
 rw [List.append_nil] at k2 k4
 rw [k1,k4,← k2]

theorem aI2 {numbers gaugings:List Int} (hb:aAc numbers) (hg:aAc gaugings) {by_ day:Int} (h1:0≤by_∧by_≤255) (h2:0≤day∧day≤255):top_TopMoved 700 numbers gaugings by_ day=some true:=by
 have hN:700≤700:=by omega
 have hN40:40≤700:=by omega
 obtain ⟨V,ls,hts,u',m',a1,hM⟩:=Lv.made_ok hN40 hb (u:=0) (m:=0) (k:=0) ⟨by omega,by omega,by omega,by omega⟩ (by omega)
 have hv:=hM.v
 obtain ⟨st,hst⟩:∃ st,st + 1=V:=⟨V - 1,by omega⟩
 obtain ⟨sank,hsank⟩:∃ s,(W by_).tmod 80=s:=⟨_,rfl⟩
 obtain ⟨when,hwhen⟩:∃ s,W (1 + (W day).tmod 29)=s:=⟨_,rfl⟩
 have hs0:0≤sank∧sank≤79:=by
  rw [W_sm (by omega) (by omega),oZ h1.1] at hsank
  omega
 have hw1:1≤when:=by
  rw [W_sm (n:=day) (by omega) (by omega),oZ h2.1,W_sm (by omega) (by omega)] at hwhen
  omega
 have hWst:W ((V:Int) - 1)=(st:Int):=by rw [W_sm (by omega) (by omega)]; omega
 have hnk:=Lv.sk_netok hM (st:=(st:Int)) (when:=when) hs0
 have hcon:=Lv.convict_ok (N:=700) hN40 (n:=⟨(V:Int),ls.map (sk (st:Int) when sank)⟩) rfl hnk (by omega) (st:=st) (by omega) (fun ds hds=>Lv.sk_truth hM hst hw1 hs0 hds)
 -- the gaugings
 obtain ⟨x,u1,m1,b1,b2,b3,b4⟩:=mH (N:=700) hg (u:=0) (m:=0) (n:=500) (k:=0) ⟨by omega,by omega,by omega,by omega⟩ (by omega)
 obtain ⟨d0,u2,m2,c1,c2,c3,c4⟩:=mH (N:=700) hg (n:=3) b4 (by omega)
 obtain ⟨s,l1,i,dd,u3,m3,i1,i2,hJ⟩:=aLj hg hwhen hsank hs0 (x:=x) ⟨b2,by omega⟩ (r5:=(x,u1,m1)) rfl (d0:=d0) ⟨c2,by omega⟩ c4 (by omega)
 have hF:2000≤2000 + x∧2000 + x≤2499:=by omega
 have hW:W (2000 + x)=2000 + x:=W_sm (by omega) (by omega)
 have hlg:=hJ.lg
 have hlc:=hJ.lc
 have hr:wE ⟨rt2 (2000 + x),s.2.2.2.2⟩:=by
  refine ⟨aGg hF,by dsimp only; omega,by dsimp only; omega,fun g hg=>?_,fun j hj=>hJ.up j (by dsimp only at hj; omega)⟩
  obtain ⟨j,hj,rfl⟩:=List.getElem_of_mem hg
  dsimp only at hj ⊢
  rw [eF (d:=g0) hj]
  exact (hJ.g j (by omega)).1
 have hcb:∀ j,j < s.1.length→-300≤s.1.getD j 0∧s.1.getD j 0≤300:=by
  intro j hj
  have:=(hJ.g j (by omega)).2.2.2
  rw [this]
  unfold pT
  split <;> omega
 obtain ⟨hp,hc⟩:=aLh (r:=⟨rt2 (2000 + x),s.2.2.2.2⟩) (c:=s.1) (by dsimp only; omega) (fun j hj=>by
  dsimp only at hj
  have h:=hJ.g j (by omega)
  have h3:=hcb j (by omega)
  exact ⟨h.2.2.1,h3.1,h3.2⟩)
 have hMv:=aJ7 hN hr hp hc hcb
 have hLs:=aG5 hN hr hp
 obtain ⟨z,z1,z2,z3,z4⟩:=aD2 hN hr hp
 have hPr:=aIs hN hr hp z2 (by omega)
 rw [z4] at hPr
 have hle:=aBe (sU hr hp) hc
 have hms:move s.1≤sank:=by
  have:=hJ.mv
  rw [if_neg (by omega)] at this
  have h3:=(hJ.g (i - 1) (by omega)).2.2.2
  rw [h3] at this
  unfold pT at this
  split at this <;> omega
 unfold top_TopMoved
 show Option.bind (oP 700 ⟨numbers,0,0⟩ 6) _=_
 rw [a1,Option.bind_some]
 show Option.bind (bC (fun s8:List aF × Int=>iI 700 by_ day (⟨(V:Int),ls⟩,hts,u',m') s8.1 s8.2) 700 (ls,0)) _=_
 have hcond:∀ rem:Option Bool,(Option.bind (kE 700 (⟨(V:Int),ls.map (sk (st:Int) when sank)⟩:aO)) fun r_3=>Option.bind (level_Convict 700 (⟨(V:Int),ls.map (sk (st:Int) when sank)⟩:aO)) fun r_4=>
   cond ((((r_3.2 != 0) || (r_3.1 != (r_4.2 == 8))) || ((r_4.2 == 0) && (r_4.1 != (W ((V:Int) - 1))))) || (((r_4.2 != 0) && (r_4.2 != 8)) && (r_4.2 != 11))) (some false) rem)=rem:=by
  intro rem
  rcases hcon with ⟨e1,e2⟩ | ⟨e1,e2 | e2⟩
  ·rw [e1,Option.bind_some,e2,Option.bind_some]
   rfl
  ·rw [e1,Option.bind_some,e2,Option.bind_some]
   dsimp only
   rw [hWst,bne_self_eq_false,bne_self_eq_false]
   rfl
  ·rw [e1,Option.bind_some,e2,Option.bind_some]
   rfl
 rw [aL0 hM hst hwhen hsank hs0 rfl,Option.bind_some,eK]
 dsimp only
 refine (hcond _).trans ?_
 show Option.bind (cH 700 ⟨gaugings,0,0⟩ 500) _=_
 rw [b1,Option.bind_some]
 show Option.bind (cH 700 ⟨gaugings,u1,m1⟩ 3) _=_
 rw [c1,Option.bind_some]
 show Option.bind (bC (fun s18:List Int × Int × Int × Int × List aJ=>eY 700 gaugings by_ day (x,u1,m1) s18.1 s18.2.1 s18.2.2.1 s18.2.2.2.1 s18.2.2.2.2) 700 (([]:List Int),d0,u2,m2,([]:List aJ))) _=_
 rw [l1,Option.bind_some,eK]
 dsimp only
 rw [hW]
 show Option.bind (nV 700 ⟨rt2 (2000 + x),s.2.2.2.2⟩ s.1) _=_
 rw [hMv,Option.bind_some]
 show Option.bind (nP 700 ⟨rt2 (2000 + x),s.2.2.2.2⟩) _=_
 rw [hLs,Option.bind_some]
 show Option.bind (jY 700 ⟨rt2 (2000 + x),s.2.2.2.2⟩) _=_
 rw [z1,Option.bind_some]
 show Option.bind (mG 700 ⟨rt2 (2000 + x),s.2.2.2.2⟩ z) _=_
 rw [hPr,Option.bind_some]
 dsimp only
 rw [hsank,dT hle,dT hms,beq_self_eq_true,beq_self_eq_true,aGl]
 rfl
end Go.Nilo
