/-
  What the plain functions compute, in plain arithmetic, part 2. Conditions: what each theorem names.
-/
import Derived.Test.YtkcmofifepmkdaaGreatTdL1
set_option linter.unusedSimpArgs false
set_option linter.unusedVariables false
namespace Go.Nilo.Ba
theorem aAc {σ ρ:Type} {f:σ→Option (dA σ ρ)} (Inv Post:σ→Prop) (μ:σ→Nat) (h:∀ s,Inv s→(∃ s',f s=some (.brk s')∧Post s') ∨ (∃ s',f s=some (.cont s')∧Inv s'∧μ s' < μ s)):∀ (N:Nat) (s:σ),Inv s→μ s < N→∃ s',bN f N s=some (.go s')∧Post s'
 | 0,s,_,hN=>by omega
 | N + 1,s,hs,hN=>by
  unfold bN
  rcases h s hs with ⟨s',h1,h2⟩ | ⟨s',h1,h2,h3⟩
  ·exact ⟨s',by rw [h1],h2⟩
  ·obtain ⟨s'',h4,h5⟩:=aAc Inv Post μ h N s' h2 (by omega)
   exact ⟨s'',by rw [h1]; exact h4,h5⟩
def oF (mp:FM):Nat→Option Far:=fun p=>(mp (p:Int)).map fun f=>(f.cost,f.many,f.by_.way.toNat,f.by_.back)
theorem aNh {mp:FM} {O:Nat→Option Far} (h:MO mp O):oF mp=O:=by
 funext p
 unfold oF
 rw [h p]
 cases O p with
 | none=>rfl
 | some v=>obtain ⟨a,b,c,d⟩:=v; simp [mkF]
abbrev B14:=dA (Int × Bool × FM) (dA St2 FM)
def aBa (N:Nat) (d:aP) (r24:Int→FM→Bool→FM→aB→Option (Rs St2)) (x:Int) (bq:Bool) (mp:FM):Option B14 :=
 cond (decide (x < (W (d.ways.outside + 2))))
 (cond (!((mp x).isSome))
 (some (.cont (W (x + 1),bq,mp)))
 (Option.bind (kG N d x) fun r=>
 Option.bind (dV N d r (rY (fun (zz:St2) (ix_:aB)=>r24 x mp zz.1 zz.2 ix_)) (.go (bq,mp))) fun x24=>
 rsK x24 (fun zz24=>some (.cont (W (x + 1),zz24.1,zz24.2))) (fun zz24=>none)))
 (some (.brk (x,bq,mp)))
def aGz (N:Nat) (d:aP) (r24:Int→FM→Bool→FM→aB→Option (Rs St2)) (x:Bool) (mp:FM):Option (dA St2 FM) :=
 cond x
 (Option.bind (bN (fun s14=>aBa N d r24 s14.1 s14.2.1 s14.2.2) N (0,false,mp)) fun x14=>
 exK x14 (fun s14=>some (.cont (s14.2.1,s14.2.2))) some)
 (some (.brk (x,mp)))
theorem aMq {N K:Nat} {l:List aE} (h:WOk K l) {r:Int} (hN:60≤N) {cnt:Nat × Bool→Bool} {r24:Int→FM→Bool→FM→aB→Option (Rs St2)} (hr:Rnd K l cnt r24) {src:Nat} {mp:FM} {O:Nat→Option Far} (hm:MO mp O) (hi:RI K (wl l) cnt src O) :
  ∃ z:Bool × FM,aGz N ⟨⟨l,(K:Int) - 1⟩,r⟩ r24 true mp=some (.cont z)∧∃ O',PI K (wl l) cnt src O (fun s=>og (wl l) s < K + 1) z.1 z.2 O':=by
 have hk:=h.k
 have hn:=h.n
 have hW:W ((K:Int) - 1 + 2)=((K + 1:Nat):Int):=by rw [eH (by omega) (by omega)]; push_cast; omega
 obtain ⟨s,h1,h2,O',h3⟩:=kW (ρ:=dA St2 FM) (fun s14:Int × Bool × FM=>aBa N ⟨⟨l,(K:Int) - 1⟩,r⟩ r24 s14.1 s14.2.1 s14.2.2)
  (fun x s=>s.1=(x:Int)∧∃ O',PI K (wl l) cnt src O (fun s=>og (wl l) s < x) s.2.1 s.2.2 O') (K + 1) (by
  rintro x ⟨z,b,mp'⟩ hx ⟨rfl,O',hp⟩
  dsimp only at hp
  show ∃ s',aBa N ⟨⟨l,(K:Int) - 1⟩,r⟩ r24 (x:Int) b mp'=some (.cont s')∧_
  unfold aBa
  show ∃ s',cond (decide ((x:Int) < W ((K:Int) - 1 + 2))) _ _=_∧_
  rw [hW,nF hx,cond_true]
  cases ho:O' x with
  | none=>
   have:mp' (x:Int)=none:=by rw [hp.mo x,ho]; rfl
   rw [this]
   refine ⟨(W ((x:Int) + 1),b,mp'),rfl,iF (by omega),O',hp.mo,hp.ri,fun hb=>?_,hp.t⟩
   obtain ⟨e1,e2⟩:=hp.f hb
   refine ⟨e1,fun s hs hsl hsc c m s' hos=>?_⟩
   rcases Nat.lt_or_ge (og (wl l) s) x with hlt | hge
   ·exact e2 s hlt hsl hsc c m s' hos
   ·have:og (wl l) s=x:=by omega
    rw [this,ho] at hos
    cases hos
  | some v=>
   obtain ⟨c,m,s'⟩:=v
   have hmp:mp' (x:Int)=some (mkF (c,m,s')):=by rw [hp.mo x,ho]; rfl
   obtain ⟨z,e1,O2,e2⟩:=aKh (N:=N) (o:=(K:Int) - 1) (r:=r) h (by omega) hr hp ho
   refine ⟨(W ((x:Int) + 1),z.1,z.2),?_,iF (by omega),O2,e2⟩
   rw [hmp]
   show (Option.bind (dV N ⟨⟨l,(K:Int) - 1⟩,r⟩ (x:Int) (rY (fun (zz:St2) (ix_:aB)=>r24 (x:Int) mp' zz.1 zz.2 ix_)) (.go (b,mp'))) _)=_
   rw [e1]
   rfl) (by
  rintro ⟨z,b,mp'⟩ ⟨rfl,-⟩
  show aBa N ⟨⟨l,(K:Int) - 1⟩,r⟩ r24 ((K + 1:Nat):Int) b mp'=_
  unfold aBa
  show cond (decide (((K + 1:Nat):Int) < W ((K:Int) - 1 + 2))) _ _=_
  rw [hW,nC,cond_false]) (K + 1) 0 (0,false,mp) N (by omega) (by omega) ⟨rfl,O,hm,hi,fun _=>⟨rfl,fun s hs=>by omega⟩,fun hb=>by cases hb⟩
 refine ⟨(s.2.1,s.2.2),?_,O',h3⟩
 unfold aGz
 rw [cond_true,h1]
 rfl
theorem aE8 {N K:Nat} {l:List aE} (h:WOk K l) {r:Int} (hN:7000≤N) {cnt:Nat × Bool→Bool} {r24:Int→FM→Bool→FM→aB→Option (Rs St2)} (hr:Rnd K l cnt r24) {src:Nat} (hs:src < K) :
  ∃ z:Bool × FM,bN (fun s6:Bool × FM=>aGz N ⟨⟨l,(K:Int) - 1⟩,r⟩ r24 s6.1 s6.2) N (true,(gQ (fun _=>none:FM) (src:Int) f0))=some (.go z)∧∃ O,MO z.2 O∧RI K (wl l) cnt src O∧RS K (wl l) cnt src O:=by
 have hK:=h.k
 have h00:MO (fun _=>none) (fun _=>none):=fun _=>rfl
 have hst:=RI.start (ws:=wl l) (cnt:=cnt) hK.2 hs (0,false)
 have hmo:=h00.set src (0,0,0,false)
 refine aAc (fun s:Bool × FM=>∃ O,MO s.2 O∧RI K (wl l) cnt src O∧(s.1=false→RS K (wl l) cnt src O)) (fun s=>∃ O,MO s.2 O∧RI K (wl l) cnt src O∧RS K (wl l) cnt src O)
  (fun s=>if s.1=true then (mu K (oF s.2)).toNat + 1 else 0) ?_ N _ ⟨_,hmo,hst,fun hb=>by cases hb⟩ ?_
 ·rintro ⟨b,mp⟩ ⟨O,g1,g2,g3⟩
  dsimp only at g1 g3
  cases b with
  | false=>exact .inl ⟨(false,mp),rfl,O,g1,g2,g3 rfl⟩
  | true=>
   right
   obtain ⟨z,e1,O',e2⟩:=aMq (N:=N) (r:=r) h (by omega) hr g1 g2
   refine ⟨z,e1,⟨O',e2.mo,e2.ri,fun hz=>?_⟩,?_⟩
   ·obtain ⟨a1,a2⟩:=e2.f hz
    refine e2.ri.done fun s c m s' hsl hsc ho=>a2 s ?_ hsl hsc c m s' ho
    have hsl':s.1 < l.length:=by simpa using hsl
    obtain ⟨p1,p2,-⟩:=h.pl hsl'
    show og (wl l) (s.1,s.2) < K + 1
    rw [aBb h hsl']
    cases s.2
    ·rw [cond_false]; omega
    ·rw [cond_true]; omega
   ·dsimp only
    rw [if_pos rfl]
    split
    ·rename_i hz
     rw [aNh e2.mo,aNh g1]
     have:=e2.t hz
     have m1:=e2.ri.mu_bd hK.2
     have m2:=g2.mu_bd hK.2
     omega
    ·omega
 ·dsimp only
  rw [if_pos rfl]
  have e:oF (gQ (fun _=>none:FM) (src:Int) f0)=upd (fun _=>none) src (0,0,0,false):=aNh hmo
  rw [e]
  have:=hst.mu_bd hK.2
  omega
theorem aNp {N K:Nat} {l:List aE} (h:WOk K l) {r:Int} {o:Int}:Rnd K l (fun _=>true) (eO N ⟨⟨l,o⟩,r⟩):=⟨by
 intro x mp1 b mp O i bk hi hog hmo c m s' hmp hc hm
 obtain ⟨p1,p2⟩:=aC1 (wl l) (i,bk)
 unfold eO
 rw [show (!(fW ⟨(i:Int),bk⟩))=false from rfl,cond_false,xQ h hi,Option.bind_some,aHe h hi,Option.bind_some,hmp]
 show cond (((!((mp ((tg (wl l) (i,bk):Nat):Int)).isSome) || decide (W (c + eA (wl l) (i,bk)) < ((mp ((tg (wl l) (i,bk):Nat):Int)).getD f0).cost)) || (W (c + eA (wl l) (i,bk)) == ((mp ((tg (wl l) (i,bk):Nat):Int)).getD f0).cost && decide (W (m + 1) < ((mp ((tg (wl l) (i,bk):Nat):Int)).getD f0).many))))
  (some (Rs.go (true,gQ (gQ mp ((tg (wl l) (i,bk):Nat):Int) ((mp ((tg (wl l) (i,bk):Nat):Int)).getD f0)) ((tg (wl l) (i,bk):Nat):Int) ⟨W (c + eA (wl l) (i,bk)),W (m + 1),⟨(i:Int),bk⟩⟩))) (some (Rs.go (b,mp)))=_
 rw [eH (n:=c + eA (wl l) (i,bk)) (by omega) (by omega),eH (n:=m + 1) (by omega) (by omega),aFk hmo,aD2]
 unfold aFq
 rw [Bool.true_and]
 cases rT (c + eA (wl l) (i,bk)) (m + 1) (O (tg (wl l) (i,bk))) <;> rfl⟩
def aG6 (ws:List Wx) (k:Nat) (s:Nat × Bool):Bool:=decide (0 < fr ws s) && !(s.1 == k)
theorem aMm {N K:Nat} {l:List aE} (h:WOk K l) {r:Int} {o:Int} {k:Nat}:Rnd K l (aG6 (wl l) k) (dN N ⟨⟨l,o⟩,r⟩ (k:Int)):=⟨by
 intro x mp1 b mp O i bk hi hog hmo c m s' hmp hc hm
 obtain ⟨p1,p2⟩:=aC1 (wl l) (i,bk)
 have hfree:jB N ⟨(i:Int),bk⟩ ⟨⟨l,o⟩,r⟩ (k:Int)=some (aG6 (wl l) k (i,bk)):=by
  unfold jB
  show (Option.bind (dW N ⟨⟨l,o⟩,r⟩ ⟨(i:Int),bk⟩) _)=_
  rw [xQ h hi,Option.bind_some]
  unfold aG6 eA
  have e1:((i:Int) == (k:Int))=(i == k):=by
   by_cases e:i=k
   ·subst e; simp
   ·have hne:¬ ((i:Int)=(k:Int)):=by omega
    rw [beq_eq_false_iff_ne.2 e,beq_eq_false_iff_ne.2 hne]
  rw [e1]
  by_cases hf:0 < fr (wl l) (i,bk)
  ·rw [if_pos hf,decide_eq_true hf]
   cases i == k <;> cases bk <;> rfl
  ·rw [if_neg hf,decide_eq_false hf]
   rfl
 unfold dN
 rw [hfree,Option.bind_some]
 unfold aFq
 cases hcn:aG6 (wl l) k (i,bk) with
 | false=>rfl
 | true=>
  rw [Bool.not_true,cond_false,xQ h hi,Option.bind_some,aHe h hi,Option.bind_some,hmp]
  show cond (((!((mp ((tg (wl l) (i,bk):Nat):Int)).isSome) || decide (W (c + eA (wl l) (i,bk)) < ((mp ((tg (wl l) (i,bk):Nat):Int)).getD f0).cost)) || (W (c + eA (wl l) (i,bk)) == ((mp ((tg (wl l) (i,bk):Nat):Int)).getD f0).cost && decide (W (m + 1) < ((mp ((tg (wl l) (i,bk):Nat):Int)).getD f0).many))))
   (some (Rs.go (true,gQ (gQ mp ((tg (wl l) (i,bk):Nat):Int) ((mp ((tg (wl l) (i,bk):Nat):Int)).getD f0)) ((tg (wl l) (i,bk):Nat):Int) ⟨W (c + eA (wl l) (i,bk)),W (m + 1),⟨(i:Int),bk⟩⟩))) (some (Rs.go (b,mp)))=_
  rw [eH (n:=c + eA (wl l) (i,bk)) (by omega) (by omega),eH (n:=m + 1) (by omega) (by omega),aFk hmo,aD2]
  rw [Bool.true_and]
  cases rT (c + eA (wl l) (i,bk)) (m + 1) (O (tg (wl l) (i,bk))) <;> rfl⟩
structure Rch (K:Nat) (ws:List Wx) (cnt:Nat × Bool→Bool) (src:Nat) (mp:FM) (O:Nat→Option Far):Prop where
 mo:MO mp O
 ri:RI K ws cnt src O
 rs:RS K ws cnt src O
theorem aKd {N K:Nat} {l:List aE} (h:WOk K l) {r:Int} (hN:7000≤N) {src:Nat} (hs:src < K) :
  ∃ mp O,kI N ⟨⟨l,(K:Int) - 1⟩,r⟩ (src:Int)=some mp∧Rch K (wl l) (fun _=>true) src mp O:=by
 obtain ⟨z,h1,O,h2,h3,h4⟩:=aE8 (N:=N) (r:=r) h hN (aNp (N:=N) (r:=r) (o:=(K:Int) - 1) h) hs
 refine ⟨z.2,O,?_,h2,h3,h4⟩
 have e:kI N ⟨⟨l,(K:Int) - 1⟩,r⟩ (src:Int)=Option.bind (bN (fun s6:Bool × FM=>aGz N ⟨⟨l,(K:Int) - 1⟩,r⟩ (eO N ⟨⟨l,(K:Int) - 1⟩,r⟩) s6.1 s6.2) N (true,(gQ (fun _=>none:FM) (src:Int) f0))) fun x6=>exK x6 (fun s6=>some s6.2) some:=rfl
 rw [e,h1]
 rfl
theorem aIa {N K:Nat} {l:List aE} (h:WOk K l) {r:Int} (hN:7000≤N) {src k:Nat} (hs:src < K) :
  ∃ mp O,iL N ⟨⟨l,(K:Int) - 1⟩,r⟩ (src:Int) (k:Int)=some mp∧Rch K (wl l) (aG6 (wl l) k) src mp O:=by
 obtain ⟨z,h1,O,h2,h3,h4⟩:=aE8 (N:=N) (r:=r) h hN (aMm (N:=N) (r:=r) (o:=(K:Int) - 1) (k:=k) h) hs
 refine ⟨z.2,O,?_,h2,h3,h4⟩
 have e:iL N ⟨⟨l,(K:Int) - 1⟩,r⟩ (src:Int) (k:Int)=Option.bind (bN (fun s6:Bool × FM=>aGz N ⟨⟨l,(K:Int) - 1⟩,r⟩ (dN N ⟨⟨l,(K:Int) - 1⟩,r⟩ (k:Int)) s6.1 s6.2) N (true,(gQ (fun _=>none:FM) (src:Int) f0))) fun x6=>exK x6 (fun s6=>some s6.2) some:=rfl
 rw [e,h1]
 rfl
end Go.Nilo.Ba
namespace Go.Nilo.Ba
def mkS (s:Nat × Bool):aB:=⟨(s.1:Int),s.2⟩
theorem aK4 (ws:List Wx) (s:Nat × Bool):tg ws (s.1,!s.2)=og ws s:=by
 unfold tg og Wx.tg Wx.og
 cases s.2 <;> rfl
def mOf (O:Nat→Option Far) (p:Nat):Int:=mp (O p)
theorem aFd {N K:Nat} {l:List aE} (h:WOk K l) {r:Int} {cnt:Nat × Bool→Bool} {src:Nat} {mq:FM} {O:Nat→Option Far} (hr:Rch K (wl l) cnt src mq O) :
  ∀ (k p:Nat) (m:Int) (s:Nat × Bool),O p=some (0,m,s)→m.toNat≤k→k≤200→∃ t:List (Nat × Bool),aAa (wl l) src p t∧(∀ u ∈ t,u.1 < (wl l).length∧cnt u=true∧0 < fr (wl l) u∧mOf O (og (wl l) u) < mOf O (tg (wl l) u))∧t.length≤k ∧
   ∀ (tr:List aB) (M:Nat),k < M→tr.length≤1000 - k→bN (fun s5:List aB × Int=>eW N l ((K:Int) - 1) r (src:Int) mq s5.1 s5.2) M (tr,(p:Int))=some (.go (tr++t.map mkS,(src:Int)))
 | k,p,m,s,ho,hm,hk=>by
  by_cases hp:p=src
  ·subst hp
   refine ⟨[],.nil,fun u hu=>(by cases hu),Nat.zero_le _,fun tr M hM _=>?_⟩
   obtain ⟨M,rfl⟩:∃ M',M=M' + 1:=⟨M - 1,by omega⟩
   unfold bN
   have:eW N l ((K:Int) - 1) r (p:Int) mq tr (p:Int)=some (.brk (tr,(p:Int))):=by
    unfold eW
    have e1:(((p:Int)) != (p:Int))=false:=by simp
    rw [e1,cond_false]
   simp only [this,List.map_nil,List.append_nil]
  ·obtain ⟨g1,g2,g3,c',m',s',g4,g5,g6⟩:=hr.rs.par _ _ _ _ ho hp
   obtain ⟨-,c0,m0⟩:=hr.rs.nn _ _ _ _ g4
   obtain ⟨-,-,m1⟩:=hr.rs.nn _ _ _ _ ho
   have hf:0 < fr (wl l) s:=by
    rcases Int.lt_or_le 0 (fr (wl l) s) with h1 | h1
    ·exact h1
    ·rw [if_neg (by omega)] at g5; omega
   rw [if_pos hf] at g5 g6
   obtain rfl:c'=0:=by omega
   have hm':=g6 rfl
   obtain ⟨k,rfl⟩:∃ k',k=k' + 1:=⟨k - 1,by omega⟩
   obtain ⟨t,t1,t2,t3,t4⟩:=aFd h (r:=r) hr k (og (wl l) s) m' s' g4 (by omega) (by omega)
   have g1':s.1 < l.length:=by simpa using g1
   subst g3
   refine ⟨s::t,.cons t1 g1,?_,by simpa using t3,?_⟩
   ·intro u hu
    rcases List.mem_cons.1 hu with rfl | hu
    ·refine ⟨g1,g2,hf,?_⟩
     unfold mOf
     rw [g4,ho]
     show m' < m
     omega
    ·exact t2 u hu
   ·intro tr M hM hl
    obtain ⟨M,rfl⟩:∃ M',M=M' + 1:=⟨M - 1,by omega⟩
    unfold bN
    have hmq:mq ((tg (wl l) s:Nat):Int)=some (mkF (0,m,s)):=by rw [hr.mo,ho]; rfl
    have:eW N l ((K:Int) - 1) r (src:Int) mq tr ((tg (wl l) s:Nat):Int)=some (.cont (tr++[mkS s],((og (wl l) s:Nat):Int))):=by
     unfold eW
     have e1:(((tg (wl l) s:Nat):Int) != (src:Int))=true:=by
      rw [bne_iff_ne]
      omega
     rw [e1,cond_true,hmq]
     show (Option.bind (nQ (tr++[mkS s]).length) fun un=>Option.bind (eD N ⟨⟨l,(K:Int) - 1⟩,r⟩ ⟨(s.1:Int),!s.2⟩) _)=_
     rw [gY (by simp; omega),Option.bind_some,aHe h g1',Option.bind_some,aK4]
     rfl
    simp only [this]
    rw [t4 (tr++[mkS s]) M (by omega) (by simp; omega),List.map_cons,List.append_assoc]
    rfl
theorem aBl {n:Int}:∀ {a b:List (Nat × Bool)} {ws:List Wx},oC n (a++b) ws=oC n b (oC n a ws)
 | [],_,_=>rfl
 | s::a,b,ws=>aBl (a:=a)
theorem uD {n:Int} {j:Nat}:∀ {a:List (Nat × Bool)} {ws:List Wx},(∀ u ∈ a,u.1 < ws.length)→j ∉ a.map Prod.fst→(oC n a ws).getD j w0=ws.getD j w0
 | [],_,_,_=>rfl
 | s::a,ws,h,hj=>by
  rw [List.map_cons,List.mem_cons,not_or] at hj
  show (oC n a (ws.set s.1 _)).getD j w0=_
  rw [uD (a:=a) (fun u hu=>by rw [List.length_set]; exact h u (List.mem_cons_of_mem _ hu)) hj.2,aEx (h s List.mem_cons_self),if_neg hj.1]
theorem vO {l:List aE} {i:Nat} (h:i < l.length) {x:Int} {P:aE→Prop} (hP:∀ w x,P w→P ⟨w.from_,w.to_,w.span,x⟩) (hl:∀ j (hj:j < l.length),P l[j]) :
  ∀ j (hj:j < (l.set i ⟨l[i].from_,l[i].to_,l[i].span,x⟩).length),P (l.set i ⟨l[i].from_,l[i].to_,l[i].span,x⟩)[j]:=by
 intro j hj
 rw [List.getElem_set]
 split
 ·exact hP _ _ (hl i h)
 ·exact hl j (by simpa using hj)
theorem aK6 {N K:Nat} {l:List aE} (h:WOk K l) {o r:Int} {i:Nat} (hi:i < l.length) (b:Bool) {n:Int} (h0:0≤n) (hn:n≤fr (wl l) (i,b)) :
  ∃ l',gL N (mkS (i,b)) l o r n=some l'∧wl l'=(wl l).set i (((wl l).getD i w0).push b n)∧WOk K l'∧l'.length=l.length:=by
 obtain ⟨n1,n2⟩:=h.now hi
 obtain ⟨b1,b2⟩:=h.b i hi
 have ef:fr (wl l) (i,b)=cond b (l[i].now - l[i].span.Lo) (l[i].span.Hi - l[i].now):=by
  show ((wl l).getD i w0).free b=_
  rw [mF hi]
  rfl
 rw [ef] at hn
 have key:∀ x:Int,x=cond b (l[i].now - n) (l[i].now + n)→wl (l.set i ⟨l[i].from_,l[i].to_,l[i].span,x⟩)=(wl l).set i (((wl l).getD i w0).push b n):=by
  intro x hx
  rw [mF hi]
  show (l.set i _).map wx=(l.map wx).set i _
  rw [List.map_set]
  congr 1
  subst hx
  rfl
 have hins:InS K ((wl l).set i (((wl l).getD i w0).push b n)):=by
  refine aDq (K:=K) (n:=n) h0 (l:=[(i,b)]) (ws:=wl l) h.i (by simp) ?_
  intro s hs
  rw [List.mem_singleton] at hs
  subst hs
  exact ⟨by simpa using hi,by rw [ef]; exact hn⟩
 have fin:∀ x:Int,x=cond b (l[i].now - n) (l[i].now + n)→WOk K (l.set i ⟨l[i].from_,l[i].to_,l[i].span,x⟩):=fun x hx=>
  ⟨by rw [key x hx]; exact hins,vO hi (P:=fun w=>0≤w.from_∧0≤w.to_) (fun _ _ h=>h) h.p,vO hi (P:=fun w=>-100000≤w.span.Lo∧w.span.Hi≤100000) (fun _ _ h=>h) h.b,by rw [List.length_set]; exact h.n,h.k⟩
 have same:∀ x:aE,qD (l.set i x) l=some ():=fun x=>by unfold qD; simp
 unfold gL mkS
 cases b with
 | true=>
  rw [cond_true] at hn key fin
  refine ⟨l.set i ⟨l[i].from_,l[i].to_,l[i].span,l[i].now - n⟩,?_,key _ rfl,fin _ rfl,by rw [List.length_set]⟩
  dsimp only
  rw [cond_true,cF hi,Option.bind_some,Option.bind_some,eH (by omega) (by omega),Int.toNat_natCast,same]
  rfl
 | false=>
  rw [cond_false] at hn key fin
  refine ⟨l.set i ⟨l[i].from_,l[i].to_,l[i].span,l[i].now + n⟩,?_,key _ rfl,fin _ rfl,by rw [List.length_set]⟩
  dsimp only
  rw [cond_false,cF hi,Option.bind_some,Option.bind_some,eH (by omega) (by omega),Int.toNat_natCast,same]
  rfl
structure Mvd (K:Nat) (l l':List aE) (src p:Nat) (n most:Int) (cnt:Nat × Bool→Bool):Prop where
 ok:WOk K l'
 len:l'.length=l.length
 pos:0 < n∧n≤most
 ov:∀ q,ovr (wl l') q=ovr (wl l) q + (if p=q then n else 0) - (if src=q then n else 0)
 sim:Sim (wl l') (wl l)
 keep:∀ k,(∀ b,cnt (k,b)=false)→(wl l').getD k w0=(wl l).getD k w0
theorem aFf {N K:Nat} {l:List aE} (h:WOk K l) {r:Int} (hN:300≤N) {cnt:Nat × Bool→Bool} {src p:Nat} {mq:FM} {O:Nat→Option Far} (hr:Rch K (wl l) cnt src mq O) {m:Int} {s:Nat × Bool} (ho:O p=some (0,m,s)) {most:Int} (hm:0 < most) :
  ∃ n l',fG N l ((K:Int) - 1) r (src:Int) (p:Int) mq most=some (n,l')∧Mvd K l l' src p n most cnt:=by
 have hmb:=hr.ri.mb _ _ _ _ ho
 have hcs:0≤cS K O:=by
  have:=oE (f:=fun _=>0) (g:=fun p=>cp K (O p)) (n:=K) fun p _=>by
   cases hq:O p with
   | none=>show (0:Int)≤(K:Int) + 1; omega
   | some v=>obtain ⟨a,b,d⟩:=v; exact (hr.ri.nn _ _ _ _ hq).2.1
  rw [iN] at this
  exact this
 obtain ⟨t,t1,t2,t3,t4⟩:=aFd (N:=N) (r:=r) h hr 72 p m s ho (by omega) (by omega)
 have hnd:=(aBd t1 fun u hu=>(t2 u hu).2.2.2).2
 -- the least nQ
 obtain ⟨z8,e8,f8,f8n,f8l⟩:=kW (ρ:=Int × List aE) (fun s8:Int × Int=>dH N l ((K:Int) - 1) r (t.map mkS) s8.1 s8.2)
  (fun j s=>s.1=(j:Int)∧(0 < s.2∧s.2≤most)∧∀ q (hq:q < t.length),q < j→s.2≤fr (wl l) t[q]) t.length (by
  rintro j ⟨z,x⟩ hj ⟨rfl,⟨hx1,hx2⟩,hx⟩
  dsimp only at hx1 hx2 hx
  obtain ⟨u1,-,u3,-⟩:=t2 t[j] (List.getElem_mem hj)
  have u1':t[j].1 < l.length:=by simpa using u1
  refine ⟨(((j + 1:Nat):Int),min x (fr (wl l) t[j])),?_,rfl,⟨by dsimp only; omega,by dsimp only; omega⟩,fun q hq hqj=>?_⟩
  ·show dH N l ((K:Int) - 1) r (t.map mkS) (j:Int) x=_
   unfold dH
   rw [nF (by simpa using hj),cond_true,cF (by simpa using hj),Option.bind_some,List.getElem_map]
   show (Option.bind (dW N ⟨⟨l,(K:Int) - 1⟩,r⟩ ⟨(t[j].1:Int),t[j].2⟩) _)=_
   rw [xQ h u1',Option.bind_some,iF (by omega)]
   have:aDy (wl l) (t[j].1,t[j].2)=fr (wl l) t[j]:=by unfold aDy; rw [if_pos u3]
   rw [this]
  ·dsimp only
   rcases Nat.lt_or_ge q j with hlt | hge
   ·have:=hx q hq hlt
    omega
   ·obtain rfl:q=j:=by omega
    omega) (by
  rintro ⟨z,x⟩ ⟨rfl,-⟩
  show dH N l ((K:Int) - 1) r (t.map mkS) (t.length:Int) x=_
  unfold dH
  rw [List.length_map,nC,cond_false]) t.length 0 (0,most) N (by omega) (by omega) ⟨rfl,⟨hm,Int.le_refl _⟩,fun q hq h0=>by omega⟩
 obtain ⟨z8a,n⟩:=z8
 dsimp only at f8 f8n f8l
 subst f8
 -- all are moved
 obtain ⟨z12,e12,f12,g12,k12,l12⟩:=kW (ρ:=Int × List aE) (fun s12:Int × List aE=>dR N ((K:Int) - 1) r (t.map mkS) n s12.1 s12.2)
  (fun j s=>s.1=(j:Int)∧WOk K s.2∧wl s.2=oC n (t.take j) (wl l)∧s.2.length=l.length) t.length (by
  rintro j ⟨z,a⟩ hj ⟨rfl,ha,hw,hlen⟩
  dsimp only at ha hw hlen
  obtain ⟨u1,-,u3,-⟩:=t2 t[j] (List.getElem_mem hj)
  have u1':t[j].1 < a.length:=by rw [hlen]; simpa using u1
  have hnot:t[j].1 ∉ (t.take j).map Prod.fst:=by
   intro hx
   have hd:(t.map Prod.fst).Nodup:=hnd
   rw [← List.take_append_drop j t,List.map_append,List.nodup_append] at hd
   refine hd.2.2 _ hx _ ?_ rfl
   rw [List.drop_eq_getElem_cons hj,List.map_cons]
   exact List.mem_cons_self
  have hg:(wl a).getD t[j].1 w0=(wl l).getD t[j].1 w0:=by
   rw [hw]
   exact uD (fun u hu=>(t2 u (List.mem_of_mem_take hu)).1) hnot
  have hfr:fr (wl a) t[j]=fr (wl l) t[j]:=by unfold fr; rw [hg]
  obtain ⟨a',p1,p2,p3,p4⟩:=aK6 (N:=N) (o:=(K:Int) - 1) (r:=r) ha u1' t[j].2 (n:=n) (by omega) (by show n≤fr (wl a) t[j]; rw [hfr]; exact f8l j hj hj)
  refine ⟨(((j + 1:Nat):Int),a'),?_,rfl,p3,?_,by rw [p4,hlen]⟩
  ·show dR N ((K:Int) - 1) r (t.map mkS) n (j:Int) a=_
   unfold dR
   rw [nF (by simpa using hj),cond_true,cF (by simpa using hj),Option.bind_some,List.getElem_map]
   show (Option.bind (gL N (mkS (t[j].1,t[j].2)) a ((K:Int) - 1) r n) _)=_
   rw [p1,Option.bind_some,iF (by omega)]
  ·dsimp only
   rw [List.take_succ_eq_append_getElem hj,aBl,p2,hw]
   rfl) (by
  rintro ⟨z,a⟩ ⟨rfl,-⟩
  show dR N ((K:Int) - 1) r (t.map mkS) n (t.length:Int) a=_
  unfold dR
  rw [List.length_map,nC,cond_false]) t.length 0 (0,l) N (by omega) (by omega) ⟨rfl,h,rfl,rfl⟩
 obtain ⟨z12a,l'⟩:=z12
 dsimp only at f12 g12 k12 l12
 rw [List.take_length] at k12
 refine ⟨n,l',?_,g12,l12,f8n,fun q=>by rw [k12]; exact aFg t1,by rw [k12]; exact aBk,fun k hk=>?_⟩
 ·unfold fG
  rw [t4 [] N (by omega) (by simp),Option.bind_some]
  show (Option.bind (bN (fun s8:Int × Int=>dH N l ((K:Int) - 1) r (t.map mkS) s8.1 s8.2) N (0,most)) _)=_
  have e8':bN (fun s8:Int × Int=>dH N l ((K:Int) - 1) r (t.map mkS) s8.1 s8.2) N (0,most)=some (.go ((t.length:Int),n)):=e8
  rw [e8',Option.bind_some]
  show (Option.bind (bN (fun s12:Int × List aE=>dR N ((K:Int) - 1) r (t.map mkS) n s12.1 s12.2) N (0,l)) _)=_
  rw [e12,Option.bind_some]
  show (Option.bind (qD l' l) _)=_
  have:qD l' l=some ():=by unfold qD; simp [l12]
  rw [this]
  rfl
 ·rw [k12]
  refine uD (fun u hu=>(t2 u hu).1) fun hx=>?_
  obtain ⟨u,hu,rfl⟩:=List.mem_map.1 hx
  have:=(t2 u hu).2.1
  rw [hk u.2] at this
  cases this
end Go.Nilo.Ba
namespace Go.Nilo.Ba
theorem aB3 {a b:List Wx} {q:Nat}:ovr (a++b) q=ovr a q + ovr b q:=by
 induction a with
 | nil=>show ovr b q=0 + ovr b q; omega
 | cons w a ih=>
  show _ + ovr (a++b) q=_ + ovr a q + ovr b q
  rw [ih]
  omega
theorem aHx {i n:Nat} (h:i < n):inR (i:Int) n=some ():=by unfold inR; rw [if_pos ⟨by omega,by omega⟩]
theorem aB9 {N K:Nat} {l:List aE} (h:WOk K l) {o r:Int} (hN:60≤N):gX N ⟨⟨l,o⟩,r⟩=some (ovr (wl l))∧∀ q,-6000000≤ovr (wl l) q∧ovr (wl l) q≤6000000:=by
 have hn:=h.n
 have hk:=h.k
 obtain ⟨s,h1,h2,h3,h4⟩:=kW (ρ:=Nat→Int) (fun s5:Int × (Nat→Int)=>fH N ⟨⟨l,o⟩,r⟩ s5.1 s5.2)
  (fun i s=>s.1=(i:Int)∧s.2=ovr (wl (l.take i))∧∀ q,-(100000 * (i:Int))≤ovr (wl (l.take i)) q∧ovr (wl (l.take i)) q≤100000 * (i:Int)) l.length (by
  rintro i ⟨z,x⟩ hi ⟨rfl,e,hb⟩
  dsimp only at e
  subst e
  obtain ⟨p1,p2⟩:=h.p i hi
  obtain ⟨q1,q2,q3⟩:=h.pl hi
  obtain ⟨n1,n2⟩:=h.now hi
  obtain ⟨b1,b2⟩:=h.b i hi
  have hs:∀ q,ovr (wl (l.take (i + 1))) q=ovr (wl (l.take i)) q + ((if l[i].to_.toNat=q then l[i].now else 0) - (if l[i].from_.toNat=q then l[i].now else 0)):=by
   intro q
   show ovr ((l.take (i + 1)).map wx) q=_
   rw [List.take_succ_eq_append_getElem hi,List.map_append,aB3]
   show ovr (wl (l.take i)) q + (((if l[i].to_.toNat=q then l[i].now else 0) - (if l[i].from_.toNat=q then l[i].now else 0)) + 0)=_
   omega
  refine ⟨(((i + 1:Nat):Int),ovr (wl (l.take (i + 1)))),?_,rfl,rfl,fun q=>?_⟩
  ·show fH N ⟨⟨l,o⟩,r⟩ (i:Int) (ovr (wl (l.take i)))=_
   unfold fH
   show cond (decide ((i:Int) < ((l.length:Nat):Int))) (Option.bind (cM l (i:Int)) _) _=_
   obtain ⟨f,hf⟩:∃ f:Nat,l[i].from_=(f:Int):=⟨_,(Int.toNat_of_nonneg p1).symm⟩
   obtain ⟨t,ht⟩:∃ t:Nat,l[i].to_=(t:Int):=⟨_,(Int.toNat_of_nonneg p2).symm⟩
   rw [nF hi,cond_true,cF hi,Option.bind_some]
   simp only [hf,ht,Int.toNat_natCast] at q1 q2 q3 hs ⊢
   rw [aHx (by omega),aHx (by omega)]
   simp only [Option.bind_some]
   rw [iF (by omega)]
   congr 3
   funext q
   rw [hs q]
   have c1:=hb f
   have c2:=hb t
   have hft:t ≠ f:=fun e=>q3 e.symm
   rw [eH (n:=ovr (wl (l.take i)) f - l[i].now) (by omega) (by omega),zX hft,eH (n:=ovr (wl (l.take i)) t + l[i].now) (by omega) (by omega)]
   by_cases e1:q=t
   ·subst e1
    rw [aA8,if_pos rfl,if_neg q3]
    omega
   ·rw [zX e1]
    by_cases e2:q=f
    ·subst e2
     rw [aA8,if_neg (fun e=>e1 e.symm),if_pos rfl]
     omega
    ·rw [zX e2,if_neg (fun e=>e1 e.symm),if_neg (fun e=>e2 e.symm)]
     omega
  ·have:=hb q
   rw [hs q]
   push_cast
   split <;> split <;> omega) (by
  rintro ⟨z,x⟩ ⟨rfl,-⟩
  show fH N ⟨⟨l,o⟩,r⟩ (l.length:Int) x=_
  unfold fH
  show cond (decide ((l.length:Int) < ((l.length:Nat):Int))) _ _=_
  rw [nC,cond_false]) l.length 0 (0,fun _=>0) N (by omega) (by omega) ⟨rfl,rfl,fun q=>by show _≤(0:Int)∧(0:Int)≤_; omega⟩
 rw [List.take_length] at h3 h4
 refine ⟨?_,fun q=>by have:=h4 q; omega⟩
 unfold gX
 rw [h1,Option.bind_some]
 show some s.2=_
 rw [h3]
theorem aB7 {K:Nat} {ws:List Wx} (h:∀ w ∈ ws,w.f < K∧w.t < K) {q:Nat} (hq:K≤q):ovr ws q=0:=by
 induction ws with
 | nil=>rfl
 | cons w ws ih=>
  obtain ⟨h1,h2⟩:=h w List.mem_cons_self
  show ((if w.t=q then w.x else 0) - (if w.f=q then w.x else 0)) + ovr ws q=0
  rw [ih fun v hv=>h v (List.mem_cons_of_mem _ hv),if_neg (by omega),if_neg (by omega)]
  rfl
theorem InS.mem {K:Nat} {ws:List Wx} (h:InS K ws):∀ w ∈ ws,w.f < K∧w.t < K:=by
 intro w hw
 obtain ⟨i,h1,rfl⟩:=aDl hw
 exact ⟨(h.p i h1).1,(h.p i h1).2.1⟩
theorem aA7:∀ ws:List Wx,rL (fun _=>true) ws=0
 | []=>rfl
 | w::ws=>by
  show ((if (true:Bool)=true then w.x else 0) - (if (true:Bool)=true then w.x else 0)) + rL (fun _=>true) ws=0
  rw [aA7 ws]
  simp
theorem aL2 {K:Nat} {ws:List Wx} (h:InS K ws):jE (ovr ws) K=0:=by
 have:=aCd h fun _=>true
 rw [aA7] at this
 rw [← this]
 exact qR fun p _=>by rw [if_pos rfl]
theorem aLm {K:Nat} {ws:List Wx} (h:InS K ws) {q:Nat} (hq:ovr ws q ≠ 0):∃ p,p < K∧0 < ovr ws p:=by
 apply Classical.byContradiction
 intro hn
 have hqK:q < K:=by
  rcases Nat.lt_or_ge q K with h1 | h1
  ·exact h1
  ·exact absurd (aB7 h.mem h1) hq
 have hle:∀ p,p < K→ovr ws p≤0:=fun p hp=>by
  rcases Int.lt_or_le 0 (ovr ws p) with h1 | h1
  ·exact absurd ⟨p,hp,h1⟩ hn
  ·exact h1
 have:=aAu (f:=ovr ws) (g:=fun _=>0) (n:=K) (q:=q) hle hqK (by have:=hle q hqK; show _ < (0:Int); omega)
 rw [aL2 h,iN] at this
 omega
def ab (x:Int):Int:=if 0≤x then x else -x
def nrm (K:Nat) (ws:List Wx):Int:=jE (fun p=>ab (ovr ws p)) K
theorem ab_nn (x:Int):0≤ab x:=by unfold ab; split <;> omega
theorem aM7 {K:Nat} {ws:List Wx}:0≤nrm K ws:=by
 have:=oE (f:=fun _=>0) (g:=fun p=>ab (ovr ws p)) (n:=K) fun p _=>ab_nn _
 rw [iN] at this
 exact this
structure SI (j:Nat) (x:Nat→Int) (O:Nat→Option Far) (i:Nat) (t c m:Int):Prop where
 h:(t=(j:Int)∧∀ p,p < i→x p < 0→O p=none) ∨ (∃ q s,q < i∧t=(q:Int)∧q ≠ j∧x q < 0∧O q=some (c,m,s)∧∀ p,p < i→x p < 0→∀ c' m' s',O p=some (c',m',s')→c≤c')
theorem aIt {N:Nat} (hN:12≤N) {x:Nat→Int} {j:Nat} (hj:0 < x j) {mq:FM} {O:Nat→Option Far} (hm:MO mq O) :
  ∃ s,bN (fun s14:Int × Int × Int × Int × Int × Bool=>dJ N x (j:Int) mq s14.1 s14.2.1 s14.2.2.1 s14.2.2.2.1 s14.2.2.2.2.1 s14.2.2.2.2.2) N ((j:Int),0,0,0,0,false)=some (.go s)∧SI j x O 10 s.1 s.2.2.1 s.2.2.2.1:=by
 obtain ⟨s,h1,h2,h3⟩:=kW (ρ:=dA ((List aE) × (Nat→Int)) ((List aE))) (fun s14:Int × Int × Int × Int × Int × Bool=>dJ N x (j:Int) mq s14.1 s14.2.1 s14.2.2.1 s14.2.2.2.1 s14.2.2.2.2.1 s14.2.2.2.2.2)
  (fun i s=>s.2.1=(i:Int)∧SI j x O i s.1 s.2.2.1 s.2.2.2.1) 10 (by
  rintro i ⟨t,z,c,m,w,b⟩ hi ⟨rfl,hs⟩
  dsimp only at hs
  have h10:decide ((i:Int) < 10)=true:=by simp; omega
  show ∃ s',dJ N x (j:Int) mq t (i:Int) c m w b=some (.cont s')∧_
  unfold dJ
  rw [h10,cond_true,aHx hi,Option.bind_some,Int.toNat_natCast]
  have hskip:∀ (hx:¬ (x i < 0∧O i ≠ none)),SI j x O (i + 1) t c m:=by
   intro hx
   rcases hs.h with ⟨e1,e2⟩ | ⟨q,s,e1,e2,e3,e4,e5,e6⟩
   ·refine ⟨.inl ⟨e1,fun p hp hxp=>?_⟩⟩
    by_cases hpi:p=i
    ·subst hpi
     rcases Classical.em (O p=none) with h1 | h1
     ·exact h1
     ·exact absurd ⟨hxp,h1⟩ hx
    ·exact e2 p (by omega) hxp
   ·refine ⟨.inr ⟨q,s,by omega,e2,e3,e4,e5,fun p hp hxp c' m' s' ho=>?_⟩⟩
    by_cases hpi:p=i
    ·subst hpi
     exact absurd ⟨hxp,by rw [ho]; simp⟩ hx
    ·exact e6 p (by omega) hxp c' m' s' ho
  have hj19:∀ (t c m w:Int) (b:Bool),cO N (i:Int) t c m w b=some (.cont (t,((i + 1:Nat):Int),c,m,w,b)):=fun t c m w b=>by
   unfold cO
   rw [iF (by omega)]
  by_cases hx0:0≤x i
  ·rw [decide_eq_true hx0,Bool.true_or,cond_true,hj19]
   exact ⟨_,rfl,rfl,hskip fun h=>by omega⟩
  ·rw [decide_eq_false hx0,Bool.false_or]
   cases ho:O i with
   | none=>
    have:mq (i:Int)=none:=by rw [hm,ho]; rfl
    rw [this]
    show ∃ s',cO N (i:Int) t c m w b=_∧_
    rw [hj19]
    exact ⟨_,rfl,rfl,hskip fun h=>h.2 ho⟩
   | some v=>
    obtain ⟨c1,m1,s1⟩:=v
    have hmq:mq (i:Int)=some (mkF (c1,m1,s1)):=by rw [hm,ho]; rfl
    rw [hmq]
    show ∃ s',cond ((t == (j:Int) || decide (c1 < c)) || (c1 == c && decide (m1 < m))) (cO N (i:Int) (i:Int) c1 m1 ((s1.1:Nat):Int) s1.2) (cO N (i:Int) t c m w b)=some (.cont s')∧_
    rw [hj19,hj19]
    have hij:i ≠ j:=by rintro rfl; omega
    by_cases hc:((t == (j:Int) || decide (c1 < c)) || (c1 == c && decide (m1 < m)))=true
    ·rw [hc,cond_true]
     refine ⟨_,rfl,rfl,⟨.inr ⟨i,s1,by omega,rfl,hij,by omega,ho,fun p hp hxp c' m' s' hop=>?_⟩⟩⟩
     dsimp only
     by_cases hpi:p=i
     ·subst hpi
      rw [ho] at hop
      cases hop
      exact Int.le_refl _
     ·rcases hs.h with ⟨e1,e2⟩ | ⟨q,s,e1,e2,e3,e4,e5,e6⟩
      ·rw [e2 p (by omega) hxp] at hop
       cases hop
      ·have h6:=e6 p (by omega) hxp c' m' s' hop
       have ht:(t == (j:Int))=false:=by rw [beq_eq_false_iff_ne,e2]; omega
       rw [ht] at hc
       simp at hc
       omega
    ·have hc':((t == (j:Int) || decide (c1 < c)) || (c1 == c && decide (m1 < m)))=false:=by simpa using hc
     rw [hc',cond_false]
     refine ⟨_,rfl,rfl,?_⟩
     rcases hs.h with ⟨e1,e2⟩ | ⟨q,s,e1,e2,e3,e4,e5,e6⟩
     ·rw [e1] at hc'
      simp at hc'
     ·refine ⟨.inr ⟨q,s,by omega,e2,e3,e4,e5,fun p hp hxp c' m' s' hop=>?_⟩⟩
      by_cases hpi:p=i
      ·subst hpi
       rw [ho] at hop
       cases hop
       simp at hc'
       show c≤_
       omega
      ·exact e6 p (by omega) hxp c' m' s' hop) (by
  rintro ⟨t,z,c,m,w,b⟩ ⟨rfl,-⟩
  show dJ N x (j:Int) mq t ((10:Nat):Int) c m w b=_
  unfold dJ
  rw [show decide (((10:Nat):Int) < 10)=false from rfl,cond_false]) 10 0 ((j:Int),0,0,0,0,false) N (by omega) (by omega) ⟨rfl,⟨.inl ⟨rfl,fun p hp=>by omega⟩⟩⟩
 exact ⟨s,h1,h3⟩
end Go.Nilo.Ba
namespace Go.Nilo.Ba
theorem aKf {N:Nat} (hN:60≤N) {x:Nat→Int} (h:∃ p,p < 10∧0 < x p):∃ j:Nat,fT N (aL 10 x)=some (j:Int)∧j < 10∧0 < x j:=by
 have hlen:(aL 10 x).length=10:=aFy
 have hget:∀ (j:Nat) (hj:j < (aL 10 x).length),(aL 10 x)[j]=x j:=fun j hj=>by simp [aL]
 rcases aAv dG (aL 10 x) (by omega) (fun s4=>jL N (aL 10 x) s4) (fun _=>rfl) 10 0 N (by omega) (by omega) (fun j hj h0=>by omega) with ⟨a1,a2⟩ | ⟨a1,a2⟩
 ·refine ⟨(aL 10 x).findIdx dG,?_,by omega,?_⟩
  ·unfold fT
   rw [show (0:Int)=((0:Nat):Int) from rfl,a2,Option.bind_some]
   rfl
  ·have:=List.findIdx_getElem (p:=dG) (xs:=aL 10 x) (w:=a1)
   rw [hget] at this
   simpa [dG] using this
 ·obtain ⟨p,hp,hx⟩:=h
  rw [List.findIdx_eq_length] at a1
  have:=a1 (x p) (by simp only [aL,List.mem_map,List.mem_range]; exact ⟨p,hp,rfl⟩)
  simp [dG] at this
  omega
theorem Tru.sim {K:Nat} {ws vs us:List Wx} (h:Tru K ws vs) (hs:Sim us ws):Tru K us vs:=⟨hs.trans h.s,h.b,h.z⟩
theorem aPb {N K:Nat} {l:List aE} (h:WOk K l) (hN:60≤N):nrm K (wl l)≤48000000:=by
 have hk:=h.k
 have ho:=(aB9 (N:=N) (o:=0) (r:=0) h hN).2
 have:=oE (f:=fun p=>ab (ovr (wl l) p)) (g:=fun _=>6000000) (n:=K) fun p _=>by
  have:=ho p
  unfold ab
  split <;> omega
 rw [tC] at this
 show jE (fun p=>ab (ovr (wl l) p)) K≤_
 omega
theorem aNu {n:Int} (hn:0 < n) {src p q:Nat} {o o':Nat→Int} (hne:p ≠ src) (hs:n≤o src) (hp:n≤-o p) (ho:∀ q,o' q=o q + (if p=q then n else 0) - (if src=q then n else 0)):ab (o' q)≤ab (o q)∧ab (o' src) < ab (o src):=by
 have h1:=ho q
 have h2:=ho src
 rw [if_neg hne,if_pos rfl] at h2
 refine ⟨?_,?_⟩
 ·rw [h1]
  by_cases e1:p=q
  ·subst e1
   rw [if_pos rfl,if_neg (fun e=>hne e.symm)]
   unfold ab
   split <;> split <;> omega
  ·rw [if_neg e1]
   by_cases e2:src=q
   ·subst e2
    rw [if_pos rfl]
    unfold ab
    split <;> split <;> omega
   ·rw [if_neg e2]
    have:o q + 0 - 0=o q:=by omega
    rw [this]
    exact Int.le_refl _
 ·rw [h2]
  unfold ab
  split <;> split <;> omega
structure Setl (K:Nat) (l l':List aE):Prop where
 ok:WOk K l'
 len:l'.length=l.length
 sim:Sim (wl l') (wl l)
 z:∀ p,ovr (wl l') p=0
theorem aIi {N K:Nat} {l:List aE} (h:WOk K l) {r:Int} (hN:50000000≤N) {vs:List Wx} (ht:Tru K (wl l) vs):∃ l',hX N l ((K:Int) - 1) r=some l'∧Setl K l l':=by
 have hk:=h.k
 obtain ⟨z,h1,h2,h3,h4,h5⟩:=aAc (ρ:=List aE) (f:=fun s4:List aE × (Nat→Int)=>eM N ((K:Int) - 1) r s4.1 s4.2)
  (fun s=>s.2=ovr (wl s.1)∧WOk K s.1∧s.1.length=l.length∧Sim (wl s.1) (wl l)) (fun s=>WOk K s.1∧s.1.length=l.length∧Sim (wl s.1) (wl l)∧∀ p,ovr (wl s.1) p=0)
  (fun s=>(nrm K (wl s.1)).toNat) (by
  rintro ⟨a,x⟩ ⟨e,ha,hlen,hsim⟩
  dsimp only at e ha hlen hsim
  subst e
  cases he:aC3 10 (ovr (wl a)) (fun _=>0) with
  | true=>
   left
   refine ⟨(a,ovr (wl a)),?_,ha,hlen,hsim,fun p=>?_⟩
   ·show eM N ((K:Int) - 1) r a (ovr (wl a))=_
    unfold eM
    rw [he]
    rfl
   ·rcases Nat.lt_or_ge p 10 with hp | hp
    ·exact aFc.1 he p hp
    ·exact aB7 ha.i.mem (by omega)
  | false=>
   right
   have hq:∃ q,ovr (wl a) q ≠ 0:=by
    apply Classical.byContradiction
    intro hn
    have:aC3 10 (ovr (wl a)) (fun _=>0)=true:=aFc.2 fun i _=>by
     rcases Classical.em (ovr (wl a) i=0) with h1 | h1
     ·exact h1
     ·exact absurd ⟨i,h1⟩ hn
    rw [he] at this
    cases this
   obtain ⟨q,hq⟩:=hq
   obtain ⟨p0,hp0,hp1⟩:=aLm ha.i hq
   obtain ⟨j,j1,j2,j3⟩:=aKf (N:=N) (by omega) (x:=ovr (wl a)) ⟨p0,by omega,hp1⟩
   have hjK:j < K:=by
    rcases Nat.lt_or_ge j K with h1 | h1
    ·exact h1
    ·rw [aB7 ha.i.mem h1] at j3; omega
   obtain ⟨mq,O,r1,r2⟩:=aKd (N:=N) (r:=r) ha (by omega) hjK
   obtain ⟨s,s1,s2⟩:=aIt (N:=N) (by omega) j3 r2.mo
   have ht':=ht.sim hsim
   obtain ⟨p,hp,hpn,m,u,hop⟩:=aNo ha.i ht' r2.rs (fun _=>rfl) hjK j3
   rcases s2.h with ⟨e1,e2⟩ | ⟨p',u',e1,e2,e3,e4,e5,e6⟩
   ·rw [e2 p (by omega) hpn] at hop
    cases hop
   have hc0:=e6 p (by omega) hpn 0 m u hop
   have hcn:=(r2.rs.nn _ _ _ _ e5).2.1
   have hz:s.2.2.1=0:=by omega
   rw [hz] at e5
   obtain ⟨o1,o2⟩:=aB9 (N:=N) (o:=(K:Int) - 1) (r:=r) ha (by omega)
   have b1:=o2 p'
   have b2:=o2 j
   obtain ⟨n,a',m1,m2⟩:=aFf (N:=N) (r:=r) ha (by omega) r2 e5 (most:=min (ovr (wl a) j) (0 - ovr (wl a) p')) (by omega)
   obtain ⟨o1',-⟩:=aB9 (N:=N) (o:=(K:Int) - 1) (r:=r) m2.ok (by omega)
   refine ⟨(a',ovr (wl a')),?_,⟨rfl,m2.ok,by rw [m2.len,hlen],m2.sim.trans hsim⟩,?_⟩
   ·show eM N ((K:Int) - 1) r a (ovr (wl a))=_
    unfold eM
    rw [he]
    have hsub:vS (aL 10 (ovr (wl a))) 0 ((10:Nat):Int)=some (aL 10 (ovr (wl a))):=by
     unfold vS
     rw [if_pos ⟨by omega,by omega,by rw [aFy]; exact Int.le_refl _⟩]
     congr 1
    rw [Bool.not_false,cond_true,hsub,Option.bind_some,j1,Option.bind_some,r1,Option.bind_some,s1,Option.bind_some]
    show (Option.bind (inR (j:Int) 10) fun un=>Option.bind (inR s.1 10) fun un_1=>Option.bind (fG N a ((K:Int) - 1) r (j:Int) s.1 mq (min (ovr (wl a) (j:Int).toNat) (W (0 - (ovr (wl a) s.1.toNat))))) _)=_
    rw [e2,aHx j2,Option.bind_some,aHx e1,Option.bind_some,Int.toNat_natCast,Int.toNat_natCast,eH (by omega) (by omega),m1,Option.bind_some]
    show (Option.bind (gX N ⟨⟨a',(K:Int) - 1⟩,r⟩) _)=_
    rw [o1']
    rfl
   ·have hp'K:p' < K:=(r2.rs.nn _ _ _ _ e5).1
    have hmv:=fun q=>aNu (n:=n) (q:=q) m2.pos.1 e3 (by have:=m2.pos.2; omega) (by have:=m2.pos.2; omega) m2.ov
    have hlt:=aAu (f:=fun p=>ab (ovr (wl a') p)) (g:=fun p=>ab (ovr (wl a) p)) (n:=K) (q:=j) (fun p _=>(hmv p).1) hjK (hmv 0).2
    have h0:0≤nrm K (wl a'):=aM7
    have h1:nrm K (wl a') < nrm K (wl a):=hlt
    dsimp only
    omega) N (l,ovr (wl l)) ⟨rfl,h,rfl,Sim.refl _⟩ (by
  have:=aPb (N:=N) h (by omega)
  have h0:0≤nrm K (wl l):=aM7
  dsimp only
  omega)
 refine ⟨z.1,?_,h2,h3,h4,h5⟩
 unfold hX
 rw [(aB9 (N:=N) (o:=(K:Int) - 1) (r:=r) h (by omega)).1,Option.bind_some,h1,Option.bind_some]
 show (Option.bind (qD z.1 l) _)=_
 unfold qD
 rw [if_pos h3]
 rfl
end Go.Nilo.Ba
