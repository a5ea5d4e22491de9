/-
  What the plain functions compute, in plain arithmetic, part 4. Conditions: what each theorem names.
-/
import Derived.Test.YtbkcdekgmilmcaaGreatTwL3
set_option linter.unusedSimpArgs false
set_option linter.unusedVariables false
namespace Go.Nilo.Wa
abbrev Kk:=aC
def rG (kv:Kk→Int) (l:List Kk):Prop:=l.Pairwise (fun a b=>kv b≤kv a)
variable {G:Kk→Prop} {kv:Kk→Int} {sv:aF}
def Cm (G:Kk→Prop) (kv:Kk→Int) (sv:aF):Prop:=∀ (N:Nat) (a b:Kk),100≤N→G a→G b→eW N a b sv=some (gX (kv b) (kv a))
theorem kcmp {a b:Kk}:decide (gX (kv b) (kv a) < 0)=decide (kv b < kv a):=by
 have e:∀ x:Int,kA x=false:=fun x=>by unfold kA; simp
 unfold gX
 rw [e,e,cond_false,cond_false]
 by_cases h1:kv b < kv a
 ·rw [dT h1,cond_true]; rfl
 ·rw [dF h1,cond_false]
  by_cases h2:kv a < kv b
  ·rw [dT h2,cond_true]; rfl
  ·rw [dF h2,cond_false]; rfl

theorem rE {α:Type} {A B:List α} {x:α} {p:Int} (hp:p=(A.length:Int)):bE (A++x::B) p=some x:=by
 subst hp
 unfold bE
 simp
theorem aAu {α:Type} {A B:List α} {x y:α} {p:Nat} (hp:p=A.length):(A++x::B).set p y=A++y::B:=by
 subst hp
 simp
theorem aIr {α:Type} {A B:List α} {x y:α} {p q:Nat} (hp:p=A.length) (hq:q=A.length + 1):((A++x::y::B).set q x).set p y=A++y::x::B:=by
 have e:(A++x::y::B).set q x=A++x::x::B:=by
  have:=aAu (A:=A++[x]) (B:=B) (x:=y) (y:=x) (p:=q) (by simp [hq])
  simpa using this
 rw [e,aAu hp]
theorem aLe {α:Type} {A B:List α} {x y:α} {p q:Nat} (hp:p=A.length) (hq:q=A.length + 1):((A++x::y::B).set p y).set q x=A++y::x::B:=by
 rw [aAu hp]
 have:=aAu (A:=A++[y]) (B:=B) (x:=y) (y:=x) (p:=q) (by simp [hq])
 simpa using this

theorem aOz (hk:Cm G kv sv) {N:Nat} {P Q S:List Kk} {x:Kk} (hGx:G x) (hGQ:∀ q ∈ Q,G q) (h100:100≤N) (hl:(P++Q++x::S).length≤1000) (hQ:rG kv Q) (hN:Q.length + P.length < N):∃ s,aX (fun s9=>bU N ((P.length:Nat):Int) sv s9.1 s9.2) N (P++Q++x::S,((P.length + Q.length:Nat):Int))=some (.go s)∧∃ R,s.1=P++R++S∧R.Perm (Q++[x])∧rG kv R:=by
 refine oL (fun s=>∃ Q1 Q2,Q1++Q2=Q∧s=(P++Q1++x::(Q2++S),((P.length + Q1.length:Nat):Int))∧∀ q ∈ Q2,kv q≤kv x) (fun s=>∃ R,s.1=P++R++S∧R.Perm (Q++[x])∧rG kv R) (fun s=>s.2.toNat) ?_ N _ ⟨Q,[],by simp,by simp,by simp⟩ ?_
 ·rintro s ⟨Q1,Q2,hq,rfl,hlt⟩
  dsimp only
  have hlq:Q1.length + Q2.length=Q.length:=by rw [← hq]; simp
  have hlen:P.length + Q.length + S.length + 1≤1000:=by simpa [Nat.add_assoc,Nat.add_comm,Nat.add_left_comm] using hl
  have hstop:(∀ q ∈ Q1,kv x≤kv q)→∃ R,P++Q1++x::(Q2++S)=P++R++S∧R.Perm (Q++[x])∧rG kv R:=by
   intro h1
   refine ⟨Q1++x::Q2,by simp,?_,?_⟩
   ·rw [← hq]
    have:(Q1++x::Q2).Perm (x::(Q1++Q2)):=List.perm_middle
    exact this.trans (List.perm_append_singleton x (Q1++Q2)).symm
   ·rw [← hq] at hQ
    obtain ⟨d1,d2,d3⟩:=List.pairwise_append.1 hQ
    refine List.pairwise_append.2 ⟨d1,List.pairwise_cons.2 ⟨hlt,d2⟩,?_⟩
    intro a ha b hb
    rcases List.mem_cons.1 hb with rfl | hb
    ·exact h1 a ha
    ·exact d3 a ha b hb
  rcases List.eq_nil_or_concat Q1 with h0 | ⟨Q1',q,h0⟩
  ·subst h0
   refine .inl ⟨(P++[]++x::(Q2++S),((P.length + ([]:List Kk).length:Nat):Int)),?_,hstop (by simp)⟩
   unfold bU
   rw [dF (by simp),cond_false,Option.bind_some,cond_false]
  ·rw [List.concat_eq_append] at h0
   subst h0
   have e0:P++(Q1'++[q])++x::(Q2++S)=(P++Q1')++q::x::(Q2++S):=by simp
   have e1:W (((P.length + (Q1'++[q]).length:Nat):Int) - 1)=((P.length + Q1'.length:Nat):Int):=by
    simp at hlq
    rw [iU (by simp <;> omega) (by simp <;> omega)]; simp <;> omega
   have g1:bE ((P++Q1')++q::x::(Q2++S)) ((P.length + (Q1'++[q]).length:Nat):Int)=some x:=by
    have:=rE (A:=P++Q1'++[q]) (B:=Q2++S) (x:=x) (p:=((P.length + (Q1'++[q]).length:Nat):Int)) (by simp <;> omega)
    simpa using this
   have g2:bE ((P++Q1')++q::x::(Q2++S)) ((P.length + Q1'.length:Nat):Int)=some q:=rE (by simp)
   have hb:bU N ((P.length:Nat):Int) sv (P++(Q1'++[q])++x::(Q2++S)) ((P.length + (Q1'++[q]).length:Nat):Int)=cond (decide (kv q < kv x)) (some (.cont (P++Q1'++x::(q::Q2++S),((P.length + Q1'.length:Nat):Int)))) (some (.brk (P++(Q1'++[q])++x::(Q2++S),((P.length + (Q1'++[q]).length:Nat):Int)))):=by
    rw [e0]
    unfold bU
    rw [dT (by simp <;> omega),cond_true,e1,g1,g2]
    simp only [Option.bind_some]
    rw [hk N x q h100 hGx (hGQ q (by rw [← hq]; simp))]
    simp only [Option.bind_some]
    rw [kcmp,aIr (by rw [Int.toNat_natCast,List.length_append]) (by rw [Int.toNat_natCast]; simp only [List.length_append,List.length_cons,List.length_nil]; omega)]
    rfl
   by_cases hc:kv q < kv x
   ·refine .inr ⟨_,by rw [hb,dT hc,cond_true],⟨Q1',q::Q2,by rw [← hq]; simp,rfl,?_⟩,?_⟩
    ·intro z hz
     rcases List.mem_cons.1 hz with rfl | hz
     ·omega
     ·exact hlt z hz
    ·simp only [List.length_append,List.length_cons,List.length_nil]; omega
   ·refine .inl ⟨(P++(Q1'++[q])++x::(Q2++S),((P.length + (Q1'++[q]).length:Nat):Int)),by rw [hb,dF hc,cond_false],hstop ?_⟩
    rw [← hq] at hQ
    obtain ⟨d1,d2,d3⟩:=List.pairwise_append.1 hQ
    obtain ⟨d4,d5,d6⟩:=List.pairwise_append.1 d1
    intro z hz
    rcases List.mem_append.1 hz with hz | hz
    ·exact Int.le_trans (by omega) (d6 z hz q (by simp))
    ·simp at hz; subst hz; omega
 ·dsimp only; omega

theorem aHy (hk:Cm G kv sv) {N:Nat} {P Q S:List Kk} (hGQ:∀ q ∈ Q,G q) (h100:100≤N) (hl:(P++Q++S).length≤1000) (hN:P.length + Q.length + 1 < N):∃ R,bQ N (P++Q++S) ((P.length:Nat):Int) ((P.length + Q.length:Nat):Int) sv=some (P++R++S)∧R.Perm Q∧rG kv R:=by
 unfold bQ
 have hlen:P.length + Q.length + S.length≤1000:=by simpa [Nat.add_assoc] using hl
 have hw:W (((P.length:Nat):Int) + 1)=((P.length + 1:Nat):Int):=by rw [iU (by omega) (by omega)]; push_cast; rfl
 rw [hw]
 have key:∃ s,aX (fun s3=>cT N ((P.length:Nat):Int) ((P.length + Q.length:Nat):Int) sv s3.1 s3.2) N (P++Q++S,((P.length + 1:Nat):Int))=some (.go s)∧∃ R,s.1=P++R++S∧R.Perm Q∧rG kv R:=by
  refine oL (fun s=>∃ i:Nat,∃ R T,s=(P++R++(T++S),((P.length + i:Nat):Int))∧(R++T).Perm Q∧rG kv R∧((i=R.length∧0 < i) ∨ (i=1∧R=[]∧T=[]))) (fun s=>∃ R,s.1=P++R++S∧R.Perm Q∧rG kv R) (fun s=>1 + P.length + Q.length - s.2.toNat) ?_ N _ ?_ ?_
  ·rintro s ⟨i,R,T,rfl,hp,hd,hi⟩
   dsimp only
   have hpl:=hp.length_eq
   rw [List.length_append] at hpl
   cases T with
   | nil=>
    refine .inl ⟨(P++R++([]++S),((P.length + i:Nat):Int)),?_,R,by simp,by simpa using hp,hd⟩
    unfold cT
    have hpl':R.length=Q.length:=by simpa using hpl
    rw [dF (by
     rcases hi with ⟨h1,_⟩ | ⟨h1,h2,_⟩
     ·omega
     ·rw [h2] at hpl'; simp at hpl'; omega),cond_false]
   | cons x T=>
    rcases hi with ⟨rfl,hi0⟩ | ⟨_,_,h⟩
    ·simp only [List.length_cons] at hpl
     obtain ⟨s,q1,R',q2,q3,q4⟩:=aOz hk (N:=N) (P:=P) (Q:=R) (S:=T++S) (x:=x) (hGQ x (hp.mem_iff.1 (by simp))) (fun q hq=>hGQ q (hp.mem_iff.1 (List.mem_append_left _ hq))) h100 (by simp <;> omega) hd (by omega)
     refine .inr ⟨(s.1,((P.length + (R.length + 1):Nat):Int)),?_,⟨R.length + 1,R',T,?_,?_,q4,.inl ⟨?_,by omega⟩⟩,?_⟩
     ·unfold cT
      rw [dT (by omega),cond_true]
      have e:P++R++(x::T++S)=P++R++x::(T++S):=by simp
      rw [e,q1,Option.bind_some,exK_at,iU (by omega) (by omega)]
      have e2:((P.length + R.length:Nat):Int) + 1=((P.length + (R.length + 1):Nat):Int):=by push_cast; omega
      rw [e2]
     ·rw [q2]
     ·refine (q3.append_right T).trans ?_
      simpa using hp
     ·rw [q3.length_eq]; simp
     ·dsimp only; omega
    ·cases h
  ·cases Q with
   | nil=>exact ⟨1,[],[],by simp,by simp,List.Pairwise.nil,.inr ⟨rfl,rfl,rfl⟩⟩
   | cons x T=>exact ⟨1,[x],T,by simp,by simp,by simp [rG],.inl ⟨rfl,by omega⟩⟩
  ·dsimp only; omega
 obtain ⟨s,h1,R,h2,h3,h4⟩:=key
 refine ⟨R,?_,h3,h4⟩
 rw [h1,Option.bind_some,exK_at,h2]
 unfold pN
 rw [if_pos (by simp [h3.length_eq]),Option.bind_some]
end Go.Nilo.Wa
namespace Go.Nilo.Wa
variable {G:Kk→Prop} {kv:Kk→Int} {sv:aF}
theorem aNm {α:Type} {A B C:List α} {x y:α} {p q:Nat} (hp:p=A.length) (hq:q=A.length + 1 + B.length):((A++x::(B++y::C)).set p y).set q x=A++y::(B++x::C):=by
 rw [aAu hp]
 have:=aAu (A:=A++y::B) (B:=C) (x:=y) (y:=x) (p:=q) (by simp only [List.length_append,List.length_cons]; omega)
 simpa using this

theorem aMf {N:Nat} {P X M Y S:List Kk} {a b n:Int} (hn:X.length=Y.length) (hl:(P++(X++(M++(Y++S)))).length≤1000) (ha:a=(P.length:Int)) (hb:b=((P.length + X.length + M.length:Nat):Int)) (hnn:n=(X.length:Int)) (hN:X.length < N) :
  cB N (P++(X++(M++(Y++S)))) a b n sv=some (P++(Y++(M++(X++S)))):=by
 unfold cB
 simp only [List.length_append] at hl
 have key:∃ s,aX (fun s3=>dQ N a b n s3.1 s3.2) N (P++(X++(M++(Y++S))),0)=some (.go s)∧s.1=P++(Y++(M++(X++S))):=by
  refine oL (fun s=>∃ X1 X2 Y1 Y2,X=X1++X2∧Y=Y1++Y2∧X1.length=Y1.length∧s=(P++(Y1++(X2++(M++(X1++(Y2++S))))),((X1.length:Nat):Int))) (fun s=>s.1=P++(Y++(M++(X++S)))) (fun s=>X.length - s.2.toNat) ?_ N _ ⟨[],X,[],Y,rfl,rfl,rfl,rfl⟩ (by dsimp only; omega)
  rintro s ⟨X1,X2,Y1,Y2,rfl,rfl,h1,rfl⟩
  simp only [List.length_append] at hn hl hb hnn
  dsimp only
  cases X2 with
  | nil=>
   have hy:Y2=[]:=List.eq_nil_of_length_eq_zero (by simp at hn; omega)
   subst hy
   refine .inl ⟨(P++(Y1++([]++(M++(X1++([]++S))))),((X1.length:Nat):Int)),?_,by simp⟩
   unfold dQ
   rw [dF (by rw [hnn]; simp),cond_false]
  | cons x X2=>
   cases Y2 with
   | nil=>simp at hn; omega
   | cons y Y2=>
    simp only [List.length_cons] at hn hl hb hnn
    refine .inr ⟨(P++((Y1++[y])++(X2++(M++((X1++[x])++(Y2++S))))),(((X1++[x]).length:Nat):Int)),?_,⟨X1++[x],X2,Y1++[y],Y2,by simp,by simp,by simp [h1],rfl⟩,?_⟩
    ·have e1:W (a + ((X1.length:Nat):Int))=((P.length + Y1.length:Nat):Int):=by rw [iU (by omega) (by omega)]; omega
     have e2:W (b + ((X1.length:Nat):Int))=((P.length + Y1.length + 1 + X2.length + M.length + X1.length:Nat):Int):=by rw [iU (by omega) (by omega)]; omega
     have e3:P++(Y1++(x::X2++(M++(X1++(y::Y2++S)))))=(P++Y1)++x::((X2++M++X1)++y::(Y2++S)):=by simp
     have g1:bE ((P++Y1)++x::((X2++M++X1)++y::(Y2++S))) ((P.length + Y1.length:Nat):Int)=some x:=rE (by simp)
     have g2:bE ((P++Y1)++x::((X2++M++X1)++y::(Y2++S))) ((P.length + Y1.length + 1 + X2.length + M.length + X1.length:Nat):Int)=some y:=by
      have:=rE (A:=(P++Y1)++x::(X2++M++X1)) (B:=Y2++S) (x:=y) (p:=((P.length + Y1.length + 1 + X2.length + M.length + X1.length:Nat):Int)) (by simp only [List.length_append,List.length_cons]; omega)
      simpa using this
     unfold dQ
     rw [dT (by omega),cond_true,e1,e2,e3,g1,g2]
     simp only [Option.bind_some,Int.toNat_natCast]
     rw [aNm (by simp) (by simp only [List.length_append]; omega),iU (by omega) (by omega)]
     simp
    ·simp only [List.length_append,List.length_cons,List.length_nil]; omega
 obtain ⟨s,h1,h2⟩:=key
 rw [h1,Option.bind_some,exK_at,h2]
 unfold pN
 rw [if_pos (by simp only [List.length_append]; omega),Option.bind_some]

theorem aLj {N:Nat} {P U V S:List Kk} {a m b:Int} (hl:(P++(U++(V++S))).length≤1000) (hU:0 < U.length) (hV:0 < V.length) (ha:a=(P.length:Int)) (hm:m=((P.length + U.length:Nat):Int)) (hb:b=((P.length + U.length + V.length:Nat):Int)) (hN:U.length + V.length < N) :
  eS N (P++(U++(V++S))) a m b sv=some (P++(V++(U++S))):=by
 unfold eS
 simp only [List.length_append] at hl
 have e1:W (m - a)=((U.length:Nat):Int):=by rw [iU (by omega) (by omega)]; omega
 have e2:W (b - m)=((V.length:Nat):Int):=by rw [iU (by omega) (by omega)]; omega
 rw [e1,e2]
 have key:∃ s,aX (fun s4=>dC N m sv s4.1 s4.2.1 s4.2.2) N (P++(U++(V++S)),((U.length:Nat):Int),((V.length:Nat):Int))=some (.go s) ∧
   ∃ P' U' V' S',s=(P'++(U'++(V'++S')),((U'.length:Nat):Int),((U'.length:Nat):Int))∧U'.length=V'.length∧P'.length + U'.length=P.length + U.length∧U'.length≤U.length + V.length∧P'++(V'++(U'++S'))=P++(V++(U++S)):=by
  refine oL (fun s=>∃ P' U' V' S',s=(P'++(U'++(V'++S')),((U'.length:Nat):Int),((V'.length:Nat):Int))∧0 < U'.length∧0 < V'.length∧P'.length + U'.length=P.length + U.length∧U'.length + V'.length≤U.length + V.length∧P'++(V'++(U'++S'))=P++(V++(U++S)))
   (fun s=>∃ P' U' V' S',s=(P'++(U'++(V'++S')),((U'.length:Nat):Int),((U'.length:Nat):Int))∧U'.length=V'.length∧P'.length + U'.length=P.length + U.length∧U'.length≤U.length + V.length∧P'++(V'++(U'++S'))=P++(V++(U++S)))
   (fun s=>s.2.1.toNat + s.2.2.toNat) ?_ N _ ⟨P,U,V,S,rfl,hU,hV,rfl,by omega,rfl⟩ (by dsimp only; omega)
  rintro s ⟨P',U',V',S',rfl,h1,h2,h3,h4,h5⟩
  dsimp only
  have hlen:=congrArg List.length h5
  simp only [List.length_append] at hlen
  by_cases hne:U'.length=V'.length
  ·refine .inl ⟨_,?_,P',U',V',S',rfl,hne,h3,by omega,h5⟩
   unfold dC
   rw [← hne]
   simp
  ·have hbody:(((U'.length:Nat):Int) != ((V'.length:Nat):Int))=true:=by simp; omega
   by_cases hgt:V'.length < U'.length
   ·-- U'=U1++U2,|U1|=|V'|
    obtain ⟨U1,U2,hU12,hU1⟩:∃ U1 U2,U'=U1++U2∧U1.length=V'.length:=⟨U'.take V'.length,U'.drop V'.length,(List.take_append_drop _ _).symm,by rw [List.length_take]; omega⟩
    subst hU12
    simp only [List.length_append] at h1 h3 h4 hlen hgt
    have hs:=aMf (sv:=sv) (N:=N) (P:=P') (X:=U1) (M:=U2) (Y:=V') (S:=S') (a:=W (m - ((U1.length + U2.length:Nat):Int))) (b:=m) (n:=((V'.length:Nat):Int)) hU1 (by simp only [List.length_append]; omega) (by rw [iU (by omega) (by omega)]; omega) (by omega) (by rw [hU1]) (by omega)
    refine .inr ⟨((P'++V')++(U2++(U1++S')),((U2.length:Nat):Int),((U1.length:Nat):Int)),?_,⟨P'++V',U2,U1,S',rfl,by omega,by omega,by simp only [List.length_append]; omega,by omega,by rw [← h5]; simp⟩,by simp only [List.length_append]; omega⟩
    unfold dC
    have e3:P'++(U1++U2++(V'++S'))=P'++(U1++(U2++(V'++S'))):=by simp
    have e4:W ((((U1++U2).length:Nat):Int) - ((V'.length:Nat):Int))=((U2.length:Nat):Int):=by
     rw [List.length_append,iU (by omega) (by omega)]; omega
    rw [hbody,cond_true,e4,List.length_append,dT (by omega),cond_true,e3,hs,Option.bind_some,hU1]
    simp
   ·obtain ⟨V1,V2,hV12,hV2⟩:∃ V1 V2,V'=V1++V2∧V2.length=U'.length:=⟨V'.take (V'.length - U'.length),V'.drop (V'.length - U'.length),(List.take_append_drop _ _).symm,by rw [List.length_drop]; omega⟩
    subst hV12
    simp only [List.length_append] at h2 h4 hlen hgt hne
    have e5:W (m + (((V1++V2).length:Nat):Int))=m + ((V1.length + V2.length:Nat):Int):=by rw [List.length_append,iU (by omega) (by omega)]
    have hs:=aMf (sv:=sv) (N:=N) (P:=P') (X:=U') (M:=V1) (Y:=V2) (S:=S') (a:=W (m - ((U'.length:Nat):Int))) (b:=W (m + ((V1.length + V2.length:Nat):Int) - ((U'.length:Nat):Int))) (n:=((U'.length:Nat):Int)) hV2.symm (by simp only [List.length_append]; omega) (by rw [iU (by omega) (by omega)]; omega) (by rw [iU (by omega) (by omega)]; omega) rfl (by omega)
    refine .inr ⟨(P'++(V2++(V1++(U'++S'))),((V2.length:Nat):Int),((V1.length:Nat):Int)),?_,⟨P',V2,V1,U'++S',rfl,by omega,by omega,by omega,by omega,by rw [← h5]; simp⟩,by simp only [List.length_append]; omega⟩
    unfold dC
    have e3:P'++(U'++(V1++V2++S'))=P'++(U'++(V1++(V2++S'))):=by simp
    have e4:W ((((V1++V2).length:Nat):Int) - ((U'.length:Nat):Int))=((V1.length:Nat):Int):=by
     rw [List.length_append,iU (by omega) (by omega)]; omega
    rw [hbody,cond_true,e4,dF (by rw [List.length_append]; omega),cond_false,e3,e5,hs,Option.bind_some,hV2]
 obtain ⟨s,h1,P',U',V',S',rfl,h2,h3,h4,h5⟩:=key
 rw [h1,Option.bind_some,exK_at]
 dsimp only
 have hlen:=congrArg List.length h5
 simp only [List.length_append] at hlen
 have hs:=aMf (sv:=sv) (N:=N) (P:=P') (X:=U') (M:=[]) (Y:=V') (S:=S') (a:=W (m - ((U'.length:Nat):Int))) (b:=m) (n:=((U'.length:Nat):Int)) h2 (by simp only [List.length_append]; simp only [List.length_nil]; omega) (by rw [iU (by omega) (by omega)]; omega) (by simp only [List.length_nil]; omega) rfl (by omega)
 simp only [List.nil_append] at hs
 rw [hs,Option.bind_some,h5]
 unfold pN
 rw [if_pos (by simp only [List.length_append]; omega),Option.bind_some]
end Go.Nilo.Wa
namespace Go.Nilo.Wa
variable {G:Kk→Prop} {kv:Kk→Int} {sv:aF}
theorem aDr {i j:Nat} (h:i + j≤4000):W ((IntKind.u64.wrap (W ((i:Int) + (j:Int)))) / 2)=(((i + j) / 2:Nat):Int):=by
 have e1:W ((i:Int) + (j:Int))=((i + j:Nat):Int):=by rw [iU (by omega) (by omega)]; push_cast; rfl
 have e2:IntKind.u64.wrap ((i + j:Nat):Int)=((i + j:Nat):Int):=by
  simp only [IntKind.wrap,IntKind.signed,IntKind.bits]
  simp
  omega
 rw [e1,e2,iU (by omega) (by omega)]
 push_cast
 rfl

theorem aL7 {ρ:Type} {f:Int × Int→Option (bY (Int × Int) ρ)} {q:Nat→Bool} {lo hi:Nat}
  (hb:∀ i j:Nat,lo≤i→i < j→j≤hi→f ((i:Int),(j:Int))=cond (q ((i + j) / 2)) (some (.cont ((((i + j) / 2 + 1:Nat):Int),(j:Int)))) (some (.cont ((i:Int),(((i + j) / 2:Nat):Int)))))
  (he:∀ i:Nat,lo≤i→i≤hi→f ((i:Int),(i:Int))=some (.brk ((i:Int),(i:Int)))) (hlh:lo≤hi) {N:Nat} (hN:hi - lo < N) :
  ∃ s:Nat,aX f N ((lo:Int),(hi:Int))=some (.go ((s:Int),(s:Int)))∧lo≤s∧s≤hi∧(lo < s→q (s - 1)=true)∧(s < hi→q s=false):=by
 obtain ⟨s,h1,s',h2,h3⟩:=oL (f:=f) (fun s=>∃ i j:Nat,s=((i:Int),(j:Int))∧lo≤i∧i≤j∧j≤hi∧(lo < i→q (i - 1)=true)∧(j < hi→q j=false))
  (fun s=>∃ i:Nat,s=((i:Int),(i:Int))∧lo≤i∧i≤hi∧(lo < i→q (i - 1)=true)∧(i < hi→q i=false)) (fun s=>s.2.toNat - s.1.toNat) (by
   rintro s ⟨i,j,rfl,a1,a2,a3,a4,a5⟩
   by_cases hij:i=j
   ·subst hij
    exact .inl ⟨_,he i a1 a3,i,rfl,a1,a3,a4,a5⟩
   ·have:=hb i j a1 (by omega) a3
    cases hq:q ((i + j) / 2) with
    | true=>
     rw [hq,cond_true] at this
     exact .inr ⟨_,this,⟨_,_,rfl,by omega,by omega,by omega,fun _=>hq,a5⟩,by dsimp only; omega⟩
    | false=>
     rw [hq,cond_false] at this
     exact .inr ⟨_,this,⟨_,_,rfl,by omega,by omega,by omega,a4,fun _=>hq⟩,by dsimp only; omega⟩) N _ ⟨lo,hi,rfl,Nat.le_refl _,hlh,Nat.le_refl _,fun h=>absurd h (Nat.lt_irrefl _),fun h=>absurd h (Nat.lt_irrefl _)⟩ (by dsimp only; omega)
 subst h2
 exact ⟨s',h1,h3⟩

theorem moveR {N:Nat} {P B1 T:List Kk} {x:Kk} {a i:Int} (hl:(P++x::(B1++T)).length≤1000) (ha:a=(P.length:Int)) (hi:i=((P.length + 1 + B1.length:Nat):Int)) (hN:B1.length < N) :
  ∃ s,aX (fun s9=>dV N i s9.1 s9.2) N (P++x::(B1++T),a)=some (.go s)∧s.1=P++(B1++x::T):=by
 simp only [List.length_append,List.length_cons] at hl
 refine oL (fun s=>∃ C D,B1=C++D∧s=(P++C++x::(D++T),((P.length + C.length:Nat):Int))) (fun s=>s.1=P++(B1++x::T)) (fun s=>P.length + B1.length - s.2.toNat) ?_ N _ ⟨[],B1,rfl,by simp [ha]⟩ (by dsimp only; omega)
 rintro s ⟨C,D,rfl,rfl⟩
 dsimp only
 simp only [List.length_append] at hl hi
 have e1:W (i - 1)=((P.length + C.length + D.length:Nat):Int):=by rw [iU (by omega) (by omega)]; omega
 cases D with
 | nil=>
  refine .inl ⟨(P++C++x::([]++T),((P.length + C.length:Nat):Int)),?_,by simp⟩
  unfold dV
  rw [e1,dF (by simp),cond_false]
 | cons y D=>
  simp only [List.length_cons] at hl hi e1
  refine .inr ⟨(P++(C++[y])++x::(D++T),((P.length + (C++[y]).length:Nat):Int)),?_,⟨C++[y],D,by simp,rfl⟩,by simp only [List.length_append,List.length_cons,List.length_nil]; omega⟩
  have e2:W (((P.length + C.length:Nat):Int) + 1)=((P.length + C.length + 1:Nat):Int):=by rw [iU (by omega) (by omega)]; push_cast; rfl
  have e3:P++C++x::(y::D++T)=(P++C)++x::y::(D++T):=by simp
  have g1:bE ((P++C)++x::y::(D++T)) ((P.length + C.length:Nat):Int)=some x:=rE (by simp)
  have g2:bE ((P++C)++x::y::(D++T)) ((P.length + C.length + 1:Nat):Int)=some y:=by
   have:=rE (A:=P++C++[x]) (B:=D++T) (x:=y) (p:=((P.length + C.length + 1:Nat):Int)) (by simp <;> omega)
   simpa using this
  unfold dV
  rw [e1,dT (by omega),cond_true,e2,e3,g1,g2]
  simp only [Option.bind_some,Int.toNat_natCast]
  rw [aLe (by simp) (by simp)]
  simp [Nat.add_assoc]

theorem moveL {N:Nat} {P A2 T:List Kk} {y:Kk} {i k:Int} (hl:(P++(A2++y::T)).length≤1000) (hi:i=(P.length:Int)) (hk:k=((P.length + A2.length:Nat):Int)) (hN:P.length + A2.length < N) :
  ∃ s,aX (fun s26=>dO N i s26.1 s26.2) N (P++(A2++y::T),k)=some (.go s)∧s.1=P++y::(A2++T):=by
 simp only [List.length_append,List.length_cons] at hl
 refine oL (fun s=>∃ C D,A2=C++D∧s=(P++(C++y::(D++T)),((P.length + C.length:Nat):Int))) (fun s=>s.1=P++y::(A2++T)) (fun s=>s.2.toNat) ?_ N _ ⟨A2,[],by simp,by simp [hk]⟩ (by dsimp only; omega)
 rintro s ⟨C,D,rfl,rfl⟩
 dsimp only
 simp only [List.length_append] at hl hk
 rcases List.eq_nil_or_concat C with h0 | ⟨C',z,h0⟩
 ·subst h0
  refine .inl ⟨(P++([]++y::(D++T)),((P.length + ([]:List Kk).length:Nat):Int)),?_,by simp⟩
  unfold dO
  rw [dF (by simp [hi]),cond_false]
 ·rw [List.concat_eq_append] at h0
  subst h0
  simp only [List.length_append,List.length_cons,List.length_nil] at hl hk
  refine .inr ⟨(P++(C'++y::((z::D)++T)),((P.length + C'.length:Nat):Int)),?_,⟨C',z::D,by simp,rfl⟩,by simp only [List.length_append,List.length_cons,List.length_nil]; omega⟩
  have e2:W (((P.length + (C'++[z]).length:Nat):Int) - 1)=((P.length + C'.length:Nat):Int):=by
   simp only [List.length_append,List.length_cons,List.length_nil]
   rw [iU (by omega) (by omega)]; omega
  have e3:P++(C'++[z]++y::(D++T))=(P++C')++z::y::(D++T):=by simp
  have e4:((P.length + (C'++[z]).length:Nat):Int)=((P.length + C'.length + 1:Nat):Int):=by simp <;> omega
  have g1:bE ((P++C')++z::y::(D++T)) ((P.length + C'.length:Nat):Int)=some z:=rE (by simp)
  have g2:bE ((P++C')++z::y::(D++T)) ((P.length + C'.length + 1:Nat):Int)=some y:=by
   have:=rE (A:=P++C'++[z]) (B:=D++T) (x:=y) (p:=((P.length + C'.length + 1:Nat):Int)) (by simp <;> omega)
   simpa using this
  unfold dO
  rw [e2,e4,dT (by omega),cond_true,e3,g1,g2]
  simp only [Option.bind_some,Int.toNat_natCast]
  rw [aIr (by simp) (by simp)]
  simp

theorem vF {α:Type} {A B:List α} {x d:α} {p:Nat} (hp:p=A.length):(A++x::B).getD p d=x:=by subst hp; simp [List.getD]
theorem aCy {A:List Kk} {u:Kk} (h:rG kv (A++[u])):∀ z ∈ A++[u],kv u≤kv z:=by
 intro z hz
 rcases List.mem_append.1 hz with hz | hz
 ·exact (List.pairwise_append.1 h).2.2 z hz u (by simp)
 ·simp at hz; subst hz; exact Int.le_refl _
theorem aCp {A:List Kk} {u:Kk} (h:rG kv (u::A)):∀ z ∈ u::A,kv z≤kv u:=by
 intro z hz
 rcases List.mem_cons.1 hz with rfl | hz
 ·exact Int.le_refl _
 ·exact (List.pairwise_cons.1 h).1 z hz
theorem aMb {A B:List Kk} (hA:rG kv A) (hB:rG kv B) (h:∀ u v A' B',A=A'++[u]→B=v::B'→kv v≤kv u):∀ x ∈ A,∀ y ∈ B,kv y≤kv x:=by
 intro x hx y hy
 rcases List.eq_nil_or_concat A with h0 | ⟨A',u,h0⟩
 ·subst h0; cases hx
 ·rw [List.concat_eq_append] at h0
  subst h0
  cases B with
  | nil=>cases hy
  | cons v B'=>exact Int.le_trans (aCp hB y hy) (Int.le_trans (h u v A' B' rfl rfl) (aCy hA x hx))
theorem yU {α:Type} {A:List α} {k:Nat} (h:k≤A.length):∃ A1 A2,A=A1++A2∧A1.length=k:=⟨A.take k,A.drop k,(List.take_append_drop _ _).symm,by rw [List.length_take]; omega⟩
end Go.Nilo.Wa
namespace Go.Nilo.Wa
variable {G:Kk→Prop} {kv:Kk→Int} {sv:aF}
def k00:Kk:=⟨0,0⟩
theorem aHd {α:Type} {l:List α} (d:α) {i:Nat} (h:i < l.length):bE l (i:Int)=some (l.getD i d):=by rw [cS h]; simp [List.getD,h]
theorem aBg {α:Type} {l:List α} {d:α} {i:Nat} (h:i < l.length):l.getD i d ∈ l:=by rw [← mB h]; exact List.getElem_mem h
structure Mg (kv:Kk→Int) (A B R:List Kk):Prop where
 p:R.Perm (A++B)
 d:rG kv R
theorem aMw {x:Kk} {B1 B2:List Kk} (hB:rG kv (B1++B2)) (h1:∀ z ∈ B1,kv x≤kv z) (h2:∀ z ∈ B2,kv z≤kv x):rG kv (B1++x::B2):=by
 obtain ⟨d1,d2,d3⟩:=List.pairwise_append.1 hB
 refine List.pairwise_append.2 ⟨d1,List.pairwise_cons.2 ⟨h2,d2⟩,?_⟩
 intro a ha b hb
 rcases List.mem_cons.1 hb with rfl | hb
 ·exact h1 a ha
 ·exact d3 a ha b hb
theorem aQn (hk:Cm G kv sv) {N:Nat} {P B S:List Kk} {x:Kk} {a m b:Int} (hG:∀ z ∈ P++([x]++(B++S)),G z) (hl:(P++([x]++(B++S))).length≤1000) (hB:rG kv B) (ha:a=(P.length:Int)) (hm:m=((P.length + 1:Nat):Int)) (hb:b=((P.length + 1 + B.length:Nat):Int)) (hN:100 + B.length < N) :
  ∃ R,aK (N + 1) (P++([x]++(B++S))) a m b sv=some (P++(R++S))∧Mg kv [x] B R:=by
 rw [aK]
 simp only [List.length_append,List.length_cons,List.length_nil] at hl
 have e1:(W (m - a) == 1)=true:=by rw [iU (by omega) (by omega)]; simp; omega
 rw [e1,cond_true,hm,hb]
 obtain ⟨s,q1,q2,q3,q4,q5⟩:=aL7 (ρ:=List Kk) (f:=fun s6=>dY N (P++([x]++(B++S))) a sv s6.1 s6.2) (q:=fun h=>decide (kv x < kv ((P++([x]++(B++S))).getD h k00))) (lo:=P.length + 1) (hi:=P.length + 1 + B.length) (by
  intro i j h1 h2 h3
  dsimp only
  unfold dY
  rw [dT (by omega),cond_true,aDr (by omega),aHd k00 (by simp only [List.length_append,List.length_cons,List.length_nil]; omega),Option.bind_some]
  have g1:bE (P++([x]++(B++S))) a=some x:=by simpa using rE (A:=P) (B:=B++S) (x:=x) ha
  rw [g1,Option.bind_some,hk N _ _ (by omega) (hG _ (aBg (by simp only [List.length_append,List.length_cons,List.length_nil]; omega))) (hG _ (by simp)),Option.bind_some,kcmp,iU (by omega) (by omega)]
  rfl) (by
  intro i h1 h2
  dsimp only
  unfold dY
  rw [dF (by omega),cond_false]) (by omega) (N:=N) (by omega)
 rw [q1,Option.bind_some,exK_at]
 dsimp only
 obtain ⟨B1,B2,rfl,hB1⟩:=yU (A:=B) (k:=s - (P.length + 1)) (by omega)
 simp only [List.length_append] at hl q3 hN
 have hdB:=hB
 obtain ⟨d1,d2,d3⟩:=List.pairwise_append.1 hB
 have h1:∀ z ∈ B1,kv x≤kv z:=by
  rcases List.eq_nil_or_concat B1 with h0 | ⟨B',u,h0⟩
  ·subst h0; intro z hz; cases hz
  ·rw [List.concat_eq_append] at h0
   subst h0
   simp only [List.length_append,List.length_cons,List.length_nil] at hB1 hl
   have hu:=q4 (by omega)
   have e:P++([x]++(B'++[u]++B2++S))=(P++([x]++B'))++u::(B2++S):=by simp
   rw [e,vF (by simp only [List.length_append,List.length_cons,List.length_nil]; omega)] at hu
   simp at hu
   intro z hz
   have:=aCy d1 z hz
   omega
 have h2:∀ z ∈ B2,kv z≤kv x:=by
  cases B2 with
  | nil=>intro z hz; cases hz
  | cons u B'=>
   simp only [List.length_cons] at q3 hl q5
   have hu:=q5 (by simp only [List.length_append,List.length_cons]; omega)
   have e:P++([x]++(B1++u::B'++S))=(P++([x]++B1))++u::(B'++S):=by simp
   rw [e,vF (by simp only [List.length_append,List.length_cons,List.length_nil]; omega)] at hu
   simp at hu
   intro z hz
   have:=aCp d2 z hz
   omega
 have e2:P++([x]++(B1++B2++S))=P++x::(B1++(B2++S)):=by simp
 obtain ⟨t,r1,r2⟩:=moveR (N:=N) (P:=P) (B1:=B1) (T:=B2++S) (x:=x) (a:=a) (i:=((s:Nat):Int)) (by simp only [List.length_append,List.length_cons]; omega) ha (by omega) (by omega)
 rw [e2,r1,Option.bind_some,exK_at,r2]
 refine ⟨B1++x::B2,?_,?_,aMw hdB h1 h2⟩
 ·unfold pN
  rw [if_pos (by simp only [List.length_append,List.length_cons]; omega),Option.bind_some]
  simp
 ·exact List.perm_middle

theorem aOa (hk:Cm G kv sv) {N:Nat} {P A S:List Kk} {y:Kk} {a m b:Int} (hG:∀ z ∈ P++(A++([y]++S)),G z) (hl:(P++(A++([y]++S))).length≤1000) (hA:rG kv A) (hA2:A.length ≠ 1) (ha:a=(P.length:Int)) (hm:m=((P.length + A.length:Nat):Int)) (hb:b=((P.length + A.length + 1:Nat):Int)) (hN:100 + A.length + P.length < N) :
  ∃ R,aK (N + 1) (P++(A++([y]++S))) a m b sv=some (P++(R++S))∧Mg kv A [y] R:=by
 rw [aK]
 simp only [List.length_append,List.length_cons,List.length_nil] at hl
 have e1:(W (m - a) == 1)=false:=by rw [iU (by omega) (by omega)]; simp; omega
 have e1':(W (b - m) == 1)=true:=by rw [iU (by omega) (by omega)]; simp; omega
 rw [e1,cond_false,e1',cond_true]
 obtain ⟨s,q1,q2,q3,q4,q5⟩:=aL7 (ρ:=List Kk) (f:=fun s23=>dR N (P++(A++([y]++S))) m sv s23.1 s23.2) (q:=fun h=>!decide (kv ((P++(A++([y]++S))).getD h k00) < kv y)) (lo:=P.length) (hi:=P.length + A.length) (by
  intro i j h1 h2 h3
  dsimp only
  unfold dR
  have g1:bE (P++(A++([y]++S))) m=some y:=by
   have:=rE (A:=P++A) (B:=S) (x:=y) (p:=m) (by rw [hm,List.length_append])
   simpa using this
  rw [dT (by omega),cond_true,g1,Option.bind_some,aDr (by omega),aHd k00 (by simp only [List.length_append,List.length_cons,List.length_nil]; omega),Option.bind_some]
  rw [hk N _ _ (by omega) (hG _ (by simp)) (hG _ (aBg (by simp only [List.length_append,List.length_cons,List.length_nil]; omega))),Option.bind_some,kcmp,iU (by omega) (by omega)]
  rfl) (by
  intro i h1 h2
  dsimp only
  unfold dR
  rw [dF (by omega),cond_false]) (by omega) (N:=N) (by omega)
 rw [← ha,← hm] at q1
 rw [q1,Option.bind_some,exK_at]
 dsimp only
 obtain ⟨A1,A2,rfl,hA1⟩:=yU (A:=A) (k:=s - P.length) (by omega)
 simp only [List.length_append] at hl q3 hN hm hb
 have hdA:=hA
 obtain ⟨d1,d2,d3⟩:=List.pairwise_append.1 hA
 have h1:∀ z ∈ A1,kv y≤kv z:=by
  rcases List.eq_nil_or_concat A1 with h0 | ⟨B',u,h0⟩
  ·subst h0; intro z hz; cases hz
  ·rw [List.concat_eq_append] at h0
   subst h0
   simp only [List.length_append,List.length_cons,List.length_nil] at hA1 hl
   have hu:=q4 (by omega)
   have e:P++(B'++[u]++A2++([y]++S))=(P++B')++u::(A2++([y]++S)):=by simp
   rw [e,vF (by simp only [List.length_append]; omega)] at hu
   simp at hu
   intro z hz
   have:=aCy d1 z hz
   omega
 have h2:∀ z ∈ A2,kv z≤kv y:=by
  cases A2 with
  | nil=>intro z hz; cases hz
  | cons u B'=>
   simp only [List.length_cons] at q3 hl q5
   have hu:=q5 (by simp only [List.length_append,List.length_cons]; omega)
   have e:P++(A1++u::B'++([y]++S))=(P++A1)++u::(B'++([y]++S)):=by simp
   rw [e,vF (by simp only [List.length_append]; omega)] at hu
   simp at hu
   intro z hz
   have:=aCp d2 z hz
   omega
 have e2:P++(A1++A2++([y]++S))=(P++A1)++(A2++y::S):=by simp
 obtain ⟨t,r1,r2⟩:=moveL (N:=N) (P:=P++A1) (A2:=A2) (T:=S) (y:=y) (i:=((s:Nat):Int)) (k:=m) (by simp only [List.length_append,List.length_cons]; omega) (by rw [List.length_append]; omega) (by rw [List.length_append]; omega) (by rw [List.length_append]; omega)
 rw [e2,r1,Option.bind_some,exK_at,r2]
 refine ⟨A1++y::A2,?_,?_,aMw hdA h1 h2⟩
 ·unfold pN
  rw [if_pos (by simp only [List.length_append,List.length_cons]; omega),Option.bind_some]
  simp
 ·have h3:(A1++y::A2).Perm (y::(A1++A2)):=List.perm_middle
  exact h3.trans (List.perm_append_singleton y (A1++A2)).symm
end Go.Nilo.Wa
namespace Go.Nilo.Wa
variable {G:Kk→Prop} {kv:Kk→Int} {sv:aF}
theorem aIh {B:List Kk} (h:rG kv B):Mg kv [] B B:=⟨List.Perm.refl _,h⟩
theorem aIl {A:List Kk} (h:rG kv A):Mg kv A [] A:=⟨by simp,h⟩

theorem aJ6 (hk:Cm G kv sv):∀ (L N:Nat) (P A B S:List Kk) (a m b:Int),A.length + B.length≤L→(∀ z ∈ P++(A++(B++S)),G z)→(P++(A++(B++S))).length≤200→300 + L < N→rG kv A→rG kv B→0 < A.length→0 < B.length→a=(P.length:Int)→m=((P.length + A.length:Nat):Int)→b=((P.length + A.length + B.length:Nat):Int) →
  ∃ R,aK N (P++(A++(B++S))) a m b sv=some (P++(R++S))∧Mg kv A B R
 | 0,N,P,A,B,S,a,m,b,h0,_,_,_,_,_,h1,_,_,_,_=>by omega
 | L + 1,0,P,A,B,S,a,m,b,_,_,_,h,_,_,_,_,_,_,_=>by omega
 | L + 1,N + 1,P,A,B,S,a,m,b,h0,hG,hl,hN,hA,hB,hA0,hB0,ha,hm,hb=>by
  have hl0:=hl
  simp only [List.length_append] at hl
  by_cases hA1:A.length=1
  ·obtain ⟨x,rfl⟩:=List.length_eq_one_iff.1 hA1
   exact aQn hk hG (by simp only [List.length_append]; omega) hB ha (by rw [hm]; simp) (by rw [hb]; simp) (by omega)
  by_cases hB1:B.length=1
  ·obtain ⟨y,rfl⟩:=List.length_eq_one_iff.1 hB1
   exact aOa hk hG (by simp only [List.length_append]; omega) hA hA1 ha hm (by rw [hb]; simp) (by omega)
  rw [aK]
  have e1:(W (m - a) == 1)=false:=by rw [iU (by omega) (by omega)]; simp; omega
  have e1':(W (b - m) == 1)=false:=by rw [iU (by omega) (by omega)]; simp; omega
  rw [e1,cond_false,e1',cond_false]
  obtain ⟨mid,hmid⟩:∃ mid:Nat,mid=(P.length + (P.length + A.length + B.length)) / 2:=⟨_,rfl⟩
  have emid:W ((IntKind.u64.wrap (W (a + b))) / 2)=(mid:Int):=by rw [ha,hb,aDr (by omega),hmid]
  have en:W ((mid:Int) + m)=((mid + (P.length + A.length):Nat):Int):=by rw [hm,iU (by omega) (by omega)]; push_cast; rfl
  -- the part both ways have
  have key:∀ (st r:Nat) (st' r':Int),st'=(st:Int)→r'=(r:Int)→P.length≤st→st≤r→r≤mid→r≤P.length + A.length→mid + (P.length + A.length)≤st + (P.length + A.length + B.length) →
    (st=P.length ∨ st + (P.length + A.length + B.length)=mid + (P.length + A.length))→(r=P.length + A.length ∨ r=mid) →
    ∃ R,cM N (aK N) (P++(A++(B++S))) a m b sv st' r'=some (P++(R++S))∧Mg kv A B R:=by
   intro st r st' r' hst hr k1 k2 k3 k4 k5 k6 k7
   subst hst hr
   unfold cM
   obtain ⟨s,q1,q2,q3,q4,q5⟩:=aL7 (ρ:=List Kk) (f:=fun s41=>dU N (P++(A++(B++S))) a m b sv s41.1 s41.2)
    (q:=fun c=>!decide (kv ((P++(A++(B++S))).getD c k00) < kv ((P++(A++(B++S))).getD (mid + (P.length + A.length) - 1 - c) k00))) (lo:=st) (hi:=r) (by
    intro i j h1 h2 h3
    dsimp only
    unfold dU
    have e5:W (((mid + (P.length + A.length):Nat):Int) - 1)=((mid + (P.length + A.length) - 1:Nat):Int):=by rw [iU (by omega) (by omega)]; omega
    have e6:W (((mid + (P.length + A.length) - 1:Nat):Int) - (((i + j) / 2:Nat):Int))=((mid + (P.length + A.length) - 1 - (i + j) / 2:Nat):Int):=by rw [iU (by omega) (by omega)]; omega
    rw [dT (by omega),cond_true,emid,en,e5,aDr (by omega),e6,aHd k00 (by simp only [List.length_append]; omega),Option.bind_some,aHd k00 (by simp only [List.length_append]; omega),Option.bind_some,hk N _ _ (by omega) (hG _ (aBg (by simp only [List.length_append]; omega))) (hG _ (aBg (by simp only [List.length_append]; omega))),Option.bind_some,kcmp,iU (by omega) (by omega)]
    rfl) (by
    intro i h1 h2
    dsimp only
    unfold dU
    rw [dF (by omega),cond_false]) k2 (N:=N) (by omega)
   rw [q1,Option.bind_some,exK_at,emid,en]
   dsimp only
   obtain ⟨en',hen'⟩:∃ en':Nat,en'=mid + (P.length + A.length) - s:=⟨_,rfl⟩
   have eend:W (((mid + (P.length + A.length):Nat):Int) - (s:Int))=(en':Int):=by rw [iU (by omega) (by omega)]; omega
   rw [eend]
   obtain ⟨A1,A2,hAs,hA1'⟩:=yU (A:=A) (k:=s - P.length) (by omega)
   obtain ⟨B1,B2,hBs,hB1'⟩:=yU (A:=B) (k:=en' - (P.length + A.length)) (by omega)
   have hAl:A1.length + A2.length=A.length:=by rw [hAs,List.length_append]
   have hBl:B1.length + B2.length=B.length:=by rw [hBs,List.length_append]
   have hdA:=hA
   have hdB:=hB
   rw [hAs] at hdA
   rw [hBs] at hdB
   obtain ⟨dA1,dA2,dA⟩:=List.pairwise_append.1 hdA
   obtain ⟨dB1,dB2,dB⟩:=List.pairwise_append.1 hdB
   -- the first half is above the second one
   have ab:∀ x ∈ A1,∀ y ∈ B2,kv y≤kv x:=by
    refine aMb dA1 dB2 ?_
    intro u v A' B' hu hv
    have hA1l:A1.length=A'.length + 1:=by rw [hu]; simp
    have hB2l:B2.length=B'.length + 1:=by rw [hv]; simp
    have h:=q4 (by omega)
    have ea:P++(A++(B++S))=(P++A')++u::(A2++(B++S)):=by rw [hAs,hu]; simp
    have eb:P++(A++(B++S))=(P++(A++B1))++v::(B'++S):=by rw [hBs,hv]; simp
    have ga:(P++(A++(B++S))).getD (s - 1) k00=u:=by rw [ea,vF (by rw [List.length_append]; omega)]
    have gb:(P++(A++(B++S))).getD (mid + (P.length + A.length) - 1 - (s - 1)) k00=v:=by rw [eb,vF (by simp only [List.length_append]; omega)]
    rw [ga,gb] at h
    simp at h
    exact h
   have ba:∀ x ∈ B1,∀ y ∈ A2,kv y≤kv x:=by
    refine aMb dB1 dA2 ?_
    intro u v B' A' hu hv
    have hB1l:B1.length=B'.length + 1:=by rw [hu]; simp
    have hA2l:A2.length=A'.length + 1:=by rw [hv]; simp
    have h:=q5 (by omega)
    have ea:P++(A++(B++S))=(P++A1)++v::(A'++(B++S)):=by rw [hAs,hv]; simp
    have eb:P++(A++(B++S))=(P++(A++B'))++u::(B2++S):=by rw [hBs,hu]; simp
    have ga:(P++(A++(B++S))).getD s k00=v:=by rw [ea,vF (by rw [List.length_append]; omega)]
    have gb:(P++(A++(B++S))).getD (mid + (P.length + A.length) - 1 - s) k00=u:=by rw [eb,vF (by simp only [List.length_append]; omega)]
    rw [ga,gb] at h
    simp at h
    omega
   -- behind the rotation
   have hj:∀ D,D=P++(A1++(B1++(A2++(B2++S))))→∃ R,cO N (aK N) (P++(A++(B++S))) a m b sv (s:Int) D=some (P++(R++S))∧Mg kv A B R:=by
    rintro D rfl
    unfold cO
    rw [emid]
    have h1:∃ R1,Mg kv A1 B1 R1∧cond ((decide (a < (s:Int))) && (decide ((s:Int) < (mid:Int)))) (Option.bind (aK N (P++(A1++(B1++(A2++(B2++S))))) a (s:Int) (mid:Int) sv) fun r_3=>
      bH N (aK N) (P++(A++(B++S))) a m b sv (s:Int) r_3)
      (bH N (aK N) (P++(A++(B++S))) a m b sv (s:Int) (P++(A1++(B1++(A2++(B2++S))))))=bH N (aK N) (P++(A++(B++S))) a m b sv (s:Int) (P++(R1++(A2++(B2++S)))):=by
     by_cases c1:P.length < s
     ·by_cases c2:s < mid
      ·obtain ⟨R1,t1,t2⟩:=aJ6 hk L N P A1 B1 (A2++(B2++S)) a (s:Int) (mid:Int) (by omega) (by rw [hAs,hBs] at hG; simp only [List.forall_mem_append] at hG ⊢; exact ⟨hG.1,hG.2.1.1,hG.2.2.1.1,hG.2.1.2,hG.2.2.1.2,hG.2.2.2⟩) (by simp only [List.length_append]; omega) (by omega) dA1 dB1 (by omega) (by omega) ha (by omega) (by omega)
       refine ⟨R1,t2,?_⟩
       rw [dT (by omega),dT (by omega),Bool.and_self,cond_true,t1,Option.bind_some]
      ·have hb0:B1=[]:=List.eq_nil_of_length_eq_zero (by omega)
       refine ⟨A1,by rw [hb0]; exact aIl dA1,?_⟩
       rw [dF (show ¬ ((s:Int) < (mid:Int)) by omega),Bool.and_false,cond_false,hb0]
       simp
     ·have hb0:A1=[]:=List.eq_nil_of_length_eq_zero (by omega)
      refine ⟨B1,by rw [hb0]; exact aIh dB1,?_⟩
      rw [dF (show ¬ (a < (s:Int)) by omega),Bool.false_and,cond_false,hb0]
      simp
    obtain ⟨R1,m1,h1⟩:=h1
    rw [h1]
    unfold bH
    rw [emid,en,eend]
    have hR1:R1.length=A1.length + B1.length:=by rw [m1.p.length_eq,List.length_append]
    have h2:∃ R2,Mg kv A2 B2 R2∧cond ((decide ((mid:Int) < (en':Int))) && (decide ((en':Int) < b))) (Option.bind (aK N (P++(R1++(A2++(B2++S)))) (mid:Int) (en':Int) b sv) fun r_2=>Option.bind (pN r_2 (P++(A++(B++S)))) fun _=>some r_2)
      (Option.bind (pN (P++(R1++(A2++(B2++S)))) (P++(A++(B++S)))) fun _=>some (P++(R1++(A2++(B2++S)))))=Option.bind (pN (P++(R1++(R2++S))) (P++(A++(B++S)))) fun _=>some (P++(R1++(R2++S))):=by
     by_cases c1:mid < en'
     ·by_cases c2:en' < P.length + A.length + B.length
      ·obtain ⟨R2,t1,t2⟩:=aJ6 hk L N (P++R1) A2 B2 S (mid:Int) (en':Int) b (by omega) (by
        have hGR:∀ z ∈ R1,G z:=fun z hz=>by
         rw [hAs,hBs] at hG
         simp only [List.forall_mem_append] at hG
         rcases List.mem_append.1 (m1.p.mem_iff.1 hz) with hz | hz
         ·exact hG.2.1.1 z hz
         ·exact hG.2.2.1.1 z hz
        rw [hAs,hBs] at hG
        simp only [List.forall_mem_append] at hG ⊢
        exact ⟨⟨hG.1,hGR⟩,hG.2.1.2,hG.2.2.1.2,hG.2.2.2⟩) (by simp only [List.length_append]; omega) (by omega) dA2 dB2 (by omega) (by omega) (by rw [List.length_append]; omega) (by rw [List.length_append]; omega) (by rw [List.length_append]; omega)
       refine ⟨R2,t2,?_⟩
       have ee:P++(R1++(A2++(B2++S)))=P++R1++(A2++(B2++S)):=by simp
       rw [dT (by omega),dT (by omega),Bool.and_self,cond_true,ee,t1,Option.bind_some]
       simp
      ·have hb0:B2=[]:=List.eq_nil_of_length_eq_zero (by omega)
       refine ⟨A2,by rw [hb0]; exact aIl dA2,?_⟩
       rw [dF (show ¬ ((en':Int) < b) by omega),Bool.and_false,cond_false,hb0]
       simp
     ·have hb0:A2=[]:=List.eq_nil_of_length_eq_zero (by omega)
      refine ⟨B2,by rw [hb0]; exact aIh dB2,?_⟩
      rw [dF (show ¬ ((mid:Int) < (en':Int)) by omega),Bool.false_and,cond_false,hb0]
      simp
    obtain ⟨R2,m2,h2⟩:=h2
    rw [h2]
    have hR2:R2.length=A2.length + B2.length:=by rw [m2.p.length_eq,List.length_append]
    refine ⟨R1++R2,?_,?_,?_⟩
    ·unfold pN
     rw [if_pos (by simp only [List.length_append]; omega),Option.bind_some]
     simp
    ·refine (m1.p.append m2.p).trans ?_
     rw [hAs,hBs]
     have:(A1++B1++(A2++B2)).Perm (A1++A2++(B1++B2)):=by
      rw [List.append_assoc,List.append_assoc]
      refine List.Perm.append_left A1 ?_
      rw [← List.append_assoc,← List.append_assoc]
      exact List.Perm.append_right B2 List.perm_append_comm
     exact this
    ·refine List.pairwise_append.2 ⟨m1.d,m2.d,?_⟩
     intro x hx y hy
     rcases List.mem_append.1 (m1.p.mem_iff.1 hx) with hx | hx
     ·rcases List.mem_append.1 (m2.p.mem_iff.1 hy) with hy | hy
      ·exact dA x hx y hy
      ·exact ab x hx y hy
     ·rcases List.mem_append.1 (m2.p.mem_iff.1 hy) with hy | hy
      ·exact ba x hx y hy
      ·exact dB x hx y hy
   by_cases c1:s < P.length + A.length
   ·by_cases c2:P.length + A.length < en'
    ·have hr:=aLj (sv:=sv) (N:=N) (P:=P++A1) (U:=A2) (V:=B1) (S:=B2++S) (a:=(s:Int)) (m:=m) (b:=(en':Int)) (by simp only [List.length_append]; omega) (by omega) (by omega) (by rw [List.length_append]; omega) (by rw [List.length_append]; omega) (by rw [List.length_append]; omega) (by omega)
     have ee:P++(A++(B++S))=P++A1++(A2++(B1++(B2++S))):=by rw [hAs,hBs]; simp
     obtain ⟨R,t1,t2⟩:=hj _ rfl
     refine ⟨R,?_,t2⟩
     rw [dT (by omega),dT (by omega),Bool.and_self,cond_true]
     conv=>lhs; arg 1; rw [ee]
     rw [hr,Option.bind_some,← t1]
     simp
    ·have hb0:B1=[]:=List.eq_nil_of_length_eq_zero (by omega)
     obtain ⟨R,t1,t2⟩:=hj (P++(A++(B++S))) (by rw [hAs,hBs,hb0]; simp)
     refine ⟨R,?_,t2⟩
     rw [dF (show ¬ (m < (en':Int)) by omega),Bool.and_false,cond_false,t1]
   ·have hb0:A2=[]:=List.eq_nil_of_length_eq_zero (by omega)
    obtain ⟨R,t1,t2⟩:=hj (P++(A++(B++S))) (by rw [hAs,hBs,hb0]; simp)
    refine ⟨R,?_,t2⟩
    rw [dF (show ¬ ((s:Int) < m) by omega),Bool.false_and,cond_false,t1]
  rw [emid,en]
  by_cases hc:mid < P.length + A.length
  ·rw [dT (by omega),cond_true]
   exact key (mid + (P.length + A.length) - (P.length + A.length + B.length)) mid _ _ (by rw [iU (by omega) (by omega)]; omega) rfl (by omega) (by omega) (by omega) (by omega) (by omega) (.inr (by omega)) (.inr rfl)
  ·rw [dF (by omega),cond_false]
   exact key P.length (P.length + A.length) _ _ ha hm (by omega) (by omega) (by omega) (by omega) (by omega) (.inl rfl) (.inl rfl)

end Go.Nilo.Wa
namespace Go.Nilo.Wa
variable {G:Kk→Prop} {kv:Kk→Int} {sv:aF}
inductive Blk (kv:Kk→Int) (bs:Nat):List Kk→Prop
 | last (A:List Kk) (h:A.length≤bs) (hd:rG kv A):Blk kv bs A
 | cons (A B:List Kk) (h:A.length=bs) (hd:rG kv A) (hB:Blk kv bs B):Blk kv bs (A++B)
theorem Blk.desc {bs:Nat} {l:List Kk} (h:Blk kv bs l) (hl:l.length≤bs):rG kv l:=by
 cases h with
 | last _ _ hd=>exact hd
 | cons A B h1 hd hB=>
  have:B=[]:=List.eq_nil_of_length_eq_zero (by rw [List.length_append] at hl; omega)
  rw [this,List.append_nil]
  exact hd
theorem Blk.split {bs:Nat} {l:List Kk} (h:Blk kv bs l) (hl:bs < l.length):∃ A B,l=A++B∧A.length=bs∧rG kv A∧Blk kv bs B:=by
 cases h with
 | last _ h1 hd=>omega
 | cons A B h1 hd hB=>exact ⟨A,B,rfl,h1,hd,hB⟩
theorem Blk.split' {bs:Nat} {l:List Kk} (h:Blk kv bs l) (hl:bs≤l.length):∃ A B,l=A++B∧A.length=bs∧rG kv A∧Blk kv bs B:=by
 cases h with
 | last _ h1 hd=>exact ⟨l,[],by simp,by omega,hd,.last [] (by simp) List.Pairwise.nil⟩
 | cons A B h1 hd hB=>exact ⟨A,B,rfl,h1,hd,hB⟩
theorem aD7 (hk:Cm G kv sv) {N:Nat} (hN:600≤N) {n:Nat} (hn:n≤80):∀ (f:Nat) (P Q:List Kk),(∀ z ∈ P++Q,G z)→P.length + Q.length=n→Q.length < f →
  ∃ s R,aX (fun s4=>bP N (n:Int) sv s4.1 s4.2.1 s4.2.2) f (P++Q,(P.length:Int),((P.length + 20:Nat):Int))=some (.go s)∧bQ N s.1 s.2.1 (n:Int) sv=some (P++R)∧R.Perm Q∧Blk kv 20 R
 | 0,P,Q,_,_,h=>absurd h (Nat.not_lt_zero _)
 | f + 1,P,Q,hG,hl,hf=>by
  unfold aX
  dsimp only
  by_cases h:20≤Q.length
  ·obtain ⟨Q1,Q2,rfl,hQ1⟩:=yU (A:=Q) (k:=20) h
   rw [List.length_append] at hl hf
   obtain ⟨R1,q1,q2,q3⟩:=aHy hk (N:=N) (P:=P) (Q:=Q1) (S:=Q2) (fun q hq=>hG q (List.mem_append_right _ (List.mem_append_left _ hq))) (by omega) (by simp only [List.length_append]; omega) (by omega)
   have e1:P++(Q1++Q2)=P++Q1++Q2:=by rw [List.append_assoc]
   have e2:((P.length + 20:Nat):Int)=((P.length + Q1.length:Nat):Int):=by rw [hQ1]
   have hb:bP N (n:Int) sv (P++(Q1++Q2)) (P.length:Int) ((P.length + 20:Nat):Int)=some (.cont (P++R1++Q2,((P++R1).length:Int),(((P++R1).length + 20:Nat):Int))):=by
    unfold bP
    rw [dT (by omega),cond_true,e1,e2,q1,Option.bind_some,iU (by omega) (by omega),List.length_append,q2.length_eq]
    congr 1
   rw [hb]
   obtain ⟨s,R2,r1,r2,r3,r4⟩:=aD7 hk hN hn f (P++R1) Q2 (fun z hz=>by
    rcases List.mem_append.1 hz with hz | hz
    ·rcases List.mem_append.1 hz with hz | hz
     ·exact hG z (List.mem_append_left _ hz)
     ·exact hG z (List.mem_append_right _ (List.mem_append_left _ (q2.mem_iff.1 hz)))
    ·exact hG z (List.mem_append_right _ (List.mem_append_right _ hz))) (by rw [List.length_append,q2.length_eq]; omega) (by omega)
   refine ⟨s,R1++R2,r1,by rw [r2,List.append_assoc],q2.append r3,.cons _ _ (by rw [q2.length_eq]; exact hQ1) q3 r4⟩
  ·obtain ⟨R,q1,q2,q3⟩:=aHy hk (N:=N) (P:=P) (Q:=Q) (S:=[]) (fun q hq=>hG q (List.mem_append_right _ hq)) (by omega) (by simp only [List.append_nil,List.length_append]; omega) (by omega)
   simp only [List.append_nil] at q1
   have hb:bP N (n:Int) sv (P++Q) (P.length:Int) ((P.length + 20:Nat):Int)=some (.brk (P++Q,(P.length:Int),((P.length + 20:Nat):Int))):=by
    unfold bP
    rw [dF (by omega),cond_false]
   rw [hb]
   refine ⟨_,R,rfl,?_,q2,.last _ (by rw [q2.length_eq]; omega) q3⟩
   dsimp only
   rw [← hl]
   exact q1
theorem aFk (hk:Cm G kv sv) {N:Nat} (hN:600≤N) {n bs:Nat} (hn:n≤80) (hbs:0 < bs∧bs≤80):∀ (f:Nat) (P Q:List Kk),(∀ z ∈ P++Q,G z)→P.length + Q.length=n→Q.length < f→Blk kv bs Q →
  ∃ s R,aX (fun s13=>bM N (n:Int) sv (bs:Int) s13.1 s13.2.1 s13.2.2) f (P++Q,(P.length:Int),((P.length + 2 * bs:Nat):Int))=some (.go s) ∧
   cond (decide ((W (s.2.1 + (bs:Int))) < (n:Int))) (Option.bind (aK N s.1 s.2.1 (W (s.2.1 + (bs:Int))) (n:Int) sv) fun r_1=>bO N (bs:Int) r_1) (bO N (bs:Int) s.1)=some (.cont (P++R,((2 * bs:Nat):Int)))∧R.Perm Q∧Blk kv (2 * bs) R
 | 0,P,Q,_,_,h,_=>absurd h (Nat.not_lt_zero _)
 | f + 1,P,Q,hG,hl,hf,hB=>by
  unfold aX
  dsimp only
  have hj:∀ l,bO N (bs:Int) l=some (.cont (l,((2 * bs:Nat):Int))):=fun l=>by
   unfold bO
   rw [iU (by omega) (by omega)]
   congr 3
   omega
  by_cases h:2 * bs≤Q.length
  ·obtain ⟨A,Q',rfl,hA,hdA,hB'⟩:=hB.split (by omega)
   rw [List.length_append] at hl hf h
   obtain ⟨B,C,rfl,hBl,hdB,hC⟩:=hB'.split' (by omega)
   rw [List.length_append] at hl hf h
   obtain ⟨R1,q1,q2⟩:=aJ6 hk 200 N P A B C (P.length:Int) ((P.length + bs:Nat):Int) ((P.length + 2 * bs:Nat):Int) (by omega) hG (by simp only [List.length_append]; omega) (by omega) hdA hdB (by omega) (by omega) rfl (by rw [hA]) (by omega)
   have hR1:R1.length=2 * bs:=by rw [q2.p.length_eq,List.length_append]; omega
   have e3:W (((P.length:Nat):Int) + (bs:Int))=((P.length + bs:Nat):Int):=by rw [iU (by omega) (by omega)]; push_cast; rfl
   have hb:bM N (n:Int) sv (bs:Int) (P++(A++(B++C))) (P.length:Int) ((P.length + 2 * bs:Nat):Int)=some (.cont (P++R1++C,((P++R1).length:Int),(((P++R1).length + 2 * bs:Nat):Int))):=by
    unfold bM
    rw [dT (by omega),cond_true,e3,q1,Option.bind_some,iU (n:=2 * (bs:Int)) (by omega) (by omega),iU (by omega) (by omega),List.length_append,hR1,List.append_assoc]
    congr 1
   rw [hb]
   obtain ⟨s,R2,r1,r2,r3,r4⟩:=aFk hk hN hn hbs f (P++R1) C (fun z hz=>by
    rcases List.mem_append.1 hz with hz | hz
    ·rcases List.mem_append.1 hz with hz | hz
     ·exact hG z (List.mem_append_left _ hz)
     ·rcases List.mem_append.1 (q2.p.mem_iff.1 hz) with hz | hz
      ·exact hG z (List.mem_append_right _ (List.mem_append_left _ hz))
      ·exact hG z (List.mem_append_right _ (List.mem_append_right _ (List.mem_append_left _ hz)))
    ·exact hG z (List.mem_append_right _ (List.mem_append_right _ (List.mem_append_right _ hz)))) (by rw [List.length_append,hR1]; omega) (by omega) hC
   refine ⟨s,R1++R2,r1,by rw [r2,List.append_assoc],?_,.cons _ _ hR1 q2.d r4⟩
   have:=q2.p.append r3
   rw [List.append_assoc] at this
   exact this
  ·have hb:bM N (n:Int) sv (bs:Int) (P++Q) (P.length:Int) ((P.length + 2 * bs:Nat):Int)=some (.brk (P++Q,(P.length:Int),((P.length + 2 * bs:Nat):Int))):=by
    unfold bM
    rw [dF (by omega),cond_false]
   rw [hb]
   have e3:W (((P.length:Nat):Int) + (bs:Int))=((P.length + bs:Nat):Int):=by rw [iU (by omega) (by omega)]; push_cast; rfl
   by_cases h2:bs < Q.length
   ·obtain ⟨A,B,rfl,hA,hdA,hB'⟩:=hB.split h2
    rw [List.length_append] at hl hf h h2
    obtain ⟨R,q1,q2⟩:=aJ6 hk 200 N P A B [] (P.length:Int) ((P.length + bs:Nat):Int) (n:Int) (by omega) (by simpa using hG) (by simp only [List.length_append,List.length_nil]; omega) (by omega) hdA (hB'.desc (by omega)) (by omega) (by omega) rfl (by rw [hA]) (by omega)
    simp only [List.append_nil] at q1
    refine ⟨_,R,rfl,?_,q2.p,.last _ (by rw [q2.p.length_eq,List.length_append]; omega) q2.d⟩
    dsimp only
    rw [e3,dT (by omega),cond_true,q1,Option.bind_some,hj]
   ·refine ⟨_,Q,rfl,?_,List.Perm.refl _,.last _ (by omega) (hB.desc (by omega))⟩
    dsimp only
    rw [e3,dF (by omega),cond_false,hj]
theorem aK6 (hk:Cm G kv sv) {N:Nat} (hN:600≤N) {l:List Kk} (hG:∀ z ∈ l,G z) (hl:l.length≤64):∃ R,cE N l sv=some R∧R.Perm l∧rG kv R:=by
 obtain ⟨s,R,q1,q2,q3,q4⟩:=aD7 hk hN (n:=l.length) (by omega) N [] l (by simpa using hG) (by simp) (by omega)
 simp only [List.nil_append,List.length_nil,Nat.zero_add] at q1 q2
 have q1':aX (fun s4=>bP N (l.length:Int) sv s4.1 s4.2.1 s4.2.2) N (l,0,20)=some (.go s):=q1
 obtain ⟨⟨T,e⟩,r1,r2,r3⟩:=oL (f:=fun s7:List Kk × Int=>fE N (l.length:Int) sv s7.1 s7.2)
  (fun s=>s.1.Perm l∧∃ bs:Nat,s.2=(bs:Int)∧0 < bs∧bs≤130∧Blk kv bs s.1) (fun s=>s.1.Perm l∧rG kv s.1) (fun s=>130 - s.2.toNat) (by
   rintro ⟨T,e⟩ ⟨h1,bs,he,h2,h3,h4⟩
   dsimp only at h1 he h4 ⊢
   subst he
   have hTl:=h1.length_eq
   unfold fE
   by_cases hb:bs < l.length
   ·right
    obtain ⟨s,R,a1,a2,a3,a4⟩:=aFk hk hN (n:=l.length) (bs:=bs) (by omega) ⟨h2,by omega⟩ N [] T (fun z hz=>hG z (h1.mem_iff.1 (by simpa using hz))) (by simp; omega) (by omega) h4
    simp only [List.nil_append,List.length_nil,Nat.zero_add] at a1 a2
    have a1':aX (fun s13=>bM N (l.length:Int) sv (bs:Int) s13.1 s13.2.1 s13.2.2) N (T,0,W (2 * (bs:Int)))=some (.go s):=by
     rw [iU (by omega) (by omega)]
     have e0:((2 * bs:Nat):Int)=2 * (bs:Int):=by push_cast; rfl
     rw [← e0]
     exact a1
    refine ⟨(R,((2 * bs:Nat):Int)),?_,⟨a3.trans h1,2 * bs,rfl,by omega,by omega,a4⟩,by dsimp only; omega⟩
    rw [dT (by omega),cond_true,a1',Option.bind_some,exK_at]
    exact a2
   ·left
    rw [dF (by omega),cond_false]
    exact ⟨_,rfl,h1,h4.desc (by omega)⟩) N (R,20) ⟨q3,20,rfl,by omega,by omega,q4⟩ (by dsimp only; omega)
 dsimp only at r2 r3
 refine ⟨T,?_,r2,r3⟩
 have hs:eQ N l ((l.length:Nat):Int) sv=some T:=by
  unfold eQ
  rw [q1',Option.bind_some,exK_at]
  rw [q2,Option.bind_some,r1,Option.bind_some,exK_at]
  unfold pN
  rw [if_pos r2.length_eq,Option.bind_some]
 unfold cE
 rw [hs,Option.bind_some]
 unfold pN
 rw [if_pos r2.length_eq,Option.bind_some]
end Go.Nilo.Wa
