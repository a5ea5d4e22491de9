/-
  What functions of the Go text compute, as plain functions, and that they do, part 2 of 5. Conditions: what each theorem names.
-/
import Derived.Test.YtcefmiiipbjngaaGreatCs1
import Derived.Test.YtcefmiiipbjngaaGreatProg
set_option linter.unusedVariables false
set_option linter.unusedSimpArgs false
set_option maxRecDepth 100000
set_option maxHeartbeats 4000000
namespace Go.Nilo
open Go.Proofs


variable {N:Nat} {G:cJ} {Lf:List Ent} {w:World}

def oF (N:Nat) (r:aB) (R:(Nat→Int) × Int) (H:(List (List Int))) (I:Int) (U:Int) (O:Int) (J:Int) (xv:Int):Option (Rs (Int × Int × Int)) :=
 Option.bind (inR xv 12) λX=>
 Option.bind (aQ H xv) λD=>
 Option.bind (aQ r.Stations xv) λB=>
 Option.bind (cond (!(decide (((D.length:Nat):Int) < B.Places))) (inR xv 12) (some ())) λV=>
 Option.bind (cond (!(decide (((D.length:Nat):Int) < B.Places))) (aQ H xv) (some [])) λS=>
 Option.bind (cond (!(decide (((D.length:Nat):Int) < B.Places))) (fZ N S (⟨r,R.1⟩:bJ) xv I) (some false)) λM=>
 cond ((decide (((D.length:Nat):Int) < B.Places)) || M)
 (some (.ret (0,I,xv)))
 (some (.go (U,O,J)))
def mG (N:Nat) (r:aB) (D:List Int) (I:(Nat→Int) × Int) (U:(List (List Int))) (H:Int) (O:Int) (J:Int) (R:Int):Option (bC (Int × Int × Int × Int) (aA × Int)) :=
 cond (decide (H < ((D.length:Nat):Int)))
 (Option.bind (aQ D H) λX=>
 Option.bind (iN N (⟨r,I.1⟩:bJ) H X) λM=>
 Option.bind (fA N (⟨r,I.1⟩:bJ) M.1 M.2 (rY (λ(zz:Int × Int × Int) (S:Int)=>oF N r I U H zz.1 zz.2.1 zz.2.2 S)) (.go (O,J,R))) λV=>
 rsK V (λB=>some (.cont (W (H + 1),B.1,B.2.1,B.2.2))) (λB=>some (.brk (H,B.1,B.2.1,B.2.2))))
 (some (.brk (H,O,J,R)))
def mB (N:Nat) (r:aB) (B:List Int) (M:(Nat→Int) × Int) (H:(List (List Int))) (x:Int):Option (bC (Int) (aA × Int)) :=
 cond (decide (x < ((B.length:Nat):Int)))
 (Option.bind (aQ B x) λD=>
 Option.bind (cond (D != (-1)) (Option.bind (iK N (⟨r,M.1⟩:bJ) x D) λS=>
 Option.bind (cond (!S) (some true) (Option.bind (inR D 12) λU=>
 Option.bind (aQ H D) λJ=>
 Option.bind (aQ r.Stations D) λR=>
 some (decide (R.Places < ((J.length:Nat):Int))))) λO=>
 some O) (some false)) λI=>
 cond I
 (some (.ret ((⟨0,0⟩:aA),7)))
 (some (.cont (W (x + 1)))))
 (some (.brk x))
def oR (N:Nat) (r:aB) (B:List Int):Option (aA × Int) :=
 Option.bind (oQ N r) (aGl (λJ=>cond (J != 0)
 (some ((⟨0,0⟩:aA),J))
 (none))
 (λH=>cond (H.2 != 0)
 (some ((⟨0,0⟩:aA),H.2))
 (Option.bind (cond (((B.length:Nat):Int) != ((r.People.length:Nat):Int)) (some true) (Option.bind (lQ N B r) λS=>
 some (!S))) λO=>
 cond O
 (some ((⟨0,0⟩:aA),2))
 (Option.bind (wN N (⟨r,H.1⟩:bJ) B) λI=>
 Option.bind (aEq 12 I) λun=>
 Option.bind (aS (λM=>mB N r B H I M) N 0) λU=>
 exK U (λM=>Option.bind (aS (λD=>mG N r B H I D.1 D.2.1 D.2.2.1 D.2.2.2) N (0,5,0,0)) λR=>
 exK R (λD=>some ((⟨D.2.2.1,D.2.2.2⟩:aA),D.2.1)) some) some))))
theorem aCf {I H O:Option Addr} {M D R:Nat} (r:aB) (B:List Int) (t:RdT aT G 1 I M r.People) (Y:RdT bD G 2 H D r.Stations) (ad:Rd G 1 O R (B.map aF)) (d:Ctx G (Lf) w) {a5:aA × Int} (F:oR N r B=some a5):Cz G 20 #[.agg #[.slice I r.People.length M,.slice H r.Stations.length D],.slice O B.length R] w (.tuple #[.agg #[i6 a5.1.Person,i6 a5.1.Station],i6 a5.2]) (Lf):=by
 refine aPq Tryz.func20 Z Tryz.ntmps20 Z λa f=>zS λK h=>zB f d Z λm a w f d=>zA f d aF4 Z λX a w f d=>sp 1 f Z λa f=>zT h (wp_scope_straight (wp_seq_k λK2 h2=>bK (zN f d qC m1 Z λa w f d=>aH F λa4 bj F=>?_)))
 cases a4 with
 | inl a4=>
  refine have F:=aNv F;zC f (eN 70) Z (lK r t Y d bj) ?_
  rintro _ w ⟨rfl,d⟩
  refine ⟨_,Z,λa f=>sp 3 f Z λa f=>zA f d aPs Z λbx a w f d=>zA f d aR9 Z λbg a w f d=>zW f d aPg u1 Z λw d=>zW f d aNf u0 Z λw d=>aN (h2 _ _ (wp_seq_k λK3 h3=>wp_block (zS λK h=>zL f d aKb m0 Z λa w f d=>sp 2 f Z λa f=>zT h ?_)))⟩
  refine zI f Z F ?_ ?_ <;> intro F
  ·refine wp_seq_k λK5 h5=>jV (λθ=>[f0 4 (pq X),⟨none,some 3,5,i6 0⟩,f0 7 (pq bg),f1 0 25 (.agg #[i6 0,i6 0]),f1 1 26 (i6 a4),f1 3 5 (i6 a4)]) (λE θ=>.box bg [i6 a4] 53::.box bx [.pointer none] 126::.box X [i6 0,i6 0] 29::.box m [.slice I r.People.length M,.slice H r.Stations.length D] 26::Lf) [] (λa w=>Has 115 a [(4,pq X),(5,i6 a4)]∧Ctx G (.box bg [i6 a4] 53::.box bx [.pointer none] 126::.box X [i6 0,i6 0] 29::.box m [.slice I r.People.length M,.slice H r.Stations.length D] 26::Lf) w) aU (by kernel_rfl) (by kernel_rfl) (iW.of f ⟨Z,Z,Z,trivial,trivial,trivial,trivial⟩) d ⟨?_,?_,?_,?_,trivial⟩ ?_ ?_
   ·exact λE θ a w hD hi hp he d=>have f:=he.h0;zP f Z (bS (cells:=[i6 0,i6 0]) xR Z Z) λa f=>zD θ he hi f 3 Z Z Z d
   ·exact λE θ a w hD hi hp he d=>have f:=he.h0.mT he 2 Z;zL f d aKb m0 Z λa w f d=>zD θ he hi f 4 Z Z Z d
   ·exact λE θ a w hD hi hp he d=>have e0:=hp.o 0 Z;have f:=(he.h0.mT he 0 Z).mP he 3 Z e0;zW f d pP u2 Z λw d=>zG θ he hi f Z d
   ·exact λE θ a w hD hi hp he d=>have e1:=hp.o 1 Z;have f:=he.h0.mP he 4 Z e1;sp 1 f Z λa f=>zD θ he hi f 5 Z Z Z d
   ·exact λE θ a w af he d=>have f:=he.h0;have e3:=af 3 Z;have f:=f.more he 5 Z (onP e3);have f:=f.more he 0 Z (onT);⟨f.kp Z,d⟩
   rintro a w ⟨f,d⟩
   refine h5 _ _ (wp_ret (bG (aL (aEn ?_))))
   obtain rfl:=sj F
   exact have d:=((d.drop k3).drop k1).drop k0;aJy f (aK5 Tryz.results20 f d (eE (vs:=[i6 0,i6 0]) rL Z Z (bT (n:=2) m0 Z)) (show kH _ 5=_ from Z) ⟨Z,(d.drop k0)⟩)
  ·exact aG5 F
 | inr am=>
  refine have F:=aMx F;have ct:=bj;zC f (eN 70) Z (lK r t Y d ct) ?_
  rintro _ w ⟨i,rfl,d⟩
  refine ⟨_,Z,λa f=>sp 3 f Z λa f=>zA f d aPs Z λk a w f d=>zA f d aR9 Z λp a w f d=>zW f d aPg u1 Z λw d=>zW f d aNf u0 Z λw d=>aN ?_⟩
  obtain ⟨G,V,au,d,-⟩:=aNc d k2
  refine have au:=aNr au;h2 _ _ (wp_seq_k λK6 h6=>wp_block (zS λK h=>zL f d aKb m0 Z λa w f d=>sp 2 f Z λa f=>zT h (zI f Z F ?_ ?_))) <;> intro F
  ·refine wp_seq_k λK8 h8=>jV (λθ=>[f0 4 (pq X),⟨none,some 3,5,i6 0⟩,f0 7 (pq p),f1 0 25 (.agg #[i6 0,i6 0]),f1 1 26 (i6 am.2),f1 3 5 (i6 am.2)]) (λE θ=>.box p [i6 am.2] 53::.box k [pq i] 126::.box X [i6 0,i6 0] 29::.box m [.slice I r.People.length M,.slice H r.Stations.length D] 26::Lf) [] (λa w=>Has 115 a [(4,pq X),(5,i6 am.2)]∧Ctx G (.box p [i6 am.2] 53::.box k [pq i] 126::.box X [i6 0,i6 0] 29::.box m [.slice I r.People.length M,.slice H r.Stations.length D] 26::Lf) w) aU (by kernel_rfl) (by kernel_rfl) (iW.of f ⟨Z,Z,Z,trivial,trivial,trivial,trivial⟩) d ⟨?_,?_,?_,?_,trivial⟩ ?_ ?_
   ·exact λE θ a w hD hi hp he d=>have f:=he.h0;zP f Z (bS (cells:=[i6 0,i6 0]) xR Z Z) λa f=>zD θ he hi f 3 Z Z Z d
   ·exact λE θ a w hD hi hp he d=>have f:=he.h0.mT he 2 Z;zL f d aKb m0 Z λa w f d=>zD θ he hi f 4 Z Z Z d
   ·exact λE θ a w hD hi hp he d=>have e0:=hp.o 0 Z;have f:=(he.h0.mT he 0 Z).mP he 3 Z e0;zW f d pP u2 Z λw d=>zG θ he hi f Z d
   ·exact λE θ a w hD hi hp he d=>have e1:=hp.o 1 Z;have f:=he.h0.mP he 4 Z e1;sp 1 f Z λa f=>zD θ he hi f 5 Z Z Z d
   ·exact λE θ a w af he d=>have f:=he.h0;have e3:=af 3 Z;have f:=f.more he 5 Z (onP e3);have f:=f.more he 0 Z (onT);⟨f.kp Z,d⟩
   rintro a w ⟨f,d⟩
   refine h8 _ _ (wp_ret (bG (aL (aEn ?_))))
   obtain rfl:=sj F
   exact have d:=d.down V;have d:=((d.drop k3).drop k1).drop k0;aJy f (aK5 Tryz.results20 f d (eE (vs:=[i6 0,i6 0]) rL Z Z (bT (n:=2) m0 Z)) (show kH _ 5=_ from Z) ⟨Z,(d.drop k0)⟩)
  ·refine zS λK h=>sp 1 f Z λa f=>zP f Z (bA Tryz.underlying22 Z) λa f=>zP f Z (pFA iG Z) λa f=>zL f d gR m3 Z λa w f d=>zP f Z (bA Tryz.underlying23 Z) λa f=>sp 2 f Z λa f=>aH F λcx bf F=>cV 5 (λa=>Has 115 a [(1,.slice O B.length R),(2,pq m),(4,pq X),(6,pq k),(7,pq p),(39,.bool cx)]) d ?_ ?_
   ·cases hb:(((B.length:Nat):Int) != ((r.People.length:Nat):Int))
    ·rw [hb] at f
     refine have F:=eG hb bf;sp 1 f Z λa f=>zP f Z (pMF (us:=[pq m]) Z Z) λa f=>aH F λc6 b5 F=>zQ (v:=.bool c6) f d (eN 56) Z (λw d=>(aCe B r (ad.mono V) (t.mono V) (Y.mono V) (d.pick k3) b5).mono λe w h=>⟨h.1,(h.2.unpick k3)⟩) λa w f d=>sp 2 f Z λa f=>?_
     obtain rfl:=sj F
     exact aN ⟨f.kp Z,d⟩
    ·rw [hb] at f
     have F:=cO hb bf
     obtain rfl:=sj F
     exact sp 5 f Z λa f=>aN ⟨f.kp Z,d⟩
   intro a w ⟨f,d⟩
   refine sp 1 f Z λa f=>zT h (zI f Z F ?_ ?_) <;> intro F
   ·refine zS λK h=>zP f Z (bS (cells:=[i6 0,i6 0]) xR Z Z) λa f=>zW f d pP u2 Z λw d=>sp 1 f Z λa f=>zT h (wp_ret (bG (aL (aEn ?_))))
    obtain rfl:=sj F
    exact have d:=d.down V;have d:=((d.drop k3).drop k1).drop k0;aJy f (aK5 Tryz.results20 f d (eE (vs:=[i6 0,i6 0]) rL Z Z (bT (n:=2) m0 Z)) (show kH _ 5=_ from Z) ⟨Z,(d.drop k0)⟩)
   ·refine wp_skip (h6 _ _ (wp_seq_k λK11 dn=>aH F λaa b7 F=>aH F λun c9 F=>have d:=d.nilRow 0 0;have d:=d.nilRow 0 0;jV (λθ=>[f0 1 (.slice O B.length R),f0 2 (pq m),f0 4 (pq X),f0 6 (pq k),f0 7 (pq p),f1 0 41 (pq i),f1 1 42 (.slice O B.length R),f1 2 43 (.agg ((aO (θ 16).h aa).map (Kd.v aT)).flatten.toArray),f1 3 44 (pq i),f1 4 45 (.func (.func 73) #[pq i] #[]),f1 5 8 (.pointer (some ⟨(θ 40).b,0,none⟩)),f1 7 9 (.func (.func 73) #[pq i] #[])]) (λE θ=>(bif E 6 then .box (θ 40).b ((aO (θ 16).h aa).map (Kd.v aT)).flatten 129 else bif E 5 then .box (θ 40).b [.slice none 0 0,.slice none 0 0,.slice none 0 0,.slice none 0 0,.slice none 0 0,.slice none 0 0,.slice none 0 0,.slice none 0 0,.slice none 0 0,.slice none 0 0,.slice none 0 0,.slice none 0 0] 129 else .row none 0 [] 0 0)::(bif E 2 then bX aT (aO (θ 16).h aa) else .row none 0 [] 0 0)::.box p [i6 am.2] 53::.box k [pq i] 126::.box X [i6 0,i6 0] 29::.box m [.slice I r.People.length M,.slice H r.Stations.length D] 26::Lf) [(6,2),(6,5)] (λa w=>∃ (q:Nat) (g:Hds),Has 115 a [(1,.slice O B.length R),(2,pq m),(4,pq X),(6,pq k),(7,pq p),(8,pq q),(9,.func (.func 73) #[pq i] #[])]∧Ctx G (.box q ((aO g aa).map (Kd.v aT)).flatten 129::bX aT (aO g aa)::.box p [i6 am.2] 53::.box k [pq i] 126::.box X [i6 0,i6 0] 29::.box m [.slice I r.People.length M,.slice H r.Stations.length D] 26::Lf) w) aU (by kernel_rfl) (by kernel_rfl) (iW.of f ⟨Z,Z,Z,Z,Z,trivial,trivial,trivial,trivial,trivial,trivial,trivial,trivial⟩) d ⟨?_,?_,?_,?_,?_,?_,?_,?_,trivial⟩ ?_ ?_))
    ·exact λE θ a w hD hi hp he d=>have f:=he.h0.mT he 3 Z;zL f d tF m3 Z λa w f d=>zD θ he hi f 5 Z Z Z d
    ·exact λE θ a w hD hi hp he d=>have f:=he.h0.mT he 0 Z;sp 1 f Z λa f=>zD θ he hi f 6 Z Z Z d
    ·refine λE θ a w hD hi hp he d=>have e0:=hp.o 0 Z;have e1:=hp.o 1 Z;have e6:=hD.f 0 Z hi;?_
     try dsimp only at d
     rw [hi,e6] at d
     refine have f:=(he.h0.mP he 5 Z e0).mP he 6 Z e1;zC f (eN 72) Z (aFx (⟨r,am.1⟩:bJ) B (t.mono V) (Y.mono V) au (ad.mono V) d b7) ?_
     rintro _ w ⟨c7,rfl,d⟩
     refine ⟨_,Z,λa f=>aN (eS (λds u bq=>have d:=((d.drop k2).pick k0).pick k1;?_))⟩
     refine ⟨(qR θ 16 ⟨0,none,0,c7⟩),he.put hi bq f Z [] trivial ⟨qq,qq,qq,qq,qq,qq,qq,qq,qq,qq,qq,qq,trivial⟩,?_⟩
     try dsimp only
     rw [bE E 2,cR 2 e6 Z]
     exact d
    ·exact λE θ a w hD hi hp he d=>have f:=he.h0.mT he 3 Z;zL f d tF m3 Z λa w f d=>zD θ he hi f 8 Z Z Z d
    ·exact λE θ a w hD hi hp he d=>have e3:=hp.o 3 Z;have f:=he.h0.mP he 8 Z e3;zP f Z (pMF (vs:=[pq i]) (us:=[]) Z Z) λa f=>zD θ he hi f 9 Z Z Z d
    ·refine λE θ a w hD hi hp he d=>have e6:=hD.f 1 Z hi;?_
     try dsimp only at d
     rw [hi,e6] at d
     refine have f:=he.h0;zA f d aMq Z λdc a w f d=>aN (eS (λds u bq=>have d:=d.drop k1;?_))
     refine ⟨(qR θ 40 ⟨dc,none,0,(λ_=>(none,0))⟩),he.put hi bq f Z [] trivial ⟨qq,qq,qq,qq,qq,qq,qq,qq,qq,qq,qq,qq,trivial⟩,?_⟩
     try dsimp only
     rw [bE E 5,cR 5 e6 Z]
     exact d
    ·refine λE θ a w hD hi hp he d=>have e2:=hp.o 2 Z;have e5:=hp.o 5 Z;?_
     try dsimp only at d
     rw [e5,hi] at d
     refine have f:=(he.h0.mP he 7 Z e2).mP he 10 Z e5;aR6 (n:=12) (vs:=((aO (θ 16).h aa).map (Kd.v aT)).flatten) f d Z Z Z Z aO9 (aB7 kG c9) (aKz kG) Z u0 λw d=>zG θ he hi f Z ?_
     try dsimp only
     rw [eD 6 e5,bE E 6]
     exact d
    ·exact λE θ a w hD hi hp he d=>have e4:=hp.o 4 Z;have f:=he.h0.mP he 9 Z e4;sp 1 f Z λa f=>zD θ he hi f 11 Z Z Z d
    ·refine λE θ a w af he d=>have f:=he.h0;have e2:=af 2 Z;have e5:=af 5 Z;have e6:=af 6 Z;have e7:=af 7 Z;have f:=f.more he 11 Z (onP e7);have f:=f.more he 10 Z (onP e5);have f:=f.more he 4 Z (onT);have f:=f.more he 3 Z (onT);have f:=f.more he 2 Z (onT);have f:=f.more he 1 Z (onT);have f:=f.more he 0 Z (onT);?_
     try dsimp only at d
     rw [e2,e5,e6] at d
     exact ⟨(θ 40).b,(θ 16).h,f.kp Z,d⟩
    rintro a w ⟨q,g,f,d⟩
    obtain ⟨G,U,ba,d,-⟩:=lendI pS d k1
    refine dn _ _ (wp_seq_k λK12 c2=>zS λK h=>sp 1 f Z λa f=>zP f Z (bA Tryz.underlying22 Z) λa f=>sp 1 f Z λa f=>zT h (wp_block (aH F λbd b3 F=>?_)))
    let S14:Int→Act→World→Prop:=(λ(zz:Int) a w=>Has 115 a [(1,.slice O B.length R),(2,pq m),(4,pq X),(6,pq k),(7,pq p),(8,pq q),(9,.func (.func 73) #[pq i] #[]),(46,.slice O B.length R),(47,i6 ((B.length:Nat):Int)),(48,i6 zz)]∧Ctx G (.box q ((aO g aa).map (Kd.v aT)).flatten 129::.box p [i6 am.2] 53::.box k [pq i] 126::.box X [i6 0,i6 0] 29::.box m [.slice I r.People.length M,.slice H r.Stations.length D] 26::Lf) w)
    have cu:∀ (zz:Int) a w,bd=.go zz→S14 zz a w→K12 a w:=by
     rintro x a w rfl ⟨f,d⟩
     refine have F:=bI F;c2 _ _ (zS λK h=>zP f Z (bS (cells:=[i6 0,i6 0]) xR Z Z) λa f=>zA f d aF4 Z λs a w f d=>zW f d pP u0 Z λw d=>zW f d aNf u2 Z λw d=>zT h (wp_seq_k λK16 cy=>wp_label (cy _ _ (wp_seq_k λK17 db=>zS λK h=>sp 1 f Z λa f=>?_))))
     refine zP f Z (bA Tryz.underlying22 Z) λa f=>sp 1 f Z λa f=>zT h (wp_block (aH F λbi cd F=>?_))
     let S19:(Int × Int × Int × Int)→Act→World→Prop:=(λ(zz:Int × Int × Int × Int) a w=>∃ (Ds:List Nat),Has ⟨115,zU Ds⟩ a [(2,pq m),(4,pq X),(6,pq k),(7,pq p),(8,pq q),(12,pq s),(78,.slice O B.length R),(79,i6 ((B.length:Nat):Int)),(80,i6 zz.1)]∧Ctx G (.box s [i6 zz.2.2.1,i6 zz.2.2.2] 29::.box q ((aO g aa).map (Kd.v aT)).flatten 129::.box p [i6 zz.2.1] 53::.box k [pq i] 126::.box X [i6 0,i6 0] 29::.box m [.slice I r.People.length M,.slice H r.Stations.length D] 26::(aDg Ds++Lf)) w)
     have br:∀ (zz:Int × Int × Int × Int) a w,bi=.go zz→S19 zz a w→K17 a w:=by
      rintro ⟨z,a3,ax,av⟩ a w rfl ⟨Ds,f,d⟩
      refine have F:=bI F;db _ _ (wp_seq_k λK20 dd=>jV (λθ=>[f0 4 (pq X),f0 7 (pq p),f0 12 (pq s),f1 0 113 (.agg #[i6 ax,i6 av]),f1 1 114 (i6 a3),f1 3 5 (i6 a3)]) (λE θ=>.box s [i6 ax,i6 av] 29::.box q ((aO g aa).map (Kd.v aT)).flatten 129::.box p [i6 a3] 53::.box k [pq i] 126::(bif E 2 then .box X [i6 ax,i6 av] 29 else .box X [i6 0,i6 0] 29)::.box m [.slice I r.People.length M,.slice H r.Stations.length D] 26::(aDg Ds++Lf)) [] (λa w=>Has ⟨115,zU Ds⟩ a [(4,pq X),(5,i6 a3)]∧Ctx G (.box s [i6 ax,i6 av] 29::.box q ((aO g aa).map (Kd.v aT)).flatten 129::.box p [i6 a3] 53::.box k [pq i] 126::.box X [i6 ax,i6 av] 29::.box m [.slice I r.People.length M,.slice H r.Stations.length D] 26::(aDg Ds++Lf)) w) aU (by kernel_rfl) (by kernel_rfl) (iW.of f ⟨Z,Z,Z,trivial,trivial,trivial,trivial⟩) d ⟨?_,?_,?_,?_,trivial⟩ ?_ ?_)
      ·exact λE θ a w hD hi hp he d=>have f:=he.h0.mT he 2 Z;zN f d rL m0 Z λa w f d=>zD θ he hi f 3 Z Z Z d
      ·exact λE θ a w hD hi hp he d=>have f:=he.h0.mT he 1 Z;zL f d aKb m2 Z λa w f d=>zD θ he hi f 4 Z Z Z d
      ·refine λE θ a w hD hi hp he d=>have e0:=hp.o 0 Z;?_
       try dsimp only at d
       rw [hi] at d
       refine have f:=(he.h0.mT he 0 Z).mP he 3 Z e0;zW f d pP u4 Z λw d=>zG θ he hi f Z ?_
       try dsimp only
       rw [bE E 2]
       exact d
      ·exact λE θ a w hD hi hp he d=>have e1:=hp.o 1 Z;have f:=he.h0.mP he 4 Z e1;sp 1 f Z λa f=>zD θ he hi f 5 Z Z Z d
      ·refine λE θ a w af he d=>have f:=he.h0;have e2:=af 2 Z;have e3:=af 3 Z;have f:=f.more he 5 Z (onP e3);have f:=f.more he 0 Z (onT);?_
       try dsimp only at d
       rw [e2] at d
       exact ⟨f.kp Z,d⟩
      rintro a w ⟨f,d⟩
      refine dd _ _ (wp_ret (aEn ?_))
      obtain rfl:=sj F
      exact have d:=d.down U;have d:=d.down V;have d:=((((d.drop k5).drop k3).drop k2).drop k1).drop k0;aJy f (aLa [.box X [i6 ax,i6 av] 29] Ds d λw d=>have d:Ctx _ (.box X [i6 ax,i6 av] 29::Lf) w:=d;aK5 Tryz.results20 f d (eE (vs:=[i6 ax,i6 av]) rL Z Z (bT (n:=2) m0 Z)) (show kH _ 5=_ from Z) ⟨Z,(d.drop k0)⟩)
     have d1:∀ r,bi=.out r→r=a5:=by
      rintro r rfl
      exact sj F
     refine have f:=aSt f;have d:Ctx G (.box s [i6 0,i6 0] 29::.box q ((aO g aa).map (Kd.v aT)).flatten 129::.box p [i6 5] 53::.box k [pq i] 126::.box X [i6 0,i6 0] 29::.box m [.slice I r.People.length M,.slice H r.Stations.length D] 26::(aDg []++Lf)) w:=d;cF N (cE (S:=S19) (x:=bi) ?_ N (0,5,0,0) _ _ ⟨[],f.kp Z,d⟩ cd)
     clear F f d
     rintro ⟨z,a3,ax,av⟩ bk a w KB19 ⟨Ds,f,d⟩ F ar cj
     refine zS λK h=>sp 1 f Z λa f=>zT h (wp_seq_k λK22 da=>zI f Z F ?_ ?_) <;> intro F
     ·refine wp_skip (da _ _ (wp_seq_k λK23 dp=>wp_block (zS λK h=>sp 1 f Z λa f=>aH F λcz cm F=>?_)))
      obtain ⟨d2,o,qa,qp⟩:=((ad.mono V).mono U).atm cm
      refine zP f Z (pIA Tryz.underlying22 cS Z Z qa) λa f=>zE f d Z (bB aZ Z (aV (j:=0) qp Z)) λa w f d=>zA f d aOh Z λy a w f d=>zW f d cS u0 Z λw d=>sp 1 f Z λa f=>zT h (zS λK h=>zL f d tF m4 Z λa w f d=>zL f d aZ m0 Z λa w f d=>sp 1 f Z λa f=>aH F λan cn F=>zC f (eN 74) Z (tN (⟨r,am.1⟩:bJ) z cz ((t.mono V).mono U) ((Y.mono V).mono U) (au.mono U) d cn) ?_)
      rintro _ w ⟨a0,a1,az,rfl,d⟩
      refine ⟨_,Z,λa f=>zT h (aH F λc1 cq F=>aR2 (C:=[.box a0 [pq i] 126,.box a1 [i6 an.1] 3,.box az [i6 an.2] 3]) (C2:=[.box a0 [pq i] 126,.box a1 [i6 an.1] 3,.box az [i6 an.2] 3]) (L0:=[.box y [i6 z] 3,.box s [i6 ax,i6 av] 29,.box q ((aO g aa).map (Kd.v aT)).flatten 129,.box p [i6 a3] 53,.box k [pq i] 126,.box X [i6 0,i6 0] 29,.box m [.slice I r.People.length M,.slice H r.Stations.length D] 26]) (Lf:=(aDg Ds++Lf)) (encs:=λx:Int=>[i6 x]) 3 (by decide) (λ(zz:Int × Int × Int) L=>L=[.box y [i6 z] 3,.box s [i6 zz.2.1,i6 zz.2.2] 29,.box q ((aO g aa).map (Kd.v aT)).flatten 129,.box p [i6 zz.1] 53,.box k [pq i] 126,.box X [i6 0,i6 0] 29,.box m [.slice I r.People.length M,.slice H r.Stations.length D] 26]) (λ(zz:Int × Int × Int) (df:Int)=>oF N r am aa z zz.1 zz.2.1 zz.2.2 df) (a3,ax,av) c1 f d Z (eN 114) (λ_=>Z) Z Z ?_ ?_ ?_ ?_)⟩
      ·exact λlq mq J L Lx w hy hJ d=>rW (⟨r,am.1⟩:bJ) an.1 an.2 ((t.mono V).mono U) ((Y.mono V).mono U) (au.mono U) J _ hy _ hJ d cq
      ·clear F f d
       rintro lq mq ⟨ak,ai,aj⟩ xv oq _ Lr Lb a w d3 rfl F f d hK
       refine have f:Has 115 a [(2,pq m),(4,pq X),(6,pq k),(7,pq p),(8,pq q),(12,pq s),(13,pq y),(78,.slice O B.length R),(79,i6 ((B.length:Nat):Int)),(80,i6 z),(89,i6 xv)]:=f.kp Z;have d:Ctx G (.box y [i6 z] 3::.box s [i6 ai,i6 aj] 29::.box q ((aO g aa).map (Kd.v aT)).flatten 129::.box p [i6 ak] 53::.box k [pq i] 126::.box X [i6 0,i6 0] 29::.box m [.slice I r.People.length M,.slice H r.Stations.length D] 26::Lr) w:=d;have F:oF N r am aa z ak ai aj xv=some oq:=F;?_
       unfold oF at F
       refine aBt (λ_ _ h=>h) Z (zA f d aOh Z λap a w f d=>zW f d cS u0 Z λw d=>aN (hK _ _ [.box ap [i6 xv] 3,.box y [i6 z] 3,.box s [i6 ai,i6 aj] 29,.box q ((aO g aa).map (Kd.v aT)).flatten 129,.box p [i6 ak] 53,.box k [pq i] 126,.box X [i6 0,i6 0] 29,.box m [.slice I r.People.length M,.slice H r.Stations.length D] 26] d λw d=>have d:Ctx G (.box ap [i6 xv] 3::.box y [i6 z] 3::.box s [i6 ai,i6 aj] 29::.box q ((aO g aa).map (Kd.v aT)).flatten 129::.box p [i6 ak] 53::.box k [pq i] 126::.box X [i6 0,i6 0] 29::.box m [.slice I r.People.length M,.slice H r.Stations.length D] 26::Lb) w:=d;aLw λK27 c3=>aHs (aAh λK28 dg=>aBt (λ_ _ h=>h) Z (zP f Z (pMF (us:=[pq k,pq ap,pq y]) Z Z) λa f=>sp 1 f Z λa f=>aN (dg _ _ ?_)))))
       refine aAh λK29 dj=>aH F λdv a9 F=>aH F λab ca F=>aH F λac cp F=>?_
       obtain ⟨bc,b2,hd,ck,b4,qr⟩:=((Y.mono V).mono U).atm cp
       refine aH F λdr a7 F=>aH F λbn bm F=>aH F λa2 b6 F=>aNb (λ_ _ h=>h) Z (λθ=>(f0 2 (pq m)::f0 4 (pq X)::f0 6 (pq k)::f0 7 (pq p)::f0 8 (pq q)::f0 12 (pq s)::f0 13 (pq y)::f0 15 (pq ap)::f0 16 (.func (.func 75) #[] #[pq k,pq ap,pq y])::f0 78 (.slice O B.length R)::f0 79 (i6 ((B.length:Nat):Int))::f0 80 (i6 z)::f1 0 91 (i6 xv)::f1 1 92 (.pointer (some ⟨q,0 + xv.toNat * 1,none⟩))::f1 2 93 (.slice ((g xv.toNat).1) ab.length ((g xv.toNat).2))::f1 3 94 (i6 ((ab.length:Nat):Int))::f1 4 95 (.pointer (some ⟨m,1,none⟩))::f1 5 96 (.slice H r.Stations.length D)::f1 6 97 (i6 xv)::f1 7 98 (.pointer (some ⟨bc,b2,none⟩))::f1 8 99 (.pointer (some ⟨bc,b2 + 0,none⟩))::f1 9 100 (i6 ac.Places)::f1 10 101 (.bool (decide (((ab.length:Nat):Int) < ac.Places)))::f1 11 102 (.bool (decide (((ab.length:Nat):Int) < ac.Places)))::⟨some 12,none,103,(bif (decide (((ab.length:Nat):Int) < ac.Places)) then undef else i6 xv)⟩::⟨some 13,none,104,(bif (decide (((ab.length:Nat):Int) < ac.Places)) then undef else .pointer (some ⟨q,0 + xv.toNat * 1,none⟩))⟩::⟨some 14,none,105,(bif (decide (((ab.length:Nat):Int) < ac.Places)) then undef else .slice ((g xv.toNat).1) bn.length ((g xv.toNat).2))⟩::⟨some 15,none,106,(bif (decide (((ab.length:Nat):Int) < ac.Places)) then undef else .func (.func 75) #[] #[pq k,pq ap,pq y])⟩::⟨some 16,none,107,(bif (decide (((ab.length:Nat):Int) < ac.Places)) then undef else .bool a2)⟩::f1 17 108 (.bool ((decide (((ab.length:Nat):Int) < ac.Places)) || a2))::[])) (λE θ=>.box ap [i6 xv] 3::.box y [i6 z] 3::.box s [i6 ai,i6 aj] 29::.box q ((aO g aa).map (Kd.v aT)).flatten 129::.box p [i6 ak] 53::.box k [pq i] 126::.box X [i6 0,i6 0] 29::.box m [.slice I r.People.length M,.slice H r.Stations.length D] 26::Lb) [] (λa w=>Has 115 a [(2,pq m),(4,pq X),(6,pq k),(7,pq p),(8,pq q),(12,pq s),(13,pq y),(15,pq ap),(78,.slice O B.length R),(79,i6 ((B.length:Nat):Int)),(80,i6 z),(108,.bool ((decide (((ab.length:Nat):Int) < ac.Places)) || a2))]∧Ctx G (.box ap [i6 xv] 3::.box y [i6 z] 3::.box s [i6 ai,i6 aj] 29::.box q ((aO g aa).map (Kd.v aT)).flatten 129::.box p [i6 ak] 53::.box k [pq i] 126::.box X [i6 0,i6 0] 29::.box m [.slice I r.People.length M,.slice H r.Stations.length D] 26::Lb) w) aU (by kernel_rfl) (by kernel_rfl) (iW.of f ⟨Z,Z,Z,Z,Z,Z,Z,Z,Z,Z,Z,Z,trivial,trivial,trivial,trivial,trivial,trivial,trivial,trivial,trivial,trivial,trivial,trivial,trivial,trivial,trivial,trivial,trivial,trivial,trivial⟩) d ⟨?_,?_,?_,?_,?_,?_,?_,?_,?_,?_,?_,?_,?_,?_,?_,?_,?_,?_,trivial⟩ ?_ ?_
       ·exact λE θ a w hD hi hp he d=>have f:=he.h0.mT he 7 Z;zL f d aZ m0 Z λa w f d=>zD θ he hi f 12 Z Z Z d
       ·exact λE θ a w hD hi hp he d=>have e0:=hp.o 0 Z;have f:=(he.h0.mT he 4 Z).mP he 12 Z e0;zP f Z (aAb Tryz.underlying129 lN Z Z (cG a9).1 (cG a9).2) λa f=>zD θ he hi f 13 Z Z Z d
       ·exact λE θ a w hD hi hp he d=>have e1:=hp.o 1 Z;have f:=he.h0.mP he 13 Z e1;zE f d Z (bB eL Z (bN m3 (aDw kG ca Z))) λa w f d=>zD θ he hi f 14 Z Z Z d
       ·exact λE θ a w hD hi hp he d=>have e2:=hp.o 2 Z;have f:=he.h0.mP he 14 Z e2;zP f Z (bA Tryz.underlying22 Z) λa f=>zD θ he hi f 15 Z Z Z d
       ·exact λE θ a w hD hi hp he d=>have f:=he.h0.mT he 0 Z;zP f Z (pFA fH Z) λa f=>zD θ he hi f 16 Z Z Z d
       ·exact λE θ a w hD hi hp he d=>have e4:=hp.o 4 Z;have f:=he.h0.mP he 16 Z e4;zL f d pB m7 Z λa w f d=>zD θ he hi f 17 Z Z Z d
       ·exact λE θ a w hD hi hp he d=>have f:=he.h0.mT he 7 Z;zL f d aZ m0 Z λa w f d=>zD θ he hi f 18 Z Z Z d
       ·exact λE θ a w hD hi hp he d=>have e5:=hp.o 5 Z;have e6:=hp.o 6 Z;have f:=(he.h0.mP he 17 Z e5).mP he 18 Z e6;zP f Z (pIA Tryz.underlying24 tV Z Z ck) λa f=>zD θ he hi f 19 Z Z Z d
       ·exact λE θ a w hD hi hp he d=>have e7:=hp.o 7 Z;have f:=he.h0.mP he 19 Z e7;zP f Z (pFA wL Z) λa f=>zD θ he hi f 20 Z Z Z d
       ·exact λE θ a w hD hi hp he d=>have e8:=hp.o 8 Z;have f:=he.h0.mP he 20 Z e8;zE f d Z (bB aZ Z (aV (j:=0) b4 Z)) λa w f d=>zD θ he hi f 21 Z Z Z d
       ·exact λE θ a w hD hi hp he d=>have e3:=hp.o 3 Z;have e9:=hp.o 9 Z;have f:=(he.h0.mP he 15 Z e3).mP he 21 Z e9;sp 1 f Z λa f=>zD θ he hi f 22 Z Z Z d
       ·exact λE θ a w hD hi hp he d=>have c8:=hp.o 10 Z;have f:=he.h0.mP he 22 Z c8;sp 1 f Z λa f=>zD θ he hi f 23 Z Z Z d
       ·refine λE θ a w hD hi hp he d=>have ag:=hp.o 11 Z;?_
        rcases cH (decide (((ab.length:Nat):Int) < ac.Places)) with hb | hb
        ·exact have f:=(he.h0.mT he 7 Z).mP he 23 Z ag;have f:=bH hb f;sp 1 f Z λa f=>have f:=eP (u:=i6 xv) hb f;zD θ he hi f 24 Z Z Z d
        ·exact have f:=(he.h0.mT he 7 Z).mP he 23 Z ag;have f:=bH hb f;zL f d aZ m0 Z λa w f d=>have f:=eQ (u:=undef) hb f;zD θ he hi f 24 Z Z Z d
       ·refine λE θ a w hD hi hp he d=>have ag:=hp.o 11 Z;have bz:=hp.o 12 Z;?_
        rcases cH (decide (((ab.length:Nat):Int) < ac.Places)) with hb | hb
        ·exact have f:=(he.h0.mT he 4 Z).mP he 23 Z ag;have f:=bH hb f;have f:=f.more he 24 Z (onP bz);have f:=dD hb f;sp 1 f Z λa f=>have f:=eP (u:=.pointer (some ⟨q,0 + xv.toNat * 1,none⟩)) hb f;zD θ he hi f 25 Z Z Z d
        ·exact have f:=(he.h0.mT he 4 Z).mP he 23 Z ag;have f:=bH hb f;have f:=f.more he 24 Z (onP bz);have f:=dB hb f;zP f Z (aAb Tryz.underlying129 lN Z Z (cG (cO (aHt hb) a7)).1 (cG (cO (aHt hb) a7)).2) λa f=>have f:=eQ (u:=undef) hb f;zD θ he hi f 25 Z Z Z d
       ·refine λE θ a w hD hi hp he d=>have ag:=hp.o 11 Z;have b0:=hp.o 13 Z;?_
        rcases cH (decide (((ab.length:Nat):Int) < ac.Places)) with hb | hb
        ·exact have f:=he.h0.mP he 23 Z ag;have f:=bH hb f;have f:=f.more he 25 Z (onP b0);have f:=dD hb f;sp 1 f Z λa f=>have f:=eP (u:=.slice ((g xv.toNat).1) bn.length ((g xv.toNat).2)) hb f;zD θ he hi f 26 Z Z Z d
        ·exact have f:=he.h0.mP he 23 Z ag;have f:=bH hb f;have f:=f.more he 25 Z (onP b0);have f:=dB hb f;zE f d Z (bB eL Z (bN m3 (aDw kG (cO (aHt hb) bm) Z))) λa w f d=>have f:=eQ (u:=undef) hb f;zD θ he hi f 26 Z Z Z d
       ·refine λE θ a w hD hi hp he d=>have ag:=hp.o 11 Z;?_
        rcases cH (decide (((ab.length:Nat):Int) < ac.Places)) with hb | hb
        ·exact have f:=(he.h0.mT he 8 Z).mP he 23 Z ag;have f:=bH hb f;sp 1 f Z λa f=>have f:=eP (u:=.func (.func 75) #[] #[pq k,pq ap,pq y]) hb f;zD θ he hi f 27 Z Z Z d
        ·exact have f:=(he.h0.mT he 8 Z).mP he 23 Z ag;have f:=bH hb f;sp 1 f Z λa f=>have f:=eQ (u:=undef) hb f;zD θ he hi f 27 Z Z Z d
       ·refine λE θ a w hD hi hp he d=>have ag:=hp.o 11 Z;have bv:=hp.o 14 Z;have bu:=hp.o 15 Z;?_
        rcases cH (decide (((ab.length:Nat):Int) < ac.Places)) with hb | hb
        ·exact have f:=he.h0.mP he 23 Z ag;have f:=bH hb f;have f:=f.more he 26 Z (onP bv);have f:=dD hb f;have f:=f.more he 27 Z (onP bu);have f:=dD hb f;sp 1 f Z λa f=>have f:=eP (u:=.bool a2) hb f;zD θ he hi f 28 Z Z Z d
        ·exact have f:=he.h0.mP he 23 Z ag;have f:=bH hb f;have f:=f.more he 26 Z (onP bv);have f:=dB hb f;have f:=f.more he 27 Z (onP bu);have f:=dB hb f;zQ (v:=.bool a2) f d (eN 76) Z (λw d=>(uB bn (⟨r,am.1⟩:bJ) xv z (ba _ _ (cO (aHt hb) bm)) ((t.mono V).mono U) ((Y.mono V).mono U) (au.mono U) (((d.pick k1).pick k1).pick k5) (cO (aHt hb) b6)).mono λe w h=>⟨h.1,(((h.2.unpick k5).unpick k1).unpick k1)⟩) λa w f d=>have f:=eQ (u:=undef) hb f;zD θ he hi f 28 Z Z Z d
       ·refine λE θ a w hD hi hp he d=>have ag:=hp.o 11 Z;have b1:=hp.o 16 Z;?_
        rcases cH (decide (((ab.length:Nat):Int) < ac.Places)) with hb | hb
        ·exact have f:=he.h0.mP he 23 Z ag;have f:=bH hb f;have f:=f.more he 28 Z (onP b1);have f:=dD hb f;sp 1 f Z λa f=>have f:=mQ (v':=.bool ((decide (((ab.length:Nat):Int) < ac.Places)) || a2)) (congrArg Value.bool (orT hb)) f;zD θ he hi f 29 Z Z Z d
        ·exact have f:=he.h0.mP he 23 Z ag;have f:=bH hb f;have f:=f.more he 28 Z (onP b1);have f:=dB hb f;sp 1 f Z λa f=>have f:=mQ (v':=.bool ((decide (((ab.length:Nat):Int) < ac.Places)) || a2)) (congrArg Value.bool (orF hb)) f;zD θ he hi f 29 Z Z Z d
       ·refine λE θ a w af he d=>have f:=he.h0;have dm:=af 17 Z;have f:=f.more he 29 Z (onP dm);have f:=f.more he 11 Z (onT);have f:=f.more he 10 Z (onT);have f:=f.more he 9 Z (onT);have f:=f.more he 7 Z (onT);have f:=f.more he 6 Z (onT);have f:=f.more he 5 Z (onT);have f:=f.more he 4 Z (onT);have f:=f.more he 3 Z (onT);have f:=f.more he 2 Z (onT);have f:=f.more he 1 Z (onT);?_
        exact have f:=f.more he 0 Z (onT);⟨f.kp Z,d⟩
       rintro a w ⟨f,d⟩
       refine dj _ _ (aKv (b:=((decide (((ab.length:Nat):Int) < ac.Places)) || a2)) f Z (λhb=>?_) (λhb=>?_))
       ·replace F:=cO hb F
        clear hb
        exact aAh λK30 c0=>aBt (λ_ _ h=>h) Z (zL f d aZ m1 Z λa w f d=>zL f d aZ m0 Z λa w f d=>zP f Z (bS (cells:=[i6 z,i6 xv]) xR Z Z) λa f=>zW f d pP u2 Z λw d=>zW f d aNf u4 Z λw d=>aN (c0 _ _ (aRa (aLb Z (aP (have d:=d.drop k0;(.inr ⟨Z,(0,z,xv),_,(sj F).symm,Z,d⟩)))))))
       ·replace F:=eG hb F
        clear hb
        exact aKh (c3 _ _ (have d:=d.drop k0;⟨(ak,ai,aj),_,(sj F).symm,Z,d⟩))
      ·rintro D_1 ⟨ak,ai,aj⟩ _ a w bb rfl f d
       refine have f:Has ⟨115,zU (D_1::Ds)⟩ a [(2,pq m),(4,pq X),(6,pq k),(7,pq p),(8,pq q),(12,pq s),(13,pq y),(78,.slice O B.length R),(79,i6 ((B.length:Nat):Int)),(80,i6 z)]:=f.kp Z;have d:Ctx G (.box a0 [pq i] 126::.box a1 [i6 an.1] 3::.box az [i6 an.2] 3::.box y [i6 z] 3::.box s [i6 ai,i6 aj] 29::.box q ((aO g aa).map (Kd.v aT)).flatten 129::.box p [i6 ak] 53::.box k [pq i] 126::.box X [i6 0,i6 0] 29::.box m [.slice I r.People.length M,.slice H r.Stations.length D] 26::(aDg (D_1::Ds)++Lf)) w:=aFi (C:=[.box a0 [pq i] 126,.box a1 [i6 an.1] 3,.box az [i6 an.2] 3]) (L:=[.box y [i6 z] 3,.box s [i6 ai,i6 aj] 29,.box q ((aO g aa).map (Kd.v aT)).flatten 129,.box p [i6 ak] 53,.box k [pq i] 126,.box X [i6 0,i6 0] 29,.box m [.slice I r.People.length M,.slice H r.Stations.length D] 26]) d;?_
       replace F:(some (.cont (W (z + 1),ak,ai,aj)))=some bk:=by rcases bb with rfl | rfl <;> exact F
       exact dp _ _ (bK (sp 2 f Z λa f=>aN (have d:=(((d.drop k3).drop k2).drop k1).drop k0;cj (W (z + 1),ak,ai,aj) _ _ (sj F).symm ⟨(D_1::Ds),f.kp Z,d⟩)))
      ·rintro D_1 ⟨ak,ai,aj⟩ _ a w bb rfl f d
       refine have f:Has ⟨115,zU (D_1::Ds)⟩ a [(2,pq m),(4,pq X),(6,pq k),(7,pq p),(8,pq q),(12,pq s),(13,pq y),(78,.slice O B.length R),(79,i6 ((B.length:Nat):Int)),(80,i6 z)]:=f.kp Z;have d:Ctx G (.box a0 [pq i] 126::.box a1 [i6 an.1] 3::.box az [i6 an.2] 3::.box y [i6 z] 3::.box s [i6 ai,i6 aj] 29::.box q ((aO g aa).map (Kd.v aT)).flatten 129::.box p [i6 ak] 53::.box k [pq i] 126::.box X [i6 0,i6 0] 29::.box m [.slice I r.People.length M,.slice H r.Stations.length D] 26::(aDg (D_1::Ds)++Lf)) w:=aFi (C:=[.box a0 [pq i] 126,.box a1 [i6 an.1] 3,.box az [i6 an.2] 3]) (L:=[.box y [i6 z] 3,.box s [i6 ai,i6 aj] 29,.box q ((aO g aa).map (Kd.v aT)).flatten 129,.box p [i6 ak] 53,.box k [pq i] 126,.box X [i6 0,i6 0] 29,.box m [.slice I r.People.length M,.slice H r.Stations.length D] 26]) d;?_
       replace F:(some (.brk (z,ak,ai,aj)))=some bk:=by subst bb;exact F
       exact aLb Z (aP (aP (have d:=(((d.drop k3).drop k2).drop k1).drop k0;have ar:=cB F ar;cX (br _ _ _ ar ⟨(D_1::Ds),f.kp Z,d⟩))))
     ·exact wp_exit (aP (aP (have ar:=cB F ar;cX (br _ _ _ ar ⟨Ds,f.kp Z,d⟩))))
    have b8:∀ r,bd=.out r→r=a5:=by
     rintro r rfl
     exact sj F
    refine cF N (cE (S:=S14) (x:=bd) ?_ N 0 _ _ ⟨f.kp Z,d⟩ b3)
    clear F f d
    rintro x du a w KB14 ⟨f,d⟩ F aq cr
    refine zS λK h=>sp 1 f Z λa f=>zT h (wp_seq_k λK32 c4=>zI f Z F ?_ ?_) <;> intro F
    ·refine wp_skip (c4 _ _ (wp_seq_k λK33 c5=>wp_block (zS λK h=>sp 1 f Z λa f=>aH F λay cs F=>?_)))
     obtain ⟨dy,d7,cc,ci⟩:=((ad.mono V).mono U).atm cs
     refine zP f Z (pIA Tryz.underlying22 cS Z Z cc) λa f=>zE f d Z (bB aZ Z (aV (j:=0) ci Z)) λa w f d=>sp 2 f Z λa f=>zT h (wp_seq_k λK35 dq=>aH F λdk bt F=>cQ d aU (by kernel_rfl) (qp_ 3 f Z λa f=>aB5 19 (λa=>Has 115 a [(1,.slice O B.length R),(2,pq m),(4,pq X),(6,pq k),(7,pq p),(8,pq q),(9,.func (.func 73) #[pq i] #[]),(46,.slice O B.length R),(47,i6 ((B.length:Nat):Int)),(48,i6 x),(10,i6 x),(11,i6 ay),(53,i6 ay),(54,.bool (ay != (-1))),(55,.bool (ay != (-1))),(74,.bool dk)]) ?_ ?_))
     ·cases hb:(ay != (-1))
      ·rw [hb] at f
       have F:=eG hb bt
       obtain rfl:=sj F
       exact qk_ 18 f Z λa f=>qp_ 1 f Z λa f=>sZ (f.kp Z)
      ·rw [hb] at f
       refine have F:=cO hb bt;aH F λa6 cg F=>aH F λdi bp F=>qp_ 3 f Z λa f=>qV f Z (eCB (v:=.bool a6) (bs:=[pq i]) (vs:=[i6 x,i6 ay]) (caps:=[]) (eN 73) Z Z Z Z (λw d=>jY (⟨r,am.1⟩:bJ) x ay ((t.mono V).mono U) ((Y.mono V).mono U) (au.mono U) d cg)) λa f=>qp_ 2 f Z λa f=>aB5 12 (λa=>Has 115 a [(1,.slice O B.length R),(2,pq m),(4,pq X),(6,pq k),(7,pq p),(8,pq q),(9,.func (.func 73) #[pq i] #[]),(46,.slice O B.length R),(47,i6 ((B.length:Nat):Int)),(48,i6 x),(10,i6 x),(11,i6 ay),(53,i6 ay),(54,.bool true),(55,.bool true),(56,.func (.func 73) #[pq i] #[]),(57,i6 x),(58,i6 ay),(59,.bool a6),(60,.bool (!a6)),(61,.bool (!a6)),(73,.bool di)]) ?_ ?_
       ·cases hb:(!a6)
        ·rw [hb] at f
         refine have F:=eG hb bp;aH F λd0 a8 F=>aH F λd6 b9 F=>aH F λd4 cv F=>?_
         obtain ⟨dx,d5,dz,cb,cf,dt⟩:=((Y.mono V).mono U).atm cv
         refine qp_ 1 f Z λa f=>qU f Z (aAb Tryz.underlying129 lN Z Z (cG a8).1 (cG a8).2) λa f=>qV f Z (bB eL Z (bN m0 (aDw kG b9 Z))) λa f=>qU f Z (bA Tryz.underlying22 Z) λa f=>qU f Z (pFA fH Z) λa f=>qV f Z (bB pB Z (bN m4 Z)) λa f=>qp_ 1 f Z λa f=>qU f Z (pIA Tryz.underlying24 tV Z Z cb) λa f=>qU f Z (pFA wL Z) λa f=>qV f Z (bB aZ Z (aV (j:=0) cf Z)) λa f=>qp_ 2 f Z λa f=>?_
         obtain rfl:=sj F
         exact sZ (f.kp Z)
        ·rw [hb] at f
         have F:=cO hb bp
         obtain rfl:=sj F
         exact qk_ 11 f Z λa f=>qp_ 1 f Z λa f=>sZ (f.kp Z)
       refine λa f=>qp_ 1 f Z λa f=>?_
       obtain rfl:=sj F
       exact sZ (f.kp Z)
     refine λa f=>λw d=>dq _ _ (zI f Z F ?_ ?_) <;> intro F
     ·refine zS λK h=>zP f Z (bS (cells:=[i6 0,i6 0]) xR Z Z) λa f=>zW f d pP u3 Z λw d=>sp 1 f Z λa f=>zT h (wp_ret (bG (aL (aL (have aq:=cB F aq;have F:=b8 _ aq;bG (aL (aEn ?_)))))))
      obtain rfl:=F
      exact have d:=d.down U;have d:=d.down V;have d:=(((d.drop k4).drop k2).drop k1).drop k0;aJy f (aK5 Tryz.results20 f d (eE (vs:=[i6 0,i6 0]) rL Z Z (bT (n:=2) m0 Z)) (show kH _ 5=_ from Z) ⟨Z,(d.drop k0)⟩)
     ·exact wp_skip (c5 _ _ (bK (sp 2 f Z λa f=>aN (cr (W (x + 1)) _ _ (sj F).symm ⟨f.kp Z,d⟩))))
    ·exact wp_exit (aP (aP (have aq:=cB F aq;cX (cu _ _ _ aq ⟨f.kp Z,d⟩))))

def xW (x:aA) (B:aB):Bool :=
 ((aR x.Person 0 (W (((B.People.length:Nat):Int) - 1))) && (aR x.Station 0 (W (((B.Stations.length:Nat):Int) - 1))))
theorem aGb {b_ H B:Nat} {I D:Option Addr} (x:aA) (J:aB) (O:RdT aT G 1 I H J.People) (M:RdT bD G 2 D B J.Stations) (d:Ctx G (.box b_ [.slice I J.People.length H,.slice D J.Stations.length B] 26::Lf) w) {R:Bool} (F:xW x J=R):Cz G 81 #[.agg #[i6 x.Person,i6 x.Station],pq b_] w (.bool R) (.box b_ [.slice I J.People.length H,.slice D J.Stations.length B] 26::Lf):=by
 refine bY Tryz.func81 Z Tryz.ntmps81 Z λa f=>zS λK h=>zB f d Z λS a w f d=>sp 1 f Z λa f=>zT h (zS λK h=>zP f Z (pFA aEg Z) λa f=>zL f d aZ m0 Z λa w f d=>zP f Z (pFA iG Z) λa f=>zL f d gR m1 Z λa w f d=>zP f Z (bA Tryz.underlying23 Z) λa f=>sp 1 f Z λa f=>zQ (v:=.bool (aR x.Person 0 (W (((J.People.length:Nat):Int) - 1)))) f d (eN 53) Z (λw d=>dP x.Person 0 (W (((J.People.length:Nat):Int) - 1)) d Z) λa w f d=>sp 1 f Z λa f=>?_)
 refine cV 8 (λa=>Has 20 a [(3,.bool false),(19,.bool ((aR x.Person 0 (W (((J.People.length:Nat):Int) - 1))) && (aR x.Station 0 (W (((J.Stations.length:Nat):Int) - 1)))))]) d ?_ ?_
 ·cases hb:(aR x.Person 0 (W (((J.People.length:Nat):Int) - 1)))
  ·rw [hb] at f
   exact sp 8 f Z λa f=>aN ⟨f.kp Z,d⟩
  ·rw [hb] at f
   exact zP f Z (pFA xY Z) λa f=>zL f d aZ m0 Z λa w f d=>zP f Z (pFA fH Z) λa f=>zL f d pB m1 Z λa w f d=>zP f Z (bA Tryz.underlying24 Z) λa f=>sp 1 f Z λa f=>zQ (v:=.bool (aR x.Station 0 (W (((J.Stations.length:Nat):Int) - 1)))) f d (eN 53) Z (λw d=>dP x.Station 0 (W (((J.Stations.length:Nat):Int) - 1)) d Z) λa w f d=>sp 1 f Z λa f=>aN ⟨f.kp Z,d⟩
 intro a w ⟨f,d⟩
 refine sp 1 f Z λa f=>zT h (wp_ret ?_)
 obtain rfl:=F
 exact have d:=d.drop k0;zO1 Tryz.results81 f Z ⟨Z,d⟩

def gQ (x:aA) (B:aB):Bool :=
 (!(xW x B))
theorem xH {b_ R H B:Nat} {I D:Option Addr} (x:aA) (J:aB) (O:RdT aT G 1 I H J.People) (M:RdT bD G 2 D B J.Stations) (d:Ctx G (.box b_ [.func (.func 81) #[] #[pq R]] 142::.box R [.slice I J.People.length H,.slice D J.Stations.length B] 26::Lf) w) {S:Bool} (F:gQ x J=S):Cz G 116 #[.agg #[i6 x.Person,i6 x.Station],pq b_] w (.bool S) (.box b_ [.func (.func 81) #[] #[pq R]] 142::.box R [.slice I J.People.length H,.slice D J.Stations.length B] 26::Lf):=by
 refine bY Tryz.func116 Z Tryz.ntmps116 Z λa f=>zS λK h=>zB f d Z λU a w f d=>sp 1 f Z λa f=>zT h (zS λK h=>zL f d aS1 m1 Z λa w f d=>zN f d rL m0 Z λa w f d=>zQ (v:=.bool (xW x J)) f d (eN 81) Z (λw d=>(aGb x J O M (d.pick k2) Z).mono λe w h=>⟨h.1,(h.2.unpick k2)⟩) λa w f d=>sp 2 f Z λa f=>zT h (wp_ret ?_))
 obtain rfl:=F
 exact have d:=d.drop k0;zO1 Tryz.results116 f Z ⟨Z,d⟩

def nV (N:Nat) (s_:List aA) (f_:aB) (x:Int):Option (bC (Int) (Int)) :=
 cond (decide (x < ((s_.length:Nat):Int)))
 (Option.bind (aQ s_ x) λB=>
 cond (gQ B f_)
 (some (.ret x))
 (some (.cont (W (x + 1)))))
 (some (.brk x))
def dZ (N:Nat) (s_:List aA) (f_:aB):Option (Int) :=
 Option.bind (aS (λs4=>nV N s_ f_ s4) N 0) λx4=>
 exK x4 (λs4=>some (-1)) some
theorem nU {V I B:Option Addr} {U b_ M H D:Nat} (s_:List aA) (f_:aB) (b:Rd G 2 V U (s_.map aM)) (R:RdT aT G 1 I H f_.People) (O:RdT bD G 2 B D f_.Stations) (d:Ctx G (.box b_ [.func (.func 81) #[] #[pq M]] 142::.box M [.slice I f_.People.length H,.slice B f_.Stations.length D] 26::Lf) w) {Y:Int} (F:dZ N s_ f_=some Y):Cz G 133 #[.slice V s_.length U,.func (.func 116) #[] #[pq b_]] w (i6 Y) (.box b_ [.func (.func 81) #[] #[pq M]] 142::.box M [.slice I f_.People.length H,.slice B f_.Stations.length D] 26::Lf):=by
 refine bY Tryz.func133 Z Tryz.ntmps133 Z λa f=>zS λK h=>sp 1 f Z λa f=>zT h (wp_seq_k λK2 h2=>zS λK h=>sp 1 f Z λa f=>zP f Z (bA Tryz.underlying30 Z) λa f=>sp 1 f Z λa f=>zT h (wp_block (aH F λx4 m F=>?_)))
 let S4:Int→Act→World→Prop:=(λ(zz:Int) a w=>Has 19 a [(0,.slice V s_.length U),(1,.func (.func 116) #[] #[pq b_]),(7,i6 ((s_.length:Nat):Int)),(8,i6 zz)]∧Ctx G (.box b_ [.func (.func 81) #[] #[pq M]] 142::.box M [.slice I f_.People.length H,.slice B f_.Stations.length D] 26::Lf) w)
 have j:∀ (zz:Int) a w,x4=.go zz→S4 zz a w→K2 a w:=by
  rintro x a w rfl ⟨f,d⟩
  refine have F:=bI F;h2 _ _ (zS λK h=>sp 1 f Z λa f=>zT h (wp_ret ?_))
  obtain rfl:=sj F
  exact zO1 Tryz.results133 f Z ⟨Z,d⟩
 have i:∀ r,x4=.out r→r=Y:=by
  rintro r rfl
  exact sj F
 refine cF N (cE (S:=S4) (x:=x4) ?_ N 0 _ _ ⟨f.kp Z,d⟩ m)
 clear F f d
 rintro x p a w KB4 ⟨f,d⟩ F J k
 refine zS λK h=>sp 1 f Z λa f=>zT h (wp_seq_k λK7 h7=>zI f Z F ?_ ?_) <;> intro F
 ·refine wp_skip (h7 _ _ (wp_seq_k λK8 h8=>wp_block (zS λK h=>sp 2 f Z λa f=>zT h (zS λK h=>sp 3 f Z λa f=>aH F λX g F=>?_))))
  obtain ⟨q,o,qa,qp⟩:=b.atm g
  refine zP f Z (pIA Tryz.underlying30 pP Z Z qa) λa f=>zE f d Z (iY (vs:=[i6 X.Person,i6 X.Station]) rL Z Z (cY qp (n:=2) (o':=0) Z)) λa w f d=>zQ (v:=.bool (gQ X f_)) f d (eN 116) Z (λw d=>(xH X f_ R O ((d.pick k1).pick k1) Z).mono λe w h=>⟨h.1,((h.2.unpick k1).unpick k1)⟩) λa w f d=>zT h (zI f Z F ?_ ?_) <;> intro F
  ·refine zS λK h=>sp 2 f Z λa f=>zT h (wp_ret (bG (aL (aL (have J:=cB F J;have F:=i _ J;bG (aL ?_))))))
   obtain rfl:=F
   exact zO1 Tryz.results133 f Z ⟨Z,d⟩
  ·exact wp_skip (h8 _ _ (bK (sp 2 f Z λa f=>aN (k (W (x + 1)) _ _ (sj F).symm ⟨f.kp Z,d⟩))))
 ·exact wp_exit (aP (aP (have J:=cB F J;cX (j _ _ _ J ⟨f.kp Z,d⟩))))

def dU (N:Nat) (s_:List aA) (f_:aB):Option (Bool) :=
 Option.bind (dZ N s_ f_) λr=>
 some (decide (0≤r))
theorem mS {S I D:Option Addr} {R b_ O H B:Nat} (s_:List aA) (f_:aB) (V:Rd G 2 S R (s_.map aM)) (M:RdT aT G 1 I H f_.People) (J:RdT bD G 2 D B f_.Stations) (d:Ctx G (.box b_ [.func (.func 81) #[] #[pq O]] 142::.box O [.slice I f_.People.length H,.slice D f_.Stations.length B] 26::Lf) w) {U:Bool} (F:dU N s_ f_=some U):Cz G 115 #[.slice S s_.length R,.func (.func 116) #[] #[pq b_]] w (.bool U) (.box b_ [.func (.func 81) #[] #[pq O]] 142::.box O [.slice I f_.People.length H,.slice D f_.Stations.length B] 26::Lf):=by
 refine bY Tryz.func115 Z Tryz.ntmps115 Z λa f=>zS λK h=>sp 1 f Z λa f=>zT h (zS λK h=>sp 2 f Z λa f=>aH F λr hr F=>zQ (v:=i6 r) f d (eN 133) Z (λw d=>(nU s_ f_ V M J ((d.pick k1).pick k1) hr).mono λe w h=>⟨h.1,((h.2.unpick k1).unpick k1)⟩) λa w f d=>sp 2 f Z λa f=>zT h (wp_ret ?_))
 obtain rfl:=sj F
 exact zO1 Tryz.results115 f Z ⟨Z,d⟩

def lS (N:Nat) (l:List aA) (so:aB):Option (Bool) :=
 Option.bind (dU N l so) λr=>
 some (!r)
theorem yR {R H D:Option Addr} {S b_ I B:Nat} (l:List aA) (so:aB) (U:Rd G 2 R S (l.map aM)) (M:RdT aT G 1 H I so.People) (J:RdT bD G 2 D B so.Stations) (d:Ctx G (.box b_ [.slice H so.People.length I,.slice D so.Stations.length B] 26::Lf) w) {O:Bool} (F:lS N l so=some O):Cz G 80 #[.slice R l.length S,.func (.func 81) #[] #[pq b_]] w (.bool O) (.box b_ [.slice H so.People.length I,.slice D so.Stations.length B] 26::Lf):=by
 refine bY Tryz.func80 Z Tryz.ntmps80 Z λa f=>zS λK h=>zB f d Z λV a w f d=>sp 1 f Z λa f=>zT h (zS λK h=>sp 1 f Z λa f=>zP f Z (pMF (us:=[pq V]) Z Z) λa f=>aH F λr hr F=>zQ (v:=.bool r) f d (eN 115) Z (λw d=>(mS l so U M J ((d.pick k1).pick k1) hr).mono λe w h=>⟨h.1,((h.2.unpick k1).unpick k1)⟩) λa w f d=>sp 2 f Z λa f=>zT h (wp_ret ?_))
 obtain rfl:=sj F
 exact have d:=d.drop k0;zO1 Tryz.results80 f Z ⟨Z,d⟩

def jG (N:Nat) (s_:List aA) (v:aA) (x:Int):Option (bC (Int) (Int)) :=
 cond (decide (x < ((s_.length:Nat):Int)))
 (Option.bind (aQ s_ x) λB=>
 cond (v.Person == B.Person && v.Station == B.Station)
 (some (.ret x))
 (some (.cont (W (x + 1)))))
 (some (.brk x))
def fS (N:Nat) (s_:List aA) (v:aA):Option (Int) :=
 Option.bind (aS (λs4=>jG N s_ v s4) N 0) λx4=>
 exK x4 (λs4=>some (-1)) some
theorem qY {H:Option Addr} {D:Nat} (s_:List aA) (v:aA) (O:Rd G 2 H D (s_.map aM)) (d:Ctx G (Lf) w) {I:Int} (F:fS N s_ v=some I):Cz G 134 #[.slice H s_.length D,.agg #[i6 v.Person,i6 v.Station]] w (i6 I) (Lf):=by
 refine bY Tryz.func134 Z Tryz.ntmps134 Z λa f=>zS λK h=>zB f d Z λM a w f d=>sp 1 f Z λa f=>zT h (wp_seq_k λK2 h2=>zS λK h=>sp 1 f Z λa f=>zP f Z (bA Tryz.underlying30 Z) λa f=>sp 1 f Z λa f=>zT h (wp_block (aH F λx4 b F=>?_)))
 let S4:Int→Act→World→Prop:=(λ(zz:Int) a w=>Has 19 a [(0,.slice H s_.length D),(3,pq M),(7,i6 ((s_.length:Nat):Int)),(8,i6 zz)]∧Ctx G (.box M [i6 v.Person,i6 v.Station] 29::Lf) w)
 have V:∀ (zz:Int) a w,x4=.go zz→S4 zz a w→K2 a w:=by
  rintro x a w rfl ⟨f,d⟩
  refine have F:=bI F;h2 _ _ (zS λK h=>sp 1 f Z λa f=>zT h (wp_ret ?_))
  obtain rfl:=sj F
  exact have d:=d.drop k0;zO1 Tryz.results134 f Z ⟨Z,d⟩
 have U:∀ r,x4=.out r→r=I:=by
  rintro r rfl
  exact sj F
 refine cF N (cE (S:=S4) (x:=x4) ?_ N 0 _ _ ⟨f.kp Z,d⟩ b)
 clear F f d
 rintro x g a w KB4 ⟨f,d⟩ F B Y
 refine zS λK h=>sp 1 f Z λa f=>zT h (wp_seq_k λK7 h7=>zI f Z F ?_ ?_) <;> intro F
 ·refine wp_skip (h7 _ _ (wp_seq_k λK8 h8=>wp_block (zS λK h=>sp 2 f Z λa f=>zT h (wp_seq_k λK10 X=>aH F λJ R F=>?_))))
  obtain ⟨i,o,qa,qp⟩:=O.atm R
  refine cQ d aU (by kernel_rfl) (qV f Z (iY (vs:=[i6 v.Person,i6 v.Station]) rL Z Z (bT (n:=2) m0 Z)) λa f=>qp_ 2 f Z λa f=>qU f Z (pIA Tryz.underlying30 pP Z Z qa) λa f=>qV f Z (iY (vs:=[i6 J.Person,i6 J.Station]) rL Z Z (cY qp (n:=2) (o':=0) Z)) λa f=>qU f Z (pEqA aK2 Z Z (aHy _ _ _ _)) λa f=>λw d=>X _ _ (zI f Z F ?_ ?_)) <;> intro F
  ·refine zS λK h=>sp 2 f Z λa f=>zT h (wp_ret (bG (aL (aL (have B:=cB F B;have F:=U _ B;bG (aL ?_))))))
   obtain rfl:=F
   exact have d:=d.drop k0;zO1 Tryz.results134 f Z ⟨Z,d⟩
  ·exact wp_skip (h8 _ _ (bK (sp 2 f Z λa f=>aN (Y (W (x + 1)) _ _ (sj F).symm ⟨f.kp Z,d⟩))))
 ·exact wp_exit (aP (aP (have B:=cB F B;cX (V _ _ _ B ⟨f.kp Z,d⟩))))

def dM (N:Nat) (s_:List aA) (v:aA):Option (Bool) :=
 Option.bind (fS N s_ v) λr=>
 some (decide (0≤r))
theorem pC {D:Option Addr} {B:Nat} (s_:List aA) (v:aA) (I:Rd G 2 D B (s_.map aM)) (d:Ctx G (Lf) w) {H:Bool} (F:dM N s_ v=some H):Cz G 117 #[.slice D s_.length B,.agg #[i6 v.Person,i6 v.Station]] w (.bool H) (Lf):=by
 refine bY Tryz.func117 Z Tryz.ntmps117 Z λa f=>zS λK h=>zB f d Z λJ a w f d=>sp 1 f Z λa f=>zT h (zS λK h=>sp 1 f Z λa f=>zN f d rL m0 Z λa w f d=>aH F λr hr F=>zQ (v:=i6 r) f d (eN 134) Z (λw d=>qY s_ v I d hr) λa w f d=>sp 2 f Z λa f=>zT h (wp_ret ?_))
 obtain rfl:=sj F
 exact have d:=d.drop k0;zO1 Tryz.results117 f Z ⟨Z,d⟩

def fM (N:Nat) (D:Int) (B:Int):Option (bC (Int × Int) (Bool)) :=
 some (.cont (B,W (D + 1)))
def fK (N:Nat) (ahead:List aA) (D:Int) (I:Bool) (xv:Int):Option (Rs (Bool)) :=
 Option.bind (cond I (Option.bind (dM N ahead (⟨D,xv⟩:aA)) λB=>
 some B) (some false)) λH=>
 some (.go H)
def iI (N:Nat) (w_:bJ) (x:aA) (ahead:List aA) (D:Int) (B:Int):Option (bC (Int × Int) (Bool)) :=
 cond (decide (B < ((w_.Roster.People.length:Nat):Int)))
 (Option.bind (iK N w_ B x.Station) λR=>
 Option.bind (cond (!R) (some true) (Option.bind (inR x.Station 12) λun=>
 Option.bind (inR B 12) λU=>
 Option.bind (inR x.Station 12) λS=>
 Option.bind (inR x.Person 12) λV=>
 some (decide ((w_.rank (x.Station * 12 + x.Person).toNat)≤(w_.rank (x.Station * 12 + B).toNat))))) λM=>
 cond M
 (fM N B D)
 (Option.bind (iN N w_ B x.Station) λI=>
 Option.bind (fA N w_ I.1 I.2 (rY (λ(zz:Bool) (J:Int)=>fK N ahead B zz J)) (.go true)) λO=>
 rsK O (λH=>cond H
 (fM N B (W (D + 1)))
 (fM N B D)) (λH=>none)))
 (some (.brk (D,B)))
def tZ (N:Nat) (w_:bJ) (x:aA) (ahead:List aA):Option (Bool) :=
 Option.bind (iK N w_ x.Person x.Station) λr=>
 cond (!r)
 (some true)
 (Option.bind (aS (λs8=>iI N w_ x ahead s8.1 s8.2) N (0,0)) λx8=>
 exK x8 (λs8=>Option.bind (aQ w_.Roster.Stations x.Station) λB=>
 some (decide (B.Places≤s8.1))) some)
theorem aDt {b_ g V H:Nat} {b Y D:Option Addr} (w_:bJ) (x:aA) (ahead:List aA) (I:RdT aT G 1 b g w_.Roster.People) (B:RdT bD G 2 Y V w_.Roster.Stations) (R:PC G b_ 0 (aBc [.slice b w_.Roster.People.length g,.slice Y w_.Roster.Stations.length V] 144 aF w_.rank [])) (ai:Rd G 2 D H (ahead.map aM)) (d:Ctx G (Lf) w) {aj:Bool} (F:tZ N w_ x ahead=some aj):Cz G 82 #[pq b_,.agg #[i6 x.Person,i6 x.Station],.slice D ahead.length H] w (.bool aj) (Lf):=by
 refine aPq Tryz.func82 Z Tryz.ntmps82 Z λa f=>zS λK h=>zB f d Z λU a w f d=>zB f d Z λX a w f d=>sp 1 f Z λa f=>zT h (wp_seq_k λK2 h2=>zS λK h=>sp 1 f Z λa f=>zP f Z (pFA aEg Z) λa f=>zL f d aZ m1 Z λa w f d=>zP f Z (pFA xY Z) λa f=>zL f d aZ m1 Z λa w f d=>aH F λr hr F=>?_)
 refine zQ (v:=.bool r) f d (eN 73) Z (λw d=>jY w_ x.Person x.Station I B R d hr) λa w f d=>sp 1 f Z λa f=>zT h (zI f Z F ?_ ?_) <;> intro F
 ·refine zS λK h=>sp 1 f Z λa f=>zT h (wp_ret (aL ?_))
  obtain rfl:=sj F
  exact have d:=(d.drop k1).drop k0;aJy f (aSu Tryz.results82 f d (show kH _ 6=_ from Z) ⟨Z,d⟩)
 ·refine wp_skip (h2 _ _ (zS λK h=>sp 1 f Z λa f=>zT h (wp_seq_k λK6 h6=>zS λK h=>sp 2 f Z λa f=>zP f Z (pFA vM Z) λa f=>zP f Z (pFA iG Z) λa f=>zE f d Z (bB gR Z (aV (j:=0) R Z)) λa w f d=>zP f Z (bA Tryz.underlying23 Z) λa f=>sp 1 f Z λa f=>zT h ?_)))
  refine wp_block (aH F λx8 a7 F=>?_)
  let S8:(Int × Int)→Act→World→Prop:=(λ(zz:Int × Int) a w=>∃ (Ds:List Nat),Has ⟨85,zU Ds⟩ a [(0,pq b_),(4,pq U),(5,pq X),(7,i6 zz.1),(23,i6 ((w_.Roster.People.length:Nat):Int)),(24,i6 zz.2)]∧Ctx G (.box X [.slice D ahead.length H] 30::.box U [i6 x.Person,i6 x.Station] 29::(aDg Ds++Lf)) w)
  have a6:∀ (zz:Int × Int) a w,x8=.go zz→S8 zz a w→K6 a w:=by
   rintro ⟨i,O⟩ a w rfl ⟨Ds,f,d⟩
   refine have F:=bI F;h6 _ _ (wp_seq_k λK9 h9=>aH F λbg au F=>?_)
   obtain ⟨bk,o,hd,qa,qp,qr⟩:=B.atm au
   refine cQ d aU (by kernel_rfl) (qp_ 3 f Z λa f=>qU f Z (pFA vM Z) λa f=>qU f Z (pFA fH Z) λa f=>qV f Z (bB pB Z (aV (j:=1) R Z)) λa f=>qU f Z (pFA xY Z) λa f=>qV f Z (bB aZ Z (bN m1 Z)) λa f=>qU f Z (pIA Tryz.underlying24 tV Z Z qa) λa f=>qU f Z (pFA wL Z) λa f=>qV f Z (bB aZ Z (aV (j:=0) qp Z)) λa f=>qp_ 2 f Z λa f=>λw d=>h9 _ _ (wp_ret ?_))
   obtain rfl:=sj F
   exact have d:=(d.drop k1).drop k0;aJy f (aLa [] Ds d λw d=>have d:Ctx G (Lf) w:=d;aSu Tryz.results82 f d (show kH _ 6=_ from Z) ⟨Z,d⟩)
  have bi:∀ r,x8=.out r→r=aj:=by
   rintro r rfl
   exact sj F
  refine have f:=aSt f;have d:Ctx G (.box X [.slice D ahead.length H] 30::.box U [i6 x.Person,i6 x.Station] 29::(aDg []++Lf)) w:=d;cF N (cE (S:=S8) (x:=x8) ?_ N (0,0) _ _ ⟨[],f.kp Z,d⟩ a7)
  clear F f d
  rintro ⟨i,O⟩ ap a w KB8 ⟨Ds,f,d⟩ F ac a4
  refine zS λK h=>sp 1 f Z λa f=>zT h (wp_seq_k λK11 a9=>zI f Z F ?_ ?_) <;> intro F
  ·refine wp_skip (a9 _ _ (wp_seq_k λK12 a5=>?_))
   have af:∀ (s:Int) (Ds_1:List Nat) a w,Has ⟨85,zU Ds_1⟩ a [(0,pq b_),(4,pq U),(5,pq X),(7,i6 s),(23,i6 ((w_.Roster.People.length:Nat):Int)),(24,i6 O)]→Ctx G (.box X [.slice D ahead.length H] 30::.box U [i6 x.Person,i6 x.Station] 29::(aDg Ds_1++Lf)) w→fM N O s=some ap→K12 a w:=by
    repeat first | clear F | clear d | clear f
    intro s Ds_1 a w f d F
    unfold fM at F
    exact a5 _ _ (bK (sp 2 f Z λa f=>aN (a4 (s,W (O + 1)) _ _ (sj F).symm ⟨Ds_1,f.kp Z,d⟩)))
   refine wp_block (zS λK h=>sp 1 f Z λa f=>zA f d aOh Z λm a w f d=>zW f d cS u0 Z λw d=>zT h (wp_seq_k λK14 bb=>wp_seq_k λK15 a2=>aH F λad ay F=>aH F λa0 am F=>cQ d aU (by kernel_rfl) (qp_ 1 f Z λa f=>qV f Z (bB aZ Z (bN m0 Z)) λa f=>qU f Z (pFA xY Z) λa f=>?_)))
   refine qV f Z (bB aZ Z (bN m2 Z)) λa f=>qV f Z (eC (v:=.bool ad) (vs:=[pq b_,i6 O,i6 x.Station]) (caps:=[]) (eN 73) Z Z Z Z (λw d=>jY w_ O x.Station I B R d ay)) λa f=>qp_ 2 f Z λa f=>aB5 21 (λa=>Has ⟨85,zU Ds⟩ a [(0,pq b_),(4,pq U),(5,pq X),(7,i6 i),(23,i6 ((w_.Roster.People.length:Nat):Int)),(24,i6 O),(8,pq m),(27,pq b_),(28,i6 O),(29,.pointer (some ⟨U,1,none⟩)),(30,i6 x.Station),(31,.bool ad),(32,.bool (!ad)),(33,.bool (!ad)),(54,.bool a0)]) ?_ ?_
   ·cases hb:(!ad)
    ·rw [hb] at f
     refine have F:=eG hb am;aH F λun ag F=>aH F λbd y F=>aH F λbc t F=>aH F λbf u F=>qp_ 1 f Z λa f=>qU f Z (pFA xY Z) λa f=>qV f Z (bB aZ Z (bN m2 Z)) λa f=>qV f Z (bB aZ Z (bN m0 Z)) λa f=>qp_ 1 f Z λa f=>qU f Z (pFA wY Z) λa f=>qU f Z (aAb Tryz.underlying136 aCs Z Z (cG ag).1 (cG ag).2) λa f=>qU f Z (Pu.cast (aAb Tryz.underlying135 cS Z Z (cG y).1 (cG y).2) (congrArg (λk=>Value.pointer (some ⟨b_,k,none⟩)) (xA (M:=12) (0 + 2) ag y Z))) λa f=>qV f Z (bB aZ Z (yW (j:=0) R (λx=>(bQ x).1) Z (aKf ag y Z) Z)) λa f=>?_
     refine qp_ 1 f Z λa f=>qU f Z (pFA xY Z) λa f=>qV f Z (bB aZ Z (bN m2 Z)) λa f=>qU f Z (pFA aEg Z) λa f=>qV f Z (bB aZ Z (bN m2 Z)) λa f=>qp_ 1 f Z λa f=>qU f Z (pFA wY Z) λa f=>qU f Z (aAb Tryz.underlying136 aCs Z Z (cG t).1 (cG t).2) λa f=>qU f Z (Pu.cast (aAb Tryz.underlying135 cS Z Z (cG u).1 (cG u).2) (congrArg (λk=>Value.pointer (some ⟨b_,k,none⟩)) (xA (M:=12) (0 + 2) t u Z))) λa f=>qV f Z (bB aZ Z (yW (j:=0) R (λx=>(bQ x).1) Z (aKf t u Z) Z)) λa f=>qp_ 2 f Z λa f=>?_
     obtain rfl:=sj F
     exact sZ (f.kp Z)
    ·rw [hb] at f
     have F:=cO hb am
     obtain rfl:=sj F
     exact qk_ 20 f Z λa f=>qp_ 1 f Z λa f=>sZ (f.kp Z)
   refine λa f=>λw d=>a2 _ _ (zI f Z F ?_ ?_) <;> intro F
   ·exact wp_exit (aP (cX (have d:=d.drop k0;af i Ds _ _  (f.kp Z) d F)))
   ·refine wp_skip (bb _ _ (zS λK h=>zA f d zr_4 Z λp a w f d=>zW f d sz_4 u0 Z λw d=>zT h (wp_seq_k λK17 ba=>zS λK h=>sp 1 f Z λa f=>zL f d aZ m1 Z λa w f d=>zP f Z (pFA xY Z) λa f=>zL f d aZ m3 Z λa w f d=>aH F λn ar F=>zC f (eN 74) Z (tN w_ O x.Station I B R d ar) ?_)))
    rintro _ w ⟨aa,ab,z,rfl,d⟩
    refine ⟨_,Z,λa f=>zT h (aH F λa8 ax F=>aO5 (C:=[.box aa [pq b_] 126,.box ab [i6 n.1] 3,.box z [i6 n.2] 3]) (C2:=[.box aa [pq b_] 126,.box ab [i6 n.1] 3,.box z [i6 n.2] 3]) (L0:=[.box p [.bool true] 4,.box m [i6 O] 3,.box X [.slice D ahead.length H] 30,.box U [i6 x.Person,i6 x.Station] 29]) (Lf:=(aDg Ds++Lf)) (encs:=λx:Int=>[i6 x]) (λ(zz:Bool) L=>L=[.box p [.bool zz] 4,.box m [i6 O] 3,.box X [.slice D ahead.length H] 30,.box U [i6 x.Person,i6 x.Station] 29]) (λ(zz:Bool) (a3:Int)=>fK N ahead O zz a3) true a8 f d Z (eN 114) (λ_=>Z) Z Z ?_ ?_ ?_ ?_)⟩
    ·exact λlq mq J L Lx w hy hJ d=>rW w_ n.1 n.2 I B R J _ hy _ hJ d ax
    ·clear F f d
     rintro lq mq q xv oq _ Lr Lb a w bj rfl F f d hK
     refine have f:Has 85 a [(0,pq b_),(4,pq U),(5,pq X),(7,i6 i),(8,pq m),(9,pq p),(23,i6 ((w_.Roster.People.length:Nat):Int)),(24,i6 O),(60,i6 xv)]:=f.kp Z;have d:Ctx G (.box p [.bool q] 4::.box m [i6 O] 3::.box X [.slice D ahead.length H] 30::.box U [i6 x.Person,i6 x.Station] 29::Lr) w:=d;have F:fK N ahead O q xv=some oq:=F;?_
     unfold fK at F
     refine aBt (λ_ _ h=>h) Z (sp 1 f Z λa f=>aN (hK _ _ [.box p [.bool q] 4,.box m [i6 O] 3,.box X [.slice D ahead.length H] 30,.box U [i6 x.Person,i6 x.Station] 29] d λw d=>have d:Ctx G (.box p [.bool q] 4::.box m [i6 O] 3::.box X [.slice D ahead.length H] 30::.box U [i6 x.Person,i6 x.Station] 29::Lb) w:=d;aLw λK20 a1=>aHs (aBt (λ_ _ h=>h) Z (zL f d sc_4 m0 Z λa w f d=>sp 1 f Z λa f=>aH F λaq an F=>cV 6 (λa=>Has 85 a [(0,pq b_),(4,pq U),(5,pq X),(7,i6 i),(8,pq m),(9,pq p),(23,i6 ((w_.Roster.People.length:Nat):Int)),(24,i6 O),(68,.bool aq)]) d ?_ ?_))))
     ·cases hb:q
      ·rw [hb] at f
       try rw [hb] at d
       have F:=eG hb an
       obtain rfl:=sj F
       exact sp 6 f Z λa f=>aN ⟨f.kp Z,d⟩
      ·rw [hb] at f
       try rw [hb] at d
       refine have F:=cO hb an;zL f d aNg m2 Z λa w f d=>zL f d aZ m1 Z λa w f d=>sp 1 f Z λa f=>zP f Z (bS (cells:=[i6 O,i6 xv]) xR Z Z) λa f=>aH F λaz av F=>zQ (v:=.bool az) f d (eN 117) Z (λw d=>pC ahead (⟨O,xv⟩:aA) ai d av) λa w f d=>sp 1 f Z λa f=>?_
       obtain rfl:=sj F
       exact aN ⟨f.kp Z,d⟩
     intro a w ⟨f,d⟩
     exact zW f d sz_4 u0 Z λw d=>aN (a1 _ _ (⟨aq,_,(sj F).symm,Z,d⟩))
    ·rintro D_1 q _ a w ak rfl f d
     refine have f:Has ⟨85,zU (D_1::Ds)⟩ a [(0,pq b_),(4,pq U),(5,pq X),(7,i6 i),(8,pq m),(9,pq p),(23,i6 ((w_.Roster.People.length:Nat):Int)),(24,i6 O)]:=f.kp Z;have d:Ctx G (.box aa [pq b_] 126::.box ab [i6 n.1] 3::.box z [i6 n.2] 3::.box p [.bool q] 4::.box m [i6 O] 3::.box X [.slice D ahead.length H] 30::.box U [i6 x.Person,i6 x.Station] 29::(aDg (D_1::Ds)++Lf)) w:=aFi (C:=[.box aa [pq b_] 126,.box ab [i6 n.1] 3,.box z [i6 n.2] 3]) (L:=[.box p [.bool q] 4,.box m [i6 O] 3,.box X [.slice D ahead.length H] 30,.box U [i6 x.Person,i6 x.Station] 29]) d;?_
     replace F:(cond q (fM N O (W (i + 1))) (fM N O i))=some ap:=by rcases ak with rfl | rfl <;> exact F
     refine ba _ _ (zS λK h=>zL f d sc_4 m3 Z λa w f d=>zT h (zI f Z F ?_ ?_)) <;> intro F
     ·exact bK (sp 3 f Z λa f=>aN (have d:=((((d.drop k4).drop k3).drop k2).drop k1).drop k0;af (W (i + 1)) (D_1::Ds) _ _  (f.kp Z) d F))
     ·exact wp_skip (have d:=((((d.drop k4).drop k3).drop k2).drop k1).drop k0;af i (D_1::Ds) _ _  (f.kp Z) d F)
    ·rintro D_1 q _ a w ak rfl f d
     refine have f:Has ⟨85,zU (D_1::Ds)⟩ a [(0,pq b_),(4,pq U),(5,pq X),(7,i6 i),(8,pq m),(9,pq p),(23,i6 ((w_.Roster.People.length:Nat):Int)),(24,i6 O)]:=f.kp Z;have d:Ctx G (.box aa [pq b_] 126::.box ab [i6 n.1] 3::.box z [i6 n.2] 3::.box p [.bool q] 4::.box m [i6 O] 3::.box X [.slice D ahead.length H] 30::.box U [i6 x.Person,i6 x.Station] 29::(aDg (D_1::Ds)++Lf)) w:=aFi (C:=[.box aa [pq b_] 126,.box ab [i6 n.1] 3,.box z [i6 n.2] 3]) (L:=[.box p [.bool q] 4,.box m [i6 O] 3,.box X [.slice D ahead.length H] 30,.box U [i6 x.Person,i6 x.Station] 29]) d;?_
     replace F:(none)=some ap:=by subst ak;exact F
     cases F
  ·exact wp_exit (aP (aP (have ac:=cB F ac;cX (a6 _ _ _ ac ⟨Ds,f.kp Z,d⟩))))

def nJ (N:Nat) (r:aB) (l:List aA) (D:(Nat→Int) × Int) (x:Int):Option (bC (Int) (Bool × Int)) :=
 cond (decide (x < ((l.length:Nat):Int)))
 (Option.bind (aQ l x) λH=>
 Option.bind (yE l 0 x) λsub=>
 Option.bind (tZ N (⟨r,D.1⟩:bJ) H sub) λB=>
 cond (!B)
 (some (.ret (false,0)))
 (some (.cont (W (x + 1)))))
 (some (.brk x))
def sJ (N:Nat) (r:aB) (l:List aA):Option (Bool × Int) :=
 Option.bind (oQ N r) (aGl (λD=>cond (D != 0)
 (some (false,D))
 (none))
 (λB=>cond (B.2 != 0)
 (some (false,B.2))
 (cond (decide (144 < ((l.length:Nat):Int)))
 (some (false,3))
 (Option.bind (lS N l r) λJ=>
 cond (!J)
 (some (false,2))
 (Option.bind (aS (λH=>nJ N r l B H) N 0) λI=>
 exK I (λH=>some (true,0)) some)))))
theorem aDm {O M Y:Option Addr} {R J V:Nat} (r:aB) (l:List aA) (H:RdT aT G 1 O R r.People) (D:RdT bD G 2 M J r.Stations) (g:Rd G 2 Y V (l.map aM)) (d:Ctx G (Lf) w) {b:Bool × Int} (F:sJ N r l=some b):Cz G 22 #[.agg #[.slice O r.People.length R,.slice M r.Stations.length J],.slice Y l.length V] w (.tuple #[.bool b.1,i6 b.2]) (Lf):=by
 refine bY Tryz.func22 Z Tryz.ntmps22 Z λa f=>zS λK h=>zB f d Z λak a w f d=>sp 2 f Z λa f=>zT h (wp_seq_k λK2 h2=>bK (zN f d qC m0 Z λa w f d=>aH F λm j F=>?_))
 cases m with
 | inl m=>
  refine have F:=aNv F;zC f (eN 70) Z (lK r H D d j) ?_
  rintro _ w ⟨rfl,d⟩
  refine ⟨_,Z,λa f=>sp 5 f Z λa f=>aN (h2 _ _ (wp_seq_k λK3 h3=>wp_block (zS λK h=>sp 3 f Z λa f=>zT h (zI f Z F ?_ ?_))))⟩ <;> intro F
  ·refine zS λK h=>sp 3 f Z λa f=>zT h (wp_ret (bG (aL ?_)))
   obtain rfl:=sj F
   exact have d:=d.drop k0;zO2 Tryz.results22 f Z Z ⟨Z,d⟩
  ·exact aG5 F
 | inr aj=>
  refine have F:=aMx F;have aa:=j;zC f (eN 70) Z (lK r H D d aa) ?_
  rintro _ w ⟨p,rfl,d⟩
  refine ⟨_,Z,λa f=>sp 5 f Z λa f=>aN ?_⟩
  obtain ⟨G,B,X,d,-⟩:=aNc d k0
  refine have X:=aNr X;h2 _ _ (wp_seq_k λK6 h6=>wp_block (zS λK h=>sp 3 f Z λa f=>zT h (zI f Z F ?_ ?_))) <;> intro F
  ·refine zS λK h=>sp 3 f Z λa f=>zT h (wp_ret (bG (aL ?_)))
   obtain rfl:=sj F
   exact have d:=d.down B;have d:=d.drop k0;zO2 Tryz.results22 f Z Z ⟨Z,d⟩
  ·refine zS λK h=>sp 1 f Z λa f=>zP f Z (bA Tryz.underlying30 Z) λa f=>sp 2 f Z λa f=>zT h (zI f Z F ?_ ?_) <;> intro F
   ·refine zS λK h=>sp 2 f Z λa f=>zT h (wp_ret (bG (aL ?_)))
    obtain rfl:=sj F
    exact have d:=d.down B;have d:=d.drop k0;zO2 Tryz.results22 f Z Z ⟨Z,d⟩
   ·refine zS λK h=>sp 1 f Z λa f=>zP f Z (pMF (us:=[pq ak]) Z Z) λa f=>aH F λam q F=>zQ (v:=.bool am) f d (eN 80) Z (λw d=>(yR l r (g.mono B) (H.mono B) (D.mono B) (d.pick k0) q).mono λe w h=>⟨h.1,(h.2.unpick k0)⟩) λa w f d=>sp 2 f Z λa f=>zT h (zI f Z F ?_ ?_) <;> intro F
    ·refine zS λK h=>sp 2 f Z λa f=>zT h (wp_ret (bG (aL ?_)))
     obtain rfl:=sj F
     exact have d:=d.down B;have d:=d.drop k0;zO2 Tryz.results22 f Z Z ⟨Z,d⟩
    ·refine wp_skip (h6 _ _ (wp_seq_k λK13 ac=>zS λK h=>sp 1 f Z λa f=>zP f Z (bA Tryz.underlying30 Z) λa f=>sp 1 f Z λa f=>zT h (wp_block (aH F λk t F=>?_))))
     let S15:Int→Act→World→Prop:=(λ(zz:Int) a w=>Has 43 a [(1,.slice Y l.length V),(6,pq p),(28,.slice Y l.length V),(29,i6 ((l.length:Nat):Int)),(30,i6 zz)]∧Ctx G (Lf) w)
     have z:∀ (zz:Int) a w,k=.go zz→S15 zz a w→K13 a w:=by
      rintro x a w rfl ⟨f,d⟩
      refine have F:=bI F;ac _ _ (zS λK h=>sp 2 f Z λa f=>zT h (wp_ret ?_))
      obtain rfl:=sj F
      exact have d:=d.down B;zO2 Tryz.results22 f Z Z ⟨Z,d⟩
     have u:∀ r,k=.out r→r=b:=by
      rintro r rfl
      exact sj F
     refine have d:=d.drop k0;cF N (cE (S:=S15) (x:=k) ?_ N 0 _ _ ⟨f.kp Z,d⟩ t)
     clear F f d
     rintro x an a w KB15 ⟨f,d⟩ F I ab
     refine zS λK h=>sp 1 f Z λa f=>zT h (wp_seq_k λK18 ai=>zI f Z F ?_ ?_) <;> intro F
     ·refine wp_skip (ai _ _ (wp_seq_k λK19 ag=>wp_block (zS λK h=>sp 1 f Z λa f=>aH F λU s F=>?_)))
      obtain ⟨ap,o,qa,qp⟩:=(g.mono B).atm s
      refine zP f Z (pIA Tryz.underlying30 pP Z Z qa) λa f=>zE f d Z (iY (vs:=[i6 U.Person,i6 U.Station]) rL Z Z (cY qp (n:=2) (o':=0) Z)) λa w f d=>zA f d aF4 Z λaq a w f d=>sp 1 f Z λa f=>zW f d pP u0 Z λw d=>zT h (wp_seq_k λK21 ad=>aH F λsub i F=>have qs:=Rd.sub (g.mono B) i;aH F λaf y F=>cQ d aU (by kernel_rfl) (qp_ 1 f Z λa f=>qV f Z (iY (vs:=[i6 U.Person,i6 U.Station]) rL Z Z (bT (n:=2) m0 Z)) λa f=>qp_ 2 f Z λa f=>?_))
      refine qU f Z (pSl Tryz.underlying30 pP Z Z (by simpa using (g.mono B).1) Z Z i) λa f=>qV f Z (eC (v:=.bool af) (vs:=[pq p,.agg #[i6 U.Person,i6 U.Station],.slice (aD4 Y V (0:Int).toNat 2) sub.length (V - (0:Int).toNat)]) (caps:=[]) (eN 82) Z Z Z Z (λw d=>aDt (⟨r,aj.1⟩:bJ) U sub (H.mono B) (D.mono B) X qs d y)) λa f=>qp_ 1 f Z λa f=>λw d=>ad _ _ (zI f Z F ?_ ?_) <;> intro F
      ·refine zS λK h=>sp 2 f Z λa f=>zT h (wp_ret (bG (aL (aL (have I:=cB F I;have F:=u _ I;bG (aL ?_))))))
       obtain rfl:=F
       exact have d:=d.down B;have d:=d.drop k0;zO2 Tryz.results22 f Z Z ⟨Z,d⟩
      ·exact wp_skip (ag _ _ (bK (sp 2 f Z λa f=>aN (have d:=d.drop k0;ab (W (x + 1)) _ _ (sj F).symm ⟨f.kp Z,d⟩))))
     ·exact wp_exit (aP (aP (have I:=cB F I;cX (z _ _ _ I ⟨f.kp Z,d⟩))))

def dG (n:Int):Bool :=
 (aR n 0 100000)
theorem vL (n:Int) (d:Ctx G (Lf) w) {B:Bool} (F:dG n=B):Cz G 65 #[i6 n] w (.bool B) (Lf):=by
 refine bY Tryz.func65 Z Tryz.ntmps65 Z λa f=>zS λK h=>sp 1 f Z λa f=>zT h (zS λK h=>sp 1 f Z λa f=>zQ (v:=.bool (aR n 0 100000)) f d (eN 53) Z (λw d=>dP n 0 100000 d Z) λa w f d=>sp 1 f Z λa f=>zT h (wp_ret ?_))
 obtain rfl:=F
 exact zO1 Tryz.results65 f Z ⟨Z,d⟩

def dY (s_:aE):Bool :=
 ((aR s_.Lo 0 s_.Hi) && (dG s_.Hi))
theorem aBs (s_:aE) (d:Ctx G (Lf) w) {B:Bool} (F:dY s_=B):Cz G 123 #[.agg #[i6 s_.Lo,i6 s_.Hi]] w (.bool B) (Lf):=by
 refine bY Tryz.func123 Z Tryz.ntmps123 Z λa f=>zS λK h=>zB f d Z λD a w f d=>sp 1 f Z λa f=>zT h (zS λK h=>zP f Z (pFA rC Z) λa f=>zL f d aZ m0 Z λa w f d=>zP f Z (pFA kY Z) λa f=>zL f d aZ m0 Z λa w f d=>zQ (v:=.bool (aR s_.Lo 0 s_.Hi)) f d (eN 53) Z (λw d=>dP s_.Lo 0 s_.Hi d Z) λa w f d=>sp 1 f Z λa f=>cV 4 (λa=>Has 13 a [(2,.bool false),(12,.bool ((aR s_.Lo 0 s_.Hi) && (dG s_.Hi)))]) d ?_ ?_)
 ·cases hb:(aR s_.Lo 0 s_.Hi)
  ·rw [hb] at f
   exact sp 4 f Z λa f=>aN ⟨f.kp Z,d⟩
  ·rw [hb] at f
   exact zP f Z (pFA kY Z) λa f=>zL f d aZ m0 Z λa w f d=>zQ (v:=.bool (dG s_.Hi)) f d (eN 65) Z (λw d=>vL s_.Hi d Z) λa w f d=>sp 1 f Z λa f=>aN ⟨f.kp Z,d⟩
 intro a w ⟨f,d⟩
 refine sp 1 f Z λa f=>zT h (wp_ret ?_)
 obtain rfl:=F
 exact have d:=d.drop k0;zO1 Tryz.results123 f Z ⟨Z,d⟩

def dO (v:aG):Bool :=
 ((((dY v.Way) && (dY v.Work)) && (aR v.Open 0 v.Close)) && (dG v.Close))
theorem aEs (v:aG) (d:Ctx G (Lf) w) {B:Bool} (F:dO v=B):Cz G 122 #[.agg #[i6 v.Way.Lo,i6 v.Way.Hi,i6 v.Work.Lo,i6 v.Work.Hi,i6 v.Open,i6 v.Close]] w (.bool B) (Lf):=by
 refine bY Tryz.func122 Z Tryz.ntmps122 Z λa f=>zS λK h=>zB f d Z λD a w f d=>sp 1 f Z λa f=>zT h (zS λK h=>zP f Z (pFA aC4 Z) λa f=>zN f d rG m0 Z λa w f d=>zQ (v:=.bool (dY v.Way)) f d (eN 123) Z (λw d=>aBs v.Way d Z) λa w f d=>sp 1 f Z λa f=>cV 4 (λa=>Has 23 a [(1,pq D),(2,.bool false),(10,.bool ((dY v.Way) && (dY v.Work)))]) d ?_ ?_)
 ·cases hb:(dY v.Way)
  ·rw [hb] at f
   exact sp 4 f Z λa f=>aN ⟨f.kp Z,d⟩
  ·rw [hb] at f
   exact zP f Z (pFA aE4 Z) λa f=>zN f d rG m0 Z λa w f d=>zQ (v:=.bool (dY v.Work)) f d (eN 123) Z (λw d=>aBs v.Work d Z) λa w f d=>sp 1 f Z λa f=>aN ⟨f.kp Z,d⟩
 intro a w ⟨f,d⟩
 refine sp 1 f Z λa f=>cV 6 (λa=>Has 23 a [(1,pq D),(2,.bool false),(17,.bool (((dY v.Way) && (dY v.Work)) && (aR v.Open 0 v.Close)))]) d ?_ ?_
 ·cases hb:((dY v.Way) && (dY v.Work))
  ·rw [hb] at f
   exact sp 6 f Z λa f=>aN ⟨f.kp Z,d⟩
  ·rw [hb] at f
   exact zP f Z (pFA aEy Z) λa f=>zL f d aZ m0 Z λa w f d=>zP f Z (pFA aC3 Z) λa f=>zL f d aZ m0 Z λa w f d=>zQ (v:=.bool (aR v.Open 0 v.Close)) f d (eN 53) Z (λw d=>dP v.Open 0 v.Close d Z) λa w f d=>sp 1 f Z λa f=>aN ⟨f.kp Z,d⟩
 intro a w ⟨f,d⟩
 refine sp 1 f Z λa f=>cV 4 (λa=>Has 23 a [(2,.bool false),(22,.bool ((((dY v.Way) && (dY v.Work)) && (aR v.Open 0 v.Close)) && (dG v.Close)))]) d ?_ ?_
 ·cases hb:(((dY v.Way) && (dY v.Work)) && (aR v.Open 0 v.Close))
  ·rw [hb] at f
   exact sp 4 f Z λa f=>aN ⟨f.kp Z,d⟩
  ·rw [hb] at f
   exact zP f Z (pFA aC3 Z) λa f=>zL f d aZ m0 Z λa w f d=>zQ (v:=.bool (dG v.Close)) f d (eN 65) Z (λw d=>vL v.Close d Z) λa w f d=>sp 1 f Z λa f=>aN ⟨f.kp Z,d⟩
 intro a w ⟨f,d⟩
 refine sp 1 f Z λa f=>zT h (wp_ret ?_)
 obtain rfl:=F
 exact have d:=d.drop k0;zO1 Tryz.results122 f Z ⟨Z,d⟩

def lY (x:aG):Bool :=
 (!(dO (⟨x.Way,x.Work,x.Open,x.Close⟩:aG)))
theorem yT {b_:Nat} (x:aG) (d:Ctx G (.box b_ [.func (.func 122) #[] #[]] 172::Lf) w) {B:Bool} (F:lY x=B):Cz G 137 #[.agg #[i6 x.Way.Lo,i6 x.Way.Hi,i6 x.Work.Lo,i6 x.Work.Hi,i6 x.Open,i6 x.Close],pq b_] w (.bool B) (.box b_ [.func (.func 122) #[] #[]] 172::Lf):=by
 refine bY Tryz.func137 Z Tryz.ntmps137 Z λa f=>zS λK h=>zB f d Z λD a w f d=>sp 1 f Z λa f=>zT h (zS λK h=>zL f d aS7 m1 Z λa w f d=>zN f d aF5 m0 Z λa w f d=>zQ (v:=.bool (dO (⟨x.Way,x.Work,x.Open,x.Close⟩:aG))) f d (eN 122) Z (λw d=>aEs (⟨x.Way,x.Work,x.Open,x.Close⟩:aG) d Z) λa w f d=>sp 2 f Z λa f=>zT h (wp_ret ?_))
 obtain rfl:=F
 exact have d:=d.drop k0;zO1 Tryz.results137 f Z ⟨Z,d⟩

def rA (N:Nat) (s_:List aG) (x:Int):Option (bC (Int) (Int)) :=
 cond (decide (x < ((s_.length:Nat):Int)))
 (Option.bind (aQ s_ x) λB=>
 cond (lY B)
 (some (.ret x))
 (some (.cont (W (x + 1)))))
 (some (.brk x))
def fT (N:Nat) (s_:List aG):Option (Int) :=
 Option.bind (aS (λs4=>rA N s_ s4) N 0) λx4=>
 exK x4 (λs4=>some (-1)) some
theorem rD {I:Option Addr} {H b_:Nat} (s_:List aG) (M:Rd G 6 I H (s_.map aX)) (d:Ctx G (.box b_ [.func (.func 122) #[] #[]] 172::Lf) w) {J:Int} (F:fT N s_=some J):Cz G 142 #[.slice I s_.length H,.func (.func 137) #[] #[pq b_]] w (i6 J) (.box b_ [.func (.func 122) #[] #[]] 172::Lf):=by
 refine bY Tryz.func142 Z Tryz.ntmps142 Z λa f=>zS λK h=>sp 1 f Z λa f=>zT h (wp_seq_k λK2 h2=>zS λK h=>sp 1 f Z λa f=>zP f Z (bA Tryz.underlying31 Z) λa f=>sp 1 f Z λa f=>zT h (wp_block (aH F λx4 X F=>?_)))
 let S4:Int→Act→World→Prop:=(λ(zz:Int) a w=>Has 19 a [(0,.slice I s_.length H),(1,.func (.func 137) #[] #[pq b_]),(7,i6 ((s_.length:Nat):Int)),(8,i6 zz)]∧Ctx G (.box b_ [.func (.func 122) #[] #[]] 172::Lf) w)
 have U:∀ (zz:Int) a w,x4=.go zz→S4 zz a w→K2 a w:=by
  rintro x a w rfl ⟨f,d⟩
  refine have F:=bI F;h2 _ _ (zS λK h=>sp 1 f Z λa f=>zT h (wp_ret ?_))
  obtain rfl:=sj F
  exact zO1 Tryz.results142 f Z ⟨Z,d⟩
 have R:∀ r,x4=.out r→r=J:=by
  rintro r rfl
  exact sj F
 refine cF N (cE (S:=S4) (x:=x4) ?_ N 0 _ _ ⟨f.kp Z,d⟩ X)
 clear F f d
 rintro x Y a w KB4 ⟨f,d⟩ F B V
 refine zS λK h=>sp 1 f Z λa f=>zT h (wp_seq_k λK7 h7=>zI f Z F ?_ ?_) <;> intro F
 ·refine wp_skip (h7 _ _ (wp_seq_k λK8 h8=>wp_block (zS λK h=>sp 2 f Z λa f=>zT h (zS λK h=>sp 3 f Z λa f=>aH F λD O F=>?_))))
  obtain ⟨b,o,qa,qp⟩:=M.atm O
  refine zP f Z (pIA Tryz.underlying31 tT Z Z qa) λa f=>zE f d Z (iY (vs:=[i6 D.Way.Lo,i6 D.Way.Hi,i6 D.Work.Lo,i6 D.Work.Hi,i6 D.Open,i6 D.Close]) aF5 Z Z (cY qp (n:=6) (o':=0) Z)) λa w f d=>zQ (v:=.bool (lY D)) f d (eN 137) Z (λw d=>(yT D (d.pick k0) Z).mono λe w h=>⟨h.1,(h.2.unpick k0)⟩) λa w f d=>zT h (zI f Z F ?_ ?_) <;> intro F
  ·refine zS λK h=>sp 2 f Z λa f=>zT h (wp_ret (bG (aL (aL (have B:=cB F B;have F:=R _ B;bG (aL ?_))))))
   obtain rfl:=F
   exact zO1 Tryz.results142 f Z ⟨Z,d⟩
  ·exact wp_skip (h8 _ _ (bK (sp 2 f Z λa f=>aN (V (W (x + 1)) _ _ (sj F).symm ⟨f.kp Z,d⟩))))
 ·exact wp_exit (aP (aP (have B:=cB F B;cX (U _ _ _ B ⟨f.kp Z,d⟩))))

def eZ (N:Nat) (s_:List aG):Option (Bool) :=
 Option.bind (fT N s_) λr=>
 some (decide (0≤r))
theorem pE {D:Option Addr} {B b_:Nat} (s_:List aG) (I:Rd G 6 D B (s_.map aX)) (d:Ctx G (.box b_ [.func (.func 122) #[] #[]] 172::Lf) w) {H:Bool} (F:eZ N s_=some H):Cz G 136 #[.slice D s_.length B,.func (.func 137) #[] #[pq b_]] w (.bool H) (.box b_ [.func (.func 122) #[] #[]] 172::Lf):=by
 refine bY Tryz.func136 Z Tryz.ntmps136 Z λa f=>zS λK h=>sp 1 f Z λa f=>zT h (zS λK h=>sp 2 f Z λa f=>aH F λr hr F=>zQ (v:=i6 r) f d (eN 142) Z (λw d=>(rD s_ I (d.pick k0) hr).mono λe w h=>⟨h.1,(h.2.unpick k0)⟩) λa w f d=>sp 2 f Z λa f=>zT h (wp_ret ?_))
 obtain rfl:=sj F
 exact zO1 Tryz.results136 f Z ⟨Z,d⟩

def nP (N:Nat) (l:List aG):Option (Bool) :=
 Option.bind (eZ N l) λr=>
 some (!r)
theorem aAg {D:Option Addr} {H:Nat} (l:List aG) (I:Rd G 6 D H (l.map aX)) (d:Ctx G (Lf) w) {B:Bool} (F:nP N l=some B):Cz G 121 #[.slice D l.length H,.func (.func 122) #[] #[]] w (.bool B) (Lf):=by
 refine bY Tryz.func121 Z Tryz.ntmps121 Z λa f=>zS λK h=>zB f d Z λJ a w f d=>sp 1 f Z λa f=>zT h (zS λK h=>sp 1 f Z λa f=>zP f Z (pMF (us:=[pq J]) Z Z) λa f=>aH F λr hr F=>zQ (v:=.bool r) f d (eN 136) Z (λw d=>(pE l I (d.pick k0) hr).mono λe w h=>⟨h.1,(h.2.unpick k0)⟩) λa w f d=>sp 2 f Z λa f=>zT h (wp_ret ?_))
 obtain rfl:=sj F
 exact have d:=d.drop k0;zO1 Tryz.results121 f Z ⟨Z,d⟩

def vG (N:Nat) (l:List aG):Option (Int) :=
 cond (!(aR ((l.length:Nat):Int) 1 20))
 (some 3)
 (Option.bind (nP N l) λr=>
 cond (!r)
 (some 120)
 (some 0))
theorem aBl {D:Option Addr} {H:Nat} (l:List aG) (I:Rd G 6 D H (l.map aX)) (d:Ctx G (Lf) w) {B:Int} (F:vG N l=some B):Cz G 86 #[.slice D l.length H] w (i6 B) (Lf):=by
 refine bY Tryz.func86 Z Tryz.ntmps86 Z λa f=>zS λK h=>sp 1 f Z λa f=>zT h (wp_seq_k λK2 h2=>wp_block (zS λK h=>sp 1 f Z λa f=>zP f Z (bA Tryz.underlying31 Z) λa f=>zQ (v:=.bool (aR ((l.length:Nat):Int) 1 20)) f d (eN 53) Z (λw d=>dP ((l.length:Nat):Int) 1 20 d Z) λa w f d=>sp 2 f Z λa f=>zT h (zI f Z F ?_ ?_))) <;> intro F
 ·refine zS λK h=>sp 1 f Z λa f=>zT h (wp_ret (bG (aL ?_)))
  obtain rfl:=sj F
  exact zO1 Tryz.results86 f Z ⟨Z,d⟩
 ·refine zS λK h=>sp 1 f Z λa f=>aH F λr hr F=>zQ (v:=.bool r) f d (eN 121) Z (λw d=>aAg l I d hr) λa w f d=>sp 2 f Z λa f=>zT h (zI f Z F ?_ ?_) <;> intro F
  ·refine zS λK h=>sp 1 f Z λa f=>zT h (wp_ret (bG (aL ?_)))
   obtain rfl:=sj F
   exact zO1 Tryz.results86 f Z ⟨Z,d⟩
  ·refine wp_skip (h2 _ _ (zS λK h=>sp 1 f Z λa f=>zT h (wp_ret ?_)))
   obtain rfl:=sj F
   exact zO1 Tryz.results86 f Z ⟨Z,d⟩

def aQw  : Unit :=
 ()
theorem aCb (d:Ctx G (Lf) w) {B:Unit} (F:aQw=B):Cz G 88 #[] w (.agg #[.func (.func 124) #[] #[]]) (Lf):=by
 refine bY Tryz.func88 Z Tryz.ntmps88 Z λa f=>zS λK h=>zA f d aRb Z λD a w f d=>zT h (zS λK h=>zP f Z (bS (cells:=[.func (.func 124) #[] #[]]) aQ2 Z Z) λa f=>zW f d aQj u0 Z λw d=>zT h (wp_ret ?_))
 obtain rfl:=F
 exact yY (by simp) Z Tryz.results88 f d (eE (vs:=[.func (.func 124) #[] #[]]) aJs Z Z (bT (n:=1) m0 Z)) ⟨Z,(d.drop k0)⟩

def eO (s_:aE):Int :=
 s_.Lo
theorem aAa (s_:aE) (d:Ctx G (Lf) w) {B:Int} (F:eO s_=B):Cz G 124 #[.agg #[i6 s_.Lo,i6 s_.Hi]] w (i6 B) (Lf):=by
 refine bY Tryz.func124 Z Tryz.ntmps124 Z λa f=>zS λK h=>zB f d Z λD a w f d=>sp 1 f Z λa f=>zT h (zS λK h=>zP f Z (pFA rC Z) λa f=>zL f d aZ m0 Z λa w f d=>sp 1 f Z λa f=>zT h (wp_ret ?_))
 obtain rfl:=F
 exact have d:=d.drop k0;zO1 Tryz.results124 f Z ⟨Z,d⟩

def aHn (N:Nat) (l:List aG) (B:Int) (out:List Int) (x:Int):Option (bC (Int × (List Int) × Int) ((List Int))) :=
 cond (decide (x < ((l.length:Nat):Int)))
 (Option.bind (aQ l x) λD=>
 Option.bind (room ((out++[max (W (B + (eO D.Way))) D.Open])).length) λun=>
 some (.cont (W ((max (W (B + (eO D.Way))) D.Open) + (eO D.Work)),(out++[max (W (B + (eO D.Way))) D.Open]),W (x + 1))))
 (some (.brk (B,out,x)))
def zV (N:Nat) (start:Int) (l:List aG):Option ((List Int)) :=
 Option.bind (aS (λs5=>aHn N l s5.1 s5.2.1 s5.2.2) N (start,([]:List Int),0)) λx5=>
 exK x5 (λs5=>some s5.2.1) some
theorem aH2 {O:Option Addr} {R:Nat} (start:Int) (l:List aG) (m:Rd G 6 O R (l.map aX)) (d:Ctx G (Lf) w) {M:(List Int)} (F:zV N start l=some M):Calls Tryz.prog 87 #[i6 start,.slice O l.length R,.agg #[.func (.func 124) #[] #[]]] w (λe w=>∃ (U:Option Addr) (X:Nat),e=.returned (.slice U M.length X)∧Ctx G (.row U X (M.map aF) 3 1::Lf) w):=by
 refine bY Tryz.func87 Z Tryz.ntmps87 Z λa f=>zS λK h=>zB f d Z λV a w f d=>sp 1 f Z λa f=>zT h (zS λK h=>sp 1 f Z λa f=>zT h (wp_seq_k λK3 h3=>zS λK h=>sp 1 f Z λa f=>zP f Z (bA Tryz.underlying31 Z) λa f=>sp 1 f Z λa f=>zT h ?_))
 refine wp_block (aH F λx5 j F=>?_)
 let S5:(Int × (List Int) × Int)→Act→World→Prop:=(λ(zz:Int × (List Int) × Int) a w=>∃ (I:Option Addr) (H:Nat),Has 40 a [(0,i6 zz.1),(5,pq V),(7,.slice I zz.2.1.length H),(11,.slice O l.length R),(12,i6 ((l.length:Nat):Int)),(13,i6 zz.2.2)]∧Ctx G (.row I H (zz.2.1.map aF) 3 1::.box V [.func (.func 124) #[] #[]] 151::Lf) w)
 have i:∀ (zz:Int × (List Int) × Int) a w,x5=.go zz→S5 zz a w→K3 a w:=by
  rintro ⟨D,out,x⟩ a w rfl ⟨I,H,f,d⟩
  refine have F:=bI F;h3 _ _ (zS λK h=>sp 2 f Z λa f=>zT h (wp_ret ?_))
  obtain rfl:=sj F
  exact have d:=d.drop k1;zO1 Tryz.results87 f Z ⟨I,H,Z,d⟩
 have s:∀ r,x5=.out r→r=M:=by
  rintro r rfl
  exact sj F
 refine have d:=d.nilRow 3 1;cF N (cE (S:=S5) (x:=x5) ?_ N (start,([]:List Int),0) _ _ ⟨none,0,f.kp Z,d⟩ j)
 clear F f d
 rintro ⟨D,out,x⟩ t a w KB5 ⟨I,H,f,d⟩ F J b
 refine zS λK h=>sp 1 f Z λa f=>zT h (wp_seq_k λK8 h8=>zI f Z F ?_ ?_) <;> intro F
 ·refine wp_skip (h8 _ _ (wp_seq_k λK9 h9=>wp_block (zS λK h=>aH F λB Y F=>?_)))
  obtain ⟨y,o,qa,qp⟩:=m.atm Y
  refine zP f Z (pIA Tryz.underlying31 tT Z Z qa) λa f=>zE f d Z (iY (vs:=[i6 B.Way.Lo,i6 B.Way.Hi,i6 B.Work.Lo,i6 B.Work.Hi,i6 B.Open,i6 B.Close]) aF5 Z Z (cY qp (n:=6) (o':=0) Z)) λa w f d=>zA f d aPu Z λu a w f d=>zW f d tT u0 Z λw d=>zT h (wp_seq_k λK11 g=>cQ d aU (by kernel_rfl) (qp_ 1 f Z λa f=>qU f Z (pFA aAu Z) λa f=>qV f Z (bB aFd Z (bN m2 Z)) λa f=>qU f Z (pFA aC4 Z) λa f=>qV f Z (iY (vs:=[i6 B.Way.Lo,i6 B.Way.Hi]) rG Z Z (bT (n:=2) m0 Z)) λa f=>qV f Z (eC (v:=i6 (eO B.Way)) (vs:=[.agg #[i6 B.Way.Lo,i6 B.Way.Hi]]) (caps:=[]) (eN 124) Z Z Z Z (λw d=>aAa B.Way d Z)) λa f=>qp_ 1 f Z λa f=>?_))
  refine qU f Z (pFA aEy Z) λa f=>qV f Z (bB aZ Z (bN m0 Z)) λa f=>qU f Z (aNw Z Z) λa f=>qp_ 1 f Z λa f=>λw d=>g _ _ (zS λK h=>sp 2 f Z λa f=>gN (rows:=([max (W (D + (eO B.Way))) B.Open]:List Int).map aF) (vs:=[(0,i6 (max (W (D + (eO B.Way))) B.Open))]) f d Z Z eV Z ⟨Z,Z,Z,trivial⟩ Z Z λz a w f d=>aH F λun k F=>mV (xs:=out) (ys:=([max (W (D + (eO B.Way))) B.Open]:List Int)) f d Z Z eV Z Z Z Z Z bQ (gL d m0) (λ_ _=>u2) (by simpa using cZ k) λp q a w f d=>sp 1 f Z λa f=>zT h (bK ?_))
  exact sp 1 f Z λa f=>zP f Z (pFA aAu Z) λa f=>zL f d aFd m3 Z λa w f d=>zP f Z (pFA aE4 Z) λa f=>zN f d rG m1 Z λa w f d=>zQ (v:=i6 (eO B.Work)) f d (eN 124) Z (λw d=>aAa B.Work d Z) λa w f d=>sp 2 f Z λa f=>aN (h9 _ _ (bK (sp 2 f Z λa f=>aN (have d:=(d.drop k1).drop k0;b (W ((max (W (D + (eO B.Way))) B.Open) + (eO B.Work)),(out++[max (W (D + (eO B.Way))) B.Open]),W (x + 1)) _ _ (sj F).symm ⟨p,q,f.kp Z,d⟩))))
 ·exact wp_exit (aP (aP (have J:=cB F J;cX (i _ _ _ J ⟨I,H,f.kp Z,d⟩))))

def aOy  : Unit :=
 ()
theorem xU (d:Ctx G (Lf) w) {B:Unit} (F:aOy=B):Cz G 89 #[] w (.agg #[.func (.func 125) #[] #[]]) (Lf):=by
 refine bY Tryz.func89 Z Tryz.ntmps89 Z λa f=>zS λK h=>zA f d aRb Z λD a w f d=>zT h (zS λK h=>zP f Z (bS (cells:=[.func (.func 125) #[] #[]]) aQ2 Z Z) λa f=>zW f d aQj u0 Z λw d=>zT h (wp_ret ?_))
 obtain rfl:=F
 exact yY (by simp) Z Tryz.results89 f d (eE (vs:=[.func (.func 125) #[] #[]]) aJs Z Z (bT (n:=1) m0 Z)) ⟨Z,(d.drop k0)⟩

def dR (s_:aE):Int :=
 s_.Hi
theorem yN (s_:aE) (d:Ctx G (Lf) w) {B:Int} (F:dR s_=B):Cz G 125 #[.agg #[i6 s_.Lo,i6 s_.Hi]] w (i6 B) (Lf):=by
 refine bY Tryz.func125 Z Tryz.ntmps125 Z λa f=>zS λK h=>zB f d Z λD a w f d=>sp 1 f Z λa f=>zT h (zS λK h=>zP f Z (pFA kY Z) λa f=>zL f d aZ m0 Z λa w f d=>sp 1 f Z λa f=>zT h (wp_ret ?_))
 obtain rfl:=F
 exact have d:=d.drop k0;zO1 Tryz.results125 f Z ⟨Z,d⟩

def aEz (N:Nat) (l:List aG) (B:Int) (out:List Int) (x:Int):Option (bC (Int × (List Int) × Int) ((List Int))) :=
 cond (decide (x < ((l.length:Nat):Int)))
 (Option.bind (aQ l x) λD=>
 Option.bind (room ((out++[max (W (B + (dR D.Way))) D.Open])).length) λun=>
 some (.cont (W ((max (W (B + (dR D.Way))) D.Open) + (dR D.Work)),(out++[max (W (B + (dR D.Way))) D.Open]),W (x + 1))))
 (some (.brk (B,out,x)))
def vP (N:Nat) (start:Int) (l:List aG):Option ((List Int)) :=
 Option.bind (aS (λs5=>aEz N l s5.1 s5.2.1 s5.2.2) N (start,([]:List Int),0)) λx5=>
 exK x5 (λs5=>some s5.2.1) some
theorem aEe {O:Option Addr} {R:Nat} (start:Int) (l:List aG) (m:Rd G 6 O R (l.map aX)) (d:Ctx G (Lf) w) {M:(List Int)} (F:vP N start l=some M):Calls Tryz.prog 87 #[i6 start,.slice O l.length R,.agg #[.func (.func 125) #[] #[]]] w (λe w=>∃ (U:Option Addr) (X:Nat),e=.returned (.slice U M.length X)∧Ctx G (.row U X (M.map aF) 3 1::Lf) w):=by
 refine bY Tryz.func87 Z Tryz.ntmps87 Z λa f=>zS λK h=>zB f d Z λV a w f d=>sp 1 f Z λa f=>zT h (zS λK h=>sp 1 f Z λa f=>zT h (wp_seq_k λK3 h3=>zS λK h=>sp 1 f Z λa f=>zP f Z (bA Tryz.underlying31 Z) λa f=>sp 1 f Z λa f=>zT h ?_))
 refine wp_block (aH F λx5 j F=>?_)
 let S5:(Int × (List Int) × Int)→Act→World→Prop:=(λ(zz:Int × (List Int) × Int) a w=>∃ (I:Option Addr) (H:Nat),Has 40 a [(0,i6 zz.1),(5,pq V),(7,.slice I zz.2.1.length H),(11,.slice O l.length R),(12,i6 ((l.length:Nat):Int)),(13,i6 zz.2.2)]∧Ctx G (.row I H (zz.2.1.map aF) 3 1::.box V [.func (.func 125) #[] #[]] 151::Lf) w)
 have i:∀ (zz:Int × (List Int) × Int) a w,x5=.go zz→S5 zz a w→K3 a w:=by
  rintro ⟨D,out,x⟩ a w rfl ⟨I,H,f,d⟩
  refine have F:=bI F;h3 _ _ (zS λK h=>sp 2 f Z λa f=>zT h (wp_ret ?_))
  obtain rfl:=sj F
  exact have d:=d.drop k1;zO1 Tryz.results87 f Z ⟨I,H,Z,d⟩
 have s:∀ r,x5=.out r→r=M:=by
  rintro r rfl
  exact sj F
 refine have d:=d.nilRow 3 1;cF N (cE (S:=S5) (x:=x5) ?_ N (start,([]:List Int),0) _ _ ⟨none,0,f.kp Z,d⟩ j)
 clear F f d
 rintro ⟨D,out,x⟩ t a w KB5 ⟨I,H,f,d⟩ F J b
 refine zS λK h=>sp 1 f Z λa f=>zT h (wp_seq_k λK8 h8=>zI f Z F ?_ ?_) <;> intro F
 ·refine wp_skip (h8 _ _ (wp_seq_k λK9 h9=>wp_block (zS λK h=>aH F λB Y F=>?_)))
  obtain ⟨y,o,qa,qp⟩:=m.atm Y
  refine zP f Z (pIA Tryz.underlying31 tT Z Z qa) λa f=>zE f d Z (iY (vs:=[i6 B.Way.Lo,i6 B.Way.Hi,i6 B.Work.Lo,i6 B.Work.Hi,i6 B.Open,i6 B.Close]) aF5 Z Z (cY qp (n:=6) (o':=0) Z)) λa w f d=>zA f d aPu Z λu a w f d=>zW f d tT u0 Z λw d=>zT h (wp_seq_k λK11 g=>cQ d aU (by kernel_rfl) (qp_ 1 f Z λa f=>qU f Z (pFA aAu Z) λa f=>qV f Z (bB aFd Z (bN m2 Z)) λa f=>qU f Z (pFA aC4 Z) λa f=>qV f Z (iY (vs:=[i6 B.Way.Lo,i6 B.Way.Hi]) rG Z Z (bT (n:=2) m0 Z)) λa f=>qV f Z (eC (v:=i6 (dR B.Way)) (vs:=[.agg #[i6 B.Way.Lo,i6 B.Way.Hi]]) (caps:=[]) (eN 125) Z Z Z Z (λw d=>yN B.Way d Z)) λa f=>qp_ 1 f Z λa f=>?_))
  refine qU f Z (pFA aEy Z) λa f=>qV f Z (bB aZ Z (bN m0 Z)) λa f=>qU f Z (aNw Z Z) λa f=>qp_ 1 f Z λa f=>λw d=>g _ _ (zS λK h=>sp 2 f Z λa f=>gN (rows:=([max (W (D + (dR B.Way))) B.Open]:List Int).map aF) (vs:=[(0,i6 (max (W (D + (dR B.Way))) B.Open))]) f d Z Z eV Z ⟨Z,Z,Z,trivial⟩ Z Z λz a w f d=>aH F λun k F=>mV (xs:=out) (ys:=([max (W (D + (dR B.Way))) B.Open]:List Int)) f d Z Z eV Z Z Z Z Z bQ (gL d m0) (λ_ _=>u2) (by simpa using cZ k) λp q a w f d=>sp 1 f Z λa f=>zT h (bK ?_))
  exact sp 1 f Z λa f=>zP f Z (pFA aAu Z) λa f=>zL f d aFd m3 Z λa w f d=>zP f Z (pFA aE4 Z) λa f=>zN f d rG m1 Z λa w f d=>zQ (v:=i6 (dR B.Work)) f d (eN 125) Z (λw d=>yN B.Work d Z) λa w f d=>sp 2 f Z λa f=>aN (h9 _ _ (bK (sp 2 f Z λa f=>aN (have d:=(d.drop k1).drop k0;b (W ((max (W (D + (dR B.Way))) B.Open) + (dR B.Work)),(out++[max (W (D + (dR B.Way))) B.Open]),W (x + 1)) _ _ (sj F).symm ⟨p,q,f.kp Z,d⟩))))
 ·exact wp_exit (aP (aP (have J:=cB F J;cX (i _ _ _ J ⟨I,H,f.kp Z,d⟩))))

def pW (N:Nat) (l:List aG) (I:(List Int)) (H:(List Int)) (out:List aE) (x:Int):Option (bC ((List aE) × Int) ((List aE) × Int)) :=
 cond (decide (x < ((l.length:Nat):Int)))
 (Option.bind (aQ I x) λD=>
 Option.bind (aQ H x) λB=>
 Option.bind (room ((out++[(⟨D,B⟩:aE)])).length) λun=>
 some (.cont ((out++[(⟨D,B⟩:aE)]),W (x + 1))))
 (some (.brk (out,x)))
def mI (N:Nat) (start:Int) (l:List aG):Option ((List aE) × Int) :=
 Option.bind (vG N l) λr=>
 cond (r != 0)
 (some (([]:List aE),r))
 (cond (!(dG start))
 (some (([]:List aE),4))
 (Option.bind (zV N start l) λI=>
 Option.bind (vP N start l) λH=>
 Option.bind (aS (λB=>pW N l I H B.1 B.2) N (([]:List aE),0)) λD=>
 exK D (λB=>some (B.1,0)) some))
theorem aAe {ad:Option Addr} {af:Nat} (start:Int) (l:List aG) (z:Rd G 6 ad af (l.map aX)) (d:Ctx G (Lf) w) {X:(List aE) × Int} (F:mI N start l=some X):Calls Tryz.prog 33 #[i6 start,.slice ad l.length af] w (λe w=>∃ (ai:Option Addr) (aj:Nat),e=.returned (.tuple #[.slice ai X.1.length aj,i6 X.2])∧Ctx G (.row ai aj (X.1.map cN) 43 2::Lf) w):=by
 refine bY Tryz.func33 Z Tryz.ntmps33 Z λa f=>zS λK h=>sp 2 f Z λa f=>zT h (zS λK h=>sp 1 f Z λa f=>aH F λr hr F=>zQ (v:=i6 r) f d (eN 86) Z (λw d=>aBl l z d hr) λa w f d=>sp 1 f Z λa f=>zT h (wp_seq_k λK3 h3=>wp_block (zS λK h=>sp 3 f Z λa f=>?_)))
 refine zT h (zI f Z F ?_ ?_) <;> intro F
 ·refine zS λK h=>sp 3 f Z λa f=>zT h (wp_ret (bG (aL ?_)))
  obtain rfl:=sj F
  exact have d:=d.nilRow 43 2;zO2 Tryz.results33 f Z Z ⟨none,0,Z,d⟩
 ·refine zS λK h=>sp 1 f Z λa f=>zQ (v:=.bool (dG start)) f d (eN 65) Z (λw d=>vL start d Z) λa w f d=>sp 2 f Z λa f=>zT h (zI f Z F ?_ ?_) <;> intro F
  ·refine zS λK h=>sp 2 f Z λa f=>zT h (wp_ret (bG (aL ?_)))
   obtain rfl:=sj F
   exact have d:=d.nilRow 43 2;zO2 Tryz.results33 f Z Z ⟨none,0,Z,d⟩
  ·refine wp_skip (h3 _ _ (zS λK h=>sp 2 f Z λa f=>zQ (v:=.agg #[.func (.func 124) #[] #[]]) f d (eN 88) Z (λw d=>aCb d Z) λa w f d=>aH F λO ax F=>zC f (eN 87) Z (aH2 start l z d ax) ?_))
   rintro _ w ⟨a0,a3,rfl,d⟩
   refine ⟨_,Z,λa f=>sp 2 f Z λa f=>zQ (v:=.agg #[.func (.func 125) #[] #[]]) f d (eN 89) Z (λw d=>xU d Z) λa w f d=>aH F λR ak F=>zC f (eN 87) Z (aEe start l z d ak) ?_⟩
   rintro _ w ⟨a2,a1,rfl,d⟩
   refine ⟨_,Z,λa f=>sp 2 f Z λa f=>zT h (zS λK h=>sp 1 f Z λa f=>zT h (wp_seq_k λK10 a7=>zS λK h=>sp 1 f Z λa f=>zP f Z (bA Tryz.underlying31 Z) λa f=>sp 1 f Z λa f=>zT h (wp_block (aH F λab av F=>?_))))⟩
   let S12:((List aE) × Int)→Act→World→Prop:=(λ(zz:(List aE) × Int) a w=>∃ (n:Option Addr) (I:Nat) (Y:Option Addr) (H:Nat) (M:Option Addr) (J:Nat),Has 48 a [(7,.slice n O.length I),(8,.slice Y R.length H),(9,.slice M zz.1.length J),(30,i6 ((l.length:Nat):Int)),(31,i6 zz.2)]∧Ctx G (.row M J (zz.1.map cN) 43 2::.row Y H (R.map aF) 3 1::.row n I (O.map aF) 3 1::Lf) w)
   have aq:∀ (zz:(List aE) × Int) a w,ab=.go zz→S12 zz a w→K10 a w:=by
    rintro ⟨out,x⟩ a w rfl ⟨n,I,Y,H,M,J,f,d⟩
    refine have F:=bI F;a7 _ _ (zS λK h=>sp 3 f Z λa f=>zT h (wp_ret ?_))
    obtain rfl:=sj F
    exact have d:=(d.drop k2).drop k1;zO2 Tryz.results33 f Z Z ⟨M,J,Z,d⟩
   have ba:∀ r,ab=.out r→r=X:=by
    rintro r rfl
    exact sj F
   refine have d:=d.nilRow 43 2;cF N (cE (S:=S12) (x:=ab) ?_ N (([]:List aE),0) _ _ ⟨a0,a3,a2,a1,none,0,f.kp Z,d⟩ av)
   clear F f d
   rintro ⟨out,x⟩ a9 a w KB12 ⟨n,I,Y,H,M,J,f,d⟩ F U au
   refine zS λK h=>sp 1 f Z λa f=>zT h (wp_seq_k λK15 az=>zI f Z F ?_ ?_) <;> intro F
   ·refine wp_skip (az _ _ (wp_seq_k λK16 ay=>wp_block (zS λK h=>sp 2 f Z λa f=>zT h (aH F λB an F=>have aa:=f;?_))))
    obtain ⟨g,rfl,qa,qr⟩:=gW d m2 an
    refine have f:=aa;aH F λD ar F=>have aa:=f;?_
    obtain ⟨V,rfl,am,ap⟩:=gW d m1 ar
    refine have f:=aa;aH F λun a5 F=>have d:=d.nilRow 0 0;jV (λθ=>[f0 7 (.slice (sa g) O.length I),f0 8 (.slice (sa V) R.length H),⟨none,some 12,9,.slice M out.length J⟩,f0 10 (i6 x),f0 30 (i6 ((l.length:Nat):Int)),f0 31 (i6 x),f1 0 34 (.slice M out.length J),f1 1 35 (.slice (sa g) O.length I),f1 2 36 (i6 x),f1 3 37 (.pointer (some ⟨g,x.toNat * 1,none⟩)),f1 4 38 (i6 B),f1 5 39 (.slice (sa V) R.length H),f1 6 40 (i6 x),f1 7 41 (.pointer (some ⟨V,x.toNat * 1,none⟩)),f1 8 42 (i6 D),f1 9 43 (.agg #[i6 B,i6 D]),f1 10 44 (.slice (some ⟨(θ 80).b,0,none⟩) 1 1),f1 11 45 (.slice ((θ 88).p) ((out++[(⟨B,D⟩:aE)]).length) ((θ 88).c)),f1 12 9 (.slice ((θ 88).p) ((out++[(⟨B,D⟩:aE)]).length) ((θ 88).c))]) (λE θ=>(bif E 10 then .row (some ⟨(θ 80).b,0,none⟩) 1 (([(⟨B,D⟩:aE)]:List aE).map cN) 43 2 else .row none 0 [] 0 0)::(bif E 11 then .row ((θ 88).p) ((θ 88).c) ((out++[(⟨B,D⟩:aE)]).map cN) 43 2 else .row M J (out.map cN) 43 2)::.row (sa V) H (R.map aF) 3 1::.row (sa g) I (O.map aF) 3 1::Lf) [(12,0),(12,11)] (λa w=>∃ (s:Option Addr) (t:Nat) (ag:Nat),Has 48 a [(7,.slice (sa g) O.length I),(8,.slice (sa V) R.length H),(30,i6 ((l.length:Nat):Int)),(31,i6 x),(9,.slice s ((out++[(⟨B,D⟩:aE)]).length) t)]∧Ctx G (.row (sa ag) 1 (([(⟨B,D⟩:aE)]:List aE).map cN) 43 2::.row s t ((out++[(⟨B,D⟩:aE)]).map cN) 43 2::.row (sa V) H (R.map aF) 3 1::.row (sa g) I (O.map aF) 3 1::Lf) w) aU (by kernel_rfl) (by kernel_rfl) (iW.of f ⟨Z,Z,Z,Z,Z,Z,trivial,trivial,trivial,trivial,trivial,trivial,trivial,trivial,trivial,trivial,trivial,trivial,trivial,trivial⟩) d ⟨?_,?_,?_,?_,?_,?_,?_,?_,?_,?_,?_,?_,?_,trivial⟩ ?_ ?_
    ·exact λE θ a w hD hi hp he d=>have m:=hD.f 0 Z hi;have f:=he.h0.mN he 2 Z m;sp 1 f Z λa f=>zD θ he hi f 6 Z Z Z d
    ·exact λE θ a w hD hi hp he d=>have f:=he.h0.mT he 0 Z;sp 1 f Z λa f=>zD θ he hi f 7 Z Z Z d
    ·exact λE θ a w hD hi hp he d=>have f:=he.h0.mT he 3 Z;sp 1 f Z λa f=>zD θ he hi f 8 Z Z Z d
    ·exact λE θ a w hD hi hp he d=>have e1:=hp.o 1 Z;have e2:=hp.o 2 Z;have f:=(he.h0.mP he 7 Z e1).mP he 8 Z e2;zP f Z (pIA Tryz.underlying22 cS Z Z qa) λa f=>zD θ he hi f 9 Z Z Z d
    ·exact λE θ a w hD hi hp he d=>have e3:=hp.o 3 Z;have f:=he.h0.mP he 9 Z e3;zE f d Z (bB aZ Z (cA (sz:=1) (i:=x.toNat) (j:=0) m3 qr Z)) λa w f d=>zD θ he hi f 10 Z Z Z d
    ·exact λE θ a w hD hi hp he d=>have f:=he.h0.mT he 1 Z;sp 1 f Z λa f=>zD θ he hi f 11 Z Z Z d
    ·exact λE θ a w hD hi hp he d=>have f:=he.h0.mT he 3 Z;sp 1 f Z λa f=>zD θ he hi f 12 Z Z Z d
    ·exact λE θ a w hD hi hp he d=>have e5:=hp.o 5 Z;have e6:=hp.o 6 Z;have f:=(he.h0.mP he 11 Z e5).mP he 12 Z e6;zP f Z (pIA Tryz.underlying22 cS Z Z am) λa f=>zD θ he hi f 13 Z Z Z d
    ·exact λE θ a w hD hi hp he d=>have e7:=hp.o 7 Z;have f:=he.h0.mP he 13 Z e7;zE f d Z (bB aZ Z (cA (sz:=1) (i:=x.toNat) (j:=0) m2 ap Z)) λa w f d=>zD θ he hi f 14 Z Z Z d
    ·exact λE θ a w hD hi hp he d=>have e4:=hp.o 4 Z;have e8:=hp.o 8 Z;have f:=(he.h0.mP he 10 Z e4).mP he 14 Z e8;zP f Z (bS (cells:=[i6 B,i6 D]) aBn Z Z) λa f=>zD θ he hi f 15 Z Z Z d
    ·refine λE θ a w hD hi hp he d=>have e9:=hp.o 9 Z;?_
     try dsimp only at d
     rw [hi] at d
     refine have f:=he.h0.mP he 15 Z e9;gN (rows:=([(⟨B,D⟩:aE)]:List aE).map cN) (vs:=[(0,.agg #[i6 B,i6 D])]) f d Z Z aK3 Z ⟨Z,Z,Z,trivial⟩ Z Z λa8 a w f d=>aN (eS (λds u ac=>have d:=d.drop k1;?_))
     refine ⟨(qR θ 80 ⟨a8,none,0,(λ_=>(none,0))⟩),he.put hi ac f Z [] trivial ⟨qq,qq,qq,qq,qq,qq,qq,qq,qq,qq,qq,qq,qq,qq,qq,qq,qq,qq,qq,trivial⟩,?_⟩
     try dsimp only
     rw [bE E 10]
     exact d
    ·refine λE θ a w hD hi hp he d=>have e0:=hp.o 0 Z;have k:=hp.o 10 Z;have m:=hD.f 1 Z hi;?_
     try dsimp only at d
     rw [k,hi] at d
     refine have f:=(he.h0.mP he 6 Z e0).mP he 16 Z k;mV (xs:=out) (ys:=([(⟨B,D⟩:aE)]:List aE)) f d Z Z aK3 Z Z Z Z Z aAz (gL d m0) (λ_ _=>u1) (by simpa using cZ a5) λa6 a4 a w f d=>aN (eS (λds u ac=>?_))
     refine ⟨(qR θ 88 ⟨0,a6,a4,(λ_=>(none,0))⟩),he.put hi ac f Z [12] ⟨⟨m,Z⟩,trivial⟩ ⟨qq,qq,qq,qq,qq,qq,qq,qq,qq,qq,qq,qq,qq,qq,qq,qq,qq,qq,trivial,trivial⟩,?_⟩
     try dsimp only
     rw [eD 11 k,bE E 11]
     exact d
    ·exact λE θ a w hD hi hp he d=>have y:=hp.o 11 Z;have f:=he.h0.mP he 17 Z y;sp 1 f Z λa f=>zD θ he hi f 18 Z Z Z d
    ·refine λE θ a w q he d=>have f:=he.h0;have k:=q 10 Z;have y:=q 11 Z;have m:=q 12 Z;have f:=f.more he 18 Z (onP m);have f:=f.more he 5 Z (onT);have f:=f.more he 4 Z (onT);have f:=f.more he 1 Z (onT);have f:=f.more he 0 Z (onT);?_
     try dsimp only at d
     rw [k,y] at d
     exact ⟨(θ 88).p,(θ 88).c,(θ 80).b,f.kp Z,d⟩
    rintro a w ⟨s,t,ag,f,d⟩
    exact ay _ _ (bK (sp 2 f Z λa f=>aN (have d:=d.drop k0;au ((out++[(⟨B,D⟩:aE)]),W (x + 1)) _ _ (sj F).symm ⟨(sa g),I,(sa V),H,s,t,f.kp Z,d⟩)))
   ·exact wp_exit (aP (aP (have U:=cB F U;cX (aq _ _ _ U ⟨n,I,Y,H,M,J,f.kp Z,d⟩))))

def tR (N:Nat) (H:Int) (D:Int) (B:Int):Option (bC (Int × Int × Int) (Int × Int × Int)) :=
 some (.cont (D,B,W (H - 1)))
def tO (N:Nat) (l:List aG) (r:(List aE) × Int) (H:Int) (B:Int) (D:Int):Option (bC (Int × Int × Int) (Int × Int × Int)) :=
 Option.bind (aQ r.1 B) λJ=>
 Option.bind (aQ l B) λI=>
 cond (decide (I.Close < J.Lo))
 (tR N B D B)
 (tR N B D H)
def qT (N:Nat) (l:List aG) (r:(List aE) × Int) (H:Int) (D:Int) (B:Int):Option (bC (Int × Int × Int) (Int × Int × Int)) :=
 cond (decide (0≤B))
 (Option.bind (aQ r.1 B) λI=>
 Option.bind (aQ l B) λJ=>
 cond (decide (J.Close < I.Hi))
 (tO N l r D B B)
 (tO N l r D B H))
 (some (.brk (H,D,B)))
def uV (N:Nat) (start:Int) (l:List aG):Option (Int × Int × Int) :=
 Option.bind (mI N start l) λr=>
 cond (r.2 != 0)
 (some (0,0,r.2))
 (Option.bind (aS (λs9=>qT N l r s9.1 s9.2.1 s9.2.2) N ((-1),(-1),W (((l.length:Nat):Int) - 1))) λx9=>
 exK x9 (λs9=>some (s9.1,s9.2.1,0)) some)
theorem aEx {U:Option Addr} {V:Nat} (start:Int) (l:List aG) (m:Rd G 6 U V (l.map aX)) (d:Ctx G (Lf) w) {R:Int × Int × Int} (F:uV N start l=some R):Cz G 37 #[i6 start,.slice U l.length V] w (.tuple #[i6 R.1,i6 R.2.1,i6 R.2.2]) (Lf):=by
 refine bY Tryz.func37 Z Tryz.ntmps37 Z λa f=>zS λK h=>sp 3 f Z λa f=>zT h (zS λK h=>sp 2 f Z λa f=>aH F λr hr F=>zC f (eN 33) Z (aAe start l m d hr) ?_)
 rintro _ w ⟨au,an,rfl,d⟩
 refine ⟨_,Z,λa f=>sp 5 f Z λa f=>zT h (wp_seq_k λK3 h3=>zS λK h=>sp 2 f Z λa f=>zT h (zI f Z F ?_ ?_))⟩ <;> intro F
 ·refine zS λK h=>sp 4 f Z λa f=>zT h (wp_ret (aL ?_))
  obtain rfl:=sj F
  exact have d:=d.drop k0;zO3 Tryz.results37 f Z Z Z ⟨Z,d⟩
 ·refine wp_skip (h3 _ _ (zS λK h=>sp 2 f Z λa f=>zT h (wp_seq_k λK7 h7=>zS λK h=>sp 1 f Z λa f=>zP f Z (bA Tryz.underlying31 Z) λa f=>sp 2 f Z λa f=>zT h (wp_block (aH F λx9 aj F=>?_)))))
  let S9:(Int × Int × Int)→Act→World→Prop:=(λ(zz:Int × Int × Int) a w=>∃ (X:Option Addr) (M:Nat),Has 51 a [(1,.slice U l.length V),(4,i6 zz.1),(5,i6 zz.2.1),(7,.slice X r.1.length M),(8,i6 zz.2.2)]∧Ctx G (.row X M (r.1.map cN) 43 2::Lf) w)
  have aq:∀ (zz:Int × Int × Int) a w,x9=.go zz→S9 zz a w→K7 a w:=by
   rintro ⟨t,H,D⟩ a w rfl ⟨X,M,f,d⟩
   refine have F:=bI F;h7 _ _ (zS λK h=>sp 5 f Z λa f=>zT h (wp_ret ?_))
   obtain rfl:=sj F
   exact have d:=d.drop k0;zO3 Tryz.results37 f Z Z Z ⟨Z,d⟩
  have a3:∀ r,x9=.out r→r=R:=by
   rintro r rfl
   exact sj F
  refine cF N (cE (S:=S9) (x:=x9) ?_ N ((-1),(-1),W (((l.length:Nat):Int) - 1)) _ _ ⟨au,an,f.kp Z,d⟩ aj)
  clear F f d
  rintro ⟨t,H,D⟩ u a w KB9 ⟨X,M,f,d⟩ F O ap
  unfold qT at F
  refine wp_seq_k λK11 av=>zS λK h=>sp 2 f Z λa f=>zT h (zI f Z F ?_ ?_) <;> intro F
  ·refine wp_skip (av _ _ (wp_seq_k λK13 am=>?_))
   have q:∀ (J:Int) (B:Int) (k:Option Addr) (b:Nat) a w,Has 51 a [(1,.slice U l.length V),(4,i6 J),(5,i6 B),(7,.slice k r.1.length b),(8,i6 D)]→Ctx G (.row k b (r.1.map cN) 43 2::Lf) w→tR N D J B=some u→K13 a w:=by
    repeat first | clear F | clear d | clear f
    intro J B k b a w f d F
    unfold tR at F
    exact am _ _ (bK (sp 3 f Z λa f=>aN (ap (J,B,W (D - 1)) _ _ (sj F).symm ⟨k,b,f.kp Z,d⟩)))
   refine wp_block (wp_seq_k λK14 ax=>?_)
   have s:∀ (I:Int) (p:Option Addr) (Y:Nat) a w,Has 51 a [(1,.slice U l.length V),(4,i6 I),(5,i6 H),(7,.slice p r.1.length Y),(8,i6 D)]→Ctx G (.row p Y (r.1.map cN) 43 2::Lf) w→tO N l r H D I=some u→K14 a w:=by
    repeat first | clear F | clear d | clear f
    intro I p Y a w f d F
    unfold tO at F
    refine ax _ _ (wp_seq_k λK15 ar=>aH F λay ag F=>have n:=f;?_)
    obtain ⟨g,rfl,qa,qr⟩:=gW d m0 ag
    refine have f:=n;aH F λa4 aa F=>?_
    obtain ⟨a2,o,af,qp⟩:=m.atm aa
    refine cQ d aU (by kernel_rfl) (qp_ 2 f Z λa f=>qU f Z (pIA Tryz.underlying86 uS Z Z qa) λa f=>qU f Z (pFA rC Z) λa f=>qV f Z (bB aZ Z (cA (sz:=2) (i:=D.toNat) (j:=0) m0 qr Z)) λa f=>qp_ 2 f Z λa f=>qU f Z (pIA Tryz.underlying31 tT Z Z af) λa f=>qU f Z (pFA aC3 Z) λa f=>qV f Z (bB aZ Z (aV (j:=5) qp Z)) λa f=>qp_ 1 f Z λa f=>λw d=>ar _ _ (zI f Z F ?_ ?_)) <;> intro F
    ·exact bK (sp 2 f Z λa f=>aN (q I D (sa g) Y _ _  (f.kp Z) d F))
    ·exact wp_skip (q I H (sa g) Y _ _  (f.kp Z) d F)
   refine wp_seq_k λK16 ak=>aH F λa1 ai F=>have n:=f;?_
   obtain ⟨v,rfl,ad,z⟩:=gW d m0 ai
   refine have f:=n;aH F λa0 ac F=>?_
   obtain ⟨az,a5,ab,y⟩:=m.atm ac
   refine cQ d aU (by kernel_rfl) (qp_ 2 f Z λa f=>qU f Z (pIA Tryz.underlying86 uS Z Z ad) λa f=>qU f Z (pFA kY Z) λa f=>qV f Z (bB aZ Z (cA (sz:=2) (i:=D.toNat) (j:=1) m0 z Z)) λa f=>qp_ 2 f Z λa f=>qU f Z (pIA Tryz.underlying31 tT Z Z ab) λa f=>qU f Z (pFA aC3 Z) λa f=>qV f Z (bB aZ Z (aV (j:=5) y Z)) λa f=>qp_ 1 f Z λa f=>λw d=>ak _ _ (zI f Z F ?_ ?_)) <;> intro F
   ·exact bK (sp 2 f Z λa f=>aN (s D (sa v) M _ _  (f.kp Z) d F))
   ·exact wp_skip (s t (sa v) M _ _  (f.kp Z) d F)
  ·exact wp_exit (aP (aP (have O:=cB F O;cX (aq _ _ _ O ⟨X,M,f.kp Z,d⟩))))

def fD (N:Nat) (a_:List Int) (b_:List Int) (B:Int):Option (bC (Int) (Bool)) :=
 cond (decide (B < ((a_.length:Nat):Int)))
 (Option.bind (aQ a_ B) λH=>
 Option.bind (aQ b_ B) λD=>
 cond (H != D)
 (some (.ret false))
 (some (.cont (W (B + 1)))))
 (some (.brk B))
def dW (N:Nat) (a_:List Int) (b_:List Int):Option (Bool) :=
 cond (((a_.length:Nat):Int) != ((b_.length:Nat):Int))
 (some false)
 (Option.bind (aS (λs7=>fD N a_ b_ s7) N 0) λx7=>
 exK x7 (λs7=>some true) some)
theorem jL {I D:Option Addr} {H J:Nat} (a_ b_:List Int) (X:Rd G 1 I H (a_.map aF)) (b:Rd G 1 D J (b_.map aF)) (d:Ctx G (Lf) w) {M:Bool} (F:dW N a_ b_=some M):Cz G 27 #[.slice I a_.length H,.slice D b_.length J] w (.bool M) (Lf):=by
 refine bY Tryz.func27 Z Tryz.ntmps27 Z λa f=>zS λK h=>sp 1 f Z λa f=>zT h (wp_seq_k λK2 h2=>zS λK h=>sp 1 f Z λa f=>zP f Z (bA Tryz.underlying22 Z) λa f=>sp 1 f Z λa f=>zP f Z (bA Tryz.underlying22 Z) λa f=>sp 1 f Z λa f=>zT h (zI f Z F ?_ ?_)) <;> intro F
 ·refine zS λK h=>sp 1 f Z λa f=>zT h (wp_ret (aL ?_))
  obtain rfl:=sj F
  exact zO1 Tryz.results27 f Z ⟨Z,d⟩
 ·refine wp_skip (h2 _ _ (wp_seq_k λK5 h5=>zS λK h=>sp 1 f Z λa f=>zT h (wp_block (aH F λx7 n F=>?_))))
  let S7:Int→Act→World→Prop:=(λ(zz:Int) a w=>Has 26 a [(0,.slice I a_.length H),(1,.slice D b_.length J),(5,i6 zz)]∧Ctx G (Lf) w)
  have g:∀ (zz:Int) a w,x7=.go zz→S7 zz a w→K5 a w:=by
   rintro O a w rfl ⟨f,d⟩
   refine have F:=bI F;h5 _ _ (zS λK h=>sp 1 f Z λa f=>zT h (wp_ret ?_))
   obtain rfl:=sj F
   exact zO1 Tryz.results27 f Z ⟨Z,d⟩
  have k:∀ r,x7=.out r→r=M:=by
   rintro r rfl
   exact sj F
  refine cF N (cE (S:=S7) (x:=x7) ?_ N 0 _ _ ⟨f.kp Z,d⟩ n)
  clear F f d
  rintro O s a w KB7 ⟨f,d⟩ F B p
  unfold fD at F
  refine wp_seq_k λK9 h9=>zS λK h=>sp 2 f Z λa f=>zP f Z (bA Tryz.underlying22 Z) λa f=>sp 1 f Z λa f=>zT h (zI f Z F ?_ ?_) <;> intro F
  ·refine wp_skip (h9 _ _ (wp_seq_k λK11 i=>wp_block (wp_seq_k λK12 m=>aH F λt Y F=>?_)))
   obtain ⟨v,o,qa,qp⟩:=X.atm Y
   obtain ⟨u,R,F⟩:=cU F
   obtain ⟨y,q,V,U⟩:=b.atm R
   refine cQ d aU (by kernel_rfl) (qp_ 2 f Z λa f=>qU f Z (pIA Tryz.underlying22 cS Z Z qa) λa f=>qV f Z (bB aZ Z (aV (j:=0) qp Z)) λa f=>qp_ 2 f Z λa f=>qU f Z (pIA Tryz.underlying22 cS Z Z V) λa f=>qV f Z (bB aZ Z (aV (j:=0) U Z)) λa f=>qp_ 1 f Z λa f=>λw d=>m _ _ (zI f Z F ?_ ?_)) <;> intro F
   ·refine zS λK h=>sp 1 f Z λa f=>zT h (wp_ret (bG (aL (aL (have B:=cB F B;have F:=k _ B;bG (aL ?_))))))
    obtain rfl:=F
    exact zO1 Tryz.results27 f Z ⟨Z,d⟩
   ·exact wp_skip (i _ _ (bK (sp 3 f Z λa f=>aN (p (W (O + 1)) _ _ (sj F).symm ⟨f.kp Z,d⟩))))
  ·exact wp_exit (aP (aP (have B:=cB F B;cX (g _ _ _ B ⟨f.kp Z,d⟩))))

def lA (N:Nat) (a_:List aE) (b_:List aE) (B:Int):Option (bC (Int) (Bool)) :=
 cond (decide (B < ((a_.length:Nat):Int)))
 (Option.bind (aQ a_ B) λH=>
 Option.bind (aQ b_ B) λD=>
 cond (!(H.Lo == D.Lo && H.Hi == D.Hi))
 (some (.ret false))
 (some (.cont (W (B + 1)))))
 (some (.brk B))
def oM (N:Nat) (a_:List aE) (b_:List aE):Option (Bool) :=
 cond (((a_.length:Nat):Int) != ((b_.length:Nat):Int))
 (some false)
 (Option.bind (aS (λs7=>lA N a_ b_ s7) N 0) λx7=>
 exK x7 (λs7=>some true) some)
theorem wV {I D:Option Addr} {H J:Nat} (a_ b_:List aE) (b:Rd G 2 I H (a_.map cN)) (i:Rd G 2 D J (b_.map cN)) (d:Ctx G (Lf) w) {M:Bool} (F:oM N a_ b_=some M):Cz G 36 #[.slice I a_.length H,.slice D b_.length J] w (.bool M) (Lf):=by
 refine bY Tryz.func36 Z Tryz.ntmps36 Z λa f=>zS λK h=>sp 1 f Z λa f=>zT h (wp_seq_k λK2 h2=>zS λK h=>sp 1 f Z λa f=>zP f Z (bA Tryz.underlying86 Z) λa f=>sp 1 f Z λa f=>zP f Z (bA Tryz.underlying86 Z) λa f=>sp 1 f Z λa f=>zT h (zI f Z F ?_ ?_)) <;> intro F
 ·refine zS λK h=>sp 1 f Z λa f=>zT h (wp_ret (aL ?_))
  obtain rfl:=sj F
  exact zO1 Tryz.results36 f Z ⟨Z,d⟩
 ·refine wp_skip (h2 _ _ (wp_seq_k λK5 h5=>zS λK h=>sp 1 f Z λa f=>zT h (wp_block (aH F λx7 q F=>?_))))
  let S7:Int→Act→World→Prop:=(λ(zz:Int) a w=>Has 26 a [(0,.slice I a_.length H),(1,.slice D b_.length J),(5,i6 zz)]∧Ctx G (Lf) w)
  have j:∀ (zz:Int) a w,x7=.go zz→S7 zz a w→K5 a w:=by
   rintro U a w rfl ⟨f,d⟩
   refine have F:=bI F;h5 _ _ (zS λK h=>sp 1 f Z λa f=>zT h (wp_ret ?_))
   obtain rfl:=sj F
   exact zO1 Tryz.results36 f Z ⟨Z,d⟩
  have m:∀ r,x7=.out r→r=M:=by
   rintro r rfl
   exact sj F
  refine cF N (cE (S:=S7) (x:=x7) ?_ N 0 _ _ ⟨f.kp Z,d⟩ q)
  clear F f d
  rintro U u a w KB7 ⟨f,d⟩ F B s
  unfold lA at F
  refine wp_seq_k λK9 h9=>zS λK h=>sp 2 f Z λa f=>zP f Z (bA Tryz.underlying86 Z) λa f=>sp 1 f Z λa f=>zT h (zI f Z F ?_ ?_) <;> intro F
  ·refine wp_skip (h9 _ _ (wp_seq_k λK11 k=>wp_block (wp_seq_k λK12 p=>aH F λO g F=>?_)))
   obtain ⟨v,o,qa,qp⟩:=b.atm g
   obtain ⟨R,V,F⟩:=cU F
   obtain ⟨y,t,Y,X⟩:=i.atm V
   refine cQ d aU (by kernel_rfl) (qp_ 2 f Z λa f=>qU f Z (pIA Tryz.underlying86 uS Z Z qa) λa f=>qV f Z (iY (vs:=[i6 O.Lo,i6 O.Hi]) rG Z Z (cY qp (n:=2) (o':=0) Z)) λa f=>qp_ 2 f Z λa f=>qU f Z (pIA Tryz.underlying86 uS Z Z Y) λa f=>qV f Z (iY (vs:=[i6 R.Lo,i6 R.Hi]) rG Z Z (cY X (n:=2) (o':=0) Z)) λa f=>qU f Z (aMc aPj Z Z (aLs _ _ _ _)) λa f=>λw d=>p _ _ (zI f Z F ?_ ?_)) <;> intro F
   ·refine zS λK h=>sp 1 f Z λa f=>zT h (wp_ret (bG (aL (aL (have B:=cB F B;have F:=m _ B;bG (aL ?_))))))
    obtain rfl:=F
    exact zO1 Tryz.results36 f Z ⟨Z,d⟩
   ·exact wp_skip (k _ _ (bK (sp 3 f Z λa f=>aN (s (W (U + 1)) _ _ (sj F).symm ⟨f.kp Z,d⟩))))
  ·exact wp_exit (aP (aP (have B:=cB F B;cX (j _ _ _ B ⟨f.kp Z,d⟩))))

def sI (N:Nat) (l:List aG) (D:Int) (B:Int):Option (bC (Int × Int) (Int × Int)) :=
 cond (decide (0≤B))
 (Option.bind (aQ l B) λI=>
 Option.bind (aQ l B) λH=>
 Option.bind (aQ l B) λJ=>
 cond (decide ((min I.Close (W (D - H.Work.Hi))) < J.Open))
 (some (.ret (0,5)))
 (Option.bind (aQ l B) λM=>
 some (.cont (W ((min I.Close (W (D - H.Work.Hi))) - M.Way.Hi),W (B - 1)))))
 (some (.brk (D,B)))
def qM (N:Nat) (l:List aG):Option (Int × Int) :=
 Option.bind (vG N l) λr=>
 cond (r != 0)
 (some (0,r))
 (Option.bind (aS (λs9=>sI N l s9.1 s9.2) N (200000,W (((l.length:Nat):Int) - 1))) λx9=>
 exK x9 (λs9=>cond (decide (s9.1 < 0))
 (some (0,5))
 (some (s9.1,0))) some)
theorem aCo {I:Option Addr} {J:Nat} (l:List aG) (D:Rd G 6 I J (l.map aX)) (d:Ctx G (Lf) w) {H:Int × Int} (F:qM N l=some H):Cz G 39 #[.slice I l.length J] w (.tuple #[i6 H.1,i6 H.2]) (Lf):=by
 refine bY Tryz.func39 Z Tryz.ntmps39 Z λa f=>zS λK h=>sp 2 f Z λa f=>zT h (wp_seq_k λK2 h2=>zS λK h=>sp 1 f Z λa f=>aH F λr hr F=>zQ (v:=i6 r) f d (eN 86) Z (λw d=>aBl l D d hr) λa w f d=>sp 1 f Z λa f=>zT h (zS λK h=>sp 2 f Z λa f=>zT h ?_))
 refine zI f Z F ?_ ?_ <;> intro F
 ·refine zS λK h=>sp 3 f Z λa f=>zT h (wp_ret (aL ?_))
  obtain rfl:=sj F
  exact zO2 Tryz.results39 f Z Z ⟨Z,d⟩
 ·refine wp_skip (h2 _ _ (zS λK h=>sp 1 f Z λa f=>zT h (wp_seq_k λK7 h7=>zS λK h=>sp 1 f Z λa f=>zP f Z (bA Tryz.underlying31 Z) λa f=>sp 2 f Z λa f=>zT h (wp_block (aH F λx9 n F=>?_)))))
  let S9:(Int × Int)→Act→World→Prop:=(λ(zz:Int × Int) a w=>Has 51 a [(0,.slice I l.length J),(5,i6 zz.1),(6,i6 zz.2)]∧Ctx G (Lf) w)
  have ad:∀ (zz:Int × Int) a w,x9=.go zz→S9 zz a w→K7 a w:=by
   rintro ⟨M,O⟩ a w rfl ⟨f,d⟩
   refine have F:=bI F;h7 _ _ (wp_seq_k λK10 ab=>zS λK h=>sp 2 f Z λa f=>zT h (zI f Z F ?_ ?_)) <;> intro F
   ·refine zS λK h=>sp 2 f Z λa f=>zT h (wp_ret (aL ?_))
    obtain rfl:=sj F
    exact zO2 Tryz.results39 f Z Z ⟨Z,d⟩
   ·refine wp_skip (ab _ _ (zS λK h=>sp 3 f Z λa f=>zT h (wp_ret ?_)))
    obtain rfl:=sj F
    exact zO2 Tryz.results39 f Z Z ⟨Z,d⟩
  have u:∀ r,x9=.out r→r=H:=by
   rintro r rfl
   exact sj F
  refine cF N (cE (S:=S9) (x:=x9) ?_ N (200000,W (((l.length:Nat):Int) - 1)) _ _ ⟨f.kp Z,d⟩ n)
  clear F f d
  rintro ⟨M,O⟩ am a w KB9 ⟨f,d⟩ F B q
  unfold sI at F
  refine wp_seq_k λK14 ac=>zS λK h=>sp 2 f Z λa f=>zT h (zI f Z F ?_ ?_) <;> intro F
  ·refine wp_skip (ac _ _ (wp_seq_k λK16 s=>wp_block (wp_seq_k λK17 z=>aH F λt Y F=>?_)))
   obtain ⟨an,o,qa,qp⟩:=D.atm Y
   obtain ⟨aa,R,F⟩:=cU F
   obtain ⟨ap,af,V,U⟩:=D.atm R
   refine cQ d aU (by kernel_rfl) (qp_ 2 f Z λa f=>qU f Z (pIA Tryz.underlying31 tT Z Z qa) λa f=>qU f Z (pFA aC3 Z) λa f=>qV f Z (bB aZ Z (aV (j:=5) qp Z)) λa f=>qp_ 3 f Z λa f=>qU f Z (pIA Tryz.underlying31 tT Z Z V) λa f=>qU f Z (pFA aE4 Z) λa f=>qU f Z (pFA kY Z) λa f=>qV f Z (bB aZ Z (aV (j:=3) U Z)) λa f=>qp_ 1 f Z λa f=>qU f Z (aSj Z Z) λa f=>qp_ 1 f Z λa f=>λw d=>?_)
   refine z _ _ (wp_seq_k λK18 p=>zS λK h=>sp 3 f Z λa f=>aH F λak i F=>?_)
   obtain ⟨ai,aj,g,m⟩:=D.atm i
   refine zP f Z (pIA Tryz.underlying31 tT Z Z g) λa f=>zP f Z (pFA aEy Z) λa f=>zE f d Z (bB aZ Z (aV (j:=4) m Z)) λa w f d=>sp 1 f Z λa f=>zT h (zI f Z F ?_ ?_) <;> intro F
   ·refine zS λK h=>sp 2 f Z λa f=>zT h (wp_ret (aL (bG (aL (aL (have B:=cB F B;have F:=u _ B;bG (aL ?_)))))))
    obtain rfl:=F
    exact zO2 Tryz.results39 f Z Z ⟨Z,d⟩
   ·refine wp_skip (p _ _ (bK (sp 3 f Z λa f=>aH F λy b F=>?_)))
    obtain ⟨aq,ag,X,k⟩:=D.atm b
    exact zP f Z (pIA Tryz.underlying31 tT Z Z X) λa f=>zP f Z (pFA aC4 Z) λa f=>zP f Z (pFA kY Z) λa f=>zE f d Z (bB aZ Z (aV (j:=1) k Z)) λa w f d=>sp 2 f Z λa f=>aN (s _ _ (bK (sp 3 f Z λa f=>aN (q (W ((min t.Close (W (M - aa.Work.Hi))) - y.Way.Hi),W (O - 1)) _ _ (sj F).symm ⟨f.kp Z,d⟩))))
  ·exact wp_exit (aP (aP (have B:=cB F B;cX (ad _ _ _ B ⟨f.kp Z,d⟩))))

def cT (r:aC):Bool :=
 ((((dG r.From) && (aR r.Long 1 100000)) && (aR r.Weight.Lo 0 r.Weight.Hi)) && (decide (r.Weight.Hi≤1000)))
theorem aCg (r:aC) (d:Ctx G (Lf) w) {D:Bool} (F:cT r=D):Cz G 64 #[.agg #[i6 r.From,i6 r.Long,i6 r.Weight.Lo,i6 r.Weight.Hi]] w (.bool D) (Lf):=by
 refine bY Tryz.func64 Z Tryz.ntmps64 Z λa f=>zS λK h=>zB f d Z λB a w f d=>sp 1 f Z λa f=>zT h (zS λK h=>zP f Z (pFA vH Z) λa f=>zL f d aZ m0 Z λa w f d=>zQ (v:=.bool (dG r.From)) f d (eN 65) Z (λw d=>vL r.From d Z) λa w f d=>sp 1 f Z λa f=>cV 4 (λa=>Has 26 a [(1,pq B),(2,.bool false),(10,.bool ((dG r.From) && (aR r.Long 1 100000)))]) d ?_ ?_)
 ·cases hb:(dG r.From)
  ·rw [hb] at f
   exact sp 4 f Z λa f=>aN ⟨f.kp Z,d⟩
  ·rw [hb] at f
   exact zP f Z (pFA aEm Z) λa f=>zL f d aZ m0 Z λa w f d=>zQ (v:=.bool (aR r.Long 1 100000)) f d (eN 53) Z (λw d=>dP r.Long 1 100000 d Z) λa w f d=>sp 1 f Z λa f=>aN ⟨f.kp Z,d⟩
 intro a w ⟨f,d⟩
 refine sp 1 f Z λa f=>cV 8 (λa=>Has 26 a [(1,pq B),(2,.bool false),(19,.bool (((dG r.From) && (aR r.Long 1 100000)) && (aR r.Weight.Lo 0 r.Weight.Hi)))]) d ?_ ?_
 ·cases hb:((dG r.From) && (aR r.Long 1 100000))
  ·rw [hb] at f
   exact sp 8 f Z λa f=>aN ⟨f.kp Z,d⟩
  ·rw [hb] at f
   exact zP f Z (pFA zM Z) λa f=>zP f Z (pFA rC Z) λa f=>zL f d aZ m0 Z λa w f d=>zP f Z (pFA zM Z) λa f=>zP f Z (pFA kY Z) λa f=>zL f d aZ m0 Z λa w f d=>zQ (v:=.bool (aR r.Weight.Lo 0 r.Weight.Hi)) f d (eN 53) Z (λw d=>dP r.Weight.Lo 0 r.Weight.Hi d Z) λa w f d=>sp 1 f Z λa f=>aN ⟨f.kp Z,d⟩
 intro a w ⟨f,d⟩
 refine sp 1 f Z λa f=>cV 5 (λa=>Has 26 a [(2,.bool false),(25,.bool ((((dG r.From) && (aR r.Long 1 100000)) && (aR r.Weight.Lo 0 r.Weight.Hi)) && (decide (r.Weight.Hi≤1000))))]) d ?_ ?_
 ·cases hb:(((dG r.From) && (aR r.Long 1 100000)) && (aR r.Weight.Lo 0 r.Weight.Hi))
  ·rw [hb] at f
   exact sp 5 f Z λa f=>aN ⟨f.kp Z,d⟩
  ·rw [hb] at f
   exact zP f Z (pFA zM Z) λa f=>zP f Z (pFA kY Z) λa f=>zL f d aZ m0 Z λa w f d=>sp 2 f Z λa f=>aN ⟨f.kp Z,d⟩
 intro a w ⟨f,d⟩
 refine sp 1 f Z λa f=>zT h (wp_ret ?_)
 obtain rfl:=F
 exact have d:=d.drop k0;zO1 Tryz.results64 f Z ⟨Z,d⟩

def mR (x:aC):Bool :=
 (!(cT (⟨x.From,x.Long,x.Weight⟩:aC)))
theorem zF {b_:Nat} (x:aC) (d:Ctx G (.box b_ [.func (.func 64) #[] #[]] 122::Lf) w) {B:Bool} (F:mR x=B):Cz G 112 #[.agg #[i6 x.From,i6 x.Long,i6 x.Weight.Lo,i6 x.Weight.Hi],pq b_] w (.bool B) (.box b_ [.func (.func 64) #[] #[]] 122::Lf):=by
 refine bY Tryz.func112 Z Tryz.ntmps112 Z λa f=>zS λK h=>zB f d Z λD a w f d=>sp 1 f Z λa f=>zT h (zS λK h=>zL f d aPa m1 Z λa w f d=>zN f d vA m0 Z λa w f d=>zQ (v:=.bool (cT (⟨x.From,x.Long,x.Weight⟩:aC))) f d (eN 64) Z (λw d=>aCg (⟨x.From,x.Long,x.Weight⟩:aC) d Z) λa w f d=>sp 2 f Z λa f=>zT h (wp_ret ?_))
 obtain rfl:=F
 exact have d:=d.drop k0;zO1 Tryz.results112 f Z ⟨Z,d⟩

def sA (N:Nat) (s_:List aC) (x:Int):Option (bC (Int) (Int)) :=
 cond (decide (x < ((s_.length:Nat):Int)))
 (Option.bind (aQ s_ x) λB=>
 cond (mR B)
 (some (.ret x))
 (some (.cont (W (x + 1)))))
 (some (.brk x))
def gK (N:Nat) (s_:List aC):Option (Int) :=
 Option.bind (aS (λs4=>sA N s_ s4) N 0) λx4=>
 exK x4 (λs4=>some (-1)) some
theorem rX {I:Option Addr} {H b_:Nat} (s_:List aC) (M:Rd G 4 I H (s_.map aI)) (d:Ctx G (.box b_ [.func (.func 64) #[] #[]] 122::Lf) w) {J:Int} (F:gK N s_=some J):Cz G 132 #[.slice I s_.length H,.func (.func 112) #[] #[pq b_]] w (i6 J) (.box b_ [.func (.func 64) #[] #[]] 122::Lf):=by
 refine bY Tryz.func132 Z Tryz.ntmps132 Z λa f=>zS λK h=>sp 1 f Z λa f=>zT h (wp_seq_k λK2 h2=>zS λK h=>sp 1 f Z λa f=>zP f Z (bA Tryz.underlying35 Z) λa f=>sp 1 f Z λa f=>zT h (wp_block (aH F λx4 X F=>?_)))
 let S4:Int→Act→World→Prop:=(λ(zz:Int) a w=>Has 19 a [(0,.slice I s_.length H),(1,.func (.func 112) #[] #[pq b_]),(7,i6 ((s_.length:Nat):Int)),(8,i6 zz)]∧Ctx G (.box b_ [.func (.func 64) #[] #[]] 122::Lf) w)
 have U:∀ (zz:Int) a w,x4=.go zz→S4 zz a w→K2 a w:=by
  rintro x a w rfl ⟨f,d⟩
  refine have F:=bI F;h2 _ _ (zS λK h=>sp 1 f Z λa f=>zT h (wp_ret ?_))
  obtain rfl:=sj F
  exact zO1 Tryz.results132 f Z ⟨Z,d⟩
 have R:∀ r,x4=.out r→r=J:=by
  rintro r rfl
  exact sj F
 refine cF N (cE (S:=S4) (x:=x4) ?_ N 0 _ _ ⟨f.kp Z,d⟩ X)
 clear F f d
 rintro x Y a w KB4 ⟨f,d⟩ F B V
 refine zS λK h=>sp 1 f Z λa f=>zT h (wp_seq_k λK7 h7=>zI f Z F ?_ ?_) <;> intro F
 ·refine wp_skip (h7 _ _ (wp_seq_k λK8 h8=>wp_block (zS λK h=>sp 2 f Z λa f=>zT h (zS λK h=>sp 3 f Z λa f=>aH F λD O F=>?_))))
  obtain ⟨b,o,qa,qp⟩:=M.atm O
  refine zP f Z (pIA Tryz.underlying35 tD Z Z qa) λa f=>zE f d Z (iY (vs:=[i6 D.From,i6 D.Long,i6 D.Weight.Lo,i6 D.Weight.Hi]) vA Z Z (cY qp (n:=4) (o':=0) Z)) λa w f d=>zQ (v:=.bool (mR D)) f d (eN 112) Z (λw d=>(zF D (d.pick k0) Z).mono λe w h=>⟨h.1,(h.2.unpick k0)⟩) λa w f d=>zT h (zI f Z F ?_ ?_) <;> intro F
  ·refine zS λK h=>sp 2 f Z λa f=>zT h (wp_ret (bG (aL (aL (have B:=cB F B;have F:=R _ B;bG (aL ?_))))))
   obtain rfl:=F
   exact zO1 Tryz.results132 f Z ⟨Z,d⟩
  ·exact wp_skip (h8 _ _ (bK (sp 2 f Z λa f=>aN (V (W (x + 1)) _ _ (sj F).symm ⟨f.kp Z,d⟩))))
 ·exact wp_exit (aP (aP (have B:=cB F B;cX (U _ _ _ B ⟨f.kp Z,d⟩))))

def fP (N:Nat) (s_:List aC):Option (Bool) :=
 Option.bind (gK N s_) λr=>
 some (decide (0≤r))
theorem qH {D:Option Addr} {B b_:Nat} (s_:List aC) (I:Rd G 4 D B (s_.map aI)) (d:Ctx G (.box b_ [.func (.func 64) #[] #[]] 122::Lf) w) {H:Bool} (F:fP N s_=some H):Cz G 111 #[.slice D s_.length B,.func (.func 112) #[] #[pq b_]] w (.bool H) (.box b_ [.func (.func 64) #[] #[]] 122::Lf):=by
 refine bY Tryz.func111 Z Tryz.ntmps111 Z λa f=>zS λK h=>sp 1 f Z λa f=>zT h (zS λK h=>sp 2 f Z λa f=>aH F λr hr F=>zQ (v:=i6 r) f d (eN 132) Z (λw d=>(rX s_ I (d.pick k0) hr).mono λe w h=>⟨h.1,(h.2.unpick k0)⟩) λa w f d=>sp 2 f Z λa f=>zT h (wp_ret ?_))
 obtain rfl:=sj F
 exact zO1 Tryz.results111 f Z ⟨Z,d⟩

def oO (N:Nat) (l:List aC):Option (Bool) :=
 Option.bind (fP N l) λr=>
 some (!r)
theorem aA7 {D:Option Addr} {H:Nat} (l:List aC) (I:Rd G 4 D H (l.map aI)) (d:Ctx G (Lf) w) {B:Bool} (F:oO N l=some B):Cz G 63 #[.slice D l.length H,.func (.func 64) #[] #[]] w (.bool B) (Lf):=by
 refine bY Tryz.func63 Z Tryz.ntmps63 Z λa f=>zS λK h=>zB f d Z λJ a w f d=>sp 1 f Z λa f=>zT h (zS λK h=>sp 1 f Z λa f=>zP f Z (pMF (us:=[pq J]) Z Z) λa f=>aH F λr hr F=>zQ (v:=.bool r) f d (eN 111) Z (λw d=>(qH l I (d.pick k0) hr).mono λe w h=>⟨h.1,(h.2.unpick k0)⟩) λa w f d=>sp 2 f Z λa f=>zT h (wp_ret ?_))
 obtain rfl:=sj F
 exact have d:=d.drop k0;zO1 Tryz.results63 f Z ⟨Z,d⟩

def fF (N:Nat) (c_:aJ):Option (Int) :=
 cond (decide (30 < ((c_.Rides.length:Nat):Int)))
 (some 3)
 (Option.bind (cond ((((!(aR c_.Car 0 1000)) || (!(aR c_.Wide 1 1000))) || (!(aR c_.Sag 1 10000))) || (!(aR c_.Most 0 10000000))) (some true) (Option.bind (oO N c_.Rides) λr=>
 some (!r))) λB=>
 cond B
 (some 120)
 (some 0))
theorem nL {B:Option Addr} {D:Nat} (c_:aJ) (H:Rd G 4 B D (c_.Rides.map aI)) (d:Ctx G (Lf) w) {M:Int} (F:fF N c_=some M):Cz G 12 #[.agg #[i6 c_.Car,i6 c_.Wide,i6 c_.Sag,i6 c_.Most,.slice B c_.Rides.length D]] w (i6 M) (Lf):=by
 refine bY Tryz.func12 Z Tryz.ntmps12 Z λa f=>zS λK h=>zB f d Z λJ a w f d=>sp 1 f Z λa f=>zT h (wp_seq_k λK2 h2=>wp_block (zS λK h=>zP f Z (pFA fR Z) λa f=>zL f d sL m0 Z λa w f d=>zP f Z (bA Tryz.underlying35 Z) λa f=>sp 2 f Z λa f=>zT h (zI f Z F ?_ ?_))) <;> intro F
 ·refine zS λK h=>sp 1 f Z λa f=>zT h (wp_ret (bG (aL ?_)))
  obtain rfl:=sj F
  exact have d:=d.drop k0;zO1 Tryz.results12 f Z ⟨Z,d⟩
 ·refine zS λK h=>zP f Z (pFA xX Z) λa f=>zL f d aZ m0 Z λa w f d=>zQ (v:=.bool (aR c_.Car 0 1000)) f d (eN 53) Z (λw d=>dP c_.Car 0 1000 d Z) λa w f d=>sp 2 f Z λa f=>cV 5 (λa=>Has 37 a [(1,pq J),(18,.bool ((!(aR c_.Car 0 1000)) || (!(aR c_.Wide 1 1000))))]) d ?_ ?_
  ·cases hb:(!(aR c_.Car 0 1000))
   ·rw [hb] at f
    exact zP f Z (pFA aC6 Z) λa f=>zL f d aZ m0 Z λa w f d=>zQ (v:=.bool (aR c_.Wide 1 1000)) f d (eN 53) Z (λw d=>dP c_.Wide 1 1000 d Z) λa w f d=>sp 2 f Z λa f=>aN ⟨f.kp Z,d⟩
   ·rw [hb] at f
    exact sp 5 f Z λa f=>aN ⟨f.kp Z,d⟩
  intro a w ⟨f,d⟩
  refine sp 1 f Z λa f=>cV 5 (λa=>Has 37 a [(1,pq J),(24,.bool (((!(aR c_.Car 0 1000)) || (!(aR c_.Wide 1 1000))) || (!(aR c_.Sag 1 10000))))]) d ?_ ?_
  ·cases hb:((!(aR c_.Car 0 1000)) || (!(aR c_.Wide 1 1000)))
   ·rw [hb] at f
    exact zP f Z (pFA aDb Z) λa f=>zL f d aZ m0 Z λa w f d=>zQ (v:=.bool (aR c_.Sag 1 10000)) f d (eN 53) Z (λw d=>dP c_.Sag 1 10000 d Z) λa w f d=>sp 2 f Z λa f=>aN ⟨f.kp Z,d⟩
   ·rw [hb] at f
    exact sp 5 f Z λa f=>aN ⟨f.kp Z,d⟩
  intro a w ⟨f,d⟩
  refine sp 1 f Z λa f=>cV 5 (λa=>Has 37 a [(1,pq J),(30,.bool ((((!(aR c_.Car 0 1000)) || (!(aR c_.Wide 1 1000))) || (!(aR c_.Sag 1 10000))) || (!(aR c_.Most 0 10000000))))]) d ?_ ?_
  ·cases hb:(((!(aR c_.Car 0 1000)) || (!(aR c_.Wide 1 1000))) || (!(aR c_.Sag 1 10000)))
   ·rw [hb] at f
    exact zP f Z (pFA aC9 Z) λa f=>zL f d aZ m0 Z λa w f d=>zQ (v:=.bool (aR c_.Most 0 10000000)) f d (eN 53) Z (λw d=>dP c_.Most 0 10000000 d Z) λa w f d=>sp 2 f Z λa f=>aN ⟨f.kp Z,d⟩
   ·rw [hb] at f
    exact sp 5 f Z λa f=>aN ⟨f.kp Z,d⟩
  intro a w ⟨f,d⟩
  refine sp 1 f Z λa f=>aH F λO I F=>cV 5 (λa=>Has 37 a [(36,.bool O)]) d ?_ ?_
  ·cases hb:((((!(aR c_.Car 0 1000)) || (!(aR c_.Wide 1 1000))) || (!(aR c_.Sag 1 10000))) || (!(aR c_.Most 0 10000000)))
   ·rw [hb] at f
    refine have F:=eG hb I;zP f Z (pFA fR Z) λa f=>zL f d sL m0 Z λa w f d=>aH F λr hr F=>zQ (v:=.bool r) f d (eN 63) Z (λw d=>aA7 c_.Rides H d hr) λa w f d=>sp 2 f Z λa f=>?_
    obtain rfl:=sj F
    exact aN ⟨f.kp Z,d⟩
   ·rw [hb] at f
    have F:=cO hb I
    obtain rfl:=sj F
    exact sp 5 f Z λa f=>aN ⟨f.kp Z,d⟩
  intro a w ⟨f,d⟩
  refine sp 1 f Z λa f=>zT h (zI f Z F ?_ ?_) <;> intro F
  ·refine zS λK h=>sp 1 f Z λa f=>zT h (wp_ret (bG (aL ?_)))
   obtain rfl:=sj F
   exact have d:=d.drop k0;zO1 Tryz.results12 f Z ⟨Z,d⟩
  ·refine wp_skip (h2 _ _ (zS λK h=>sp 1 f Z λa f=>zT h (wp_ret ?_)))
   obtain rfl:=sj F
   exact have d:=d.drop k0;zO1 Tryz.results12 f Z ⟨Z,d⟩

def hY (r:aC) (n:Int):Bool :=
 ((decide (r.From≤n)) && (decide ((W (n - r.From)) < r.Long)))
theorem xF (r:aC) (n:Int) (d:Ctx G (Lf) w) {B:Bool} (F:hY r n=B):Cz G 104 #[.agg #[i6 r.From,i6 r.Long,i6 r.Weight.Lo,i6 r.Weight.Hi],i6 n] w (.bool B) (Lf):=by
 refine bY Tryz.func104 Z Tryz.ntmps104 Z λa f=>zS λK h=>zB f d Z λD a w f d=>sp 1 f Z λa f=>zT h (zS λK h=>sp 1 f Z λa f=>zP f Z (pFA vH Z) λa f=>zL f d aZ m0 Z λa w f d=>sp 2 f Z λa f=>cV 8 (λa=>Has 18 a [(4,.bool false),(17,.bool ((decide (r.From≤n)) && (decide ((W (n - r.From)) < r.Long))))]) d ?_ ?_)
 ·cases hb:(decide (r.From≤n))
  ·rw [hb] at f
   exact sp 8 f Z λa f=>aN ⟨f.kp Z,d⟩
  ·rw [hb] at f
   exact sp 1 f Z λa f=>zP f Z (pFA vH Z) λa f=>zL f d aZ m0 Z λa w f d=>sp 1 f Z λa f=>zP f Z (pFA aEm Z) λa f=>zL f d aZ m0 Z λa w f d=>sp 2 f Z λa f=>aN ⟨f.kp Z,d⟩
 intro a w ⟨f,d⟩
 refine sp 1 f Z λa f=>zT h (wp_ret ?_)
 obtain rfl:=F
 exact have d:=d.drop k0;zO1 Tryz.results104 f Z ⟨Z,d⟩

def uR (N:Nat) (l:List Int) (out:Int) (x:Int):Option (bC (Int × Int) (Int)) :=
 cond (decide (x < ((l.length:Nat):Int)))
 (Option.bind (aQ l x) λB=>
 some (.cont (W (out + B),W (x + 1))))
 (some (.brk (out,x)))
def aAp (N:Nat) (l:List Int):Option (Int) :=
 Option.bind (aS (λs5=>uR N l s5.1 s5.2) N (0,0)) λx5=>
 exK x5 (λs5=>some s5.1) some
theorem aF8 {H:Option Addr} {I:Nat} (l:List Int) (V:Rd G 1 H I (l.map aF)) (d:Ctx G (Lf) w) {D:Int} (F:aAp N l=some D):Cz G 126 #[.slice H l.length I] w (i6 D) (Lf):=by
 refine bY Tryz.func126 Z Tryz.ntmps126 Z λa f=>zS λK h=>sp 1 f Z λa f=>zT h (zS λK h=>sp 1 f Z λa f=>zT h (wp_seq_k λK3 h3=>zS λK h=>sp 1 f Z λa f=>zP f Z (bA Tryz.underlying22 Z) λa f=>sp 1 f Z λa f=>zT h (wp_block ?_)))
 obtain ⟨x5,R,F⟩:=cU F
 let S5:(Int × Int)→Act→World→Prop:=(λ(zz:Int × Int) a w=>Has 17 a [(3,i6 zz.1),(6,.slice H l.length I),(7,i6 ((l.length:Nat):Int)),(8,i6 zz.2)]∧Ctx G (Lf) w)
 have O:∀ (zz:Int × Int) a w,x5=.go zz→S5 zz a w→K3 a w:=by
  rintro ⟨out,x⟩ a w rfl ⟨f,d⟩
  refine have F:=bI F;h3 _ _ (zS λK h=>sp 2 f Z λa f=>zT h (wp_ret ?_))
  obtain rfl:=sj F
  exact zO1 Tryz.results126 f Z ⟨Z,d⟩
 have X:∀ r,x5=.out r→r=D:=by
  rintro r rfl
  exact sj F
 refine cF N (cE (S:=S5) (x:=x5) ?_ N (0,0) _ _ ⟨f.kp Z,d⟩ R)
 clear F f d
 rintro ⟨out,x⟩ Y a w KB5 ⟨f,d⟩ F B M
 refine zS λK h=>sp 1 f Z λa f=>zT h (wp_seq_k λK8 h8=>zI f Z F ?_ ?_) <;> intro F
 ·refine wp_skip (h8 _ _ (wp_seq_k λK9 h9=>wp_block (zS λK h=>aH F λU J F=>?_)))
  obtain ⟨b,o,qa,qp⟩:=V.atm J
  exact zP f Z (pIA Tryz.underlying22 cS Z Z qa) λa f=>zE f d Z (bB aZ Z (aV (j:=0) qp Z)) λa w f d=>sp 1 f Z λa f=>zT h (bK (sp 4 f Z λa f=>aN (h9 _ _ (bK (sp 2 f Z λa f=>aN (M (W (out + U),W (x + 1)) _ _ (sj F).symm ⟨f.kp Z,d⟩))))))
 ·exact wp_exit (aP (aP (have B:=cB F B;cX (O _ _ _ B ⟨f.kp Z,d⟩))))

def qO (N:Nat) (x:Int) (B:List Int):Option (bC ((List Int) × Int) (Int)) :=
 some (.cont (B,W (x + 1)))
def aD7 (N:Nat) (c_:aJ) (n:Int) (l:List Int) (x:Int):Option (bC ((List Int) × Int) (Int)) :=
 cond (decide (x < ((c_.Rides.length:Nat):Int)))
 (Option.bind (aQ c_.Rides x) λB=>
 cond (hY B n)
 (Option.bind (room ((l++[(eO B.Weight)])).length) λun=>
 qO N x (l++[(eO B.Weight)]))
 (qO N x l))
 (some (.brk (l,x)))
def oC (N:Nat) (c_:aJ) (n:Int):Option (Int) :=
 Option.bind (aS (λs5=>aD7 N c_ n s5.1 s5.2) N (([c_.Car]:List Int),0)) λx5=>
 exK x5 (λs5=>Option.bind (aAp N s5.1) λr=>
 some r) some
theorem yL {B:Option Addr} {D:Nat} (c_:aJ) (n:Int) (O:Rd G 4 B D (c_.Rides.map aI)) (d:Ctx G (Lf) w) {Y:Int} (F:oC N c_ n=some Y):Cz G 93 #[.agg #[i6 c_.Car,i6 c_.Wide,i6 c_.Sag,i6 c_.Most,.slice B c_.Rides.length D],i6 n,.agg #[.func (.func 124) #[] #[]]] w (i6 Y) (Lf):=by
 refine bY Tryz.func93 Z Tryz.ntmps93 Z λa f=>zS λK h=>zB f d Z λad a w f d=>zB f d Z λU a w f d=>sp 1 f Z λa f=>zT h (zS λK h=>zP f Z (pFA xX Z) λa f=>zL f d aZ m1 Z λa w f d=>gN (rows:=([c_.Car]:List Int).map aF) (vs:=[(0,i6 c_.Car)]) f d Z Z eV Z ⟨Z,Z,Z,trivial⟩ Z Z λt a w f d=>sp 1 f Z λa f=>zT h (wp_seq_k λK3 h3=>zS λK h=>?_))
 refine zP f Z (pFA fR Z) λa f=>zL f d sL m2 Z λa w f d=>zP f Z (bA Tryz.underlying35 Z) λa f=>sp 1 f Z λa f=>zT h (wp_block (aH F λx5 p F=>?_))
 let S5:((List Int) × Int)→Act→World→Prop:=(λ(zz:(List Int) × Int) a w=>∃ (J:Option Addr) (I:Nat),Has 34 a [(1,i6 n),(5,pq U),(7,.slice J zz.1.length I),(14,.slice B c_.Rides.length D),(15,i6 ((c_.Rides.length:Nat):Int)),(16,i6 zz.2)]∧Ctx G (.row J I (zz.1.map aF) 3 1::.box U [.func (.func 124) #[] #[]] 151::Lf) w)
 have m:∀ (zz:(List Int) × Int) a w,x5=.go zz→S5 zz a w→K3 a w:=by
  rintro ⟨l,x⟩ a w rfl ⟨J,I,f,d⟩
  refine have F:=bI F;h3 _ _ (zS λK h=>sp 1 f Z λa f=>aH F λr hr F=>zQ (v:=i6 r) f d (eN 126) Z (λw d=>by obtain ⟨G1,z,j,d,i⟩:=lend d k0;exact (aF8 l j d hr).mono λe w h=>⟨h.1,((i _ _ h.2).unpick k0)⟩) λa w f d=>sp 1 f Z λa f=>zT h (wp_ret ?_))
  obtain rfl:=sj F
  exact have d:=(d.drop k1).drop k0;zO1 Tryz.results93 f Z ⟨Z,d⟩
 have aa:∀ r,x5=.out r→r=Y:=by
  rintro r rfl
  exact sj F
 refine have d:=d.drop k2;cF N (cE (S:=S5) (x:=x5) ?_ N (([c_.Car]:List Int),0) _ _ ⟨(sa t),1,f.kp Z,d⟩ p)
 clear F f d
 rintro ⟨l,x⟩ s a w KB5 ⟨J,I,f,d⟩ F M k
 refine zS λK h=>sp 1 f Z λa f=>zT h (wp_seq_k λK8 h8=>zI f Z F ?_ ?_) <;> intro F
 ·refine wp_skip (h8 _ _ (wp_seq_k λK9 h9=>?_))
  have b:∀ (R:List Int) (X:Option Addr) (V:Nat) a w,Has 34 a [(1,i6 n),(5,pq U),(7,.slice X R.length V),(14,.slice B c_.Rides.length D),(15,i6 ((c_.Rides.length:Nat):Int)),(16,i6 x)]→Ctx G (.row X V (R.map aF) 3 1::.box U [.func (.func 124) #[] #[]] 151::Lf) w→qO N x R=some s→K9 a w:=by
   repeat first | clear F | clear d | clear f
   intro R X V a w f d F
   unfold qO at F
   exact h9 _ _ (bK (sp 2 f Z λa f=>aN (k (R,W (x + 1)) _ _ (sj F).symm ⟨X,V,f.kp Z,d⟩)))
  refine wp_block (zS λK h=>aH F λH g F=>?_)
  obtain ⟨af,o,qa,qp⟩:=O.atm g
  refine zP f Z (pIA Tryz.underlying35 tD Z Z qa) λa f=>zE f d Z (iY (vs:=[i6 H.From,i6 H.Long,i6 H.Weight.Lo,i6 H.Weight.Hi]) vA Z Z (cY qp (n:=4) (o':=0) Z)) λa w f d=>zA f d aIy Z λab a w f d=>zW f d tD u0 Z λw d=>zT h (zS λK h=>zN f d vA m0 Z λa w f d=>sp 1 f Z λa f=>zQ (v:=.bool (hY H n)) f d (eN 104) Z (λw d=>xF H n d Z) λa w f d=>zT h (zI f Z F ?_ ?_)) <;> intro F
  ·exact bK (sp 1 f Z λa f=>zP f Z (pFA aAu Z) λa f=>zL f d aFd m2 Z λa w f d=>zP f Z (pFA zM Z) λa f=>zN f d rG m0 Z λa w f d=>zQ (v:=i6 (eO H.Weight)) f d (eN 124) Z (λw d=>aAa H.Weight d Z) λa w f d=>gN (rows:=([(eO H.Weight)]:List Int).map aF) (vs:=[(0,i6 (eO H.Weight))]) f d Z Z eV Z ⟨Z,Z,Z,trivial⟩ Z Z λac a w f d=>aH F λun q F=>mV (xs:=l) (ys:=([(eO H.Weight)]:List Int)) f d Z Z eV Z Z Z Z Z bQ (gL d m0) (λ_ _=>u2) (by simpa using cZ q) λy u a w f d=>sp 1 f Z λa f=>aN (have d:=(d.drop k1).drop k0;b (l++[(eO H.Weight)]) y u _ _  (f.kp Z) d F))
  ·exact wp_skip (have d:=d.drop k0;b l J I _ _  (f.kp Z) d F)
 ·exact wp_exit (aP (aP (have M:=cB F M;cX (m _ _ _ M ⟨J,I,f.kp Z,d⟩))))

def nN (N:Nat) (x:Int) (B:List Int):Option (bC ((List Int) × Int) (Int)) :=
 some (.cont (B,W (x + 1)))
def aB0 (N:Nat) (c_:aJ) (n:Int) (l:List Int) (x:Int):Option (bC ((List Int) × Int) (Int)) :=
 cond (decide (x < ((c_.Rides.length:Nat):Int)))
 (Option.bind (aQ c_.Rides x) λB=>
 cond (hY B n)
 (Option.bind (room ((l++[(dR B.Weight)])).length) λun=>
 nN N x (l++[(dR B.Weight)]))
 (nN N x l))
 (some (.brk (l,x)))
def fC (N:Nat) (c_:aJ) (n:Int):Option (Int) :=
 Option.bind (aS (λs5=>aB0 N c_ n s5.1 s5.2) N (([c_.Car]:List Int),0)) λx5=>
 exK x5 (λs5=>Option.bind (aAp N s5.1) λr=>
 some r) some
theorem sB {B:Option Addr} {D:Nat} (c_:aJ) (n:Int) (O:Rd G 4 B D (c_.Rides.map aI)) (d:Ctx G (Lf) w) {Y:Int} (F:fC N c_ n=some Y):Cz G 93 #[.agg #[i6 c_.Car,i6 c_.Wide,i6 c_.Sag,i6 c_.Most,.slice B c_.Rides.length D],i6 n,.agg #[.func (.func 125) #[] #[]]] w (i6 Y) (Lf):=by
 refine bY Tryz.func93 Z Tryz.ntmps93 Z λa f=>zS λK h=>zB f d Z λad a w f d=>zB f d Z λU a w f d=>sp 1 f Z λa f=>zT h (zS λK h=>zP f Z (pFA xX Z) λa f=>zL f d aZ m1 Z λa w f d=>gN (rows:=([c_.Car]:List Int).map aF) (vs:=[(0,i6 c_.Car)]) f d Z Z eV Z ⟨Z,Z,Z,trivial⟩ Z Z λt a w f d=>sp 1 f Z λa f=>zT h (wp_seq_k λK3 h3=>zS λK h=>?_))
 refine zP f Z (pFA fR Z) λa f=>zL f d sL m2 Z λa w f d=>zP f Z (bA Tryz.underlying35 Z) λa f=>sp 1 f Z λa f=>zT h (wp_block (aH F λx5 p F=>?_))
 let S5:((List Int) × Int)→Act→World→Prop:=(λ(zz:(List Int) × Int) a w=>∃ (J:Option Addr) (I:Nat),Has 34 a [(1,i6 n),(5,pq U),(7,.slice J zz.1.length I),(14,.slice B c_.Rides.length D),(15,i6 ((c_.Rides.length:Nat):Int)),(16,i6 zz.2)]∧Ctx G (.row J I (zz.1.map aF) 3 1::.box U [.func (.func 125) #[] #[]] 151::Lf) w)
 have m:∀ (zz:(List Int) × Int) a w,x5=.go zz→S5 zz a w→K3 a w:=by
  rintro ⟨l,x⟩ a w rfl ⟨J,I,f,d⟩
  refine have F:=bI F;h3 _ _ (zS λK h=>sp 1 f Z λa f=>aH F λr hr F=>zQ (v:=i6 r) f d (eN 126) Z (λw d=>by obtain ⟨G1,z,j,d,i⟩:=lend d k0;exact (aF8 l j d hr).mono λe w h=>⟨h.1,((i _ _ h.2).unpick k0)⟩) λa w f d=>sp 1 f Z λa f=>zT h (wp_ret ?_))
  obtain rfl:=sj F
  exact have d:=(d.drop k1).drop k0;zO1 Tryz.results93 f Z ⟨Z,d⟩
 have aa:∀ r,x5=.out r→r=Y:=by
  rintro r rfl
  exact sj F
 refine have d:=d.drop k2;cF N (cE (S:=S5) (x:=x5) ?_ N (([c_.Car]:List Int),0) _ _ ⟨(sa t),1,f.kp Z,d⟩ p)
 clear F f d
 rintro ⟨l,x⟩ s a w KB5 ⟨J,I,f,d⟩ F M k
 refine zS λK h=>sp 1 f Z λa f=>zT h (wp_seq_k λK8 h8=>zI f Z F ?_ ?_) <;> intro F
 ·refine wp_skip (h8 _ _ (wp_seq_k λK9 h9=>?_))
  have b:∀ (R:List Int) (X:Option Addr) (V:Nat) a w,Has 34 a [(1,i6 n),(5,pq U),(7,.slice X R.length V),(14,.slice B c_.Rides.length D),(15,i6 ((c_.Rides.length:Nat):Int)),(16,i6 x)]→Ctx G (.row X V (R.map aF) 3 1::.box U [.func (.func 125) #[] #[]] 151::Lf) w→nN N x R=some s→K9 a w:=by
   repeat first | clear F | clear d | clear f
   intro R X V a w f d F
   unfold nN at F
   exact h9 _ _ (bK (sp 2 f Z λa f=>aN (k (R,W (x + 1)) _ _ (sj F).symm ⟨X,V,f.kp Z,d⟩)))
  refine wp_block (zS λK h=>aH F λH g F=>?_)
  obtain ⟨af,o,qa,qp⟩:=O.atm g
  refine zP f Z (pIA Tryz.underlying35 tD Z Z qa) λa f=>zE f d Z (iY (vs:=[i6 H.From,i6 H.Long,i6 H.Weight.Lo,i6 H.Weight.Hi]) vA Z Z (cY qp (n:=4) (o':=0) Z)) λa w f d=>zA f d aIy Z λab a w f d=>zW f d tD u0 Z λw d=>zT h (zS λK h=>zN f d vA m0 Z λa w f d=>sp 1 f Z λa f=>zQ (v:=.bool (hY H n)) f d (eN 104) Z (λw d=>xF H n d Z) λa w f d=>zT h (zI f Z F ?_ ?_)) <;> intro F
  ·exact bK (sp 1 f Z λa f=>zP f Z (pFA aAu Z) λa f=>zL f d aFd m2 Z λa w f d=>zP f Z (pFA zM Z) λa f=>zN f d rG m0 Z λa w f d=>zQ (v:=i6 (dR H.Weight)) f d (eN 125) Z (λw d=>yN H.Weight d Z) λa w f d=>gN (rows:=([(dR H.Weight)]:List Int).map aF) (vs:=[(0,i6 (dR H.Weight))]) f d Z Z eV Z ⟨Z,Z,Z,trivial⟩ Z Z λac a w f d=>aH F λun q F=>mV (xs:=l) (ys:=([(dR H.Weight)]:List Int)) f d Z Z eV Z Z Z Z Z bQ (gL d m0) (λ_ _=>u2) (by simpa using cZ q) λy u a w f d=>sp 1 f Z λa f=>aN (have d:=(d.drop k1).drop k0;b (l++[(dR H.Weight)]) y u _ _  (f.kp Z) d F))
  ·exact wp_skip (have d:=d.drop k0;b l J I _ _  (f.kp Z) d F)
 ·exact wp_exit (aP (aP (have M:=cB F M;cX (m _ _ _ M ⟨J,I,f.kp Z,d⟩))))

def sX (N:Nat) (c_:aJ) (n:Int):Option (aE × Int) :=
 Option.bind (fF N c_) λr=>
 cond (r != 0)
 (some ((⟨0,0⟩:aE),r))
 (cond (!(aR n 0 200000))
 (some ((⟨0,0⟩:aE),4))
 (Option.bind (oC N c_ n) λB=>
 Option.bind (fC N c_ n) λD=>
 some ((⟨B,D⟩:aE),0)))
theorem aEl {B:Option Addr} {D:Nat} (c_:aJ) (n:Int) (H:Rd G 4 B D (c_.Rides.map aI)) (d:Ctx G (Lf) w) {O:aE × Int} (F:sX N c_ n=some O):Cz G 46 #[.agg #[i6 c_.Car,i6 c_.Wide,i6 c_.Sag,i6 c_.Most,.slice B c_.Rides.length D],i6 n] w (.tuple #[.agg #[i6 O.1.Lo,i6 O.1.Hi],i6 O.2]) (Lf):=by
 refine bY Tryz.func46 Z Tryz.ntmps46 Z λa f=>zS λK h=>zB f d Z λS a w f d=>zA f d aE8 Z λM a w f d=>sp 1 f Z λa f=>zT h (zS λK h=>zN f d lC m1 Z λa w f d=>aH F λr hr F=>zQ (v:=i6 r) f d (eN 12) Z (λw d=>nL c_ H d hr) λa w f d=>sp 1 f Z λa f=>zT h (wp_seq_k λK3 h3=>wp_block ?_))
 refine zS λK h=>sp 3 f Z λa f=>zT h (zI f Z F ?_ ?_) <;> intro F
 ·refine zS λK h=>zP f Z (bS (cells:=[i6 0,i6 0]) aBn Z Z) λa f=>sp 1 f Z λa f=>zW f d uS u0 Z λw d=>sp 1 f Z λa f=>zT h (wp_ret (bG (aL ?_)))
  obtain rfl:=sj F
  exact have d:=d.drop k1;xI (by simp) Z Tryz.results46 f d (eE (vs:=[i6 0,i6 0]) rG Z Z (bT (n:=2) m0 Z)) (show kH _ 5=_ from Z) ⟨Z,(d.drop k0)⟩
 ·refine zS λK h=>sp 1 f Z λa f=>zQ (v:=.bool (aR n 0 200000)) f d (eN 53) Z (λw d=>dP n 0 200000 d Z) λa w f d=>sp 2 f Z λa f=>zT h (zI f Z F ?_ ?_) <;> intro F
  ·refine zS λK h=>zP f Z (bS (cells:=[i6 0,i6 0]) aBn Z Z) λa f=>zW f d uS u0 Z λw d=>sp 1 f Z λa f=>zT h (wp_ret (bG (aL ?_)))
   obtain rfl:=sj F
   exact have d:=d.drop k1;xI (by simp) Z Tryz.results46 f d (eE (vs:=[i6 0,i6 0]) rG Z Z (bT (n:=2) m0 Z)) (show kH _ 5=_ from Z) ⟨Z,(d.drop k0)⟩
  ·refine wp_skip (h3 _ _ (wp_seq_k λK8 h8=>aH F λI V F=>aH F λJ U F=>jV (λθ=>[f0 1 (i6 n),f0 2 (pq S),f0 4 (pq M),⟨none,some 10,5,i6 0⟩,f1 0 19 (.agg #[i6 c_.Car,i6 c_.Wide,i6 c_.Sag,i6 c_.Most,.slice B c_.Rides.length D]),f1 1 20 (i6 n),f1 2 21 (.agg #[.func (.func 124) #[] #[]]),f1 3 22 (i6 I),f1 4 23 (.agg #[i6 c_.Car,i6 c_.Wide,i6 c_.Sag,i6 c_.Most,.slice B c_.Rides.length D]),f1 5 24 (i6 n),f1 6 25 (.agg #[.func (.func 125) #[] #[]]),f1 7 26 (i6 J),f1 8 27 (.agg #[i6 I,i6 J]),f1 10 5 (i6 0)]) (λE θ=>(bif E 9 then .box M [i6 I,i6 J] 43 else .box M [i6 0,i6 0] 43)::.box S [i6 c_.Car,i6 c_.Wide,i6 c_.Sag,i6 c_.Most,.slice B c_.Rides.length D] 37::Lf) [] (λa w=>Has 28 a [(4,pq M),(5,i6 0)]∧Ctx G (.box M [i6 I,i6 J] 43::.box S [i6 c_.Car,i6 c_.Wide,i6 c_.Sag,i6 c_.Most,.slice B c_.Rides.length D] 37::Lf) w) aU (by kernel_rfl) (by kernel_rfl) (iW.of f ⟨Z,Z,Z,Z,trivial,trivial,trivial,trivial,trivial,trivial,trivial,trivial,trivial,trivial,trivial⟩) d ⟨?_,?_,?_,?_,?_,?_,?_,?_,?_,?_,?_,trivial⟩ ?_ ?_))
   ·exact λE θ a w hD hi hp he d=>have f:=he.h0.mT he 1 Z;zN f d lC m1 Z λa w f d=>zD θ he hi f 4 Z Z Z d
   ·exact λE θ a w hD hi hp he d=>have f:=he.h0.mT he 0 Z;sp 1 f Z λa f=>zD θ he hi f 5 Z Z Z d
   ·exact λE θ a w hD hi hp he d=>have f:=he.h0;zQ (v:=.agg #[.func (.func 124) #[] #[]]) f d (eN 88) Z (λw d=>aCb d Z) λa w f d=>zD θ he hi f 6 Z Z Z d
   ·exact λE θ a w hD hi hp he d=>have e0:=hp.o 0 Z;have e1:=hp.o 1 Z;have e2:=hp.o 2 Z;have f:=((he.h0.mP he 4 Z e0).mP he 5 Z e1).mP he 6 Z e2;zQ (v:=i6 I) f d (eN 93) Z (λw d=>yL c_ n H d V) λa w f d=>zD θ he hi f 7 Z Z Z d
   ·exact λE θ a w hD hi hp he d=>have f:=he.h0.mT he 1 Z;zN f d lC m1 Z λa w f d=>zD θ he hi f 8 Z Z Z d
   ·exact λE θ a w hD hi hp he d=>have f:=he.h0.mT he 0 Z;sp 1 f Z λa f=>zD θ he hi f 9 Z Z Z d
   ·exact λE θ a w hD hi hp he d=>have f:=he.h0;zQ (v:=.agg #[.func (.func 125) #[] #[]]) f d (eN 89) Z (λw d=>xU d Z) λa w f d=>zD θ he hi f 10 Z Z Z d
   ·exact λE θ a w hD hi hp he d=>have e4:=hp.o 4 Z;have e5:=hp.o 5 Z;have e6:=hp.o 6 Z;have f:=((he.h0.mP he 8 Z e4).mP he 9 Z e5).mP he 10 Z e6;zQ (v:=i6 J) f d (eN 93) Z (λw d=>sB c_ n H d U) λa w f d=>zD θ he hi f 11 Z Z Z d
   ·exact λE θ a w hD hi hp he d=>have e3:=hp.o 3 Z;have e7:=hp.o 7 Z;have f:=(he.h0.mP he 7 Z e3).mP he 11 Z e7;zP f Z (bS (cells:=[i6 I,i6 J]) aBn Z Z) λa f=>zD θ he hi f 12 Z Z Z d
   ·refine λE θ a w hD hi hp he d=>have e8:=hp.o 8 Z;?_
    try dsimp only at d
    rw [hi] at d
    refine have f:=(he.h0.mT he 2 Z).mP he 12 Z e8;zW f d uS u0 Z λw d=>zG θ he hi f Z ?_
    try dsimp only
    rw [bE E 9]
    exact d
   ·exact λE θ a w hD hi hp he d=>have f:=he.h0;sp 1 f Z λa f=>zD θ he hi f 13 Z Z Z d
   ·refine λE θ a w R he d=>have f:=he.h0;have e9:=R 9 Z;have X:=R 10 Z;have f:=f.more he 13 Z (onP X);have f:=f.more he 2 Z (onT);?_
    try dsimp only at d
    rw [e9] at d
    exact ⟨f.kp Z,d⟩
   rintro a w ⟨f,d⟩
   refine h8 _ _ (wp_ret ?_)
   obtain rfl:=sj F
   exact have d:=d.drop k1;xI (by simp) Z Tryz.results46 f d (eE (vs:=[i6 I,i6 J]) rG Z Z (bT (n:=2) m0 Z)) (show kH _ 5=_ from Z) ⟨Z,(d.drop k0)⟩

def nQ (N:Nat) (s_:List Int):Option ((List Int)) :=
 Option.bind (room (s_).length) λun=>
 some s_
theorem aAc {I:Option Addr} {D:Nat} (s_:List Int) (H:Rd G 1 I D (s_.map aF)) (d:Ctx G (Lf) w) {B:(List Int)} (F:nQ N s_=some B):Calls Tryz.prog 127 #[.slice I s_.length D] w (λe w=>∃ (J:Option Addr) (M:Nat),e=.returned (.slice J B.length M)∧Ctx G (.row J M (B.map aF) 3 1::Lf) w):=by
 refine bY Tryz.func127 Z Tryz.ntmps127 Z λa f=>zS λK h=>sp 1 f Z λa f=>zT h (wp_seq_k λK2 h2=>zS λK h=>sp 1 f Z λa f=>zP f Z (pEqN Tryz.underlying22 Z Z) λa f=>zT h ?_)
 rcases aM0 H with ⟨hp,hx⟩ | hp
 ·rw [hp] at f
  replace F:(some ([]:List Int))=some B:=by
   try rw [hx] at F
   exact F
  refine aMf f Z (zS λK h=>sp 1 f Z λa f=>zT h (wp_ret (aL ?_)))
  obtain rfl:=sj F
  exact have d:=d.nilRow 3 1;zO1 Tryz.results127 f Z ⟨none,0,Z,d⟩
 ·rw [hp] at f
  refine aMe f Z (wp_skip (h2 _ _ (zS λK h=>gN (rows:=([]:List Int).map aF) (vs:=[]) f d Z Z eV Z trivial Z Z λU a w f d=>sp 1 f Z λa f=>aH F λun S F=>mV (xs:=([]:List Int)) (ys:=s_) f d Z Z eV Z Z Z Z Z bQ (aDn d H) (λ_ _=>u0) (by simpa using cZ S) λR O a w f d=>sp 1 f Z λa f=>zT h (wp_ret ?_))))
  obtain rfl:=sj F
  exact zO1 Tryz.results127 f Z ⟨R,O,Z,d⟩

def lB (N:Nat) (x:List Int):Option ((List Int)) :=
 aIq x
/-! ### Walks of the library -/

theorem aA0 {H:Option Addr} {D:Nat} (x:List Int) (d:Ctx G (.row H D (x.map aF) 3 1::Lf) w) {B:(List Int)} (F:lB N x=some B):Calls Tryz.prog 128 #[.slice H x.length D] w (λe w=>e=.returned (.tuple #[])∧B.length=x.length∧Ctx G (.row H D (B.map aF) 3 1::Lf) w):=by
 unfold lB at F
 exact aQe (λw=>aP0 Go.Proofs.Tryz.lays189 w) (λb o c zs w h1 h2 h3=>Go.Proofs.Any.slices_Sort_int Go.Proofs.Tryz.lays189 b o c zs w h1 h2 h3) d F

def lZ (N:Nat) (s_:List Int):Option ((List Int)) :=
 aR7 s_
/-! ### Walks of the library -/

theorem yM {H:Option Addr} {B:Nat} (s_:List Int) (d:Ctx G (.row H B (s_.map aF) 3 1::Lf) w) {D:(List Int)} (F:lZ N s_=some D):Calls Tryz.prog 129 #[.slice H s_.length B] w (λe w=>∃ (I:Option Addr) (J:Nat),e=.returned (.slice I D.length J)∧Ctx G (.row I J (D.map aF) 3 1::Lf) w):=by
 unfold lZ at F
 exact aKl (λa c w=>Go.Proofs.Any.slices_Compact_int_empty Go.Proofs.Tryz.lays20 a c w) (λb o c zs w h1 h2 h3=>Go.Proofs.Any.slices_Compact_int Go.Proofs.Tryz.lays20 b o c zs w h1 h2 h3) d F

def gF (N:Nat) (c_:aJ) (out:List Int) (x:Int):Option (bC ((List Int) × Int) ((List Int))) :=
 cond (decide (x < ((c_.Rides.length:Nat):Int)))
 (Option.bind (aQ c_.Rides x) λB=>
 Option.bind (room ((out++[B.From])).length) λun=>
 some (.cont ((out++[B.From]),W (x + 1))))
 (some (.brk (out,x)))
def lW (N:Nat) (c_:aJ):Option ((List Int)) :=
 Option.bind (aS (λs5=>gF N c_ s5.1 s5.2) N (([0]:List Int),0)) λx5=>
 exK x5 (λs5=>Option.bind (nQ N s5.1) λr=>
 Option.bind (lB N r) λB=>
 Option.bind (lZ N B) λD=>
 some D) some
theorem aCd {B:Option Addr} {D:Nat} (c_:aJ) (J:Rd G 4 B D (c_.Rides.map aI)) (d:Ctx G (Lf) w) {R:(List Int)} (F:lW N c_=some R):Calls Tryz.prog 95 #[.agg #[i6 c_.Car,i6 c_.Wide,i6 c_.Sag,i6 c_.Most,.slice B c_.Rides.length D]] w (λe w=>∃ (U:Option Addr) (V:Nat),e=.returned (.slice U R.length V)∧Ctx G (.row U V (R.map aF) 3 1::Lf) w):=by
 refine bY Tryz.func95 Z Tryz.ntmps95 Z λa f=>zS λK h=>zB f d Z λai a w f d=>sp 1 f Z λa f=>zT h (zS λK h=>gN (rows:=([0]:List Int).map aF) (vs:=[(0,i6 0)]) f d Z Z eV Z ⟨Z,Z,Z,trivial⟩ Z Z λz a w f d=>sp 1 f Z λa f=>zT h (wp_seq_k λK3 h3=>zS λK h=>zP f Z (pFA fR Z) λa f=>zL f d sL m1 Z λa w f d=>zP f Z (bA Tryz.underlying35 Z) λa f=>?_))
 refine sp 1 f Z λa f=>zT h (wp_block (aH F λx5 m F=>?_))
 let S5:((List Int) × Int)→Act→World→Prop:=(λ(zz:(List Int) × Int) a w=>∃ (O:Option Addr) (M:Nat),Has 27 a [(3,.slice O zz.1.length M),(9,.slice B c_.Rides.length D),(10,i6 ((c_.Rides.length:Nat):Int)),(11,i6 zz.2)]∧Ctx G (.row O M (zz.1.map aF) 3 1::Lf) w)
 have q:∀ (zz:(List Int) × Int) a w,x5=.go zz→S5 zz a w→K3 a w:=by
  rintro ⟨out,x⟩ a w rfl ⟨O,M,f,d⟩
  refine have F:=bI F;h3 _ _ (zS λK h=>sp 1 f Z λa f=>aH F λr hr F=>?_)
  obtain ⟨G1,ab,g,d,b⟩:=lend d k0
  refine zC f (eN 127) Z (aAc out g d hr) ?_
  rintro _ w ⟨an,am,rfl,d⟩
  refine ⟨_,Z,λa f=>have d:=b _ _ d;sp 1 f Z λa f=>zT h (zS λK h=>sp 1 f Z λa f=>aH F λu i F=>zC f (eN 128) Z (aA0 r (d.pick k1) i) ?_)⟩
  rintro _ w ⟨rfl,hl,d⟩
  refine ⟨_,Z,λa f=>?_⟩
  try rw [← hl] at f
  try rw [← hl] at d
  refine zT h (zS λK h=>sp 1 f Z λa f=>aH F λak X F=>zC f (eN 129) Z (yM u (d.pick k0) X) ?_)
  rintro _ w ⟨aa,v,rfl,d⟩
  refine ⟨_,Z,λa f=>sp 1 f Z λa f=>zT h (wp_ret ?_)⟩
  obtain rfl:=sj F
  exact have d:=d.drop k1;zO1 Tryz.results95 f Z ⟨aa,v,Z,d⟩
 have ac:∀ r,x5=.out r→r=R:=by
  rintro r rfl
  exact sj F
 refine have d:=d.drop k1;cF N (cE (S:=S5) (x:=x5) ?_ N (([0]:List Int),0) _ _ ⟨(sa z),1,f.kp Z,d⟩ m)
 clear F f d
 rintro ⟨out,x⟩ ad a w KB5 ⟨O,M,f,d⟩ F I p
 refine zS λK h=>sp 1 f Z λa f=>zT h (wp_seq_k λK10 y=>zI f Z F ?_ ?_) <;> intro F
 ·refine wp_skip (y _ _ (wp_seq_k λK11 k=>wp_block (zS λK h=>aH F λH Y F=>?_)))
  obtain ⟨ag,o,qa,qp⟩:=J.atm Y
  refine zP f Z (pIA Tryz.underlying35 tD Z Z qa) λa f=>zE f d Z (iY (vs:=[i6 H.From,i6 H.Long,i6 H.Weight.Lo,i6 H.Weight.Hi]) vA Z Z (cY qp (n:=4) (o':=0) Z)) λa w f d=>zA f d aIy Z λaj a w f d=>zW f d tD u0 Z λw d=>zT h (bK (sp 1 f Z λa f=>zP f Z (pFA vH Z) λa f=>zL f d aZ m0 Z λa w f d=>gN (rows:=([H.From]:List Int).map aF) (vs:=[(0,i6 H.From)]) f d Z Z eV Z ⟨Z,Z,Z,trivial⟩ Z Z λaf a w f d=>aH F λun s F=>mV (xs:=out) (ys:=([H.From]:List Int)) f d Z Z eV Z Z Z Z Z bQ (gL d m0) (λ_ _=>u2) (by simpa using cZ s) λj t a w f d=>sp 1 f Z λa f=>aN ?_))
  exact k _ _ (bK (sp 2 f Z λa f=>aN (have d:=(d.drop k1).drop k0;p ((out++[H.From]),W (x + 1)) _ _ (sj F).symm ⟨j,t,f.kp Z,d⟩)))
 ·exact wp_exit (aP (aP (have I:=cB F I;cX (q _ _ _ I ⟨O,M,f.kp Z,d⟩))))

def cC (c_:aJ) (B:Int):Bool :=
 (decide ((W (c_.Most * c_.Sag)) < (W ((W (B * c_.Wide)) * 25))))
theorem lL {B:Option Addr} {D:Nat} (c_:aJ) (H:Int) (I:Rd G 4 B D (c_.Rides.map aI)) (d:Ctx G (Lf) w) {J:Bool} (F:cC c_ H=J):Cz G 99 #[.agg #[i6 c_.Car,i6 c_.Wide,i6 c_.Sag,i6 c_.Most,.slice B c_.Rides.length D],i6 H] w (.bool J) (Lf):=by
 refine bY Tryz.func99 Z Tryz.ntmps99 Z λa f=>zS λK h=>zB f d Z λM a w f d=>sp 1 f Z λa f=>zT h (zS λK h=>sp 1 f Z λa f=>zP f Z (pFA aC6 Z) λa f=>zL f d aZ m0 Z λa w f d=>sp 2 f Z λa f=>zP f Z (pFA aC9 Z) λa f=>zL f d aZ m0 Z λa w f d=>zP f Z (pFA aDb Z) λa f=>zL f d aZ m0 Z λa w f d=>?_)
 refine sp 3 f Z λa f=>zT h (wp_ret ?_)
 obtain rfl:=F
 exact have d:=d.drop k0;zO1 Tryz.results99 f Z ⟨Z,d⟩

def uA (N:Nat) (n:Int) (x:aJ):Option (Bool) :=
 Option.bind (fC N (⟨x.Car,x.Wide,x.Sag,x.Most,x.Rides⟩:aJ) n) λr=>
 some (cC (⟨x.Car,x.Wide,x.Sag,x.Most,x.Rides⟩:aJ) r)
theorem aDu {b_ B I:Nat} {D:Option Addr} (n:Int) (x:aJ) (H:Rd G 4 D B (x.Rides.map aI)) (d:Ctx G (.box b_ [i6 x.Car,i6 x.Wide,i6 x.Sag,i6 x.Most,.slice D x.Rides.length B] 37::.box I [.func (.func 125) #[] #[]] 151::Lf) w) {J:Bool} (F:uA N n x=some J):Cz G 98 #[i6 n,pq b_,pq I] w (.bool J) (.box b_ [i6 x.Car,i6 x.Wide,i6 x.Sag,i6 x.Most,.slice D x.Rides.length B] 37::.box I [.func (.func 125) #[] #[]] 151::Lf):=by
 refine bY Tryz.func98 Z Tryz.ntmps98 Z λa f=>zS λK h=>sp 1 f Z λa f=>zT h (wp_seq_k λK2 h2=>aH F λr hr F=>cQ d aU (by kernel_rfl) (qV f Z (iY (vs:=[i6 x.Car,i6 x.Wide,i6 x.Sag,i6 x.Most,.slice D x.Rides.length B]) lC Z Z (bT (n:=5) m0 Z)) λa f=>qV f Z (iY (vs:=[i6 x.Car,i6 x.Wide,i6 x.Sag,i6 x.Most,.slice D x.Rides.length B]) lC Z Z (bT (n:=5) m0 Z)) λa f=>qp_ 1 f Z λa f=>qV f Z (iY (vs:=[.func (.func 125) #[] #[]]) aJs Z Z (bT (n:=1) m1 Z)) λa f=>qV f Z (eC (v:=i6 r) (vs:=[.agg #[i6 x.Car,i6 x.Wide,i6 x.Sag,i6 x.Most,.slice D x.Rides.length B],i6 n,.agg #[.func (.func 125) #[] #[]]]) (caps:=[]) (eN 93) Z Z Z Z (λw d=>sB (⟨x.Car,x.Wide,x.Sag,x.Most,x.Rides⟩:aJ) n H d hr)) λa f=>qV f Z (eC (v:=.bool (cC (⟨x.Car,x.Wide,x.Sag,x.Most,x.Rides⟩:aJ) r)) (vs:=[.agg #[i6 x.Car,i6 x.Wide,i6 x.Sag,i6 x.Most,.slice D x.Rides.length B],i6 r]) (caps:=[]) (eN 99) Z Z Z Z (λw d=>lL (⟨x.Car,x.Wide,x.Sag,x.Most,x.Rides⟩:aJ) r H d Z)) λa f=>qp_ 1 f Z λa f=>?_))
 refine λw d=>h2 _ _ (wp_ret ?_)
 obtain rfl:=sj F
 exact zO1 Tryz.results98 f Z ⟨Z,d⟩

def dL (N:Nat) (s_:List Int) (f_:aJ) (x:Int):Option (bC (Int) (Int)) :=
 cond (decide (x < ((s_.length:Nat):Int)))
 (Option.bind (aQ s_ x) λB=>
 Option.bind (uA N B f_) λr=>
 cond r
 (some (.ret x))
 (some (.cont (W (x + 1)))))
 (some (.brk x))
def mK (N:Nat) (s_:List Int) (f_:aJ):Option (Int) :=
 Option.bind (aS (λs4=>dL N s_ f_ s4) N 0) λx4=>
 exK x4 (λs4=>some (-1)) some
theorem vR {O B:Option Addr} {M b_ D I:Nat} (s_:List Int) (f_:aJ) (U:Rd G 1 O M (s_.map aF)) (J:Rd G 4 B D (f_.Rides.map aI)) (d:Ctx G (.box b_ [i6 f_.Car,i6 f_.Wide,i6 f_.Sag,i6 f_.Most,.slice B f_.Rides.length D] 37::.box I [.func (.func 125) #[] #[]] 151::Lf) w) {R:Int} (F:mK N s_ f_=some R):Cz G 97 #[.slice O s_.length M,.func (.func 98) #[] #[pq b_,pq I]] w (i6 R) (.box b_ [i6 f_.Car,i6 f_.Wide,i6 f_.Sag,i6 f_.Most,.slice B f_.Rides.length D] 37::.box I [.func (.func 125) #[] #[]] 151::Lf):=by
 refine bY Tryz.func97 Z Tryz.ntmps97 Z λa f=>zS λK h=>sp 1 f Z λa f=>zT h (wp_seq_k λK2 h2=>zS λK h=>sp 1 f Z λa f=>zP f Z (bA Tryz.underlying22 Z) λa f=>sp 1 f Z λa f=>zT h (wp_block (aH F λx4 i F=>?_)))
 let S4:Int→Act→World→Prop:=(λ(zz:Int) a w=>Has 19 a [(0,.slice O s_.length M),(1,.func (.func 98) #[] #[pq b_,pq I]),(7,i6 ((s_.length:Nat):Int)),(8,i6 zz)]∧Ctx G (.box b_ [i6 f_.Car,i6 f_.Wide,i6 f_.Sag,i6 f_.Most,.slice B f_.Rides.length D] 37::.box I [.func (.func 125) #[] #[]] 151::Lf) w)
 have b:∀ (zz:Int) a w,x4=.go zz→S4 zz a w→K2 a w:=by
  rintro x a w rfl ⟨f,d⟩
  refine have F:=bI F;h2 _ _ (zS λK h=>sp 1 f Z λa f=>zT h (wp_ret ?_))
  obtain rfl:=sj F
  exact zO1 Tryz.results97 f Z ⟨Z,d⟩
 have X:∀ r,x4=.out r→r=R:=by
  rintro r rfl
  exact sj F
 refine cF N (cE (S:=S4) (x:=x4) ?_ N 0 _ _ ⟨f.kp Z,d⟩ i)
 clear F f d
 rintro x k a w KB4 ⟨f,d⟩ F H g
 refine zS λK h=>sp 1 f Z λa f=>zT h (wp_seq_k λK7 h7=>zI f Z F ?_ ?_) <;> intro F
 ·refine wp_skip (h7 _ _ (wp_seq_k λK8 h8=>wp_block (zS λK h=>sp 2 f Z λa f=>zT h (zS λK h=>sp 3 f Z λa f=>aH F λY V F=>?_))))
  obtain ⟨m,o,qa,qp⟩:=U.atm V
  refine zP f Z (pIA Tryz.underlying22 cS Z Z qa) λa f=>zE f d Z (bB aZ Z (aV (j:=0) qp Z)) λa w f d=>aH F λr hr F=>zQ (v:=.bool r) f d (eN 98) Z (λw d=>(aDu Y f_ J ((d.pick k1).pick k1) hr).mono λe w h=>⟨h.1,((h.2.unpick k1).unpick k1)⟩) λa w f d=>zT h (zI f Z F ?_ ?_) <;> intro F
  ·refine zS λK h=>sp 2 f Z λa f=>zT h (wp_ret (bG (aL (aL (have H:=cB F H;have F:=X _ H;bG (aL ?_))))))
   obtain rfl:=F
   exact zO1 Tryz.results97 f Z ⟨Z,d⟩
  ·exact wp_skip (h8 _ _ (bK (sp 2 f Z λa f=>aN (g (W (x + 1)) _ _ (sj F).symm ⟨f.kp Z,d⟩))))
 ·exact wp_exit (aP (aP (have H:=cB F H;cX (b _ _ _ H ⟨f.kp Z,d⟩))))

def wS (N:Nat) (x:List Int) (B:aJ):Option (Int) :=
 Option.bind (mK N x B) λr=>
 cond (r == (-1))
 (some (-1))
 (Option.bind (aQ x r) λD=>
 some D)
theorem aFg {b_ O J B:Nat} {M D:Option Addr} (x:List Int) (H:aJ) (S:Rd G 1 M O (x.map aF)) (I:Rd G 4 D B (H.Rides.map aI)) (d:Ctx G (.box b_ [.slice M x.length O] 22::.box J [i6 H.Car,i6 H.Wide,i6 H.Sag,i6 H.Most,.slice D H.Rides.length B] 37::Lf) w) {R:Int} (F:wS N x H=some R):Cz G 96 #[.agg #[.func (.func 125) #[] #[]],pq b_,pq J] w (i6 R) (.box b_ [.slice M x.length O] 22::.box J [i6 H.Car,i6 H.Wide,i6 H.Sag,i6 H.Most,.slice D H.Rides.length B] 37::Lf):=by
 refine bY Tryz.func96 Z Tryz.ntmps96 Z λa f=>zS λK h=>zB f d Z λV a w f d=>sp 1 f Z λa f=>zT h (zS λK h=>zL f d eL m1 Z λa w f d=>zP f Z (pMF (us:=[pq J,pq V]) Z Z) λa f=>aH F λr hr F=>zQ (v:=i6 r) f d (eN 97) Z (λw d=>(vR x H S I ((d.pick k0).pick k2) hr).mono λe w h=>⟨h.1,((h.2.unpick k2).unpick k0)⟩) λa w f d=>sp 1 f Z λa f=>zT h (wp_seq_k λK3 h3=>zS λK h=>?_))
 refine sp 2 f Z λa f=>zT h (zI f Z F ?_ ?_) <;> intro F
 ·refine zS λK h=>sp 1 f Z λa f=>zT h (wp_ret (aL ?_))
  obtain rfl:=sj F
  exact have d:=d.drop k0;zO1 Tryz.results96 f Z ⟨Z,d⟩
 ·refine wp_skip (h3 _ _ (zS λK h=>zL f d eL m1 Z λa w f d=>sp 1 f Z λa f=>aH F λX U F=>?_))
  obtain ⟨Y,o,qa,qp⟩:=S.atm U
  refine zP f Z (pIA Tryz.underlying22 cS Z Z qa) λa f=>zE f d Z (bB aZ Z (aV (j:=0) qp Z)) λa w f d=>sp 1 f Z λa f=>zT h (wp_ret ?_)
  obtain rfl:=sj F
  exact have d:=d.drop k0;zO1 Tryz.results96 f Z ⟨Z,d⟩

def qX (N:Nat) (n:Int) (x:aJ):Option (Bool) :=
 Option.bind (oC N (⟨x.Car,x.Wide,x.Sag,x.Most,x.Rides⟩:aJ) n) λr=>
 some (cC (⟨x.Car,x.Wide,x.Sag,x.Most,x.Rides⟩:aJ) r)
theorem aBx {b_ B I:Nat} {D:Option Addr} (n:Int) (x:aJ) (H:Rd G 4 D B (x.Rides.map aI)) (d:Ctx G (.box b_ [i6 x.Car,i6 x.Wide,i6 x.Sag,i6 x.Most,.slice D x.Rides.length B] 37::.box I [.func (.func 124) #[] #[]] 151::Lf) w) {J:Bool} (F:qX N n x=some J):Cz G 98 #[i6 n,pq b_,pq I] w (.bool J) (.box b_ [i6 x.Car,i6 x.Wide,i6 x.Sag,i6 x.Most,.slice D x.Rides.length B] 37::.box I [.func (.func 124) #[] #[]] 151::Lf):=by
 refine bY Tryz.func98 Z Tryz.ntmps98 Z λa f=>zS λK h=>sp 1 f Z λa f=>zT h (wp_seq_k λK2 h2=>aH F λr hr F=>cQ d aU (by kernel_rfl) (qV f Z (iY (vs:=[i6 x.Car,i6 x.Wide,i6 x.Sag,i6 x.Most,.slice D x.Rides.length B]) lC Z Z (bT (n:=5) m0 Z)) λa f=>qV f Z (iY (vs:=[i6 x.Car,i6 x.Wide,i6 x.Sag,i6 x.Most,.slice D x.Rides.length B]) lC Z Z (bT (n:=5) m0 Z)) λa f=>qp_ 1 f Z λa f=>qV f Z (iY (vs:=[.func (.func 124) #[] #[]]) aJs Z Z (bT (n:=1) m1 Z)) λa f=>qV f Z (eC (v:=i6 r) (vs:=[.agg #[i6 x.Car,i6 x.Wide,i6 x.Sag,i6 x.Most,.slice D x.Rides.length B],i6 n,.agg #[.func (.func 124) #[] #[]]]) (caps:=[]) (eN 93) Z Z Z Z (λw d=>yL (⟨x.Car,x.Wide,x.Sag,x.Most,x.Rides⟩:aJ) n H d hr)) λa f=>qV f Z (eC (v:=.bool (cC (⟨x.Car,x.Wide,x.Sag,x.Most,x.Rides⟩:aJ) r)) (vs:=[.agg #[i6 x.Car,i6 x.Wide,i6 x.Sag,i6 x.Most,.slice D x.Rides.length B],i6 r]) (caps:=[]) (eN 99) Z Z Z Z (λw d=>lL (⟨x.Car,x.Wide,x.Sag,x.Most,x.Rides⟩:aJ) r H d Z)) λa f=>qp_ 1 f Z λa f=>?_))
 refine λw d=>h2 _ _ (wp_ret ?_)
 obtain rfl:=sj F
 exact zO1 Tryz.results98 f Z ⟨Z,d⟩

def dK (N:Nat) (s_:List Int) (f_:aJ) (x:Int):Option (bC (Int) (Int)) :=
 cond (decide (x < ((s_.length:Nat):Int)))
 (Option.bind (aQ s_ x) λB=>
 Option.bind (qX N B f_) λr=>
 cond r
 (some (.ret x))
 (some (.cont (W (x + 1)))))
 (some (.brk x))
def mH (N:Nat) (s_:List Int) (f_:aJ):Option (Int) :=
 Option.bind (aS (λs4=>dK N s_ f_ s4) N 0) λx4=>
 exK x4 (λs4=>some (-1)) some
theorem vX {O B:Option Addr} {M b_ D I:Nat} (s_:List Int) (f_:aJ) (U:Rd G 1 O M (s_.map aF)) (J:Rd G 4 B D (f_.Rides.map aI)) (d:Ctx G (.box b_ [i6 f_.Car,i6 f_.Wide,i6 f_.Sag,i6 f_.Most,.slice B f_.Rides.length D] 37::.box I [.func (.func 124) #[] #[]] 151::Lf) w) {R:Int} (F:mH N s_ f_=some R):Cz G 97 #[.slice O s_.length M,.func (.func 98) #[] #[pq b_,pq I]] w (i6 R) (.box b_ [i6 f_.Car,i6 f_.Wide,i6 f_.Sag,i6 f_.Most,.slice B f_.Rides.length D] 37::.box I [.func (.func 124) #[] #[]] 151::Lf):=by
 refine bY Tryz.func97 Z Tryz.ntmps97 Z λa f=>zS λK h=>sp 1 f Z λa f=>zT h (wp_seq_k λK2 h2=>zS λK h=>sp 1 f Z λa f=>zP f Z (bA Tryz.underlying22 Z) λa f=>sp 1 f Z λa f=>zT h (wp_block (aH F λx4 i F=>?_)))
 let S4:Int→Act→World→Prop:=(λ(zz:Int) a w=>Has 19 a [(0,.slice O s_.length M),(1,.func (.func 98) #[] #[pq b_,pq I]),(7,i6 ((s_.length:Nat):Int)),(8,i6 zz)]∧Ctx G (.box b_ [i6 f_.Car,i6 f_.Wide,i6 f_.Sag,i6 f_.Most,.slice B f_.Rides.length D] 37::.box I [.func (.func 124) #[] #[]] 151::Lf) w)
 have b:∀ (zz:Int) a w,x4=.go zz→S4 zz a w→K2 a w:=by
  rintro x a w rfl ⟨f,d⟩
  refine have F:=bI F;h2 _ _ (zS λK h=>sp 1 f Z λa f=>zT h (wp_ret ?_))
  obtain rfl:=sj F
  exact zO1 Tryz.results97 f Z ⟨Z,d⟩
 have X:∀ r,x4=.out r→r=R:=by
  rintro r rfl
  exact sj F
 refine cF N (cE (S:=S4) (x:=x4) ?_ N 0 _ _ ⟨f.kp Z,d⟩ i)
 clear F f d
 rintro x k a w KB4 ⟨f,d⟩ F H g
 refine zS λK h=>sp 1 f Z λa f=>zT h (wp_seq_k λK7 h7=>zI f Z F ?_ ?_) <;> intro F
 ·refine wp_skip (h7 _ _ (wp_seq_k λK8 h8=>wp_block (zS λK h=>sp 2 f Z λa f=>zT h (zS λK h=>sp 3 f Z λa f=>aH F λY V F=>?_))))
  obtain ⟨m,o,qa,qp⟩:=U.atm V
  refine zP f Z (pIA Tryz.underlying22 cS Z Z qa) λa f=>zE f d Z (bB aZ Z (aV (j:=0) qp Z)) λa w f d=>aH F λr hr F=>zQ (v:=.bool r) f d (eN 98) Z (λw d=>(aBx Y f_ J ((d.pick k1).pick k1) hr).mono λe w h=>⟨h.1,((h.2.unpick k1).unpick k1)⟩) λa w f d=>zT h (zI f Z F ?_ ?_) <;> intro F
  ·refine zS λK h=>sp 2 f Z λa f=>zT h (wp_ret (bG (aL (aL (have H:=cB F H;have F:=X _ H;bG (aL ?_))))))
   obtain rfl:=F
   exact zO1 Tryz.results97 f Z ⟨Z,d⟩
  ·exact wp_skip (h8 _ _ (bK (sp 2 f Z λa f=>aN (g (W (x + 1)) _ _ (sj F).symm ⟨f.kp Z,d⟩))))
 ·exact wp_exit (aP (aP (have H:=cB F H;cX (b _ _ _ H ⟨f.kp Z,d⟩))))

def sY (N:Nat) (x:List Int) (B:aJ):Option (Int) :=
 Option.bind (mH N x B) λr=>
 cond (r == (-1))
 (some (-1))
 (Option.bind (aQ x r) λD=>
 some D)
theorem aDf {b_ O J B:Nat} {M D:Option Addr} (x:List Int) (H:aJ) (S:Rd G 1 M O (x.map aF)) (I:Rd G 4 D B (H.Rides.map aI)) (d:Ctx G (.box b_ [.slice M x.length O] 22::.box J [i6 H.Car,i6 H.Wide,i6 H.Sag,i6 H.Most,.slice D H.Rides.length B] 37::Lf) w) {R:Int} (F:sY N x H=some R):Cz G 96 #[.agg #[.func (.func 124) #[] #[]],pq b_,pq J] w (i6 R) (.box b_ [.slice M x.length O] 22::.box J [i6 H.Car,i6 H.Wide,i6 H.Sag,i6 H.Most,.slice D H.Rides.length B] 37::Lf):=by
 refine bY Tryz.func96 Z Tryz.ntmps96 Z λa f=>zS λK h=>zB f d Z λV a w f d=>sp 1 f Z λa f=>zT h (zS λK h=>zL f d eL m1 Z λa w f d=>zP f Z (pMF (us:=[pq J,pq V]) Z Z) λa f=>aH F λr hr F=>zQ (v:=i6 r) f d (eN 97) Z (λw d=>(vX x H S I ((d.pick k0).pick k2) hr).mono λe w h=>⟨h.1,((h.2.unpick k2).unpick k0)⟩) λa w f d=>sp 1 f Z λa f=>zT h (wp_seq_k λK3 h3=>zS λK h=>?_))
 refine sp 2 f Z λa f=>zT h (zI f Z F ?_ ?_) <;> intro F
 ·refine zS λK h=>sp 1 f Z λa f=>zT h (wp_ret (aL ?_))
  obtain rfl:=sj F
  exact have d:=d.drop k0;zO1 Tryz.results96 f Z ⟨Z,d⟩
 ·refine wp_skip (h3 _ _ (zS λK h=>zL f d eL m1 Z λa w f d=>sp 1 f Z λa f=>aH F λX U F=>?_))
  obtain ⟨Y,o,qa,qp⟩:=S.atm U
  refine zP f Z (pIA Tryz.underlying22 cS Z Z qa) λa f=>zE f d Z (bB aZ Z (aV (j:=0) qp Z)) λa w f d=>sp 1 f Z λa f=>zT h (wp_ret ?_)
  obtain rfl:=sj F
  exact have d:=d.drop k0;zO1 Tryz.results96 f Z ⟨Z,d⟩

def oN (N:Nat) (c_:aJ):Option (Int × Int × Int) :=
 Option.bind (fF N c_) λr=>
 cond (r != 0)
 (some (0,0,r))
 (Option.bind (lW N c_) λB=>
 Option.bind (wS N B c_) λH=>
 Option.bind (sY N B c_) λD=>
 some (H,D,0))
theorem aB9 {D:Option Addr} {H:Nat} (c_:aJ) (B:Rd G 4 D H (c_.Rides.map aI)) (d:Ctx G (Lf) w) {O:Int × Int × Int} (F:oN N c_=some O):Cz G 48 #[.agg #[i6 c_.Car,i6 c_.Wide,i6 c_.Sag,i6 c_.Most,.slice D c_.Rides.length H]] w (.tuple #[i6 O.1,i6 O.2.1,i6 O.2.2]) (Lf):=by
 refine bY Tryz.func48 Z Tryz.ntmps48 Z λa f=>zS λK h=>zB f d Z λY a w f d=>sp 3 f Z λa f=>zT h (wp_seq_k λK2 h2=>zS λK h=>zN f d lC m0 Z λa w f d=>aH F λr hr F=>zQ (v:=i6 r) f d (eN 12) Z (λw d=>nL c_ B d hr) λa w f d=>sp 1 f Z λa f=>zT h (zS λK h=>sp 2 f Z λa f=>?_))
 refine zT h (zI f Z F ?_ ?_) <;> intro F
 ·refine zS λK h=>sp 4 f Z λa f=>zT h (wp_ret (aL ?_))
  obtain rfl:=sj F
  exact have d:=d.drop k0;zO3 Tryz.results48 f Z Z Z ⟨Z,d⟩
 ·refine wp_skip (h2 _ _ (zS λK h=>zN f d lC m0 Z λa w f d=>aH F λR V F=>zC f (eN 95) Z (aCd c_ B d V) ?_))
  rintro _ w ⟨j,i,rfl,d⟩
  refine ⟨_,Z,λa f=>zA f d aSc Z λb a w f d=>zW f d lN u0 Z λw d=>zT h (zS λK h=>zP f Z (pMF (us:=[pq b,pq Y]) Z Z) λa f=>sp 1 f Z λa f=>zT h (zS λK h=>sp 1 f Z λa f=>zQ (v:=.agg #[.func (.func 125) #[] #[]]) f d (eN 89) Z (λw d=>xU d Z) λa w f d=>aH F λg S F=>zQ (v:=i6 g) f d (eN 96) Z (λw d=>by obtain ⟨G1,I,M,d,J⟩:=lend d k1;exact (aFg R c_ M (B.mono I) ((d.pick k1).pick k1) S).mono λe w h=>⟨h.1,((J _ _ ((h.2.unpick k1).unpick k1)).unpick k1)⟩) λa w f d=>sp 1 f Z λa f=>?_))⟩
  refine zQ (v:=.agg #[.func (.func 124) #[] #[]]) f d (eN 88) Z (λw d=>aCb d Z) λa w f d=>aH F λX U F=>zQ (v:=i6 X) f d (eN 96) Z (λw d=>by obtain ⟨G1,I,M,d,J⟩:=lend d k1;exact (aDf R c_ M (B.mono I) ((d.pick k1).pick k1) U).mono λe w h=>⟨h.1,((J _ _ ((h.2.unpick k1).unpick k1)).unpick k1)⟩) λa w f d=>sp 3 f Z λa f=>zT h (wp_ret ?_)
  obtain rfl:=sj F
  exact have d:=((d.drop k2).drop k1).drop k0;zO3 Tryz.results48 f Z Z Z ⟨Z,d⟩

def aBd (r:aC) (x:aJ):Bool :=
 (!(cC (⟨x.Car,x.Wide,x.Sag,x.Most,x.Rides⟩:aJ) (W (x.Car + r.Weight.Hi))))
theorem aGf {b_ B:Nat} {D:Option Addr} (r:aC) (x:aJ) (H:Rd G 4 D B (x.Rides.map aI)) (d:Ctx G (.box b_ [i6 x.Car,i6 x.Wide,i6 x.Sag,i6 x.Most,.slice D x.Rides.length B] 37::Lf) w) {I:Bool} (F:aBd r x=I):Cz G 101 #[.agg #[i6 r.From,i6 r.Long,i6 r.Weight.Lo,i6 r.Weight.Hi],pq b_] w (.bool I) (.box b_ [i6 x.Car,i6 x.Wide,i6 x.Sag,i6 x.Most,.slice D x.Rides.length B] 37::Lf):=by
 refine bY Tryz.func101 Z Tryz.ntmps101 Z λa f=>zS λK h=>zB f d Z λJ a w f d=>sp 1 f Z λa f=>zT h (zS λK h=>zN f d lC m1 Z λa w f d=>zP f Z (pFA xX Z) λa f=>zL f d aZ m1 Z λa w f d=>zP f Z (pFA zM Z) λa f=>zP f Z (pFA kY Z) λa f=>zL f d aZ m0 Z λa w f d=>sp 1 f Z λa f=>zQ (v:=.bool (cC (⟨x.Car,x.Wide,x.Sag,x.Most,x.Rides⟩:aJ) (W (x.Car + r.Weight.Hi)))) f d (eN 99) Z (λw d=>lL (⟨x.Car,x.Wide,x.Sag,x.Most,x.Rides⟩:aJ) (W (x.Car + r.Weight.Hi)) H d Z) λa w f d=>?_)
 refine sp 2 f Z λa f=>zT h (wp_ret ?_)
 obtain rfl:=F
 exact have d:=d.drop k0;zO1 Tryz.results101 f Z ⟨Z,d⟩

def jT (x:aC) (B:aJ):Bool :=
 (!(aBd (⟨x.From,x.Long,x.Weight⟩:aC) B))
theorem xL {b_ J D:Nat} {H:Option Addr} (x:aC) (B:aJ) (I:Rd G 4 H D (B.Rides.map aI)) (d:Ctx G (.box b_ [.func (.func 101) #[] #[pq J]] 122::.box J [i6 B.Car,i6 B.Wide,i6 B.Sag,i6 B.Most,.slice H B.Rides.length D] 37::Lf) w) {M:Bool} (F:jT x B=M):Cz G 112 #[.agg #[i6 x.From,i6 x.Long,i6 x.Weight.Lo,i6 x.Weight.Hi],pq b_] w (.bool M) (.box b_ [.func (.func 101) #[] #[pq J]] 122::.box J [i6 B.Car,i6 B.Wide,i6 B.Sag,i6 B.Most,.slice H B.Rides.length D] 37::Lf):=by
 refine bY Tryz.func112 Z Tryz.ntmps112 Z λa f=>zS λK h=>zB f d Z λO a w f d=>sp 1 f Z λa f=>zT h (zS λK h=>zL f d aPa m1 Z λa w f d=>zN f d vA m0 Z λa w f d=>zQ (v:=.bool (aBd (⟨x.From,x.Long,x.Weight⟩:aC) B)) f d (eN 101) Z (λw d=>(aGf (⟨x.From,x.Long,x.Weight⟩:aC) B I (d.pick k2) Z).mono λe w h=>⟨h.1,(h.2.unpick k2)⟩) λa w f d=>sp 2 f Z λa f=>zT h (wp_ret ?_))
 obtain rfl:=F
 exact have d:=d.drop k0;zO1 Tryz.results112 f Z ⟨Z,d⟩

def qJ (N:Nat) (s_:List aC) (f_:aJ) (x:Int):Option (bC (Int) (Int)) :=
 cond (decide (x < ((s_.length:Nat):Int)))
 (Option.bind (aQ s_ x) λB=>
 cond (jT B f_)
 (some (.ret x))
 (some (.cont (W (x + 1)))))
 (some (.brk x))
def fO (N:Nat) (s_:List aC) (f_:aJ):Option (Int) :=
 Option.bind (aS (λs4=>qJ N s_ f_ s4) N 0) λx4=>
 exK x4 (λs4=>some (-1)) some
theorem qI {R B:Option Addr} {O b_ I D:Nat} (s_:List aC) (f_:aJ) (V:Rd G 4 R O (s_.map aI)) (M:Rd G 4 B D (f_.Rides.map aI)) (d:Ctx G (.box b_ [.func (.func 101) #[] #[pq I]] 122::.box I [i6 f_.Car,i6 f_.Wide,i6 f_.Sag,i6 f_.Most,.slice B f_.Rides.length D] 37::Lf) w) {U:Int} (F:fO N s_ f_=some U):Cz G 132 #[.slice R s_.length O,.func (.func 112) #[] #[pq b_]] w (i6 U) (.box b_ [.func (.func 101) #[] #[pq I]] 122::.box I [i6 f_.Car,i6 f_.Wide,i6 f_.Sag,i6 f_.Most,.slice B f_.Rides.length D] 37::Lf):=by
 refine bY Tryz.func132 Z Tryz.ntmps132 Z λa f=>zS λK h=>sp 1 f Z λa f=>zT h (wp_seq_k λK2 h2=>zS λK h=>sp 1 f Z λa f=>zP f Z (bA Tryz.underlying35 Z) λa f=>sp 1 f Z λa f=>zT h (wp_block (aH F λx4 i F=>?_)))
 let S4:Int→Act→World→Prop:=(λ(zz:Int) a w=>Has 19 a [(0,.slice R s_.length O),(1,.func (.func 112) #[] #[pq b_]),(7,i6 ((s_.length:Nat):Int)),(8,i6 zz)]∧Ctx G (.box b_ [.func (.func 101) #[] #[pq I]] 122::.box I [i6 f_.Car,i6 f_.Wide,i6 f_.Sag,i6 f_.Most,.slice B f_.Rides.length D] 37::Lf) w)
 have b:∀ (zz:Int) a w,x4=.go zz→S4 zz a w→K2 a w:=by
  rintro x a w rfl ⟨f,d⟩
  refine have F:=bI F;h2 _ _ (zS λK h=>sp 1 f Z λa f=>zT h (wp_ret ?_))
  obtain rfl:=sj F
  exact zO1 Tryz.results132 f Z ⟨Z,d⟩
 have Y:∀ r,x4=.out r→r=U:=by
  rintro r rfl
  exact sj F
 refine cF N (cE (S:=S4) (x:=x4) ?_ N 0 _ _ ⟨f.kp Z,d⟩ i)
 clear F f d
 rintro x j a w KB4 ⟨f,d⟩ F H g
 refine zS λK h=>sp 1 f Z λa f=>zT h (wp_seq_k λK7 h7=>zI f Z F ?_ ?_) <;> intro F
 ·refine wp_skip (h7 _ _ (wp_seq_k λK8 h8=>wp_block (zS λK h=>sp 2 f Z λa f=>zT h (zS λK h=>sp 3 f Z λa f=>aH F λJ X F=>?_))))
  obtain ⟨k,o,qa,qp⟩:=V.atm X
  refine zP f Z (pIA Tryz.underlying35 tD Z Z qa) λa f=>zE f d Z (iY (vs:=[i6 J.From,i6 J.Long,i6 J.Weight.Lo,i6 J.Weight.Hi]) vA Z Z (cY qp (n:=4) (o':=0) Z)) λa w f d=>zQ (v:=.bool (jT J f_)) f d (eN 112) Z (λw d=>(xL J f_ M ((d.pick k1).pick k1) Z).mono λe w h=>⟨h.1,((h.2.unpick k1).unpick k1)⟩) λa w f d=>zT h (zI f Z F ?_ ?_) <;> intro F
  ·refine zS λK h=>sp 2 f Z λa f=>zT h (wp_ret (bG (aL (aL (have H:=cB F H;have F:=Y _ H;bG (aL ?_))))))
   obtain rfl:=F
   exact zO1 Tryz.results132 f Z ⟨Z,d⟩
  ·exact wp_skip (h8 _ _ (bK (sp 2 f Z λa f=>aN (g (W (x + 1)) _ _ (sj F).symm ⟨f.kp Z,d⟩))))
 ·exact wp_exit (aP (aP (have H:=cB F H;cX (b _ _ _ H ⟨f.kp Z,d⟩))))

def eU (N:Nat) (s_:List aC) (f_:aJ):Option (Bool) :=
 Option.bind (fO N s_ f_) λr=>
 some (decide (0≤r))
theorem oZ {M B:Option Addr} {J b_ I D:Nat} (s_:List aC) (f_:aJ) (R:Rd G 4 M J (s_.map aI)) (H:Rd G 4 B D (f_.Rides.map aI)) (d:Ctx G (.box b_ [.func (.func 101) #[] #[pq I]] 122::.box I [i6 f_.Car,i6 f_.Wide,i6 f_.Sag,i6 f_.Most,.slice B f_.Rides.length D] 37::Lf) w) {O:Bool} (F:eU N s_ f_=some O):Cz G 111 #[.slice M s_.length J,.func (.func 112) #[] #[pq b_]] w (.bool O) (.box b_ [.func (.func 101) #[] #[pq I]] 122::.box I [i6 f_.Car,i6 f_.Wide,i6 f_.Sag,i6 f_.Most,.slice B f_.Rides.length D] 37::Lf):=by
 refine bY Tryz.func111 Z Tryz.ntmps111 Z λa f=>zS λK h=>sp 1 f Z λa f=>zT h (zS λK h=>sp 2 f Z λa f=>aH F λr hr F=>zQ (v:=i6 r) f d (eN 132) Z (λw d=>(qI s_ f_ R H ((d.pick k1).pick k1) hr).mono λe w h=>⟨h.1,((h.2.unpick k1).unpick k1)⟩) λa w f d=>sp 2 f Z λa f=>zT h (wp_ret ?_))
 obtain rfl:=sj F
 exact zO1 Tryz.results111 f Z ⟨Z,d⟩

def lU (N:Nat) (l:List aC) (so:aJ):Option (Bool) :=
 Option.bind (eU N l so) λr=>
 some (!r)
theorem yP {J B:Option Addr} {M b_ D:Nat} (l:List aC) (so:aJ) (O:Rd G 4 J M (l.map aI)) (H:Rd G 4 B D (so.Rides.map aI)) (d:Ctx G (.box b_ [i6 so.Car,i6 so.Wide,i6 so.Sag,i6 so.Most,.slice B so.Rides.length D] 37::Lf) w) {I:Bool} (F:lU N l so=some I):Cz G 63 #[.slice J l.length M,.func (.func 101) #[] #[pq b_]] w (.bool I) (.box b_ [i6 so.Car,i6 so.Wide,i6 so.Sag,i6 so.Most,.slice B so.Rides.length D] 37::Lf):=by
 refine bY Tryz.func63 Z Tryz.ntmps63 Z λa f=>zS λK h=>zB f d Z λR a w f d=>sp 1 f Z λa f=>zT h (zS λK h=>sp 1 f Z λa f=>zP f Z (pMF (us:=[pq R]) Z Z) λa f=>aH F λr hr F=>zQ (v:=.bool r) f d (eN 111) Z (λw d=>(oZ l so O H ((d.pick k1).pick k1) hr).mono λe w h=>⟨h.1,((h.2.unpick k1).unpick k1)⟩) λa w f d=>sp 2 f Z λa f=>zT h (wp_ret ?_))
 obtain rfl:=sj F
 exact have d:=d.drop k0;zO1 Tryz.results63 f Z ⟨Z,d⟩

def iV (N:Nat) (s_:List aC):Option ((List aC)) :=
 Option.bind (room (s_).length) λun=>
 some s_
theorem tJ {I:Option Addr} {D:Nat} (s_:List aC) (H:Rd G 4 I D (s_.map aI)) (d:Ctx G (Lf) w) {B:(List aC)} (F:iV N s_=some B):Calls Tryz.prog 102 #[.slice I s_.length D] w (λe w=>∃ (J:Option Addr) (M:Nat),e=.returned (.slice J B.length M)∧Ctx G (.row J M (B.map aI) 47 4::Lf) w):=by
 refine bY Tryz.func102 Z Tryz.ntmps102 Z λa f=>zS λK h=>sp 1 f Z λa f=>zT h (wp_seq_k λK2 h2=>zS λK h=>sp 1 f Z λa f=>zP f Z (pEqN Tryz.underlying35 Z Z) λa f=>zT h ?_)
 rcases aM0 H with ⟨hp,hx⟩ | hp
 ·rw [hp] at f
  replace F:(some ([]:List aC))=some B:=by
   try rw [hx] at F
   exact F
  refine aMf f Z (zS λK h=>sp 1 f Z λa f=>zT h (wp_ret (aL ?_)))
  obtain rfl:=sj F
  exact have d:=d.nilRow 47 4;zO1 Tryz.results102 f Z ⟨none,0,Z,d⟩
 ·rw [hp] at f
  refine aMe f Z (wp_skip (h2 _ _ (zS λK h=>gN (rows:=([]:List aC).map aI) (vs:=[]) f d Z Z aBo Z trivial Z Z λU a w f d=>sp 1 f Z λa f=>aH F λun S F=>mV (xs:=([]:List aC)) (ys:=s_) f d Z Z aBo Z Z Z Z Z dX (aDn d H) (λ_ _=>u0) (by simpa using cZ S) λR O a w f d=>sp 1 f Z λa f=>zT h (wp_ret ?_))))
  obtain rfl:=sj F
  exact zO1 Tryz.results102 f Z ⟨R,O,Z,d⟩

def xO (N:Nat) (c_:aJ) (r:aC):Option (Bool) :=
 Option.bind (fC N c_ r.From) λB=>
 some (cC c_ B)
theorem aD3 {B:Option Addr} {D:Nat} (c_:aJ) (r:aC) (H:Rd G 4 B D (c_.Rides.map aI)) (d:Ctx G (Lf) w) {J:Bool} (F:xO N c_ r=some J):Cz G 103 #[.agg #[i6 c_.Car,i6 c_.Wide,i6 c_.Sag,i6 c_.Most,.slice B c_.Rides.length D],.agg #[i6 r.From,i6 r.Long,i6 r.Weight.Lo,i6 r.Weight.Hi]] w (.bool J) (Lf):=by
 refine bY Tryz.func103 Z Tryz.ntmps103 Z λa f=>zS λK h=>zB f d Z λO a w f d=>zB f d Z λR a w f d=>sp 1 f Z λa f=>zT h (wp_seq_k λK2 h2=>aH F λI M F=>cQ d aU (by kernel_rfl) (qV f Z (iY (vs:=[i6 c_.Car,i6 c_.Wide,i6 c_.Sag,i6 c_.Most,.slice B c_.Rides.length D]) lC Z Z (bT (n:=5) m1 Z)) λa f=>qV f Z (iY (vs:=[i6 c_.Car,i6 c_.Wide,i6 c_.Sag,i6 c_.Most,.slice B c_.Rides.length D]) lC Z Z (bT (n:=5) m1 Z)) λa f=>qU f Z (pFA vH Z) λa f=>qV f Z (bB aZ Z (bN m0 Z)) λa f=>qV f Z (eC (v:=.agg #[.func (.func 125) #[] #[]]) (vs:=[]) (caps:=[]) (eN 89) Z Z Z Z (λw d=>xU d Z)) λa f=>?_))
 refine qV f Z (eC (v:=i6 I) (vs:=[.agg #[i6 c_.Car,i6 c_.Wide,i6 c_.Sag,i6 c_.Most,.slice B c_.Rides.length D],i6 r.From,.agg #[.func (.func 125) #[] #[]]]) (caps:=[]) (eN 93) Z Z Z Z (λw d=>sB c_ r.From H d M)) λa f=>qV f Z (eC (v:=.bool (cC c_ I)) (vs:=[.agg #[i6 c_.Car,i6 c_.Wide,i6 c_.Sag,i6 c_.Most,.slice B c_.Rides.length D],i6 I]) (caps:=[]) (eN 99) Z Z Z Z (λw d=>lL c_ I H d Z)) λa f=>qp_ 1 f Z λa f=>λw d=>h2 _ _ (wp_ret ?_)
 obtain rfl:=sj F
 exact have d:=(d.drop k1).drop k0;zO1 Tryz.results103 f Z ⟨Z,d⟩

def sH (N:Nat) (D:Int) (B:Int):Option (bC (Int × Int) (bC (Int × Int × (List aC)) (bC ((List Int) × Int × Int × (List aC)) ((List Int) × Int)))) :=
 some (.cont (B,W (D + 1)))
def nH (N:Nat) (J:List aC) (I:Int) (B:Int) (H:Int):Option (bC (Int × Int) (bC (Int × Int × (List aC)) (bC ((List Int) × Int × Int × (List aC)) ((List Int) × Int)))) :=
 cond (decide (H < ((J.length:Nat):Int)))
 (Option.bind (aQ J H) λD=>
 cond ((hY D I) && ((B == (-1)) || (decide ((W (D.From + D.Long)) < B))))
 (sH N H (W (D.From + D.Long)))
 (sH N H B))
 (some (.brk (B,H)))
def lF (N:Nat) (c_:aJ) (R:List aC) (I:aC) (H:Int) (J:Int) (B:List aC):Option (bC (Int × Int × (List aC)) (bC ((List Int) × Int × Int × (List aC)) ((List Int) × Int))) :=
 Option.bind (xO N (⟨c_.Car,c_.Wide,c_.Sag,c_.Most,B⟩:aJ) (⟨J,I.Long,I.Weight⟩:aC)) λM=>
 cond M
 (Option.bind (aS (λD=>nH N R H D.1 D.2) N ((-1),0)) λO=>
 exK O (λD=>Option.bind (aQ B (W (((B.length:Nat):Int) - 1))) λS=>
 some (.cont (D.1,D.1,(B.set (W (((B.length:Nat):Int) - 1)).toNat (⟨D.1,I.Long,I.Weight⟩:aC))))) some)
 (some (.brk (H,J,B)))
def pT (N:Nat) (c_:aJ) (out:List Int) (at_:Int) (x:Int) (H:List aC):Option (bC ((List Int) × Int × Int × (List aC)) ((List Int) × Int)) :=
 cond (decide (x < ((c_.Rides.length:Nat):Int)))
 (Option.bind (aQ c_.Rides x) λB=>
 Option.bind (iV N H) λI=>
 Option.bind (room ((I++[(⟨max at_ B.From,B.Long,B.Weight⟩:aC)])).length) λun=>
 Option.bind (aS (λD=>lF N c_ H B D.1 D.2.1 D.2.2) N (max at_ B.From,max at_ B.From,(I++[(⟨max at_ B.From,B.Long,B.Weight⟩:aC)]))) λJ=>
 exK J (λD=>Option.bind (room ((out++[D.1])).length) λM=>
 some (.cont ((out++[D.1]),D.1,W (x + 1),D.2.2))) some)
 (some (.brk (out,at_,x,H)))
def uL (N:Nat) (c_:aJ):Option ((List Int) × Int) :=
 Option.bind (fF N c_) λr=>
 cond (r != 0)
 (some (([]:List Int),r))
 (Option.bind (cond (cC c_ c_.Car) (some true) (Option.bind (lU N c_.Rides c_) λD=>
 some (!D))) λI=>
 cond I
 (some (([]:List Int),6))
 (Option.bind (aS (λB=>pT N c_ B.1 B.2.1 B.2.2.1 B.2.2.2) N (([]:List Int),0,0,([]:List aC))) λH=>
 exK H (λB=>some (B.1,0)) some))
theorem aDi {H:Option Addr} {D:Nat} (c_:aJ) (U:Rd G 4 H D (c_.Rides.map aI)) (d:Ctx G (Lf) w) {aq:(List Int) × Int} (F:uL N c_=some aq):Calls Tryz.prog 50 #[.agg #[i6 c_.Car,i6 c_.Wide,i6 c_.Sag,i6 c_.Most,.slice H c_.Rides.length D]] w (λe w=>∃ (bb:Option Addr) (bd:Nat),e=.returned (.tuple #[.slice bb aq.1.length bd,i6 aq.2])∧Ctx G (.row bb bd (aq.1.map aF) 3 1::Lf) w):=by
 refine bY Tryz.func50 Z Tryz.ntmps50 Z λa f=>zS λK h=>zB f d Z λbc a w f d=>sp 2 f Z λa f=>zT h (zS λK h=>zN f d lC m0 Z λa w f d=>aH F λr hr F=>zQ (v:=i6 r) f d (eN 12) Z (λw d=>nL c_ U d hr) λa w f d=>sp 1 f Z λa f=>zT h (wp_seq_k λK3 h3=>wp_block (zS λK h=>?_)))
 refine sp 3 f Z λa f=>zT h (zI f Z F ?_ ?_) <;> intro F
 ·refine zS λK h=>sp 3 f Z λa f=>zT h (wp_ret (bG (aL ?_)))
  obtain rfl:=sj F
  exact have d:=d.nilRow 3 1;have d:=d.drop k1;zO2 Tryz.results50 f Z Z ⟨none,0,Z,d⟩
 ·refine zS λK h=>zN f d lC m0 Z λa w f d=>zP f Z (pFA xX Z) λa f=>zL f d aZ m0 Z λa w f d=>zQ (v:=.bool (cC c_ c_.Car)) f d (eN 99) Z (λw d=>lL c_ c_.Car U d Z) λa w f d=>sp 1 f Z λa f=>aH F λb5 a1 F=>cV 6 (λa=>Has 105 a [(1,pq bc),(31,.bool b5)]) d ?_ ?_
  ·cases hb:(cC c_ c_.Car)
   ·rw [hb] at f
    refine have F:=eG hb a1;zP f Z (pFA fR Z) λa f=>zL f d sL m0 Z λa w f d=>zP f Z (pMF (us:=[pq bc]) Z Z) λa f=>aH F λca b4 F=>zQ (v:=.bool ca) f d (eN 63) Z (λw d=>(yP c_.Rides c_ U U (d.pick k0) b4).mono λe w h=>⟨h.1,(h.2.unpick k0)⟩) λa w f d=>sp 2 f Z λa f=>?_
    obtain rfl:=sj F
    exact aN ⟨f.kp Z,d⟩
   ·rw [hb] at f
    have F:=cO hb a1
    obtain rfl:=sj F
    exact sp 6 f Z λa f=>aN ⟨f.kp Z,d⟩
  intro a w ⟨f,d⟩
  refine sp 1 f Z λa f=>zT h (zI f Z F ?_ ?_) <;> intro F
  ·refine zS λK h=>sp 2 f Z λa f=>zT h (wp_ret (bG (aL ?_)))
   obtain rfl:=sj F
   exact have d:=d.nilRow 3 1;have d:=d.drop k1;zO2 Tryz.results50 f Z Z ⟨none,0,Z,d⟩
  ·refine wp_skip (h3 _ _ (zS λK h=>zN f d lC m0 Z λa w f d=>zA f d aE9 Z λV a w f d=>zW f d aDj u0 Z λw d=>zT h (zS λK h=>zP f Z (pFA fR Z) λa f=>zW f d aJa u0 Z λw d=>zT h (zS λK h=>sp 1 f Z λa f=>zT h ?_))))
   refine zS λK h=>sp 1 f Z λa f=>zT h (wp_seq_k λK12 cd=>zS λK h=>zP f Z (pFA fR Z) λa f=>zL f d sL m1 Z λa w f d=>zP f Z (bA Tryz.underlying35 Z) λa f=>sp 1 f Z λa f=>zT h (wp_block (aH F λa3 bt F=>?_)))
   let S14:((List Int) × Int × Int × (List aC))→Act→World→Prop:=(λ(zz:(List Int) × Int × Int × (List aC)) a w=>∃ (O:Option Addr) (R:Nat) (t:Option Addr) (s:Nat),Has 105 a [(5,pq V),(6,.slice O zz.1.length R),(7,i6 zz.2.1),(35,.slice H c_.Rides.length D),(36,i6 ((c_.Rides.length:Nat):Int)),(37,i6 zz.2.2.1)]∧Ctx G (.row t s (zz.2.2.2.map aI) 47 4::.row O R (zz.1.map aF) 3 1::.box V [i6 c_.Car,i6 c_.Wide,i6 c_.Sag,i6 c_.Most,.slice t zz.2.2.2.length s] 37::Lf) w)
   have bs:∀ (zz:(List Int) × Int × Int × (List aC)) a w,a3=.go zz→S14 zz a w→K12 a w:=by
    rintro ⟨out,at_,x,J⟩ a w rfl ⟨O,R,t,s,f,d⟩
    refine have F:=bI F;cd _ _ (zS λK h=>sp 3 f Z λa f=>zT h (wp_ret ?_))
    obtain rfl:=sj F
    exact have d:=(d.drop k2).drop k0;zO2 Tryz.results50 f Z Z ⟨O,R,Z,d⟩
   have cu:∀ r,a3=.out r→r=aq:=by
    rintro r rfl
    exact sj F
   refine have d:=d.nilRow 3 1;have d:=d.nilRow 47 4;have d:=d.drop k3;cF N (cE (S:=S14) (x:=a3) ?_ N (([]:List Int),0,0,([]:List aC)) _ _ ⟨none,0,none,0,f.kp Z,d⟩ bt)
   clear F f d
   rintro ⟨out,at_,x,J⟩ bg a w KB14 ⟨O,R,t,s,f,d⟩ F ai br
   refine zS λK h=>sp 1 f Z λa f=>zT h (wp_seq_k λK17 b9=>zI f Z F ?_ ?_) <;> intro F
   ·refine wp_skip (b9 _ _ (wp_seq_k λK18 ci=>wp_block (zS λK h=>aH F λB bk F=>?_)))
    obtain ⟨c0,o,qa,qp⟩:=U.atm bk
    refine zP f Z (pIA Tryz.underlying35 tD Z Z qa) λa f=>zE f d Z (iY (vs:=[i6 B.From,i6 B.Long,i6 B.Weight.Lo,i6 B.Weight.Hi]) vA Z Z (cY qp (n:=4) (o':=0) Z)) λa w f d=>zA f d aIy Z λm a w f d=>zW f d tD u0 Z λw d=>zT h (zS λK h=>sp 1 f Z λa f=>zP f Z (pFA vH Z) λa f=>zL f d aZ m0 Z λa w f d=>zP f Z (aNw Z Z) λa f=>sp 1 f Z λa f=>zT h (zS λK h=>sp 1 f Z λa f=>?_))
    refine zP f Z (pFA vH Z) λa f=>zW f d cS u0 Z λw d=>zT h (zS λK h=>zN f d lC m3 Z λa w f d=>zA f d aE9 Z λX a w f d=>zW f d aDj u0 Z λw d=>zT h (wp_seq_k λK23 ct=>aH F λac bu F=>aH F λun cj F=>have d:=d.nilRow 0 0;have d:=d.nilRow 0 0;jV (λθ=>[f0 5 (pq V),f0 6 (.slice O out.length R),f0 7 (i6 (max at_ B.From)),f0 9 (pq m),f0 10 (pq X),f0 35 (.slice H c_.Rides.length D),f0 36 (i6 ((c_.Rides.length:Nat):Int)),f0 37 (i6 x),f1 0 48 (.pointer (some ⟨V,4,none⟩)),f1 1 49 (.slice t J.length s),f1 2 50 (.slice ((θ 16).p) ac.length ((θ 16).c)),f1 3 51 (.agg #[i6 (max at_ B.From),i6 B.Long,i6 B.Weight.Lo,i6 B.Weight.Hi]),f1 4 52 (.slice (some ⟨(θ 32).b,0,none⟩) 1 1),f1 5 53 (.slice ((θ 40).p) ((ac++[(⟨max at_ B.From,B.Long,B.Weight⟩:aC)]).length) ((θ 40).c)),f1 6 54 (.pointer (some ⟨X,4,none⟩))]) (λE θ=>(bif E 4 then .row (some ⟨(θ 32).b,0,none⟩) 1 (([(⟨max at_ B.From,B.Long,B.Weight⟩:aC)]:List aC).map aI) 47 4 else .row none 0 [] 0 0)::(bif E 5 then .row ((θ 40).p) ((θ 40).c) ((ac++[(⟨max at_ B.From,B.Long,B.Weight⟩:aC)]).map aI) 47 4 else bif E 2 then .row ((θ 16).p) ((θ 16).c) (ac.map aI) 47 4 else .row none 0 [] 0 0)::(bif E 7 then .box X [i6 c_.Car,i6 c_.Wide,i6 c_.Sag,i6 c_.Most,.slice ((θ 40).p) ((ac++[(⟨max at_ B.From,B.Long,B.Weight⟩:aC)]).length) ((θ 40).c)] 37 else .box X [i6 c_.Car,i6 c_.Wide,i6 c_.Sag,i6 c_.Most,.slice t J.length s] 37)::.box m [i6 (max at_ B.From),i6 B.Long,i6 B.Weight.Lo,i6 B.Weight.Hi] 47::.row t s (J.map aI) 47 4::.row O R (out.map aF) 3 1::.box V [i6 c_.Car,i6 c_.Wide,i6 c_.Sag,i6 c_.Most,.slice t J.length s] 37::Lf) [(5,2),(7,5)] (λa w=>∃ (ba:Nat) (ay:Option Addr) (ax:Nat),Has 105 a [(5,pq V),(6,.slice O out.length R),(7,i6 (max at_ B.From)),(9,pq m),(10,pq X),(35,.slice H c_.Rides.length D),(36,i6 ((c_.Rides.length:Nat):Int)),(37,i6 x)]∧Ctx G (.row (sa ba) 1 (([(⟨max at_ B.From,B.Long,B.Weight⟩:aC)]:List aC).map aI) 47 4::.row ay ax ((ac++[(⟨max at_ B.From,B.Long,B.Weight⟩:aC)]).map aI) 47 4::.box X [i6 c_.Car,i6 c_.Wide,i6 c_.Sag,i6 c_.Most,.slice ay ((ac++[(⟨max at_ B.From,B.Long,B.Weight⟩:aC)]).length) ax] 37::.box m [i6 (max at_ B.From),i6 B.Long,i6 B.Weight.Lo,i6 B.Weight.Hi] 47::.row t s (J.map aI) 47 4::.row O R (out.map aF) 3 1::.box V [i6 c_.Car,i6 c_.Wide,i6 c_.Sag,i6 c_.Most,.slice t J.length s] 37::Lf) w) aU (by kernel_rfl) (by kernel_rfl) (iW.of f ⟨Z,Z,Z,Z,Z,Z,Z,Z,trivial,trivial,trivial,trivial,trivial,trivial,trivial,trivial⟩) d ⟨?_,?_,?_,?_,?_,?_,?_,?_,trivial⟩ ?_ ?_))
    ·exact λE θ a w hD hi hp he d=>have f:=he.h0.mT he 0 Z;zP f Z (pFA fR Z) λa f=>zD θ he hi f 8 Z Z Z d
    ·exact λE θ a w hD hi hp he d=>have e0:=hp.o 0 Z;have f:=he.h0.mP he 8 Z e0;zL f d sL m6 Z λa w f d=>zD θ he hi f 9 Z Z Z d
    ·refine λE θ a w hD hi hp he d=>have e1:=hp.o 1 Z;have e5:=hD.f 0 Z hi;?_
     try dsimp only at d
     rw [hi,e5] at d
     have f:=he.h0.mP he 9 Z e1
     obtain ⟨G1,b1,au,d,av⟩:=lend d k4
     refine zC f (eN 102) Z (tJ J au d bu) ?_
     rintro _ w ⟨cc,ck,rfl,d⟩
     refine ⟨_,Z,λa f=>have d:=av _ _ d;aN (eS (λds u ar=>have d:=(((((d.drop k3).pick k0).pick k4).pick k4).pick k3).pick k4;?_))⟩
     refine ⟨(qR θ 16 ⟨0,cc,ck,(λ_=>(none,0))⟩),he.put hi ar f Z [] trivial ⟨qq,qq,qq,qq,qq,qq,qq,qq,qq,qq,qq,qq,qq,qq,qq,trivial⟩,?_⟩
     try dsimp only
     rw [bE E 2,cR 2 e5 Z]
     exact d
    ·exact λE θ a w hD hi hp he d=>have f:=he.h0.mT he 3 Z;zN f d vA m3 Z λa w f d=>zD θ he hi f 11 Z Z Z d
    ·refine λE θ a w hD hi hp he d=>have e3:=hp.o 3 Z;?_
     try dsimp only at d
     rw [hi] at d
     refine have f:=he.h0.mP he 11 Z e3;gN (rows:=([(⟨max at_ B.From,B.Long,B.Weight⟩:aC)]:List aC).map aI) (vs:=[(0,.agg #[i6 (max at_ B.From),i6 B.Long,i6 B.Weight.Lo,i6 B.Weight.Hi])]) f d Z Z aBo Z ⟨Z,Z,Z,trivial⟩ Z Z λcf a w f d=>aN (eS (λds u ar=>have d:=d.drop k1;?_))
     refine ⟨(qR θ 32 ⟨cf,none,0,(λ_=>(none,0))⟩),he.put hi ar f Z [] trivial ⟨qq,qq,qq,qq,qq,qq,qq,qq,qq,qq,qq,qq,qq,qq,qq,trivial⟩,?_⟩
     try dsimp only
     rw [bE E 4]
     exact d
    ·refine λE θ a w hD hi hp he d=>have e2:=hp.o 2 Z;have e4:=hp.o 4 Z;have e7:=hD.f 1 Z hi;?_
     try dsimp only at d
     rw [e4,e2,hi,e7] at d
     refine have f:=(he.h0.mP he 10 Z e2).mP he 12 Z e4;mV (xs:=ac) (ys:=([(⟨max at_ B.From,B.Long,B.Weight⟩:aC)]:List aC)) f d Z Z aBo Z Z Z Z Z dX (gL d m0) (λ_ _=>u1) (by simpa using cZ cj) λcg cn a w f d=>aN (eS (λds u ar=>?_))
     refine ⟨(qR θ 40 ⟨0,cg,cn,(λ_=>(none,0))⟩),he.put hi ar f Z [] trivial ⟨qq,qq,qq,qq,qq,qq,qq,qq,qq,qq,qq,qq,qq,qq,qq,trivial⟩,?_⟩
     try dsimp only
     rw [eD 5 e4,eD 5 e2,bE E 5,cR 5 e7 Z]
     exact d
    ·exact λE θ a w hD hi hp he d=>have f:=he.h0.mT he 4 Z;zP f Z (pFA fR Z) λa f=>zD θ he hi f 14 Z Z Z d
    ·refine λE θ a w hD hi hp he d=>have e5:=hp.o 5 Z;have e6:=hp.o 6 Z;?_
     try dsimp only at d
     rw [hi] at d
     refine have f:=(he.h0.mP he 13 Z e5).mP he 14 Z e6;zW f d aJa u2 Z λw d=>zG θ he hi f Z ?_
     try dsimp only
     rw [bE E 7]
     exact d
    ·refine λE θ a w ap he d=>have f:=he.h0;have e2:=ap 2 Z;have e4:=ap 4 Z;have e5:=ap 5 Z;have e7:=ap 7 Z;have f:=f.more he 7 Z (onT);have f:=f.more he 6 Z (onT);have f:=f.more he 5 Z (onT);have f:=f.more he 4 Z (onT);have f:=f.more he 3 Z (onT);have f:=f.more he 2 Z (onT);have f:=f.more he 1 Z (onT);have f:=f.more he 0 Z (onT);?_
     try dsimp only at d
     rw [e2,e4,e5,e7] at d
     exact ⟨(θ 32).b,(θ 40).p,(θ 40).c,f.kp Z,d⟩
    rintro a w ⟨ba,ay,ax,f,d⟩
    refine ct _ _ (wp_seq_k λK24 b8=>wp_block (aH F λa5 b0 F=>?_))
    let S25:(Int × Int × (List aC))→Act→World→Prop:=(λ(zz:Int × Int × (List aC)) a w=>∃ (an:Option Addr) (am:Nat) (aa:Option Addr) (q:Nat),Has 105 a [(5,pq V),(6,.slice O out.length R),(7,i6 zz.1),(9,pq m),(10,pq X),(35,.slice H c_.Rides.length D),(36,i6 ((c_.Rides.length:Nat):Int)),(37,i6 x)]∧Ctx G (.row aa q (zz.2.2.map aI) 47 4::.box X [i6 c_.Car,i6 c_.Wide,i6 c_.Sag,i6 c_.Most,.slice aa zz.2.2.length q] 37::.box m [i6 zz.2.1,i6 B.Long,i6 B.Weight.Lo,i6 B.Weight.Hi] 47::.row an am (J.map aI) 47 4::.row O R (out.map aF) 3 1::.box V [i6 c_.Car,i6 c_.Wide,i6 c_.Sag,i6 c_.Most,.slice an J.length am] 37::Lf) w)
    have bp:∀ (zz:Int × Int × (List aC)) a w,a5=.go zz→S25 zz a w→K24 a w:=by
     rintro ⟨M,az,Y⟩ a w rfl ⟨an,am,aa,q,f,d⟩
     refine have F:=bI F;b8 _ _ (zS λK h=>zN f d lC m1 Z λa w f d=>zW f d aDj u5 Z λw d=>zT h (bK (sp 2 f Z λa f=>gN (rows:=([M]:List Int).map aF) (vs:=[(0,i6 M)]) f d Z Z eV Z ⟨Z,Z,Z,trivial⟩ Z Z λcz a w f d=>aH F λcx a8 F=>mV (xs:=out) (ys:=([M]:List Int)) f d Z Z eV Z Z Z Z Z bQ (gL d m0) (λ_ _=>u5) (by simpa using cZ a8) λcs cq a w f d=>sp 1 f Z λa f=>aN (ci _ _ ?_))))
     exact bK (sp 2 f Z λa f=>aN (have d:=(((d.drop k4).drop k3).drop k2).drop k0;br ((out++[M]),M,W (x + 1),Y) _ _ (sj F).symm ⟨cs,cq,aa,q,f.kp Z,d⟩))
    have cv:∀ r,a5=.out r→r=bg:=by
     rintro r rfl
     exact sj F
    refine have d:=d.drop k0;cF N (cE (S:=S25) (x:=a5) ?_ N (max at_ B.From,max at_ B.From,(ac++[(⟨max at_ B.From,B.Long,B.Weight⟩:aC)])) _ _ ⟨t,s,ay,ax,f.kp Z,d⟩ b0)
    clear F f d
    rintro ⟨M,az,Y⟩ bz a w KB25 ⟨an,am,aa,q,f,d⟩ F ak bn
    unfold lF at F
    refine wp_seq_k λK27 b7=>zS λK h=>zN f d lC m1 Z λa w f d=>zN f d vA m2 Z λa w f d=>aH F λcm bv F=>zQ (v:=.bool cm) f d (eN 103) Z (λw d=>by obtain ⟨G1,b1,au,d,av⟩:=lend d k0;exact (aD3 (⟨c_.Car,c_.Wide,c_.Sag,c_.Most,Y⟩:aJ) (⟨az,B.Long,B.Weight⟩:aC) au d bv).mono λe w h=>⟨h.1,((av _ _ h.2).unpick k0)⟩) λa w f d=>zT h (zI f Z F ?_ ?_) <;> intro F
    ·refine wp_skip (b7 _ _ (sR λK29 cr=>wp_block (zS λK h=>sp 1 f Z λa f=>zT h (wp_seq_k λK31 b6=>zS λK h=>zP f Z (pFA fR Z) λa f=>zL f d sL m5 Z λa w f d=>zP f Z (bA Tryz.underlying35 Z) λa f=>sp 1 f Z λa f=>zT h ?_))))
     refine wp_block (aH F λa2 bq F=>?_)
     let S33:(Int × Int)→Act→World→Prop:=(λ(zz:Int × Int) a w=>∃ (ab:Option Addr) (k:Nat),Has 105 a [(5,pq V),(6,.slice O out.length R),(7,i6 M),(9,pq m),(10,pq X),(11,i6 zz.1),(35,.slice H c_.Rides.length D),(36,i6 ((c_.Rides.length:Nat):Int)),(37,i6 x),(59,.slice ab J.length k),(60,i6 ((J.length:Nat):Int)),(61,i6 zz.2)]∧Ctx G (.row aa q (Y.map aI) 47 4::.box X [i6 c_.Car,i6 c_.Wide,i6 c_.Sag,i6 c_.Most,.slice aa Y.length q] 37::.box m [i6 az,i6 B.Long,i6 B.Weight.Lo,i6 B.Weight.Hi] 47::.row ab k (J.map aI) 47 4::.row O R (out.map aF) 3 1::.box V [i6 c_.Car,i6 c_.Wide,i6 c_.Sag,i6 c_.Most,.slice ab J.length k] 37::Lf) w)
     have bx:∀ (zz:Int × Int) a w,a2=.go zz→S33 zz a w→K31 a w:=by
      rintro ⟨I,af⟩ a w rfl ⟨ab,k,f,d⟩
      refine have F:=bI F;b6 _ _ (zS λK h=>sp 2 f Z λa f=>zT h (zS λK h=>sp 1 f Z λa f=>zP f Z (pFA vH Z) λa f=>zW f d cS u2 Z λw d=>zT h (bK (zP f Z (pFA fR Z) λa f=>zL f d sL m1 Z λa w f d=>zP f Z (pFA fR Z) λa f=>?_))))
      refine zL f d sL m1 Z λa w f d=>zP f Z (bA Tryz.underlying35 Z) λa f=>sp 1 f Z λa f=>zN f d vA m2 Z λa w f d=>aH F λc1 a6 F=>have a4:=f;?_
      obtain ⟨g,rfl,bj,qr⟩:=gW d m0 a6
      refine have f:=a4;zP f Z (pIA Tryz.underlying35 tD Z Z bj) λa f=>wA (sz:=4) (vs:=[i6 I,i6 B.Long,i6 B.Weight.Lo,i6 B.Weight.Hi]) (o':=0) (z:=(⟨I,B.Long,B.Weight⟩:aC)) (xs:=Y) f d Z Z Z Z tD Z (λx=>(dX x).1) (fX a6) (λ_ _=>Z) Z u0 λw d=>aN (cr _ _ ?_)
      replace d:Ctx G (.row (sa g) q ((Y.set (W (((Y.length:Nat):Int) - 1)).toNat (⟨I,B.Long,B.Weight⟩:aC)).map aI) 47 4::.box X [i6 c_.Car,i6 c_.Wide,i6 c_.Sag,i6 c_.Most,.slice (sa g) ((Y.set (W (((Y.length:Nat):Int) - 1)).toNat (⟨I,B.Long,B.Weight⟩:aC)).length) q] 37::.box m [i6 I,i6 B.Long,i6 B.Weight.Lo,i6 B.Weight.Hi] 47::.row ab k (J.map aI) 47 4::.row O R (out.map aF) 3 1::.box V [i6 c_.Car,i6 c_.Wide,i6 c_.Sag,i6 c_.Most,.slice ab J.length k] 37::Lf) w:=by simp only [List.length_set] at d ⊢;exact d
      exact bn (I,I,(Y.set (W (((Y.length:Nat):Int) - 1)).toNat (⟨I,B.Long,B.Weight⟩:aC))) _ _ (sj F).symm ⟨ab,k,(sa g),q,f.kp Z,d⟩
     have cy:∀ r,a2=.out r→r=bz:=by
      rintro r rfl
      exact sj F
     refine cF N (cE (S:=S33) (x:=a2) ?_ N ((-1),0) _ _ ⟨an,am,f.kp Z,d⟩ bq)
     clear F f d
     rintro ⟨I,af⟩ b2 a w KB33 ⟨ab,k,f,d⟩ F ag b3
     refine zS λK h=>sp 1 f Z λa f=>zT h (wp_seq_k λK37 cp=>zI f Z F ?_ ?_) <;> intro F
     ·refine wp_skip (cp _ _ (wp_seq_k λK38 cb=>?_))
      have a7:∀ (y:Int) (aj:Option Addr) (ad:Nat) a w,Has 105 a [(5,pq V),(6,.slice O out.length R),(7,i6 M),(9,pq m),(10,pq X),(11,i6 y),(35,.slice H c_.Rides.length D),(36,i6 ((c_.Rides.length:Nat):Int)),(37,i6 x),(59,.slice aj J.length ad),(60,i6 ((J.length:Nat):Int)),(61,i6 af)]→Ctx G (.row aa q (Y.map aI) 47 4::.box X [i6 c_.Car,i6 c_.Wide,i6 c_.Sag,i6 c_.Most,.slice aa Y.length q] 37::.box m [i6 az,i6 B.Long,i6 B.Weight.Lo,i6 B.Weight.Hi] 47::.row aj ad (J.map aI) 47 4::.row O R (out.map aF) 3 1::.box V [i6 c_.Car,i6 c_.Wide,i6 c_.Sag,i6 c_.Most,.slice aj J.length ad] 37::Lf) w→sH N af y=some b2→K38 a w:=by
       repeat first | clear F | clear d | clear f
       intro y aj ad a w f d F
       unfold sH at F
       exact cb _ _ (bK (sp 2 f Z λa f=>aN (b3 (y,W (af + 1)) _ _ (sj F).symm ⟨aj,ad,f.kp Z,d⟩)))
      refine wp_block (zS λK h=>aH F λj bm F=>have a4:=f;?_)
      obtain ⟨a0,rfl,bi,bf⟩:=gW d m3 bm
      refine have f:=a4;zP f Z (pIA Tryz.underlying35 tD Z Z bi) λa f=>zE f d Z (iY (vs:=[i6 j.From,i6 j.Long,i6 j.Weight.Lo,i6 j.Weight.Hi]) vA Z Z (aPe (sz:=4) (i:=af.toNat) m3 bf (n:=4) (o':=0) Z)) λa w f d=>zA f d aIy Z λa9 a w f d=>zW f d tD u0 Z λw d=>zT h (zS λK h=>zN f d vA m0 Z λa w f d=>sp 1 f Z λa f=>zQ (v:=.bool (hY j M)) f d (eN 104) Z (λw d=>xF j M d Z) λa w f d=>sp 1 f Z λa f=>cV 12 (λa=>Has 105 a [(5,pq V),(6,.slice O out.length R),(7,i6 M),(9,pq m),(10,pq X),(11,i6 I),(35,.slice H c_.Rides.length D),(36,i6 ((c_.Rides.length:Nat):Int)),(37,i6 x),(59,.slice (sa a0) J.length k),(60,i6 ((J.length:Nat):Int)),(61,i6 af),(13,pq a9),(80,.bool ((hY j M) && ((I == (-1)) || (decide ((W (j.From + j.Long)) < I)))))]) d ?_ ?_)
      ·cases hb:(hY j M)
       ·rw [hb] at f
        exact sp 12 f Z λa f=>aN ⟨f.kp Z,d⟩
       ·rw [hb] at f
        refine sp 3 f Z λa f=>cV 8 (λa=>Has 105 a [(5,pq V),(6,.slice O out.length R),(7,i6 M),(9,pq m),(10,pq X),(11,i6 I),(35,.slice H c_.Rides.length D),(36,i6 ((c_.Rides.length:Nat):Int)),(37,i6 x),(59,.slice (sa a0) J.length k),(60,i6 ((J.length:Nat):Int)),(61,i6 af),(13,pq a9),(68,.bool true),(79,.bool ((I == (-1)) || (decide ((W (j.From + j.Long)) < I))))]) d ?_ ?_
        ·cases hb:(I == (-1))
         ·rw [hb] at f
          exact zP f Z (pFA vH Z) λa f=>zL f d aZ m0 Z λa w f d=>zP f Z (pFA aEm Z) λa f=>zL f d aZ m0 Z λa w f d=>sp 4 f Z λa f=>aN ⟨f.kp Z,d⟩
         ·rw [hb] at f
          exact sp 8 f Z λa f=>aN ⟨f.kp Z,d⟩
        intro a w ⟨f,d⟩
        exact sp 1 f Z λa f=>aN ⟨f.kp Z,d⟩
      intro a w ⟨f,d⟩
      refine zT h (zI f Z F ?_ ?_) <;> intro F
      ·exact bK (zP f Z (pFA vH Z) λa f=>zL f d aZ m0 Z λa w f d=>zP f Z (pFA aEm Z) λa f=>zL f d aZ m0 Z λa w f d=>sp 2 f Z λa f=>aN (have d:=d.drop k0;a7 (W (j.From + j.Long)) (sa a0) k _ _  (f.kp Z) d F))
      ·exact wp_skip (have d:=d.drop k0;a7 I (sa a0) k _ _  (f.kp Z) d F)
     ·exact wp_exit (aP (aP (have ag:=cB F ag;cX (bx _ _ _ ag ⟨ab,k,f.kp Z,d⟩))))
    ·exact wp_exit (aP (aP (have ak:=cB F ak;cX (bp _ _ _ ak ⟨an,am,aa,q,f.kp Z,d⟩))))
   ·exact wp_exit (aP (aP (have ai:=cB F ai;cX (bs _ _ _ ai ⟨O,R,t,s,f.kp Z,d⟩))))

def aB2 (n:Int):Bool :=
 (aR n 0 1440)
theorem aHk (n:Int) (d:Ctx G (Lf) w) {B:Bool} (F:aB2 n=B):Cz G 66 #[i6 n] w (.bool B) (Lf):=by
 refine bY Tryz.func66 Z Tryz.ntmps66 Z λa f=>zS λK h=>sp 1 f Z λa f=>zT h (zS λK h=>sp 1 f Z λa f=>zQ (v:=.bool (aR n 0 1440)) f d (eN 53) Z (λw d=>dP n 0 1440 d Z) λa w f d=>sp 1 f Z λa f=>zT h (wp_ret ?_))
 obtain rfl:=F
 exact zO1 Tryz.results66 f Z ⟨Z,d⟩

def mM (x:Int):Bool :=
 (!(aB2 x))
theorem aBa {b_:Nat} (x:Int) (d:Ctx G (.box b_ [.func (.func 66) #[] #[]] 117::Lf) w) {B:Bool} (F:mM x=B):Cz G 107 #[i6 x,pq b_] w (.bool B) (.box b_ [.func (.func 66) #[] #[]] 117::Lf):=by
 refine bY Tryz.func107 Z Tryz.ntmps107 Z λa f=>zS λK h=>sp 1 f Z λa f=>zT h (zS λK h=>zL f d aJv m0 Z λa w f d=>sp 1 f Z λa f=>zQ (v:=.bool (aB2 x)) f d (eN 66) Z (λw d=>aHk x d Z) λa w f d=>sp 2 f Z λa f=>zT h (wp_ret ?_))
 obtain rfl:=F
 exact zO1 Tryz.results107 f Z ⟨Z,d⟩

def vV (N:Nat) (s_:List Int) (x:Int):Option (bC (Int) (Int)) :=
 cond (decide (x < ((s_.length:Nat):Int)))
 (Option.bind (aQ s_ x) λB=>
 cond (mM B)
 (some (.ret x))
 (some (.cont (W (x + 1)))))
 (some (.brk x))
def iE (N:Nat) (s_:List Int):Option (Int) :=
 Option.bind (aS (λs4=>vV N s_ s4) N 0) λx4=>
 exK x4 (λs4=>some (-1)) some
theorem wB {H:Option Addr} {D b_:Nat} (s_:List Int) (M:Rd G 1 H D (s_.map aF)) (d:Ctx G (.box b_ [.func (.func 66) #[] #[]] 117::Lf) w) {I:Int} (F:iE N s_=some I):Cz G 97 #[.slice H s_.length D,.func (.func 107) #[] #[pq b_]] w (i6 I) (.box b_ [.func (.func 66) #[] #[]] 117::Lf):=by
 refine bY Tryz.func97 Z Tryz.ntmps97 Z λa f=>zS λK h=>sp 1 f Z λa f=>zT h (wp_seq_k λK2 h2=>zS λK h=>sp 1 f Z λa f=>zP f Z (bA Tryz.underlying22 Z) λa f=>sp 1 f Z λa f=>zT h (wp_block (aH F λx4 X F=>?_)))
 let S4:Int→Act→World→Prop:=(λ(zz:Int) a w=>Has 19 a [(0,.slice H s_.length D),(1,.func (.func 107) #[] #[pq b_]),(7,i6 ((s_.length:Nat):Int)),(8,i6 zz)]∧Ctx G (.box b_ [.func (.func 66) #[] #[]] 117::Lf) w)
 have U:∀ (zz:Int) a w,x4=.go zz→S4 zz a w→K2 a w:=by
  rintro x a w rfl ⟨f,d⟩
  refine have F:=bI F;h2 _ _ (zS λK h=>sp 1 f Z λa f=>zT h (wp_ret ?_))
  obtain rfl:=sj F
  exact zO1 Tryz.results97 f Z ⟨Z,d⟩
 have R:∀ r,x4=.out r→r=I:=by
  rintro r rfl
  exact sj F
 refine cF N (cE (S:=S4) (x:=x4) ?_ N 0 _ _ ⟨f.kp Z,d⟩ X)
 clear F f d
 rintro x Y a w KB4 ⟨f,d⟩ F B V
 refine zS λK h=>sp 1 f Z λa f=>zT h (wp_seq_k λK7 h7=>zI f Z F ?_ ?_) <;> intro F
 ·refine wp_skip (h7 _ _ (wp_seq_k λK8 h8=>wp_block (zS λK h=>sp 2 f Z λa f=>zT h (zS λK h=>sp 3 f Z λa f=>aH F λJ O F=>?_))))
  obtain ⟨b,o,qa,qp⟩:=M.atm O
  refine zP f Z (pIA Tryz.underlying22 cS Z Z qa) λa f=>zE f d Z (bB aZ Z (aV (j:=0) qp Z)) λa w f d=>zQ (v:=.bool (mM J)) f d (eN 107) Z (λw d=>(aBa J (d.pick k0) Z).mono λe w h=>⟨h.1,(h.2.unpick k0)⟩) λa w f d=>zT h (zI f Z F ?_ ?_) <;> intro F
  ·refine zS λK h=>sp 2 f Z λa f=>zT h (wp_ret (bG (aL (aL (have B:=cB F B;have F:=R _ B;bG (aL ?_))))))
   obtain rfl:=F
   exact zO1 Tryz.results97 f Z ⟨Z,d⟩
  ·exact wp_skip (h8 _ _ (bK (sp 2 f Z λa f=>aN (V (W (x + 1)) _ _ (sj F).symm ⟨f.kp Z,d⟩))))
 ·exact wp_exit (aP (aP (have B:=cB F B;cX (U _ _ _ B ⟨f.kp Z,d⟩))))

def fV (N:Nat) (s_:List Int):Option (Bool) :=
 Option.bind (iE N s_) λr=>
 some (decide (0≤r))
theorem uN {D:Option Addr} {B b_:Nat} (s_:List Int) (I:Rd G 1 D B (s_.map aF)) (d:Ctx G (.box b_ [.func (.func 66) #[] #[]] 117::Lf) w) {H:Bool} (F:fV N s_=some H):Cz G 76 #[.slice D s_.length B,.func (.func 107) #[] #[pq b_]] w (.bool H) (.box b_ [.func (.func 66) #[] #[]] 117::Lf):=by
 refine bY Tryz.func76 Z Tryz.ntmps76 Z λa f=>zS λK h=>sp 1 f Z λa f=>zT h (zS λK h=>sp 2 f Z λa f=>aH F λr hr F=>zQ (v:=i6 r) f d (eN 97) Z (λw d=>(wB s_ I (d.pick k0) hr).mono λe w h=>⟨h.1,(h.2.unpick k0)⟩) λa w f d=>sp 2 f Z λa f=>zT h (wp_ret ?_))
 obtain rfl:=sj F
 exact zO1 Tryz.results76 f Z ⟨Z,d⟩

def lX (N:Nat) (l:List Int):Option (Bool) :=
 Option.bind (fV N l) λr=>
 some (!r)
theorem aCv {D:Option Addr} {H:Nat} (l:List Int) (I:Rd G 1 D H (l.map aF)) (d:Ctx G (Lf) w) {B:Bool} (F:lX N l=some B):Cz G 56 #[.slice D l.length H,.func (.func 66) #[] #[]] w (.bool B) (Lf):=by
 refine bY Tryz.func56 Z Tryz.ntmps56 Z λa f=>zS λK h=>zB f d Z λJ a w f d=>sp 1 f Z λa f=>zT h (zS λK h=>sp 1 f Z λa f=>zP f Z (pMF (us:=[pq J]) Z Z) λa f=>aH F λr hr F=>zQ (v:=.bool r) f d (eN 76) Z (λw d=>(uN l I (d.pick k0) hr).mono λe w h=>⟨h.1,(h.2.unpick k0)⟩) λa w f d=>sp 2 f Z λa f=>zT h (wp_ret ?_))
 obtain rfl:=sj F
 exact have d:=d.drop k0;zO1 Tryz.results56 f Z ⟨Z,d⟩

def rT (N:Nat) (p_:dN) (l:List Int) (out:Int) (x:Int):Option (bC (Int × Int) (Int × Int)) :=
 cond (decide (x < ((l.length:Nat):Int)))
 (Option.bind (aQ l x) λB=>
 some (.cont (W (out + (W (p_.Rate * (W ((W (1000 * B)) + (W (p_.Extra * (max 0 (W (B - p_.Normal)))))))))),W (x + 1))))
 (some (.brk (out,x)))
def kI (N:Nat) (p_:dN) (l:List Int):Option (Int × Int) :=
 cond (((!(aR p_.Rate 0 10000)) || (!(aR p_.Normal 0 1440))) || (!(aR p_.Extra 0 1000)))
 (some (0,120))
 (cond (decide (366 < ((l.length:Nat):Int)))
 (some (0,3))
 (Option.bind (lX N l) λr=>
 cond (!r)
 (some (0,4))
 (Option.bind (aS (λB=>rT N p_ l B.1 B.2) N (0,0)) λD=>
 exK D (λB=>some (W ((W (B.1 + 59999)).tdiv 60000),0)) some)))
theorem yB {D:Option Addr} {H:Nat} (p_:dN) (l:List Int) (R:Rd G 1 D H (l.map aF)) (d:Ctx G (Lf) w) {I:Int × Int} (F:kI N p_ l=some I):Cz G 13 #[.agg #[i6 p_.Rate,i6 p_.Normal,i6 p_.Extra],.slice D l.length H] w (.tuple #[i6 I.1,i6 I.2]) (Lf):=by
 refine bY Tryz.func13 Z Tryz.ntmps13 Z λa f=>zS λK h=>zB f d Z λJ a w f d=>sp 2 f Z λa f=>zT h (wp_seq_k λK2 h2=>wp_block (zS λK h=>zP f Z (pFA aGv Z) λa f=>zL f d aZ m0 Z λa w f d=>zQ (v:=.bool (aR p_.Rate 0 10000)) f d (eN 53) Z (λw d=>dP p_.Rate 0 10000 d Z) λa w f d=>sp 2 f Z λa f=>cV 5 (λa=>Has 60 a [(1,.slice D l.length H),(2,pq J),(19,.bool ((!(aR p_.Rate 0 10000)) || (!(aR p_.Normal 0 1440))))]) d ?_ ?_))
 ·cases hb:(!(aR p_.Rate 0 10000))
  ·rw [hb] at f
   exact zP f Z (pFA aGp Z) λa f=>zL f d aZ m0 Z λa w f d=>zQ (v:=.bool (aR p_.Normal 0 1440)) f d (eN 53) Z (λw d=>dP p_.Normal 0 1440 d Z) λa w f d=>sp 2 f Z λa f=>aN ⟨f.kp Z,d⟩
  ·rw [hb] at f
   exact sp 5 f Z λa f=>aN ⟨f.kp Z,d⟩
 intro a w ⟨f,d⟩
 refine sp 1 f Z λa f=>cV 5 (λa=>Has 60 a [(1,.slice D l.length H),(2,pq J),(25,.bool (((!(aR p_.Rate 0 10000)) || (!(aR p_.Normal 0 1440))) || (!(aR p_.Extra 0 1000))))]) d ?_ ?_
 ·cases hb:((!(aR p_.Rate 0 10000)) || (!(aR p_.Normal 0 1440)))
  ·rw [hb] at f
   exact zP f Z (pFA aGs Z) λa f=>zL f d aZ m0 Z λa w f d=>zQ (v:=.bool (aR p_.Extra 0 1000)) f d (eN 53) Z (λw d=>dP p_.Extra 0 1000 d Z) λa w f d=>sp 2 f Z λa f=>aN ⟨f.kp Z,d⟩
  ·rw [hb] at f
   exact sp 5 f Z λa f=>aN ⟨f.kp Z,d⟩
 intro a w ⟨f,d⟩
 refine sp 1 f Z λa f=>zT h (zI f Z F ?_ ?_) <;> intro F
 ·refine zS λK h=>sp 2 f Z λa f=>zT h (wp_ret (bG (aL ?_)))
  obtain rfl:=sj F
  exact have d:=d.drop k0;zO2 Tryz.results13 f Z Z ⟨Z,d⟩
 ·refine zS λK h=>sp 1 f Z λa f=>zP f Z (bA Tryz.underlying22 Z) λa f=>sp 2 f Z λa f=>zT h (zI f Z F ?_ ?_) <;> intro F
  ·refine zS λK h=>sp 2 f Z λa f=>zT h (wp_ret (bG (aL ?_)))
   obtain rfl:=sj F
   exact have d:=d.drop k0;zO2 Tryz.results13 f Z Z ⟨Z,d⟩
  ·refine zS λK h=>sp 1 f Z λa f=>aH F λr hr F=>zQ (v:=.bool r) f d (eN 56) Z (λw d=>aCv l R d hr) λa w f d=>sp 2 f Z λa f=>zT h (zI f Z F ?_ ?_) <;> intro F
   ·refine zS λK h=>sp 2 f Z λa f=>zT h (wp_ret (bG (aL ?_)))
    obtain rfl:=sj F
    exact have d:=d.drop k0;zO2 Tryz.results13 f Z Z ⟨Z,d⟩
   ·refine wp_skip (h2 _ _ (zS λK h=>sp 1 f Z λa f=>zT h (wp_seq_k λK10 i=>zS λK h=>sp 1 f Z λa f=>zP f Z (bA Tryz.underlying22 Z) λa f=>sp 1 f Z λa f=>zT h (wp_block (aH F λM Y F=>?_)))))
    let S12:(Int × Int)→Act→World→Prop:=(λ(zz:Int × Int) a w=>Has 60 a [(2,pq J),(6,i6 zz.1),(34,.slice D l.length H),(35,i6 ((l.length:Nat):Int)),(36,i6 zz.2)]∧Ctx G (.box J [i6 p_.Rate,i6 p_.Normal,i6 p_.Extra] 34::Lf) w)
    have U:∀ (zz:Int × Int) a w,M=.go zz→S12 zz a w→K10 a w:=by
     rintro ⟨out,x⟩ a w rfl ⟨f,d⟩
     refine have F:=bI F;i _ _ (zS λK h=>sp 2 f Z λa f=>zP f Z (tL Z Z (by decide)) λa f=>sp 2 f Z λa f=>zT h (wp_ret ?_))
     obtain rfl:=sj F
     exact have d:=d.drop k0;zO2 Tryz.results13 f Z Z ⟨Z,d⟩
    have k:∀ r,M=.out r→r=I:=by
     rintro r rfl
     exact sj F
    refine cF N (cE (S:=S12) (x:=M) ?_ N (0,0) _ _ ⟨f.kp Z,d⟩ Y)
    clear F f d
    rintro ⟨out,x⟩ m a w KB12 ⟨f,d⟩ F B V
    refine zS λK h=>sp 1 f Z λa f=>zT h (wp_seq_k λK15 g=>zI f Z F ?_ ?_) <;> intro F
    ·refine wp_skip (g _ _ (wp_seq_k λK16 b=>wp_block (zS λK h=>aH F λO X F=>?_)))
     obtain ⟨n,o,qa,qp⟩:=R.atm X
     refine zP f Z (pIA Tryz.underlying22 cS Z Z qa) λa f=>zE f d Z (bB aZ Z (aV (j:=0) qp Z)) λa w f d=>sp 1 f Z λa f=>zT h (bK (sp 1 f Z λa f=>zP f Z (pFA aGv Z) λa f=>zL f d aZ m0 Z λa w f d=>sp 2 f Z λa f=>zP f Z (pFA aGs Z) λa f=>zL f d aZ m0 Z λa w f d=>sp 1 f Z λa f=>zP f Z (pFA aGp Z) λa f=>zL f d aZ m0 Z λa w f d=>?_))
     exact sp 1 f Z λa f=>zP f Z (aNw Z Z) λa f=>sp 5 f Z λa f=>aN (b _ _ (bK (sp 2 f Z λa f=>aN (V (W (out + (W (p_.Rate * (W ((W (1000 * O)) + (W (p_.Extra * (max 0 (W (O - p_.Normal)))))))))),W (x + 1)) _ _ (sj F).symm ⟨f.kp Z,d⟩))))
    ·exact wp_exit (aP (aP (have B:=cB F B;cX (U _ _ _ B ⟨f.kp Z,d⟩))))

end Go.Nilo
