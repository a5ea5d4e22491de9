/-
 What functions of the Go text compute, as plain functions, and that they do, part 4 of 4. Conditions: what each theorem names.
-/
import Derived.Test.YtakhbnnlhoninacGreatCm3
import Derived.Test.YtakhbnnlhoninacGreatProg
set_option linter.unusedVariables false
set_option linter.unusedSimpArgs false
set_option maxRecDepth 100000
set_option maxHeartbeats 4000000
namespace Go.Nilo
open Go.Proofs


def oR (N:Nat)  : Option (Bool) :=
 Option.bind (rU N) fun r=>
 Option.bind (gC N r) fun Y=>
 Option.bind (rU N) fun q=>
 Option.bind (uI N q ([0,1]:List Int)) fun S=>
 Option.bind (rU N) fun n=>
 Option.bind (vR N n ([(⟨0,0⟩:aE)]:List aE)) fun X=>
 Option.bind (qC N 70) fun k=>
 Option.bind (sS N 0 k) fun V=>
 Option.bind (qC N 70) fun o=>
 Option.bind (yD N 0 o) fun U=>
 Option.bind (cond (((((Y.2 != 0) || (S.2 != 0)) || (X.2 != 0)) || (V.2 != 0)) || (U.2.2 != 0)) (some true) (Option.bind (kG N Y.1 ([1,0]:List Int)) fun g=>
 some (!g))) fun p=>
 Option.bind (cond ((p || (!(S.1.Person == 1 && S.1.Station == 0))) || (!X.1)) (some true) (Option.bind (nD N V.1 ([(⟨35,40⟩:aS),(⟨65,75⟩:aS)]:List aS)) fun j=>
 some (!j))) fun m=>
 cond ((m || (U.1 != 1)) || (U.2.1 != (-1)))
 (some false)
 (Option.bind (qC N 80) fun i=>
 Option.bind (uG N i) fun H=>
 Option.bind (nX N) fun d=>
 Option.bind (yJ N d 5) fun B=>
 Option.bind (nX N) fun Z=>
 Option.bind (oM N Z) fun D=>
 Option.bind (nX N) fun I=>
 Option.bind (jY N 90 90) fun R=>
 Option.bind (room ((I.Rides++[(⟨5,5,R⟩:aI)])).length) fun un=>
 Option.bind (vZ N (⟨I.Car,I.Wide,I.Sag,I.Most,(I.Rides++[(⟨5,5,R⟩:aI)])⟩:aM)) fun M=>
 Option.bind (yB N (⟨600,480,500⟩:sD) ([481]:List Int)) fun O=>
 Option.bind (cond ((((((H.2 == 0) && (B.2 == 0)) && (D.2.2 == 0)) && (M.2 == 0)) && (O.2 == 0)) && (H.1 == 5)) (jY N 290 320) (some (⟨0,0⟩:aS))) fun J=>
 Option.bind (cond (((((((((H.2 == 0) && (B.2 == 0)) && (D.2.2 == 0)) && (M.2 == 0)) && (O.2 == 0)) && (H.1 == 5)) && (B.1.Lo == J.Lo && B.1.Hi == J.Hi)) && (D.1 == 5)) && (D.2.1 == (-1))) (kG N M.1 ([0,10,15]:List Int)) (some false)) fun b=>
 some (((((((((((H.2 == 0) && (B.2 == 0)) && (D.2.2 == 0)) && (M.2 == 0)) && (O.2 == 0)) && (H.1 == 5)) && (B.1.Lo == J.Lo && B.1.Hi == J.Hi)) && (D.1 == 5)) && (D.2.1 == (-1))) && b) && (O.1 == 4815)))
theorem aAk {N:Nat} {G:aO} {Lf:List Ent} {w:World}    (hc:Ctx G (Lf) w) {bs:Bool} (hF:oR N=some bs):Calls Tryz.prog 13 #[] w (fun e w=>e=.returned (.bool bs)∧Ctx G (Lf) w):=by
 unfold oR at hF
 refine bI Tryz.func13 rfl Tryz.ntmps13 rfl fun a hf=>zS fun K h=>sp 1 hf rfl fun a hf=>zT h ?_
 refine zS fun K h=>?_
 obtain ⟨r,hr,hF⟩:=aA hF
 refine zC hf aGw rfl (sZ hc hr) ?_
 rintro _ w ⟨dr,dy,dq,dj,rfl,hc⟩
 refine ⟨_,rfl,fun a hf=>?_⟩
 obtain ⟨J,cr,hF⟩:=aA hF
 obtain ⟨G1,j,Z,hc,d⟩:=jA lX hc k0 k0
 obtain ⟨G2,m,n,hc,k⟩:=jA nK hc k0 k0
 refine zC hf aHh rfl (lI r (Z.mono m) n hc cr) ?_
 rintro _ w ⟨x,y,rfl,hc⟩
 refine ⟨_,rfl,fun a hf=>?_⟩
 replace hc:=k _ _ hc
 replace hc:=d _ _ hc
 refine sp 5 hf rfl fun a hf=>zT h ?_
 refine wp_seq_k fun K3 h3=>cJ ?_
 obtain ⟨c2,ck,hF⟩:=aA hF
 refine zC hf aGw rfl (sZ hc ck) ?_
 rintro _ w ⟨d8,dg,d3,df,rfl,hc⟩
 refine ⟨_,rfl,fun a hf=>?_⟩
 refine jD (rows:=([0,1]:List Int).map aD) (vs:=[(0,i6 0),(1,i6 1)]) hf hc rfl rfl fN rfl ⟨rfl,rfl,rfl,rfl,rfl,rfl,trivial⟩ rfl rfl fun d4 a w hf hc=>?_
 obtain ⟨M,cp,hF⟩:=aA hF
 refine zQ (v:=.tuple #[.agg #[i6 M.1.Person,i6 M.1.Station],i6 M.2]) hf hc en_24 rfl (fun w hc=>by obtain ⟨G1,j,Z,hc,d⟩:=jA lX hc k1 k1; obtain ⟨G2,m,n,hc,k⟩:=jA nK hc k1 k1; obtain ⟨G3,ar,a0,hc,az⟩:=lend hc k0; exact (aAh c2 ([0,1]:List Int) ((Z.mono m).mono ar) (n.mono ar) a0 hc cp).mono fun e w h=>⟨h.1,(mI (d _ _ (mI (k _ _ ((az _ _ h.2).unpick k0)) k1 k1)) k1 k1)⟩) fun a w hf hc=>sp 3 hf rfl fun a hf=>zA hf hc aB4 rfl fun ab a w hf hc=>zW hf hc nF u0 rfl fun w hc=>sp 1 hf rfl fun a hf=>aP ?_
 replace hc:=((((((((hc.drop k9).drop k8).drop k7).drop k6).drop k5).drop k4).drop k3).drop k2).drop k1
 refine h3 _ _ ?_
 refine zS fun K h=>?_
 obtain ⟨c4,cm,hF⟩:=aA hF
 refine zC hf aGw rfl (sZ hc cm) ?_
 rintro _ w ⟨du,di,d7,dd,rfl,hc⟩
 refine ⟨_,rfl,fun a hf=>?_⟩
 refine zP hf rfl (cF (cells:=[i6 0,i6 0]) sK rfl rfl) fun a hf=>jD (rows:=([(⟨0,0⟩:aE)]:List aE).map aJ) (vs:=[(0,.agg #[i6 0,i6 0])]) hf hc rfl rfl aIh rfl ⟨rfl,rfl,rfl,trivial⟩ rfl rfl fun dz a w hf hc=>?_
 obtain ⟨S,cn,hF⟩:=aA hF
 refine zQ (v:=.tuple #[.bool S.1,i6 S.2]) hf hc en_25 rfl (fun w hc=>by obtain ⟨G1,j,Z,hc,d⟩:=jA lX hc k1 k1; obtain ⟨G2,m,n,hc,k⟩:=jA nK hc k1 k1; obtain ⟨G3,ar,a0,hc,az⟩:=lend hc k0; exact (aBe c4 ([(⟨0,0⟩:aE)]:List aE) ((Z.mono m).mono ar) (n.mono ar) a0 hc cn).mono fun e w h=>⟨h.1,(mI (d _ _ (mI (k _ _ ((az _ _ h.2).unpick k0)) k1 k1)) k1 k1)⟩) fun a w hf hc=>sp 5 hf rfl fun a hf=>zT h ?_
 refine wp_seq_k fun K5 h5=>cJ ?_
 obtain ⟨c6,ci,hF⟩:=aA hF
 refine zC hf aIv rfl (rP 70 hc ci) ?_
 rintro _ w ⟨d6,dt,rfl,hc⟩
 refine ⟨_,rfl,fun a hf=>?_⟩
 obtain ⟨V,cj,hF⟩:=aA hF
 obtain ⟨G1,j,Z,hc,d⟩:=lend hc k0
 refine zC hf aJw rfl (vQ 0 c6 Z hc cj) ?_
 rintro _ w ⟨z,aa,rfl,hc⟩
 refine ⟨_,rfl,fun a hf=>?_⟩
 replace hc:=d _ _ hc
 refine sp 5 hf rfl fun a hf=>aP ?_
 replace hc:=(((((hc.drop k6).drop k5).drop k4).drop k3).drop k2).drop k0
 refine h5 _ _ ?_
 refine zS fun K h=>?_
 obtain ⟨c0,cs,hF⟩:=aA hF
 refine zC hf aIv rfl (rP 70 hc cs) ?_
 rintro _ w ⟨dn,dv,rfl,hc⟩
 refine ⟨_,rfl,fun a hf=>?_⟩
 obtain ⟨U,cq,hF⟩:=aA hF
 refine zQ (v:=.tuple #[i6 U.1,i6 U.2.1,i6 U.2.2]) hf hc en_28 rfl (fun w hc=>by obtain ⟨G1,j,Z,hc,d⟩:=lend hc k0; exact (aCv 0 c0 Z hc cq).mono fun e w h=>⟨h.1,((d _ _ h.2).unpick k0)⟩) fun a w hf hc=>sp 7 hf rfl fun a hf=>zT h ?_
 refine wp_seq_k fun K7 h7=>zS fun K h=>sp 3 hf rfl fun a hf=>gX 3 (fun a=>Has 174 a [(1,.slice x J.1.length y),(2,i6 J.2),(3,pq ab),(4,i6 M.2),(5,.bool S.1),(6,i6 S.2),(7,.slice z V.1.length aa),(8,i6 V.2),(9,i6 U.1),(10,i6 U.2.1),(11,i6 U.2.2),(46,i6 J.2),(47,.bool (J.2 != 0)),(48,.bool (J.2 != 0)),(51,.bool ((J.2 != 0) || (M.2 != 0)))]) hc ?_ ?_
 ·cases hb:(J.2 != 0)
  ·rw [hb] at hf
   refine sp 3 hf rfl fun a hf=>aP ⟨hf.kp rfl,hc⟩
  ·rw [hb] at hf
   refine stS hf rfl rfl rfl fun a hf=>stS hf rfl rfl rfl fun a hf=>sp 1 hf rfl fun a hf=>aP ⟨hf.kp rfl,hc⟩
 intro a w ⟨hf,hc⟩
 refine sp 1 hf rfl fun a hf=>gX 3 (fun a=>Has 174 a [(1,.slice x J.1.length y),(2,i6 J.2),(3,pq ab),(4,i6 M.2),(5,.bool S.1),(6,i6 S.2),(7,.slice z V.1.length aa),(8,i6 V.2),(9,i6 U.1),(10,i6 U.2.1),(11,i6 U.2.2),(46,i6 J.2),(47,.bool (J.2 != 0)),(48,.bool (J.2 != 0)),(51,.bool ((J.2 != 0) || (M.2 != 0))),(52,.bool ((J.2 != 0) || (M.2 != 0))),(55,.bool (((J.2 != 0) || (M.2 != 0)) || (S.2 != 0)))]) hc ?_ ?_
 ·cases hb:((J.2 != 0) || (M.2 != 0))
  ·rw [hb] at hf
   refine sp 3 hf rfl fun a hf=>aP ⟨hf.kp rfl,hc⟩
  ·rw [hb] at hf
   refine stS hf rfl rfl rfl fun a hf=>stS hf rfl rfl rfl fun a hf=>sp 1 hf rfl fun a hf=>aP ⟨hf.kp rfl,hc⟩
 intro a w ⟨hf,hc⟩
 refine sp 1 hf rfl fun a hf=>gX 3 (fun a=>Has 174 a [(1,.slice x J.1.length y),(2,i6 J.2),(3,pq ab),(4,i6 M.2),(5,.bool S.1),(6,i6 S.2),(7,.slice z V.1.length aa),(8,i6 V.2),(9,i6 U.1),(10,i6 U.2.1),(11,i6 U.2.2),(46,i6 J.2),(47,.bool (J.2 != 0)),(48,.bool (J.2 != 0)),(51,.bool ((J.2 != 0) || (M.2 != 0))),(52,.bool ((J.2 != 0) || (M.2 != 0))),(55,.bool (((J.2 != 0) || (M.2 != 0)) || (S.2 != 0))),(56,.bool (((J.2 != 0) || (M.2 != 0)) || (S.2 != 0))),(59,.bool ((((J.2 != 0) || (M.2 != 0)) || (S.2 != 0)) || (V.2 != 0)))]) hc ?_ ?_
 ·cases hb:(((J.2 != 0) || (M.2 != 0)) || (S.2 != 0))
  ·rw [hb] at hf
   refine sp 3 hf rfl fun a hf=>aP ⟨hf.kp rfl,hc⟩
  ·rw [hb] at hf
   refine stS hf rfl rfl rfl fun a hf=>stS hf rfl rfl rfl fun a hf=>sp 1 hf rfl fun a hf=>aP ⟨hf.kp rfl,hc⟩
 intro a w ⟨hf,hc⟩
 refine sp 1 hf rfl fun a hf=>gX 3 (fun a=>Has 174 a [(1,.slice x J.1.length y),(2,i6 J.2),(3,pq ab),(4,i6 M.2),(5,.bool S.1),(6,i6 S.2),(7,.slice z V.1.length aa),(8,i6 V.2),(9,i6 U.1),(10,i6 U.2.1),(11,i6 U.2.2),(46,i6 J.2),(47,.bool (J.2 != 0)),(48,.bool (J.2 != 0)),(51,.bool ((J.2 != 0) || (M.2 != 0))),(52,.bool ((J.2 != 0) || (M.2 != 0))),(55,.bool (((J.2 != 0) || (M.2 != 0)) || (S.2 != 0))),(56,.bool (((J.2 != 0) || (M.2 != 0)) || (S.2 != 0))),(59,.bool ((((J.2 != 0) || (M.2 != 0)) || (S.2 != 0)) || (V.2 != 0))),(60,.bool ((((J.2 != 0) || (M.2 != 0)) || (S.2 != 0)) || (V.2 != 0))),(63,.bool (((((J.2 != 0) || (M.2 != 0)) || (S.2 != 0)) || (V.2 != 0)) || (U.2.2 != 0)))]) hc ?_ ?_
 ·cases hb:((((J.2 != 0) || (M.2 != 0)) || (S.2 != 0)) || (V.2 != 0))
  ·rw [hb] at hf
   refine sp 3 hf rfl fun a hf=>aP ⟨hf.kp rfl,hc⟩
  ·rw [hb] at hf
   refine stS hf rfl rfl rfl fun a hf=>stS hf rfl rfl rfl fun a hf=>sp 1 hf rfl fun a hf=>aP ⟨hf.kp rfl,hc⟩
 intro a w ⟨hf,hc⟩
 refine sp 1 hf rfl fun a hf=>?_
 obtain ⟨g,a4,hF⟩:=aA hF
 refine gX 5 (fun a=>Has 174 a [(1,.slice x J.1.length y),(2,i6 J.2),(3,pq ab),(4,i6 M.2),(5,.bool S.1),(6,i6 S.2),(7,.slice z V.1.length aa),(8,i6 V.2),(9,i6 U.1),(10,i6 U.2.1),(11,i6 U.2.2),(46,i6 J.2),(47,.bool (J.2 != 0)),(48,.bool (J.2 != 0)),(51,.bool ((J.2 != 0) || (M.2 != 0))),(52,.bool ((J.2 != 0) || (M.2 != 0))),(55,.bool (((J.2 != 0) || (M.2 != 0)) || (S.2 != 0))),(56,.bool (((J.2 != 0) || (M.2 != 0)) || (S.2 != 0))),(59,.bool ((((J.2 != 0) || (M.2 != 0)) || (S.2 != 0)) || (V.2 != 0))),(60,.bool ((((J.2 != 0) || (M.2 != 0)) || (S.2 != 0)) || (V.2 != 0))),(63,.bool (((((J.2 != 0) || (M.2 != 0)) || (S.2 != 0)) || (V.2 != 0)) || (U.2.2 != 0))),(64,.bool (((((J.2 != 0) || (M.2 != 0)) || (S.2 != 0)) || (V.2 != 0)) || (U.2.2 != 0))),(69,.bool g)]) hc ?_ ?_
 ·cases hb:(((((J.2 != 0) || (M.2 != 0)) || (S.2 != 0)) || (V.2 != 0)) || (U.2.2 != 0))
  ·rw [hb] at hf
   have hF:=jM hb a4
   refine sp 1 hf rfl fun a hf=>jD (rows:=([1,0]:List Int).map aD) (vs:=[(0,i6 1),(1,i6 0)]) hf hc rfl rfl fN rfl ⟨rfl,rfl,rfl,rfl,rfl,rfl,trivial⟩ rfl rfl fun d0 a w hf hc=>?_
   obtain ⟨b9,bi,hF⟩:=aA hF
   refine zQ (v:=.bool b9) hf hc aHc rfl (fun w hc=>by obtain ⟨G1,j,Z,hc,d⟩:=lend hc k4; obtain ⟨G2,m,n,hc,k⟩:=lend hc k0; exact (pC J.1 ([1,0]:List Int) (Z.mono m) n hc bi).mono fun e w h=>⟨h.1,((d _ _ ((k _ _ h.2).unpick k0)).unpick k4)⟩) fun a w hf hc=>sp 2 hf rfl fun a hf=>?_
   replace hc:=hc.drop k0
   obtain rfl:=sj hF
   exact aP ⟨hf.kp rfl,hc⟩
  ·rw [hb] at hf
   have hF:=iL hb a4
   obtain rfl:=sj hF
   refine stS hf rfl rfl rfl fun a hf=>stS hf rfl rfl rfl fun a hf=>stS hf rfl rfl rfl fun a hf=>stS hf rfl rfl rfl fun a hf=>sp 1 hf rfl fun a hf=>aP ⟨hf.kp rfl,hc⟩
 intro a w ⟨hf,hc⟩
 refine sp 1 hf rfl fun a hf=>gX 4 (fun a=>Has 174 a [(1,.slice x J.1.length y),(2,i6 J.2),(3,pq ab),(4,i6 M.2),(5,.bool S.1),(6,i6 S.2),(7,.slice z V.1.length aa),(8,i6 V.2),(9,i6 U.1),(10,i6 U.2.1),(11,i6 U.2.2),(46,i6 J.2),(47,.bool (J.2 != 0)),(48,.bool (J.2 != 0)),(51,.bool ((J.2 != 0) || (M.2 != 0))),(52,.bool ((J.2 != 0) || (M.2 != 0))),(55,.bool (((J.2 != 0) || (M.2 != 0)) || (S.2 != 0))),(56,.bool (((J.2 != 0) || (M.2 != 0)) || (S.2 != 0))),(59,.bool ((((J.2 != 0) || (M.2 != 0)) || (S.2 != 0)) || (V.2 != 0))),(60,.bool ((((J.2 != 0) || (M.2 != 0)) || (S.2 != 0)) || (V.2 != 0))),(63,.bool (((((J.2 != 0) || (M.2 != 0)) || (S.2 != 0)) || (V.2 != 0)) || (U.2.2 != 0))),(64,.bool (((((J.2 != 0) || (M.2 != 0)) || (S.2 != 0)) || (V.2 != 0)) || (U.2.2 != 0))),(69,.bool g),(70,.bool g),(74,.bool (g || (!(M.1.Person == 1 && M.1.Station == 0))))]) hc ?_ ?_
 ·cases hb:g
  ·rw [hb] at hf
   try rw [hb] at hc
   refine zN hf hc mV m2 rfl fun a w hf hc=>zP hf rfl (cF (cells:=[i6 1,i6 0]) sK rfl rfl) fun a hf=>zP hf rfl (pNeA aHv rfl rfl (aEp _ _ _ _)) fun a hf=>sp 1 hf rfl fun a hf=>aP ⟨hf.kp rfl,hc⟩
  ·rw [hb] at hf
   try rw [hb] at hc
   refine stS hf rfl rfl rfl fun a hf=>stS hf rfl rfl rfl fun a hf=>stS hf rfl rfl rfl fun a hf=>sp 1 hf rfl fun a hf=>aP ⟨hf.kp rfl,hc⟩
 intro a w ⟨hf,hc⟩
 refine sp 1 hf rfl fun a hf=>gX 3 (fun a=>Has 174 a [(1,.slice x J.1.length y),(2,i6 J.2),(3,pq ab),(4,i6 M.2),(5,.bool S.1),(6,i6 S.2),(7,.slice z V.1.length aa),(8,i6 V.2),(9,i6 U.1),(10,i6 U.2.1),(11,i6 U.2.2),(46,i6 J.2),(47,.bool (J.2 != 0)),(48,.bool (J.2 != 0)),(51,.bool ((J.2 != 0) || (M.2 != 0))),(52,.bool ((J.2 != 0) || (M.2 != 0))),(55,.bool (((J.2 != 0) || (M.2 != 0)) || (S.2 != 0))),(56,.bool (((J.2 != 0) || (M.2 != 0)) || (S.2 != 0))),(59,.bool ((((J.2 != 0) || (M.2 != 0)) || (S.2 != 0)) || (V.2 != 0))),(60,.bool ((((J.2 != 0) || (M.2 != 0)) || (S.2 != 0)) || (V.2 != 0))),(63,.bool (((((J.2 != 0) || (M.2 != 0)) || (S.2 != 0)) || (V.2 != 0)) || (U.2.2 != 0))),(64,.bool (((((J.2 != 0) || (M.2 != 0)) || (S.2 != 0)) || (V.2 != 0)) || (U.2.2 != 0))),(69,.bool g),(70,.bool g),(74,.bool (g || (!(M.1.Person == 1 && M.1.Station == 0)))),(75,.bool (g || (!(M.1.Person == 1 && M.1.Station == 0)))),(78,.bool ((g || (!(M.1.Person == 1 && M.1.Station == 0))) || (!S.1)))]) hc ?_ ?_
 ·cases hb:(g || (!(M.1.Person == 1 && M.1.Station == 0)))
  ·rw [hb] at hf
   refine sp 3 hf rfl fun a hf=>aP ⟨hf.kp rfl,hc⟩
  ·rw [hb] at hf
   refine stS hf rfl rfl rfl fun a hf=>stS hf rfl rfl rfl fun a hf=>sp 1 hf rfl fun a hf=>aP ⟨hf.kp rfl,hc⟩
 intro a w ⟨hf,hc⟩
 refine sp 1 hf rfl fun a hf=>?_
 obtain ⟨q,a5,hF⟩:=aA hF
 refine gX 7 (fun a=>Has 174 a [(1,.slice x J.1.length y),(2,i6 J.2),(3,pq ab),(4,i6 M.2),(5,.bool S.1),(6,i6 S.2),(7,.slice z V.1.length aa),(8,i6 V.2),(9,i6 U.1),(10,i6 U.2.1),(11,i6 U.2.2),(46,i6 J.2),(47,.bool (J.2 != 0)),(48,.bool (J.2 != 0)),(51,.bool ((J.2 != 0) || (M.2 != 0))),(52,.bool ((J.2 != 0) || (M.2 != 0))),(55,.bool (((J.2 != 0) || (M.2 != 0)) || (S.2 != 0))),(56,.bool (((J.2 != 0) || (M.2 != 0)) || (S.2 != 0))),(59,.bool ((((J.2 != 0) || (M.2 != 0)) || (S.2 != 0)) || (V.2 != 0))),(60,.bool ((((J.2 != 0) || (M.2 != 0)) || (S.2 != 0)) || (V.2 != 0))),(63,.bool (((((J.2 != 0) || (M.2 != 0)) || (S.2 != 0)) || (V.2 != 0)) || (U.2.2 != 0))),(64,.bool (((((J.2 != 0) || (M.2 != 0)) || (S.2 != 0)) || (V.2 != 0)) || (U.2.2 != 0))),(69,.bool g),(70,.bool g),(74,.bool (g || (!(M.1.Person == 1 && M.1.Station == 0)))),(75,.bool (g || (!(M.1.Person == 1 && M.1.Station == 0)))),(78,.bool ((g || (!(M.1.Person == 1 && M.1.Station == 0))) || (!S.1))),(79,.bool ((g || (!(M.1.Person == 1 && M.1.Station == 0))) || (!S.1))),(86,.bool q)]) hc ?_ ?_
 ·cases hb:((g || (!(M.1.Person == 1 && M.1.Station == 0))) || (!S.1))
  ·rw [hb] at hf
   have hF:=jM hb a5
   refine sp 1 hf rfl fun a hf=>zP hf rfl (cF (cells:=[i6 35,i6 40]) aAf rfl rfl) fun a hf=>zP hf rfl (cF (cells:=[i6 65,i6 75]) aAf rfl rfl) fun a hf=>jD (rows:=([(⟨35,40⟩:aS),(⟨65,75⟩:aS)]:List aS).map cS) (vs:=[(0,.agg #[i6 35,i6 40]),(1,.agg #[i6 65,i6 75])]) hf hc rfl rfl aGp rfl ⟨rfl,rfl,rfl,rfl,rfl,rfl,trivial⟩ rfl rfl fun dx a w hf hc=>?_
   obtain ⟨ca,bm,hF⟩:=aA hF
   refine zQ (v:=.bool ca) hf hc en_29 rfl (fun w hc=>by obtain ⟨G1,j,Z,hc,d⟩:=lend hc k2; obtain ⟨G2,m,n,hc,k⟩:=lend hc k0; exact (uL V.1 ([(⟨35,40⟩:aS),(⟨65,75⟩:aS)]:List aS) (Z.mono m) n hc bm).mono fun e w h=>⟨h.1,((d _ _ ((k _ _ h.2).unpick k0)).unpick k2)⟩) fun a w hf hc=>sp 2 hf rfl fun a hf=>?_
   replace hc:=hc.drop k0
   obtain rfl:=sj hF
   exact aP ⟨hf.kp rfl,hc⟩
  ·rw [hb] at hf
   have hF:=iL hb a5
   obtain rfl:=sj hF
   refine stS hf rfl rfl rfl fun a hf=>stS hf rfl rfl rfl fun a hf=>stS hf rfl rfl rfl fun a hf=>stS hf rfl rfl rfl fun a hf=>stS hf rfl rfl rfl fun a hf=>stS hf rfl rfl rfl fun a hf=>sp 1 hf rfl fun a hf=>aP ⟨hf.kp rfl,hc⟩
 intro a w ⟨hf,hc⟩
 refine sp 1 hf rfl fun a hf=>gX 3 (fun a=>Has 174 a ((1,.slice x J.1.length y)::(2,i6 J.2)::(3,pq ab)::(4,i6 M.2)::(5,.bool S.1)::(6,i6 S.2)::(7,.slice z V.1.length aa)::(8,i6 V.2)::(9,i6 U.1)::(10,i6 U.2.1)::(11,i6 U.2.2)::(46,i6 J.2)::(47,.bool (J.2 != 0))::(48,.bool (J.2 != 0))::(51,.bool ((J.2 != 0) || (M.2 != 0)))::(52,.bool ((J.2 != 0) || (M.2 != 0)))::(55,.bool (((J.2 != 0) || (M.2 != 0)) || (S.2 != 0)))::(56,.bool (((J.2 != 0) || (M.2 != 0)) || (S.2 != 0)))::(59,.bool ((((J.2 != 0) || (M.2 != 0)) || (S.2 != 0)) || (V.2 != 0)))::(60,.bool ((((J.2 != 0) || (M.2 != 0)) || (S.2 != 0)) || (V.2 != 0)))::(63,.bool (((((J.2 != 0) || (M.2 != 0)) || (S.2 != 0)) || (V.2 != 0)) || (U.2.2 != 0)))::(64,.bool (((((J.2 != 0) || (M.2 != 0)) || (S.2 != 0)) || (V.2 != 0)) || (U.2.2 != 0)))::(69,.bool g)::(70,.bool g)::(74,.bool (g || (!(M.1.Person == 1 && M.1.Station == 0))))::(75,.bool (g || (!(M.1.Person == 1 && M.1.Station == 0))))::(78,.bool ((g || (!(M.1.Person == 1 && M.1.Station == 0))) || (!S.1)))::(79,.bool ((g || (!(M.1.Person == 1 && M.1.Station == 0))) || (!S.1)))::(86,.bool q)::(87,.bool q)::(90,.bool (q || (U.1 != 1)))::[])) hc ?_ ?_
 ·cases hb:q
  ·rw [hb] at hf
   try rw [hb] at hc
   refine sp 3 hf rfl fun a hf=>aP ⟨hf.kp rfl,hc⟩
  ·rw [hb] at hf
   try rw [hb] at hc
   refine stS hf rfl rfl rfl fun a hf=>stS hf rfl rfl rfl fun a hf=>sp 1 hf rfl fun a hf=>aP ⟨hf.kp rfl,hc⟩
 intro a w ⟨hf,hc⟩
 refine sp 1 hf rfl fun a hf=>gX 3 (fun a=>Has 174 a ((1,.slice x J.1.length y)::(2,i6 J.2)::(3,pq ab)::(4,i6 M.2)::(5,.bool S.1)::(6,i6 S.2)::(7,.slice z V.1.length aa)::(8,i6 V.2)::(9,i6 U.1)::(10,i6 U.2.1)::(11,i6 U.2.2)::(46,i6 J.2)::(47,.bool (J.2 != 0))::(48,.bool (J.2 != 0))::(51,.bool ((J.2 != 0) || (M.2 != 0)))::(52,.bool ((J.2 != 0) || (M.2 != 0)))::(55,.bool (((J.2 != 0) || (M.2 != 0)) || (S.2 != 0)))::(56,.bool (((J.2 != 0) || (M.2 != 0)) || (S.2 != 0)))::(59,.bool ((((J.2 != 0) || (M.2 != 0)) || (S.2 != 0)) || (V.2 != 0)))::(60,.bool ((((J.2 != 0) || (M.2 != 0)) || (S.2 != 0)) || (V.2 != 0)))::(63,.bool (((((J.2 != 0) || (M.2 != 0)) || (S.2 != 0)) || (V.2 != 0)) || (U.2.2 != 0)))::(64,.bool (((((J.2 != 0) || (M.2 != 0)) || (S.2 != 0)) || (V.2 != 0)) || (U.2.2 != 0)))::(69,.bool g)::(70,.bool g)::(74,.bool (g || (!(M.1.Person == 1 && M.1.Station == 0))))::(75,.bool (g || (!(M.1.Person == 1 && M.1.Station == 0))))::(78,.bool ((g || (!(M.1.Person == 1 && M.1.Station == 0))) || (!S.1)))::(79,.bool ((g || (!(M.1.Person == 1 && M.1.Station == 0))) || (!S.1)))::(86,.bool q)::(87,.bool q)::(90,.bool (q || (U.1 != 1)))::(91,.bool (q || (U.1 != 1)))::(94,.bool ((q || (U.1 != 1)) || (U.2.1 != (-1))))::[])) hc ?_ ?_
 ·cases hb:(q || (U.1 != 1))
  ·rw [hb] at hf
   refine sp 3 hf rfl fun a hf=>aP ⟨hf.kp rfl,hc⟩
  ·rw [hb] at hf
   refine stS hf rfl rfl rfl fun a hf=>stS hf rfl rfl rfl fun a hf=>sp 1 hf rfl fun a hf=>aP ⟨hf.kp rfl,hc⟩
 intro a w ⟨hf,hc⟩
 refine zT h ?_
 refine zI hf rfl hF ?_ ?_ <;> clear hF <;> intro hF
 ·refine zS fun K h=>sp 1 hf rfl fun a hf=>zT h ?_
  refine wp_ret ?_
  refine aN ?_
  obtain rfl:=sj hF
  replace hc:=(((hc.drop k3).drop k2).drop k1).drop k0
  exact zO1 Tryz.results13 hf rfl ⟨rfl,hc⟩
 ·refine wp_skip ?_
  refine h7 _ _ ?_
  refine zS fun K h=>?_
  obtain ⟨cd,bf,hF⟩:=aA hF
  refine zC hf aIv rfl (rP 80 hc bf) ?_
  rintro _ w ⟨dm,d2,rfl,hc⟩
  refine ⟨_,rfl,fun a hf=>?_⟩
  obtain ⟨H,bc,hF⟩:=aA hF
  refine zQ (v:=.tuple #[i6 H.1,i6 H.2]) hf hc en_30 rfl (fun w hc=>by obtain ⟨G1,j,Z,hc,d⟩:=lend hc k0; exact (aAq cd Z hc bc).mono fun e w h=>⟨h.1,((d _ _ h.2).unpick k0)⟩) fun a w hf hc=>sp 5 hf rfl fun a hf=>zT h ?_
  refine zS fun K h=>?_
  obtain ⟨cg,bn,hF⟩:=aA hF
  refine zC hf aG4 rfl (rI hc bn) ?_
  rintro _ w ⟨dp,d1,rfl,hc⟩
  refine ⟨_,rfl,fun a hf=>?_⟩
  obtain ⟨B,bg,hF⟩:=aA hF
  refine zQ (v:=.tuple #[.agg #[i6 B.1.Lo,i6 B.1.Hi],i6 B.2]) hf hc en_31 rfl (fun w hc=>by obtain ⟨G1,j,Z,hc,d⟩:=lend hc k0; exact (aCd cg 5 Z hc bg).mono fun e w h=>⟨h.1,((d _ _ h.2).unpick k0)⟩) fun a w hf hc=>sp 3 hf rfl fun a hf=>zA hf hc aHm rfl fun ax a w hf hc=>zW hf hc wD u0 rfl fun w hc=>sp 1 hf rfl fun a hf=>zT h ?_
  refine zS fun K h=>?_
  obtain ⟨cf,a7,hF⟩:=aA hF
  refine zC hf aG4 rfl (rI hc a7) ?_
  rintro _ w ⟨dk,d5,rfl,hc⟩
  refine ⟨_,rfl,fun a hf=>?_⟩
  obtain ⟨D,a8,hF⟩:=aA hF
  refine zQ (v:=.tuple #[i6 D.1,i6 D.2.1,i6 D.2.2]) hf hc en_33 rfl (fun w hc=>by obtain ⟨G1,j,Z,hc,d⟩:=lend hc k0; exact (aAc cf Z hc a8).mono fun e w h=>⟨h.1,((d _ _ h.2).unpick k0)⟩) fun a w hf hc=>sp 7 hf rfl fun a hf=>zT h ?_
  refine wp_seq_k fun K13 c8=>cJ ?_
  obtain ⟨X,bb,hF⟩:=aA hF
  refine zC hf aG4 rfl (rI hc bb) ?_
  rintro _ w ⟨a1,a3,rfl,hc⟩
  refine ⟨_,rfl,fun a hf=>?_⟩
  refine zA hf hc aEz rfl fun af a w hf hc=>zW hf hc aDk u0 rfl fun w hc=>aP ?_
  replace hc:=((((((hc.drop k9).drop k8).drop k7).drop k6).drop k5).drop k4).drop k2
  refine c8 _ _ ?_
  refine wp_seq_k fun K14 cu=>?_
  obtain ⟨Y,a9,hF⟩:=aA hF
  obtain ⟨un,dc,hF⟩:=aA hF
  replace hc:=hc.nilRow 0 0
  refine gK (fun θ=>[⟨none,none,2,i6 H.2⟩,⟨none,none,4,i6 B.2⟩,⟨none,none,6,i6 D.2.2⟩,⟨none,none,9,i6 D.1⟩,⟨none,none,10,i6 D.2.1⟩,⟨none,none,12,i6 H.1⟩,⟨none,none,13,pq ax⟩,⟨none,none,14,pq af⟩,⟨some 0,none,112,.pointer (some ⟨af,4,none⟩)⟩,⟨some 1,none,113,.slice a1 X.Rides.length a3⟩,⟨some 2,none,114,.agg #[i6 Y.Lo,i6 Y.Hi]⟩,⟨some 3,none,115,.agg #[i6 5,i6 5,i6 Y.Lo,i6 Y.Hi]⟩,⟨some 4,none,116,.slice (some ⟨(θ 32).b,0,none⟩) 1 1⟩,⟨some 5,none,117,.slice ((θ 40).p) ((X.Rides++[(⟨5,5,Y⟩:aI)]).length) ((θ 40).c)⟩,⟨some 6,none,118,.pointer (some ⟨af,4,none⟩)⟩]) (fun E θ=>(bif E 4 then .row (some ⟨(θ 32).b,0,none⟩) 1 (([(⟨5,5,Y⟩:aI)]:List aI).map aK) 85 4 else .row none 0 [] 0 0)::(bif E 7 then .box af [i6 X.Car,i6 X.Wide,i6 X.Sag,i6 X.Most,.slice ((θ 40).p) ((X.Rides++[(⟨5,5,Y⟩:aI)]).length) ((θ 40).c)] 80 else .box af [i6 X.Car,i6 X.Wide,i6 X.Sag,i6 X.Most,.slice a1 X.Rides.length a3] 80)::(bif E 5 then .row ((θ 40).p) ((θ 40).c) ((X.Rides++[(⟨5,5,Y⟩:aI)]).map aK) 85 4 else .row a1 a3 (X.Rides.map aK) 85 4)::.box ax [i6 B.1.Lo,i6 B.1.Hi] 73::Lf) [(7,1),(7,5)] (fun a w=>∃ (a2:Nat) (ac:Option Addr) (ad:Nat),Has 174 a [(2,i6 H.2),(4,i6 B.2),(6,i6 D.2.2),(9,i6 D.1),(10,i6 D.2.1),(12,i6 H.1),(13,pq ax),(14,pq af)]∧Ctx G (.row (some ⟨a2,0,none⟩) 1 (([(⟨5,5,Y⟩:aI)]:List aI).map aK) 85 4::.box af [i6 X.Car,i6 X.Wide,i6 X.Sag,i6 X.Most,.slice ac ((X.Rides++[(⟨5,5,Y⟩:aI)]).length) ad] 80::.row ac ad ((X.Rides++[(⟨5,5,Y⟩:aI)]).map aK) 85 4::.box ax [i6 B.1.Lo,i6 B.1.Hi] 73::Lf) w) aU (by kernel_rfl) (by kernel_rfl) (fB.of hf ⟨rfl,rfl,rfl,rfl,rfl,rfl,rfl,rfl,trivial,trivial,trivial,trivial,trivial,trivial,trivial,trivial⟩) hc ⟨?_,?_,?_,?_,?_,?_,?_,?_,trivial⟩ ?_ ?_
  ·intro E θ a w hD hi hp he hc
   have hf:=he.h0.mT he 7 rfl
   refine zP hf rfl (pFA jU rfl) fun a hf=>zD θ he hi hf 8 rfl rfl rfl hc
  ·intro E θ a w hD hi hp he hc
   have e0:=hp.o 0 rfl
   have e7:=hD.f 0 rfl hi
   try dsimp only at hc
   rw [e7] at hc
   have hf:=he.h0.mP he 8 rfl e0
   refine zL hf hc tI m1 rfl fun a w hf hc=>zD θ he hi hf 9 rfl rfl rfl ?_
   try dsimp only
   rw [bB 1 e7 rfl]
   exact hc
  ·intro E θ a w hD hi hp he hc
   have hf:=he.h0
   refine zQ (v:=.agg #[i6 Y.Lo,i6 Y.Hi]) hf hc aAr rfl (fun w hc=>iR 90 90 hc a9) fun a w hf hc=>zD θ he hi hf 10 rfl rfl rfl hc
  ·intro E θ a w hD hi hp he hc
   have e2:=hp.o 2 rfl
   have hf:=he.h0.mP he 10 rfl e2
   refine zP hf rfl (cF (cells:=[i6 5,i6 5,i6 Y.Lo,i6 Y.Hi]) aHy rfl rfl) fun a hf=>zD θ he hi hf 11 rfl rfl rfl hc
  ·intro E θ a w hD hi hp he hc
   have e3:=hp.o 3 rfl
   try dsimp only at hc
   rw [hi] at hc
   have hf:=he.h0.mP he 11 rfl e3
   refine jD (rows:=([(⟨5,5,Y⟩:aI)]:List aI).map aK) (vs:=[(0,.agg #[i6 5,i6 5,i6 Y.Lo,i6 Y.Hi])]) hf hc rfl rfl aAi rfl ⟨rfl,rfl,rfl,trivial⟩ rfl rfl fun c7 a w hf hc=>aP ?_
   refine cV ?_
   intro ds u ay
   replace hc:=hc.drop k1
   refine ⟨(lA θ 32 ⟨c7,none,0,(fun _=>(none,0))⟩),he.put hi ay hf rfl [] trivial ⟨qq,qq,qq,qq,qq,qq,qq,qq,qq,qq,qq,qq,qq,qq,qq,trivial⟩,?_⟩
   try dsimp only
   rw [aR E 4]
   exact hc
  ·intro E θ a w hD hi hp he hc
   have e1:=hp.o 1 rfl
   have e4:=hp.o 4 rfl
   have e7:=hD.f 1 rfl hi
   try dsimp only at hc
   rw [e4,hi,e7] at hc
   have hf:=(he.h0.mP he 9 rfl e1).mP he 12 rfl e4
   refine kY (xs:=X.Rides) (ys:=([(⟨5,5,Y⟩:aI)]:List aI)) hf hc rfl rfl aAi rfl rfl rfl rfl rfl kU (fG hc m0) (fun _ _=>u2) (by simpa using cP dc) fun cc cz a w hf hc=>aP ?_
   refine cV ?_
   intro ds u ay
   refine ⟨(lA θ 40 ⟨0,cc,cz,(fun _=>(none,0))⟩),he.put hi ay hf rfl [] trivial ⟨qq,qq,qq,qq,qq,qq,qq,qq,qq,qq,qq,qq,qq,qq,qq,trivial⟩,?_⟩
   try dsimp only
   rw [dK 5 e4,aR E 5,bB 5 e7 rfl]
   exact hc
  ·intro E θ a w hD hi hp he hc
   have hf:=he.h0.mT he 7 rfl
   refine zP hf rfl (pFA jU rfl) fun a hf=>zD θ he hi hf 14 rfl rfl rfl hc
  ·intro E θ a w hD hi hp he hc
   have e5:=hp.o 5 rfl
   have e6:=hp.o 6 rfl
   try dsimp only at hc
   rw [hi] at hc
   have hf:=(he.h0.mP he 13 rfl e5).mP he 14 rfl e6
   refine zW hf hc aHs u1 rfl fun w hc=>zG θ he hi hf rfl ?_
   try dsimp only
   rw [aR E 7]
   exact hc
  ·intro E θ a w ag he hc
   have hf:=he.h0
   have e4:=ag 4 rfl
   have e5:=ag 5 rfl
   have e7:=ag 7 rfl
   replace hf:=hf.more he 7 rfl (onT)
   replace hf:=hf.more he 6 rfl (onT)
   replace hf:=hf.more he 5 rfl (onT)
   replace hf:=hf.more he 4 rfl (onT)
   replace hf:=hf.more he 3 rfl (onT)
   replace hf:=hf.more he 2 rfl (onT)
   replace hf:=hf.more he 1 rfl (onT)
   replace hf:=hf.more he 0 rfl (onT)
   try dsimp only at hc
   rw [e4,e5,e7] at hc
   exact ⟨(θ 32).b,(θ 40).p,(θ 40).c,hf.kp rfl,hc⟩
  rintro a w ⟨a2,ac,ad,hf,hc⟩
  refine cu _ _ ?_
  refine zS fun K h=>zN hf hc mW m1 rfl fun a w hf hc=>?_
  obtain ⟨O,bk,hF⟩:=aA hF
  obtain ⟨G1,j,Z,hc,d⟩:=lend hc k2
  refine zC hf en_35 rfl (aBc (⟨X.Car,X.Wide,X.Sag,X.Most,(X.Rides++[(⟨5,5,Y⟩:aI)])⟩:aM) Z hc bk) ?_
  rintro _ w ⟨av,aq,rfl,hc⟩
  refine ⟨_,rfl,fun a hf=>?_⟩
  replace hc:=d _ _ hc
  refine sp 5 hf rfl fun a hf=>zT h ?_
  refine zS fun K h=>zP hf rfl (cF (cells:=[i6 600,i6 480,i6 500]) bt_89 rfl rfl) fun a hf=>jD (rows:=([481]:List Int).map aD) (vs:=[(0,i6 481)]) hf hc rfl rfl fN rfl ⟨rfl,rfl,rfl,trivial⟩ rfl rfl fun a6 a w hf hc=>?_
  obtain ⟨R,bd,hF⟩:=aA hF
  refine zQ (v:=.tuple #[i6 R.1,i6 R.2]) hf hc en_36 rfl (fun w hc=>by obtain ⟨G1,j,Z,hc,d⟩:=lend hc k0; exact (aCq (⟨600,480,500⟩:sD) ([481]:List Int) Z hc bd).mono fun e w h=>⟨h.1,((d _ _ h.2).unpick k0)⟩) fun a w hf hc=>sp 5 hf rfl fun a hf=>zT h ?_
  refine wp_seq_k fun K17 da=>?_
  obtain ⟨I,bj,hF⟩:=aA hF
  obtain ⟨i,ba,hF⟩:=aA hF
  replace hc:=hc.nilRow 0 0
  refine gK (fun θ=>(⟨none,none,2,i6 H.2⟩::⟨none,none,4,i6 B.2⟩::⟨none,none,6,i6 D.2.2⟩::⟨none,none,8,i6 O.2⟩::⟨none,none,9,i6 D.1⟩::⟨none,none,10,i6 D.2.1⟩::⟨none,none,11,i6 R.2⟩::⟨none,none,12,i6 H.1⟩::⟨none,none,13,pq ax⟩::⟨none,none,15,.slice av O.1.length aq⟩::⟨none,none,16,i6 R.1⟩::⟨some 0,none,130,i6 H.2⟩::⟨some 1,none,131,.bool (H.2 == 0)⟩::⟨some 2,none,132,.bool (H.2 == 0)⟩::⟨some 3,none,133,(bif (H.2 == 0) then i6 B.2 else undef)⟩::⟨some 4,none,134,(bif (H.2 == 0) then .bool (B.2 == 0) else undef)⟩::⟨some 5,none,135,.bool ((H.2 == 0) && (B.2 == 0))⟩::⟨some 6,none,136,.bool ((H.2 == 0) && (B.2 == 0))⟩::⟨some 7,none,137,(bif ((H.2 == 0) && (B.2 == 0)) then i6 D.2.2 else undef)⟩::⟨some 8,none,138,(bif ((H.2 == 0) && (B.2 == 0)) then .bool (D.2.2 == 0) else undef)⟩::⟨some 9,none,139,.bool (((H.2 == 0) && (B.2 == 0)) && (D.2.2 == 0))⟩::⟨some 10,none,140,.bool (((H.2 == 0) && (B.2 == 0)) && (D.2.2 == 0))⟩::⟨some 11,none,141,(bif (((H.2 == 0) && (B.2 == 0)) && (D.2.2 == 0)) then i6 O.2 else undef)⟩::⟨some 12,none,142,(bif (((H.2 == 0) && (B.2 == 0)) && (D.2.2 == 0)) then .bool (O.2 == 0) else undef)⟩::⟨some 13,none,143,.bool ((((H.2 == 0) && (B.2 == 0)) && (D.2.2 == 0)) && (O.2 == 0))⟩::⟨some 14,none,144,.bool ((((H.2 == 0) && (B.2 == 0)) && (D.2.2 == 0)) && (O.2 == 0))⟩::⟨some 15,none,145,(bif ((((H.2 == 0) && (B.2 == 0)) && (D.2.2 == 0)) && (O.2 == 0)) then i6 R.2 else undef)⟩::⟨some 16,none,146,(bif ((((H.2 == 0) && (B.2 == 0)) && (D.2.2 == 0)) && (O.2 == 0)) then .bool (R.2 == 0) else undef)⟩::⟨some 17,none,147,.bool (((((H.2 == 0) && (B.2 == 0)) && (D.2.2 == 0)) && (O.2 == 0)) && (R.2 == 0))⟩::⟨some 18,none,148,.bool (((((H.2 == 0) && (B.2 == 0)) && (D.2.2 == 0)) && (O.2 == 0)) && (R.2 == 0))⟩::⟨some 19,none,149,(bif (((((H.2 == 0) && (B.2 == 0)) && (D.2.2 == 0)) && (O.2 == 0)) && (R.2 == 0)) then i6 H.1 else undef)⟩::⟨some 20,none,150,(bif (((((H.2 == 0) && (B.2 == 0)) && (D.2.2 == 0)) && (O.2 == 0)) && (R.2 == 0)) then .bool (H.1 == 5) else undef)⟩::⟨some 21,none,151,.bool ((((((H.2 == 0) && (B.2 == 0)) && (D.2.2 == 0)) && (O.2 == 0)) && (R.2 == 0)) && (H.1 == 5))⟩::⟨some 22,none,152,.bool ((((((H.2 == 0) && (B.2 == 0)) && (D.2.2 == 0)) && (O.2 == 0)) && (R.2 == 0)) && (H.1 == 5))⟩::⟨some 23,none,153,(bif ((((((H.2 == 0) && (B.2 == 0)) && (D.2.2 == 0)) && (O.2 == 0)) && (R.2 == 0)) && (H.1 == 5)) then .agg #[i6 B.1.Lo,i6 B.1.Hi] else undef)⟩::⟨some 24,none,154,(bif ((((((H.2 == 0) && (B.2 == 0)) && (D.2.2 == 0)) && (O.2 == 0)) && (R.2 == 0)) && (H.1 == 5)) then .agg #[i6 I.Lo,i6 I.Hi] else undef)⟩::⟨some 25,none,155,(bif ((((((H.2 == 0) && (B.2 == 0)) && (D.2.2 == 0)) && (O.2 == 0)) && (R.2 == 0)) && (H.1 == 5)) then .bool (B.1.Lo == I.Lo && B.1.Hi == I.Hi) else undef)⟩::⟨some 26,none,156,.bool (((((((H.2 == 0) && (B.2 == 0)) && (D.2.2 == 0)) && (O.2 == 0)) && (R.2 == 0)) && (H.1 == 5)) && (B.1.Lo == I.Lo && B.1.Hi == I.Hi))⟩::⟨some 27,none,157,.bool (((((((H.2 == 0) && (B.2 == 0)) && (D.2.2 == 0)) && (O.2 == 0)) && (R.2 == 0)) && (H.1 == 5)) && (B.1.Lo == I.Lo && B.1.Hi == I.Hi))⟩::⟨some 28,none,158,(bif (((((((H.2 == 0) && (B.2 == 0)) && (D.2.2 == 0)) && (O.2 == 0)) && (R.2 == 0)) && (H.1 == 5)) && (B.1.Lo == I.Lo && B.1.Hi == I.Hi)) then i6 D.1 else undef)⟩::⟨some 29,none,159,(bif (((((((H.2 == 0) && (B.2 == 0)) && (D.2.2 == 0)) && (O.2 == 0)) && (R.2 == 0)) && (H.1 == 5)) && (B.1.Lo == I.Lo && B.1.Hi == I.Hi)) then .bool (D.1 == 5) else undef)⟩::⟨some 30,none,160,.bool ((((((((H.2 == 0) && (B.2 == 0)) && (D.2.2 == 0)) && (O.2 == 0)) && (R.2 == 0)) && (H.1 == 5)) && (B.1.Lo == I.Lo && B.1.Hi == I.Hi)) && (D.1 == 5))⟩::⟨some 31,none,161,.bool ((((((((H.2 == 0) && (B.2 == 0)) && (D.2.2 == 0)) && (O.2 == 0)) && (R.2 == 0)) && (H.1 == 5)) && (B.1.Lo == I.Lo && B.1.Hi == I.Hi)) && (D.1 == 5))⟩::⟨some 32,none,162,(bif ((((((((H.2 == 0) && (B.2 == 0)) && (D.2.2 == 0)) && (O.2 == 0)) && (R.2 == 0)) && (H.1 == 5)) && (B.1.Lo == I.Lo && B.1.Hi == I.Hi)) && (D.1 == 5)) then i6 D.2.1 else undef)⟩::⟨some 33,none,163,(bif ((((((((H.2 == 0) && (B.2 == 0)) && (D.2.2 == 0)) && (O.2 == 0)) && (R.2 == 0)) && (H.1 == 5)) && (B.1.Lo == I.Lo && B.1.Hi == I.Hi)) && (D.1 == 5)) then .bool (D.2.1 == (-1)) else undef)⟩::⟨some 34,none,164,.bool (((((((((H.2 == 0) && (B.2 == 0)) && (D.2.2 == 0)) && (O.2 == 0)) && (R.2 == 0)) && (H.1 == 5)) && (B.1.Lo == I.Lo && B.1.Hi == I.Hi)) && (D.1 == 5)) && (D.2.1 == (-1)))⟩::⟨some 35,none,165,.bool (((((((((H.2 == 0) && (B.2 == 0)) && (D.2.2 == 0)) && (O.2 == 0)) && (R.2 == 0)) && (H.1 == 5)) && (B.1.Lo == I.Lo && B.1.Hi == I.Hi)) && (D.1 == 5)) && (D.2.1 == (-1)))⟩::⟨some 36,none,166,(bif (((((((((H.2 == 0) && (B.2 == 0)) && (D.2.2 == 0)) && (O.2 == 0)) && (R.2 == 0)) && (H.1 == 5)) && (B.1.Lo == I.Lo && B.1.Hi == I.Hi)) && (D.1 == 5)) && (D.2.1 == (-1))) then .slice av O.1.length aq else undef)⟩::⟨some 37,none,167,(bif (((((((((H.2 == 0) && (B.2 == 0)) && (D.2.2 == 0)) && (O.2 == 0)) && (R.2 == 0)) && (H.1 == 5)) && (B.1.Lo == I.Lo && B.1.Hi == I.Hi)) && (D.1 == 5)) && (D.2.1 == (-1))) then .slice (some ⟨(θ 296).b,0,none⟩) 3 3 else undef)⟩::⟨some 38,none,168,(bif (((((((((H.2 == 0) && (B.2 == 0)) && (D.2.2 == 0)) && (O.2 == 0)) && (R.2 == 0)) && (H.1 == 5)) && (B.1.Lo == I.Lo && B.1.Hi == I.Hi)) && (D.1 == 5)) && (D.2.1 == (-1))) then .bool i else undef)⟩::⟨some 39,none,169,.bool ((((((((((H.2 == 0) && (B.2 == 0)) && (D.2.2 == 0)) && (O.2 == 0)) && (R.2 == 0)) && (H.1 == 5)) && (B.1.Lo == I.Lo && B.1.Hi == I.Hi)) && (D.1 == 5)) && (D.2.1 == (-1))) && i)⟩::⟨some 40,none,170,.bool ((((((((((H.2 == 0) && (B.2 == 0)) && (D.2.2 == 0)) && (O.2 == 0)) && (R.2 == 0)) && (H.1 == 5)) && (B.1.Lo == I.Lo && B.1.Hi == I.Hi)) && (D.1 == 5)) && (D.2.1 == (-1))) && i)⟩::⟨some 41,none,171,(bif ((((((((((H.2 == 0) && (B.2 == 0)) && (D.2.2 == 0)) && (O.2 == 0)) && (R.2 == 0)) && (H.1 == 5)) && (B.1.Lo == I.Lo && B.1.Hi == I.Hi)) && (D.1 == 5)) && (D.2.1 == (-1))) && i) then i6 R.1 else undef)⟩::⟨some 42,none,172,(bif ((((((((((H.2 == 0) && (B.2 == 0)) && (D.2.2 == 0)) && (O.2 == 0)) && (R.2 == 0)) && (H.1 == 5)) && (B.1.Lo == I.Lo && B.1.Hi == I.Hi)) && (D.1 == 5)) && (D.2.1 == (-1))) && i) then .bool (R.1 == 4815) else undef)⟩::⟨some 43,none,173,.bool (((((((((((H.2 == 0) && (B.2 == 0)) && (D.2.2 == 0)) && (O.2 == 0)) && (R.2 == 0)) && (H.1 == 5)) && (B.1.Lo == I.Lo && B.1.Hi == I.Hi)) && (D.1 == 5)) && (D.2.1 == (-1))) && i) && (R.1 == 4815))⟩::⟨some 44,none,0,.bool (((((((((((H.2 == 0) && (B.2 == 0)) && (D.2.2 == 0)) && (O.2 == 0)) && (R.2 == 0)) && (H.1 == 5)) && (B.1.Lo == I.Lo && B.1.Hi == I.Hi)) && (D.1 == 5)) && (D.2.1 == (-1))) && i) && (R.1 == 4815))⟩::[])) (fun E θ=>(bif E 37 then (gE (((((((((H.2 == 0) && (B.2 == 0)) && (D.2.2 == 0)) && (O.2 == 0)) && (R.2 == 0)) && (H.1 == 5)) && (B.1.Lo == I.Lo && B.1.Hi == I.Hi)) && (D.1 == 5)) && (D.2.1 == (-1))) (.row (some ⟨(θ 296).b,0,none⟩) 3 (([0,10,15]:List Int).map aD) 3 1)) else .row none 0 [] 0 0)::.row (some ⟨a6,0,none⟩) 1 (([481]:List Int).map aD) 3 1::.row ac ad ((X.Rides++[(⟨5,5,Y⟩:aI)]).map aK) 85 4::.row av aq (O.1.map aD) 3 1::.row (some ⟨a2,0,none⟩) 1 (([(⟨5,5,Y⟩:aI)]:List aI).map aK) 85 4::.box af [i6 X.Car,i6 X.Wide,i6 X.Sag,i6 X.Most,.slice ac ((X.Rides++[(⟨5,5,Y⟩:aI)]).length) ad] 80::.box ax [i6 B.1.Lo,i6 B.1.Hi] 73::Lf) [] (fun a w=>Has 174 a [(0,.bool (((((((((((H.2 == 0) && (B.2 == 0)) && (D.2.2 == 0)) && (O.2 == 0)) && (R.2 == 0)) && (H.1 == 5)) && (B.1.Lo == I.Lo && B.1.Hi == I.Hi)) && (D.1 == 5)) && (D.2.1 == (-1))) && i) && (R.1 == 4815)))]∧Ctx G (.row (some ⟨a6,0,none⟩) 1 (([481]:List Int).map aD) 3 1::.row ac ad ((X.Rides++[(⟨5,5,Y⟩:aI)]).map aK) 85 4::.row av aq (O.1.map aD) 3 1::.row (some ⟨a2,0,none⟩) 1 (([(⟨5,5,Y⟩:aI)]:List aI).map aK) 85 4::.box af [i6 X.Car,i6 X.Wide,i6 X.Sag,i6 X.Most,.slice ac ((X.Rides++[(⟨5,5,Y⟩:aI)]).length) ad] 80::.box ax [i6 B.1.Lo,i6 B.1.Hi] 73::Lf) w) aU (by kernel_rfl) (by kernel_rfl) (fB.of hf ⟨rfl,rfl,rfl,rfl,rfl,rfl,rfl,rfl,rfl,rfl,rfl,trivial,trivial,trivial,trivial,trivial,trivial,trivial,trivial,trivial,trivial,trivial,trivial,trivial,trivial,trivial,trivial,trivial,trivial,trivial,trivial,trivial,trivial,trivial,trivial,trivial,trivial,trivial,trivial,trivial,trivial,trivial,trivial,trivial,trivial,trivial,trivial,trivial,trivial,trivial,trivial,trivial,trivial,trivial,trivial,trivial,trivial⟩) hc ⟨?_,?_,?_,?_,?_,?_,?_,?_,?_,?_,?_,?_,?_,?_,?_,?_,?_,?_,?_,?_,?_,?_,?_,?_,?_,?_,?_,?_,?_,?_,?_,?_,?_,?_,?_,?_,?_,?_,?_,?_,?_,?_,?_,?_,?_,trivial⟩ ?_ ?_
  ·intro E θ a w hD hi hp he hc
   have hf:=he.h0.mT he 0 rfl
   refine sp 1 hf rfl fun a hf=>zD θ he hi hf 11 rfl rfl rfl hc
  ·intro E θ a w hD hi hp he hc
   have e0:=hp.o 0 rfl
   have hf:=he.h0.mP he 11 rfl e0
   refine sp 1 hf rfl fun a hf=>zD θ he hi hf 12 rfl rfl rfl hc
  ·intro E θ a w hD hi hp he hc
   have e1:=hp.o 1 rfl
   have hf:=he.h0.mP he 12 rfl e1
   refine sp 1 hf rfl fun a hf=>zD θ he hi hf 13 rfl rfl rfl hc
  ·intro E θ a w hD hi hp he hc
   have e2:=hp.o 2 rfl
   rcases dX (H.2 == 0) with hb | hb
   ·have hf:=(he.h0.mT he 1 rfl).mP he 13 rfl e2
    replace hf:=bZ hb hf
    refine sp 1 hf rfl fun a hf=>?_
    replace hf:=lT (u:=undef) hb hf
    exact zD θ he hi hf 14 rfl rfl rfl hc
   ·have hf:=(he.h0.mT he 1 rfl).mP he 13 rfl e2
    replace hf:=bZ hb hf
    refine stS hf rfl rfl rfl fun a hf=>?_
    replace hf:=lS (u:=i6 B.2) hb hf
    exact zD θ he hi hf 14 rfl rfl rfl hc
  ·intro E θ a w hD hi hp he hc
   have e2:=hp.o 2 rfl
   have e3:=hp.o 3 rfl
   rcases dX (H.2 == 0) with hb | hb
   ·have hf:=he.h0.mP he 13 rfl e2
    replace hf:=bZ hb hf
    replace hf:=hf.more he 14 rfl (onP e3)
    replace hf:=iD hb hf
    refine sp 1 hf rfl fun a hf=>?_
    replace hf:=lT (u:=undef) hb hf
    exact zD θ he hi hf 15 rfl rfl rfl hc
   ·have hf:=he.h0.mP he 13 rfl e2
    replace hf:=bZ hb hf
    replace hf:=hf.more he 14 rfl (onP e3)
    replace hf:=iC hb hf
    refine stS hf rfl rfl rfl fun a hf=>?_
    replace hf:=lS (u:=.bool (B.2 == 0)) hb hf
    exact zD θ he hi hf 15 rfl rfl rfl hc
  ·intro E θ a w hD hi hp he hc
   have e2:=hp.o 2 rfl
   have e4:=hp.o 4 rfl
   rcases dX (H.2 == 0) with hb | hb
   ·have hf:=he.h0.mP he 13 rfl e2
    replace hf:=bZ hb hf
    replace hf:=hf.more he 15 rfl (onP e4)
    replace hf:=iD hb hf
    refine sp 1 hf rfl fun a hf=>?_
    replace hf:=jP (v':=.bool ((H.2 == 0) && (B.2 == 0))) (congrArg Value.bool (aBb hb)) hf
    exact zD θ he hi hf 16 rfl rfl rfl hc
   ·have hf:=he.h0.mP he 13 rfl e2
    replace hf:=bZ hb hf
    replace hf:=hf.more he 15 rfl (onP e4)
    replace hf:=iC hb hf
    refine sp 1 hf rfl fun a hf=>?_
    replace hf:=jP (v':=.bool ((H.2 == 0) && (B.2 == 0))) (congrArg Value.bool (aBg hb)) hf
    exact zD θ he hi hf 16 rfl rfl rfl hc
  ·intro E θ a w hD hi hp he hc
   have e5:=hp.o 5 rfl
   have hf:=he.h0.mP he 16 rfl e5
   refine sp 1 hf rfl fun a hf=>zD θ he hi hf 17 rfl rfl rfl hc
  ·intro E θ a w hD hi hp he hc
   have e6:=hp.o 6 rfl
   rcases dX ((H.2 == 0) && (B.2 == 0)) with hb | hb
   ·have hf:=(he.h0.mT he 2 rfl).mP he 17 rfl e6
    replace hf:=bZ hb hf
    refine sp 1 hf rfl fun a hf=>?_
    replace hf:=lT (u:=undef) hb hf
    exact zD θ he hi hf 18 rfl rfl rfl hc
   ·have hf:=(he.h0.mT he 2 rfl).mP he 17 rfl e6
    replace hf:=bZ hb hf
    refine stS hf rfl rfl rfl fun a hf=>?_
    replace hf:=lS (u:=i6 D.2.2) hb hf
    exact zD θ he hi hf 18 rfl rfl rfl hc
  ·intro E θ a w hD hi hp he hc
   have e6:=hp.o 6 rfl
   have e7:=hp.o 7 rfl
   rcases dX ((H.2 == 0) && (B.2 == 0)) with hb | hb
   ·have hf:=he.h0.mP he 17 rfl e6
    replace hf:=bZ hb hf
    replace hf:=hf.more he 18 rfl (onP e7)
    replace hf:=iD hb hf
    refine sp 1 hf rfl fun a hf=>?_
    replace hf:=lT (u:=undef) hb hf
    exact zD θ he hi hf 19 rfl rfl rfl hc
   ·have hf:=he.h0.mP he 17 rfl e6
    replace hf:=bZ hb hf
    replace hf:=hf.more he 18 rfl (onP e7)
    replace hf:=iC hb hf
    refine stS hf rfl rfl rfl fun a hf=>?_
    replace hf:=lS (u:=.bool (D.2.2 == 0)) hb hf
    exact zD θ he hi hf 19 rfl rfl rfl hc
  ·intro E θ a w hD hi hp he hc
   have e6:=hp.o 6 rfl
   have e8:=hp.o 8 rfl
   rcases dX ((H.2 == 0) && (B.2 == 0)) with hb | hb
   ·have hf:=he.h0.mP he 17 rfl e6
    replace hf:=bZ hb hf
    replace hf:=hf.more he 19 rfl (onP e8)
    replace hf:=iD hb hf
    refine sp 1 hf rfl fun a hf=>?_
    replace hf:=jP (v':=.bool (((H.2 == 0) && (B.2 == 0)) && (D.2.2 == 0))) (congrArg Value.bool (aBb hb)) hf
    exact zD θ he hi hf 20 rfl rfl rfl hc
   ·have hf:=he.h0.mP he 17 rfl e6
    replace hf:=bZ hb hf
    replace hf:=hf.more he 19 rfl (onP e8)
    replace hf:=iC hb hf
    refine sp 1 hf rfl fun a hf=>?_
    replace hf:=jP (v':=.bool (((H.2 == 0) && (B.2 == 0)) && (D.2.2 == 0))) (congrArg Value.bool (aBg hb)) hf
    exact zD θ he hi hf 20 rfl rfl rfl hc
  ·intro E θ a w hD hi hp he hc
   have e9:=hp.o 9 rfl
   have hf:=he.h0.mP he 20 rfl e9
   refine sp 1 hf rfl fun a hf=>zD θ he hi hf 21 rfl rfl rfl hc
  ·intro E θ a w hD hi hp he hc
   have ak:=hp.o 10 rfl
   rcases dX (((H.2 == 0) && (B.2 == 0)) && (D.2.2 == 0)) with hb | hb
   ·have hf:=(he.h0.mT he 3 rfl).mP he 21 rfl ak
    replace hf:=bZ hb hf
    refine sp 1 hf rfl fun a hf=>?_
    replace hf:=lT (u:=undef) hb hf
    exact zD θ he hi hf 22 rfl rfl rfl hc
   ·have hf:=(he.h0.mT he 3 rfl).mP he 21 rfl ak
    replace hf:=bZ hb hf
    refine stS hf rfl rfl rfl fun a hf=>?_
    replace hf:=lS (u:=i6 O.2) hb hf
    exact zD θ he hi hf 22 rfl rfl rfl hc
  ·intro E θ a w hD hi hp he hc
   have ak:=hp.o 10 rfl
   have b3:=hp.o 11 rfl
   rcases dX (((H.2 == 0) && (B.2 == 0)) && (D.2.2 == 0)) with hb | hb
   ·have hf:=he.h0.mP he 21 rfl ak
    replace hf:=bZ hb hf
    replace hf:=hf.more he 22 rfl (onP b3)
    replace hf:=iD hb hf
    refine sp 1 hf rfl fun a hf=>?_
    replace hf:=lT (u:=undef) hb hf
    exact zD θ he hi hf 23 rfl rfl rfl hc
   ·have hf:=he.h0.mP he 21 rfl ak
    replace hf:=bZ hb hf
    replace hf:=hf.more he 22 rfl (onP b3)
    replace hf:=iC hb hf
    refine stS hf rfl rfl rfl fun a hf=>?_
    replace hf:=lS (u:=.bool (O.2 == 0)) hb hf
    exact zD θ he hi hf 23 rfl rfl rfl hc
  ·intro E θ a w hD hi hp he hc
   have ak:=hp.o 10 rfl
   have bp:=hp.o 12 rfl
   rcases dX (((H.2 == 0) && (B.2 == 0)) && (D.2.2 == 0)) with hb | hb
   ·have hf:=he.h0.mP he 21 rfl ak
    replace hf:=bZ hb hf
    replace hf:=hf.more he 23 rfl (onP bp)
    replace hf:=iD hb hf
    refine sp 1 hf rfl fun a hf=>?_
    replace hf:=jP (v':=.bool ((((H.2 == 0) && (B.2 == 0)) && (D.2.2 == 0)) && (O.2 == 0))) (congrArg Value.bool (aBb hb)) hf
    exact zD θ he hi hf 24 rfl rfl rfl hc
   ·have hf:=he.h0.mP he 21 rfl ak
    replace hf:=bZ hb hf
    replace hf:=hf.more he 23 rfl (onP bp)
    replace hf:=iC hb hf
    refine sp 1 hf rfl fun a hf=>?_
    replace hf:=jP (v':=.bool ((((H.2 == 0) && (B.2 == 0)) && (D.2.2 == 0)) && (O.2 == 0))) (congrArg Value.bool (aBg hb)) hf
    exact zD θ he hi hf 24 rfl rfl rfl hc
  ·intro E θ a w hD hi hp he hc
   have c3:=hp.o 13 rfl
   have hf:=he.h0.mP he 24 rfl c3
   refine sp 1 hf rfl fun a hf=>zD θ he hi hf 25 rfl rfl rfl hc
  ·intro E θ a w hD hi hp he hc
   have an:=hp.o 14 rfl
   rcases dX ((((H.2 == 0) && (B.2 == 0)) && (D.2.2 == 0)) && (O.2 == 0)) with hb | hb
   ·have hf:=(he.h0.mT he 6 rfl).mP he 25 rfl an
    replace hf:=bZ hb hf
    refine sp 1 hf rfl fun a hf=>?_
    replace hf:=lT (u:=undef) hb hf
    exact zD θ he hi hf 26 rfl rfl rfl hc
   ·have hf:=(he.h0.mT he 6 rfl).mP he 25 rfl an
    replace hf:=bZ hb hf
    refine stS hf rfl rfl rfl fun a hf=>?_
    replace hf:=lS (u:=i6 R.2) hb hf
    exact zD θ he hi hf 26 rfl rfl rfl hc
  ·intro E θ a w hD hi hp he hc
   have an:=hp.o 14 rfl
   have b0:=hp.o 15 rfl
   rcases dX ((((H.2 == 0) && (B.2 == 0)) && (D.2.2 == 0)) && (O.2 == 0)) with hb | hb
   ·have hf:=he.h0.mP he 25 rfl an
    replace hf:=bZ hb hf
    replace hf:=hf.more he 26 rfl (onP b0)
    replace hf:=iD hb hf
    refine sp 1 hf rfl fun a hf=>?_
    replace hf:=lT (u:=undef) hb hf
    exact zD θ he hi hf 27 rfl rfl rfl hc
   ·have hf:=he.h0.mP he 25 rfl an
    replace hf:=bZ hb hf
    replace hf:=hf.more he 26 rfl (onP b0)
    replace hf:=iC hb hf
    refine stS hf rfl rfl rfl fun a hf=>?_
    replace hf:=lS (u:=.bool (R.2 == 0)) hb hf
    exact zD θ he hi hf 27 rfl rfl rfl hc
  ·intro E θ a w hD hi hp he hc
   have an:=hp.o 14 rfl
   have bz:=hp.o 16 rfl
   rcases dX ((((H.2 == 0) && (B.2 == 0)) && (D.2.2 == 0)) && (O.2 == 0)) with hb | hb
   ·have hf:=he.h0.mP he 25 rfl an
    replace hf:=bZ hb hf
    replace hf:=hf.more he 27 rfl (onP bz)
    replace hf:=iD hb hf
    refine sp 1 hf rfl fun a hf=>?_
    replace hf:=jP (v':=.bool (((((H.2 == 0) && (B.2 == 0)) && (D.2.2 == 0)) && (O.2 == 0)) && (R.2 == 0))) (congrArg Value.bool (aBb hb)) hf
    exact zD θ he hi hf 28 rfl rfl rfl hc
   ·have hf:=he.h0.mP he 25 rfl an
    replace hf:=bZ hb hf
    replace hf:=hf.more he 27 rfl (onP bz)
    replace hf:=iC hb hf
    refine sp 1 hf rfl fun a hf=>?_
    replace hf:=jP (v':=.bool (((((H.2 == 0) && (B.2 == 0)) && (D.2.2 == 0)) && (O.2 == 0)) && (R.2 == 0))) (congrArg Value.bool (aBg hb)) hf
    exact zD θ he hi hf 28 rfl rfl rfl hc
  ·intro E θ a w hD hi hp he hc
   have c9:=hp.o 17 rfl
   have hf:=he.h0.mP he 28 rfl c9
   refine sp 1 hf rfl fun a hf=>zD θ he hi hf 29 rfl rfl rfl hc
  ·intro E θ a w hD hi hp he hc
   have aj:=hp.o 18 rfl
   rcases dX (((((H.2 == 0) && (B.2 == 0)) && (D.2.2 == 0)) && (O.2 == 0)) && (R.2 == 0)) with hb | hb
   ·have hf:=(he.h0.mT he 7 rfl).mP he 29 rfl aj
    replace hf:=bZ hb hf
    refine sp 1 hf rfl fun a hf=>?_
    replace hf:=lT (u:=undef) hb hf
    exact zD θ he hi hf 30 rfl rfl rfl hc
   ·have hf:=(he.h0.mT he 7 rfl).mP he 29 rfl aj
    replace hf:=bZ hb hf
    refine stS hf rfl rfl rfl fun a hf=>?_
    replace hf:=lS (u:=i6 H.1) hb hf
    exact zD θ he hi hf 30 rfl rfl rfl hc
  ·intro E θ a w hD hi hp he hc
   have aj:=hp.o 18 rfl
   have b2:=hp.o 19 rfl
   rcases dX (((((H.2 == 0) && (B.2 == 0)) && (D.2.2 == 0)) && (O.2 == 0)) && (R.2 == 0)) with hb | hb
   ·have hf:=he.h0.mP he 29 rfl aj
    replace hf:=bZ hb hf
    replace hf:=hf.more he 30 rfl (onP b2)
    replace hf:=iD hb hf
    refine sp 1 hf rfl fun a hf=>?_
    replace hf:=lT (u:=undef) hb hf
    exact zD θ he hi hf 31 rfl rfl rfl hc
   ·have hf:=he.h0.mP he 29 rfl aj
    replace hf:=bZ hb hf
    replace hf:=hf.more he 30 rfl (onP b2)
    replace hf:=iC hb hf
    refine stS hf rfl rfl rfl fun a hf=>?_
    replace hf:=lS (u:=.bool (H.1 == 5)) hb hf
    exact zD θ he hi hf 31 rfl rfl rfl hc
  ·intro E θ a w hD hi hp he hc
   have aj:=hp.o 18 rfl
   have bv:=hp.o 20 rfl
   rcases dX (((((H.2 == 0) && (B.2 == 0)) && (D.2.2 == 0)) && (O.2 == 0)) && (R.2 == 0)) with hb | hb
   ·have hf:=he.h0.mP he 29 rfl aj
    replace hf:=bZ hb hf
    replace hf:=hf.more he 31 rfl (onP bv)
    replace hf:=iD hb hf
    refine sp 1 hf rfl fun a hf=>?_
    replace hf:=jP (v':=.bool ((((((H.2 == 0) && (B.2 == 0)) && (D.2.2 == 0)) && (O.2 == 0)) && (R.2 == 0)) && (H.1 == 5))) (congrArg Value.bool (aBb hb)) hf
    exact zD θ he hi hf 32 rfl rfl rfl hc
   ·have hf:=he.h0.mP he 29 rfl aj
    replace hf:=bZ hb hf
    replace hf:=hf.more he 31 rfl (onP bv)
    replace hf:=iC hb hf
    refine sp 1 hf rfl fun a hf=>?_
    replace hf:=jP (v':=.bool ((((((H.2 == 0) && (B.2 == 0)) && (D.2.2 == 0)) && (O.2 == 0)) && (R.2 == 0)) && (H.1 == 5))) (congrArg Value.bool (aBg hb)) hf
    exact zD θ he hi hf 32 rfl rfl rfl hc
  ·intro E θ a w hD hi hp he hc
   have c5:=hp.o 21 rfl
   have hf:=he.h0.mP he 32 rfl c5
   refine sp 1 hf rfl fun a hf=>zD θ he hi hf 33 rfl rfl rfl hc
  ·intro E θ a w hD hi hp he hc
   have t:=hp.o 22 rfl
   rcases dX ((((((H.2 == 0) && (B.2 == 0)) && (D.2.2 == 0)) && (O.2 == 0)) && (R.2 == 0)) && (H.1 == 5)) with hb | hb
   ·have hf:=(he.h0.mT he 8 rfl).mP he 33 rfl t
    replace hf:=bZ hb hf
    refine zN hf hc qG m6 rfl fun a w hf hc=>?_
    replace hf:=lT (u:=undef) hb hf
    exact zD θ he hi hf 34 rfl rfl rfl hc
   ·have hf:=(he.h0.mT he 8 rfl).mP he 33 rfl t
    replace hf:=bZ hb hf
    refine stS hf rfl rfl rfl fun a hf=>?_
    replace hf:=lS (u:=.agg #[i6 B.1.Lo,i6 B.1.Hi]) hb hf
    exact zD θ he hi hf 34 rfl rfl rfl hc
  ·intro E θ a w hD hi hp he hc
   have t:=hp.o 22 rfl
   rcases dX ((((((H.2 == 0) && (B.2 == 0)) && (D.2.2 == 0)) && (O.2 == 0)) && (R.2 == 0)) && (H.1 == 5)) with hb | hb
   ·have hf:=he.h0.mP he 33 rfl t
    replace hf:=bZ hb hf
    refine zQ (v:=.agg #[i6 I.Lo,i6 I.Hi]) hf hc aAr rfl (fun w hc=>iR 290 320 hc (iL hb bj)) fun a w hf hc=>?_
    replace hf:=lT (u:=undef) hb hf
    exact zD θ he hi hf 35 rfl rfl rfl hc
   ·have hf:=he.h0.mP he 33 rfl t
    replace hf:=bZ hb hf
    refine stS hf rfl rfl rfl fun a hf=>?_
    replace hf:=lS (u:=.agg #[i6 I.Lo,i6 I.Hi]) hb hf
    exact zD θ he hi hf 35 rfl rfl rfl hc
  ·intro E θ a w hD hi hp he hc
   have t:=hp.o 22 rfl
   have bt:=hp.o 23 rfl
   have bx:=hp.o 24 rfl
   rcases dX ((((((H.2 == 0) && (B.2 == 0)) && (D.2.2 == 0)) && (O.2 == 0)) && (R.2 == 0)) && (H.1 == 5)) with hb | hb
   ·have hf:=he.h0.mP he 33 rfl t
    replace hf:=bZ hb hf
    replace hf:=hf.more he 34 rfl (onP bt)
    replace hf:=iD hb hf
    replace hf:=hf.more he 35 rfl (onP bx)
    replace hf:=iD hb hf
    refine zP hf rfl (pEqA aJx rfl rfl (aHe _ _ _ _)) fun a hf=>?_
    replace hf:=lT (u:=undef) hb hf
    exact zD θ he hi hf 36 rfl rfl rfl hc
   ·have hf:=he.h0.mP he 33 rfl t
    replace hf:=bZ hb hf
    replace hf:=hf.more he 34 rfl (onP bt)
    replace hf:=iC hb hf
    replace hf:=hf.more he 35 rfl (onP bx)
    replace hf:=iC hb hf
    refine stS hf rfl rfl rfl fun a hf=>?_
    replace hf:=lS (u:=.bool (B.1.Lo == I.Lo && B.1.Hi == I.Hi)) hb hf
    exact zD θ he hi hf 36 rfl rfl rfl hc
  ·intro E θ a w hD hi hp he hc
   have t:=hp.o 22 rfl
   have b4:=hp.o 25 rfl
   rcases dX ((((((H.2 == 0) && (B.2 == 0)) && (D.2.2 == 0)) && (O.2 == 0)) && (R.2 == 0)) && (H.1 == 5)) with hb | hb
   ·have hf:=he.h0.mP he 33 rfl t
    replace hf:=bZ hb hf
    replace hf:=hf.more he 36 rfl (onP b4)
    replace hf:=iD hb hf
    refine sp 1 hf rfl fun a hf=>?_
    replace hf:=jP (v':=.bool (((((((H.2 == 0) && (B.2 == 0)) && (D.2.2 == 0)) && (O.2 == 0)) && (R.2 == 0)) && (H.1 == 5)) && (B.1.Lo == I.Lo && B.1.Hi == I.Hi))) (congrArg Value.bool (aBb hb)) hf
    exact zD θ he hi hf 37 rfl rfl rfl hc
   ·have hf:=he.h0.mP he 33 rfl t
    replace hf:=bZ hb hf
    replace hf:=hf.more he 36 rfl (onP b4)
    replace hf:=iC hb hf
    refine sp 1 hf rfl fun a hf=>?_
    replace hf:=jP (v':=.bool (((((((H.2 == 0) && (B.2 == 0)) && (D.2.2 == 0)) && (O.2 == 0)) && (R.2 == 0)) && (H.1 == 5)) && (B.1.Lo == I.Lo && B.1.Hi == I.Hi))) (congrArg Value.bool (aBg hb)) hf
    exact zD θ he hi hf 37 rfl rfl rfl hc
  ·intro E θ a w hD hi hp he hc
   have cx:=hp.o 26 rfl
   have hf:=he.h0.mP he 37 rfl cx
   refine sp 1 hf rfl fun a hf=>zD θ he hi hf 38 rfl rfl rfl hc
  ·intro E θ a w hD hi hp he hc
   have ai:=hp.o 27 rfl
   rcases dX (((((((H.2 == 0) && (B.2 == 0)) && (D.2.2 == 0)) && (O.2 == 0)) && (R.2 == 0)) && (H.1 == 5)) && (B.1.Lo == I.Lo && B.1.Hi == I.Hi)) with hb | hb
   ·have hf:=(he.h0.mT he 4 rfl).mP he 38 rfl ai
    replace hf:=bZ hb hf
    refine sp 1 hf rfl fun a hf=>?_
    replace hf:=lT (u:=undef) hb hf
    exact zD θ he hi hf 39 rfl rfl rfl hc
   ·have hf:=(he.h0.mT he 4 rfl).mP he 38 rfl ai
    replace hf:=bZ hb hf
    refine stS hf rfl rfl rfl fun a hf=>?_
    replace hf:=lS (u:=i6 D.1) hb hf
    exact zD θ he hi hf 39 rfl rfl rfl hc
  ·intro E θ a w hD hi hp he hc
   have ai:=hp.o 27 rfl
   have bu:=hp.o 28 rfl
   rcases dX (((((((H.2 == 0) && (B.2 == 0)) && (D.2.2 == 0)) && (O.2 == 0)) && (R.2 == 0)) && (H.1 == 5)) && (B.1.Lo == I.Lo && B.1.Hi == I.Hi)) with hb | hb
   ·have hf:=he.h0.mP he 38 rfl ai
    replace hf:=bZ hb hf
    replace hf:=hf.more he 39 rfl (onP bu)
    replace hf:=iD hb hf
    refine sp 1 hf rfl fun a hf=>?_
    replace hf:=lT (u:=undef) hb hf
    exact zD θ he hi hf 40 rfl rfl rfl hc
   ·have hf:=he.h0.mP he 38 rfl ai
    replace hf:=bZ hb hf
    replace hf:=hf.more he 39 rfl (onP bu)
    replace hf:=iC hb hf
    refine stS hf rfl rfl rfl fun a hf=>?_
    replace hf:=lS (u:=.bool (D.1 == 5)) hb hf
    exact zD θ he hi hf 40 rfl rfl rfl hc
  ·intro E θ a w hD hi hp he hc
   have ai:=hp.o 27 rfl
   have b8:=hp.o 29 rfl
   rcases dX (((((((H.2 == 0) && (B.2 == 0)) && (D.2.2 == 0)) && (O.2 == 0)) && (R.2 == 0)) && (H.1 == 5)) && (B.1.Lo == I.Lo && B.1.Hi == I.Hi)) with hb | hb
   ·have hf:=he.h0.mP he 38 rfl ai
    replace hf:=bZ hb hf
    replace hf:=hf.more he 40 rfl (onP b8)
    replace hf:=iD hb hf
    refine sp 1 hf rfl fun a hf=>?_
    replace hf:=jP (v':=.bool ((((((((H.2 == 0) && (B.2 == 0)) && (D.2.2 == 0)) && (O.2 == 0)) && (R.2 == 0)) && (H.1 == 5)) && (B.1.Lo == I.Lo && B.1.Hi == I.Hi)) && (D.1 == 5))) (congrArg Value.bool (aBb hb)) hf
    exact zD θ he hi hf 41 rfl rfl rfl hc
   ·have hf:=he.h0.mP he 38 rfl ai
    replace hf:=bZ hb hf
    replace hf:=hf.more he 40 rfl (onP b8)
    replace hf:=iC hb hf
    refine sp 1 hf rfl fun a hf=>?_
    replace hf:=jP (v':=.bool ((((((((H.2 == 0) && (B.2 == 0)) && (D.2.2 == 0)) && (O.2 == 0)) && (R.2 == 0)) && (H.1 == 5)) && (B.1.Lo == I.Lo && B.1.Hi == I.Hi)) && (D.1 == 5))) (congrArg Value.bool (aBg hb)) hf
    exact zD θ he hi hf 41 rfl rfl rfl hc
  ·intro E θ a w hD hi hp he hc
   have cy:=hp.o 30 rfl
   have hf:=he.h0.mP he 41 rfl cy
   refine sp 1 hf rfl fun a hf=>zD θ he hi hf 42 rfl rfl rfl hc
  ·intro E θ a w hD hi hp he hc
   have ap:=hp.o 31 rfl
   rcases dX ((((((((H.2 == 0) && (B.2 == 0)) && (D.2.2 == 0)) && (O.2 == 0)) && (R.2 == 0)) && (H.1 == 5)) && (B.1.Lo == I.Lo && B.1.Hi == I.Hi)) && (D.1 == 5)) with hb | hb
   ·have hf:=(he.h0.mT he 5 rfl).mP he 42 rfl ap
    replace hf:=bZ hb hf
    refine sp 1 hf rfl fun a hf=>?_
    replace hf:=lT (u:=undef) hb hf
    exact zD θ he hi hf 43 rfl rfl rfl hc
   ·have hf:=(he.h0.mT he 5 rfl).mP he 42 rfl ap
    replace hf:=bZ hb hf
    refine stS hf rfl rfl rfl fun a hf=>?_
    replace hf:=lS (u:=i6 D.2.1) hb hf
    exact zD θ he hi hf 43 rfl rfl rfl hc
  ·intro E θ a w hD hi hp he hc
   have ap:=hp.o 31 rfl
   have br:=hp.o 32 rfl
   rcases dX ((((((((H.2 == 0) && (B.2 == 0)) && (D.2.2 == 0)) && (O.2 == 0)) && (R.2 == 0)) && (H.1 == 5)) && (B.1.Lo == I.Lo && B.1.Hi == I.Hi)) && (D.1 == 5)) with hb | hb
   ·have hf:=he.h0.mP he 42 rfl ap
    replace hf:=bZ hb hf
    replace hf:=hf.more he 43 rfl (onP br)
    replace hf:=iD hb hf
    refine sp 1 hf rfl fun a hf=>?_
    replace hf:=lT (u:=undef) hb hf
    exact zD θ he hi hf 44 rfl rfl rfl hc
   ·have hf:=he.h0.mP he 42 rfl ap
    replace hf:=bZ hb hf
    replace hf:=hf.more he 43 rfl (onP br)
    replace hf:=iC hb hf
    refine stS hf rfl rfl rfl fun a hf=>?_
    replace hf:=lS (u:=.bool (D.2.1 == (-1))) hb hf
    exact zD θ he hi hf 44 rfl rfl rfl hc
  ·intro E θ a w hD hi hp he hc
   have ap:=hp.o 31 rfl
   have b1:=hp.o 33 rfl
   rcases dX ((((((((H.2 == 0) && (B.2 == 0)) && (D.2.2 == 0)) && (O.2 == 0)) && (R.2 == 0)) && (H.1 == 5)) && (B.1.Lo == I.Lo && B.1.Hi == I.Hi)) && (D.1 == 5)) with hb | hb
   ·have hf:=he.h0.mP he 42 rfl ap
    replace hf:=bZ hb hf
    replace hf:=hf.more he 44 rfl (onP b1)
    replace hf:=iD hb hf
    refine sp 1 hf rfl fun a hf=>?_
    replace hf:=jP (v':=.bool (((((((((H.2 == 0) && (B.2 == 0)) && (D.2.2 == 0)) && (O.2 == 0)) && (R.2 == 0)) && (H.1 == 5)) && (B.1.Lo == I.Lo && B.1.Hi == I.Hi)) && (D.1 == 5)) && (D.2.1 == (-1)))) (congrArg Value.bool (aBb hb)) hf
    exact zD θ he hi hf 45 rfl rfl rfl hc
   ·have hf:=he.h0.mP he 42 rfl ap
    replace hf:=bZ hb hf
    replace hf:=hf.more he 44 rfl (onP b1)
    replace hf:=iC hb hf
    refine sp 1 hf rfl fun a hf=>?_
    replace hf:=jP (v':=.bool (((((((((H.2 == 0) && (B.2 == 0)) && (D.2.2 == 0)) && (O.2 == 0)) && (R.2 == 0)) && (H.1 == 5)) && (B.1.Lo == I.Lo && B.1.Hi == I.Hi)) && (D.1 == 5)) && (D.2.1 == (-1)))) (congrArg Value.bool (aBg hb)) hf
    exact zD θ he hi hf 45 rfl rfl rfl hc
  ·intro E θ a w hD hi hp he hc
   have db:=hp.o 34 rfl
   have hf:=he.h0.mP he 45 rfl db
   refine sp 1 hf rfl fun a hf=>zD θ he hi hf 46 rfl rfl rfl hc
  ·intro E θ a w hD hi hp he hc
   have s:=hp.o 35 rfl
   rcases dX (((((((((H.2 == 0) && (B.2 == 0)) && (D.2.2 == 0)) && (O.2 == 0)) && (R.2 == 0)) && (H.1 == 5)) && (B.1.Lo == I.Lo && B.1.Hi == I.Hi)) && (D.1 == 5)) && (D.2.1 == (-1))) with hb | hb
   ·have hf:=(he.h0.mT he 9 rfl).mP he 46 rfl s
    replace hf:=bZ hb hf
    refine sp 1 hf rfl fun a hf=>?_
    replace hf:=lT (u:=undef) hb hf
    exact zD θ he hi hf 47 rfl rfl rfl hc
   ·have hf:=(he.h0.mT he 9 rfl).mP he 46 rfl s
    replace hf:=bZ hb hf
    refine stS hf rfl rfl rfl fun a hf=>?_
    replace hf:=lS (u:=.slice av O.1.length aq) hb hf
    exact zD θ he hi hf 47 rfl rfl rfl hc
  ·intro E θ a w hD hi hp he hc
   have s:=hp.o 35 rfl
   try dsimp only at hc
   rw [hi] at hc
   rcases dX (((((((((H.2 == 0) && (B.2 == 0)) && (D.2.2 == 0)) && (O.2 == 0)) && (R.2 == 0)) && (H.1 == 5)) && (B.1.Lo == I.Lo && B.1.Hi == I.Hi)) && (D.1 == 5)) && (D.2.1 == (-1))) with hb | hb
   ·have hf:=he.h0.mP he 46 rfl s
    replace hf:=bZ hb hf
    refine jD (rows:=([0,10,15]:List Int).map aD) (vs:=[(0,i6 0),(1,i6 10),(2,i6 15)]) hf hc rfl rfl fN rfl ⟨rfl,rfl,rfl,rfl,rfl,rfl,rfl,rfl,rfl,trivial⟩ rfl rfl fun cb a w hf hc=>?_
    replace hf:=lT (u:=undef) hb hf
    refine aP ?_
    refine cV ?_
    intro ds u ay
    replace hc:=hc.drop k1
    refine ⟨(lA θ 296 ⟨cb,none,0,(fun _=>(none,0))⟩),he.put hi ay hf rfl [] trivial ⟨qq,qq,qq,qq,qq,qq,qq,qq,qq,qq,qq,qq,qq,qq,qq,qq,qq,qq,qq,qq,qq,qq,qq,qq,qq,qq,qq,qq,qq,qq,qq,qq,qq,qq,qq,qq,qq,qq,qq,qq,qq,qq,qq,qq,qq,qq,qq,qq,qq,qq,qq,qq,qq,qq,qq,qq,trivial⟩,?_⟩
    try dsimp only
    rw [aR E 37]
    rw [gE_T hb]
    exact hc
   ·have hf:=he.h0.mP he 46 rfl s
    replace hf:=bZ hb hf
    refine stS hf rfl rfl rfl fun a hf=>?_
    replace hf:=lS (u:=.slice (some ⟨(θ 296).b,0,none⟩) 3 3) hb hf
    refine zD θ he hi hf 48 rfl rfl rfl ?_
    try dsimp only
    rw [aR E 37]
    rw [gE_F hb]
    exact hc
  ·intro E θ a w hD hi hp he hc
   have s:=hp.o 35 rfl
   have b6:=hp.o 36 rfl
   have au:=hp.o 37 rfl
   try dsimp only at hc
   rw [au] at hc
   rcases dX (((((((((H.2 == 0) && (B.2 == 0)) && (D.2.2 == 0)) && (O.2 == 0)) && (R.2 == 0)) && (H.1 == 5)) && (B.1.Lo == I.Lo && B.1.Hi == I.Hi)) && (D.1 == 5)) && (D.2.1 == (-1))) with hb | hb
   ·have hf:=he.h0.mP he 46 rfl s
    replace hf:=bZ hb hf
    replace hf:=hf.more he 47 rfl (onP b6)
    replace hf:=iD hb hf
    replace hf:=hf.more he 48 rfl (onP au)
    replace hf:=iD hb hf
    rw [gE_T hb] at hc
    refine zQ (v:=.bool i) hf hc aHc rfl (fun w hc=>by obtain ⟨G1,j,Z,hc,d⟩:=lend hc k3; obtain ⟨G2,m,n,hc,k⟩:=lend hc k0; exact (pC O.1 ([0,10,15]:List Int) (Z.mono m) n hc (iL hb ba)).mono fun e w h=>⟨h.1,((d _ _ ((k _ _ h.2).unpick k0)).unpick k3)⟩) fun a w hf hc=>?_
    replace hf:=lT (u:=undef) hb hf
    refine zD θ he hi hf 49 rfl rfl rfl ?_
    try dsimp only
    rw [dK 38 au]
    rw [gE_T hb]
    exact hc
   ·have hf:=he.h0.mP he 46 rfl s
    replace hf:=bZ hb hf
    replace hf:=hf.more he 47 rfl (onP b6)
    replace hf:=iC hb hf
    replace hf:=hf.more he 48 rfl (onP au)
    replace hf:=iC hb hf
    rw [gE_F hb] at hc
    refine stS hf rfl rfl rfl fun a hf=>?_
    replace hf:=lS (u:=.bool i) hb hf
    refine zD θ he hi hf 49 rfl rfl rfl ?_
    try dsimp only
    rw [dK 38 au]
    rw [gE_F hb]
    exact hc
  ·intro E θ a w hD hi hp he hc
   have s:=hp.o 35 rfl
   have b5:=hp.o 38 rfl
   rcases dX (((((((((H.2 == 0) && (B.2 == 0)) && (D.2.2 == 0)) && (O.2 == 0)) && (R.2 == 0)) && (H.1 == 5)) && (B.1.Lo == I.Lo && B.1.Hi == I.Hi)) && (D.1 == 5)) && (D.2.1 == (-1))) with hb | hb
   ·have hf:=he.h0.mP he 46 rfl s
    replace hf:=bZ hb hf
    replace hf:=hf.more he 49 rfl (onP b5)
    replace hf:=iD hb hf
    refine sp 1 hf rfl fun a hf=>?_
    replace hf:=jP (v':=.bool ((((((((((H.2 == 0) && (B.2 == 0)) && (D.2.2 == 0)) && (O.2 == 0)) && (R.2 == 0)) && (H.1 == 5)) && (B.1.Lo == I.Lo && B.1.Hi == I.Hi)) && (D.1 == 5)) && (D.2.1 == (-1))) && i)) (congrArg Value.bool (aBb hb)) hf
    exact zD θ he hi hf 50 rfl rfl rfl hc
   ·have hf:=he.h0.mP he 46 rfl s
    replace hf:=bZ hb hf
    replace hf:=hf.more he 49 rfl (onP b5)
    replace hf:=iC hb hf
    refine sp 1 hf rfl fun a hf=>?_
    replace hf:=jP (v':=.bool ((((((((((H.2 == 0) && (B.2 == 0)) && (D.2.2 == 0)) && (O.2 == 0)) && (R.2 == 0)) && (H.1 == 5)) && (B.1.Lo == I.Lo && B.1.Hi == I.Hi)) && (D.1 == 5)) && (D.2.1 == (-1))) && i)) (congrArg Value.bool (aBg hb)) hf
    exact zD θ he hi hf 50 rfl rfl rfl hc
  ·intro E θ a w hD hi hp he hc
   have ct:=hp.o 39 rfl
   have hf:=he.h0.mP he 50 rfl ct
   refine sp 1 hf rfl fun a hf=>zD θ he hi hf 51 rfl rfl rfl hc
  ·intro E θ a w hD hi hp he hc
   have am:=hp.o 40 rfl
   rcases dX ((((((((((H.2 == 0) && (B.2 == 0)) && (D.2.2 == 0)) && (O.2 == 0)) && (R.2 == 0)) && (H.1 == 5)) && (B.1.Lo == I.Lo && B.1.Hi == I.Hi)) && (D.1 == 5)) && (D.2.1 == (-1))) && i) with hb | hb
   ·have hf:=(he.h0.mT he 10 rfl).mP he 51 rfl am
    replace hf:=bZ hb hf
    refine sp 1 hf rfl fun a hf=>?_
    replace hf:=lT (u:=undef) hb hf
    exact zD θ he hi hf 52 rfl rfl rfl hc
   ·have hf:=(he.h0.mT he 10 rfl).mP he 51 rfl am
    replace hf:=bZ hb hf
    refine stS hf rfl rfl rfl fun a hf=>?_
    replace hf:=lS (u:=i6 R.1) hb hf
    exact zD θ he hi hf 52 rfl rfl rfl hc
  ·intro E θ a w hD hi hp he hc
   have am:=hp.o 40 rfl
   have bq:=hp.o 41 rfl
   rcases dX ((((((((((H.2 == 0) && (B.2 == 0)) && (D.2.2 == 0)) && (O.2 == 0)) && (R.2 == 0)) && (H.1 == 5)) && (B.1.Lo == I.Lo && B.1.Hi == I.Hi)) && (D.1 == 5)) && (D.2.1 == (-1))) && i) with hb | hb
   ·have hf:=he.h0.mP he 51 rfl am
    replace hf:=bZ hb hf
    replace hf:=hf.more he 52 rfl (onP bq)
    replace hf:=iD hb hf
    refine sp 1 hf rfl fun a hf=>?_
    replace hf:=lT (u:=undef) hb hf
    exact zD θ he hi hf 53 rfl rfl rfl hc
   ·have hf:=he.h0.mP he 51 rfl am
    replace hf:=bZ hb hf
    replace hf:=hf.more he 52 rfl (onP bq)
    replace hf:=iC hb hf
    refine stS hf rfl rfl rfl fun a hf=>?_
    replace hf:=lS (u:=.bool (R.1 == 4815)) hb hf
    exact zD θ he hi hf 53 rfl rfl rfl hc
  ·intro E θ a w hD hi hp he hc
   have am:=hp.o 40 rfl
   have b7:=hp.o 42 rfl
   rcases dX ((((((((((H.2 == 0) && (B.2 == 0)) && (D.2.2 == 0)) && (O.2 == 0)) && (R.2 == 0)) && (H.1 == 5)) && (B.1.Lo == I.Lo && B.1.Hi == I.Hi)) && (D.1 == 5)) && (D.2.1 == (-1))) && i) with hb | hb
   ·have hf:=he.h0.mP he 51 rfl am
    replace hf:=bZ hb hf
    replace hf:=hf.more he 53 rfl (onP b7)
    replace hf:=iD hb hf
    refine sp 1 hf rfl fun a hf=>?_
    replace hf:=jP (v':=.bool (((((((((((H.2 == 0) && (B.2 == 0)) && (D.2.2 == 0)) && (O.2 == 0)) && (R.2 == 0)) && (H.1 == 5)) && (B.1.Lo == I.Lo && B.1.Hi == I.Hi)) && (D.1 == 5)) && (D.2.1 == (-1))) && i) && (R.1 == 4815))) (congrArg Value.bool (aBb hb)) hf
    exact zD θ he hi hf 54 rfl rfl rfl hc
   ·have hf:=he.h0.mP he 51 rfl am
    replace hf:=bZ hb hf
    replace hf:=hf.more he 53 rfl (onP b7)
    replace hf:=iC hb hf
    refine sp 1 hf rfl fun a hf=>?_
    replace hf:=jP (v':=.bool (((((((((((H.2 == 0) && (B.2 == 0)) && (D.2.2 == 0)) && (O.2 == 0)) && (R.2 == 0)) && (H.1 == 5)) && (B.1.Lo == I.Lo && B.1.Hi == I.Hi)) && (D.1 == 5)) && (D.2.1 == (-1))) && i) && (R.1 == 4815))) (congrArg Value.bool (aBg hb)) hf
    exact zD θ he hi hf 54 rfl rfl rfl hc
  ·intro E θ a w hD hi hp he hc
   have cv:=hp.o 43 rfl
   have hf:=he.h0.mP he 54 rfl cv
   refine sp 1 hf rfl fun a hf=>zD θ he hi hf 55 rfl rfl rfl hc
  ·intro E θ a w ag he hc
   have hf:=he.h0
   have au:=ag 37 rfl
   have c1:=ag 44 rfl
   replace hf:=hf.more he 55 rfl (onP c1)
   try dsimp only at hc
   rw [au] at hc
   replace hc:=hc.drop k0
   exact ⟨hf.kp rfl,hc⟩
  rintro a w ⟨hf,hc⟩
  refine da _ _ ?_
  refine wp_ret ?_
  obtain rfl:=sj hF
  replace hc:=(((((hc.drop k5).drop k4).drop k3).drop k2).drop k1).drop k0
  exact zO1 Tryz.results13 hf rfl ⟨rfl,hc⟩

def dR (N:Nat) (D:aB × Int × Int) (H:(List Int) × Int) (S:(List Int) × Int) (X:(List Int) × Int) (B:Int):Option (cK (Int) (Bool)) :=
 cond (decide (B < ((H.1.length:Nat):Int)))
 (Option.bind (bH S.1 B) fun Y=>
 Option.bind (lK N D.1 B Y) fun J=>
 Option.bind (bH H.1 B) fun R=>
 Option.bind (lK N D.1 B R) fun O=>
 Option.bind (cond (decide (O < J)) (some true) (Option.bind (bH X.1 B) fun U=>
 Option.bind (lK N D.1 B U) fun M=>
 Option.bind (bH H.1 B) fun V=>
 Option.bind (lK N D.1 B V) fun I=>
 some (decide (M < I)))) fun Z=>
 cond Z
 (some (.ret false))
 (some (.cont (W (B + 1)))))
 (some (.brk B))
def dU (N:Nat) (M:List Int) (S:aB × Int × Int) (U:aB) (x:List aC) (B:Int) (H:Int) (I:Int):Option (cK ((List aC) × Int × Int × Int) (Bool)) :=
 cond (decide (B < ((U.Stations.length:Nat):Int)))
 (Option.bind (bH x B) fun J=>
 Option.bind (fO N (⟨M,H,I⟩:bD) (W (((J.Order.length:Nat):Int) + 1))) fun D=>
 Option.bind (fH N J.Order D.1 ([((S.1.People.length:Nat):Int)]:List Int)) fun O=>
 Option.bind (bH x B) fun R=>
 some (.cont ((x.set B.toNat (⟨R.Places,O⟩:aC)),W (B + 1),D.2.1,D.2.2)))
 (some (.brk (x,B,H,I)))
def nA (N:Nat) (H:List Int) (O:List Int) (M:Int):Option (Bool) :=
 Option.bind (wE N H) fun r=>
 Option.bind (qK N (⟨H,r.1,r.2⟩:bD) 8) fun B=>
 Option.bind (wE N O) fun Z=>
 Option.bind (gC N B.1) fun D=>
 Option.bind (nz ((B.1.Stations.length:Nat):Int)) fun un=>
 Option.bind (fZ N B.1) fun U=>
 Option.bind (fZ N B.1) fun V=>
 Option.bind (fZ N B.1) fun R=>
 Option.bind (bH U.Stations ((W (M)).tmod ((B.1.Stations.length:Nat):Int))) fun k=>
 Option.bind (bH U.Stations ((W (M)).tmod ((B.1.Stations.length:Nat):Int))) fun m=>
 Option.bind (jW N (⟨O,Z.1,Z.2⟩:bD) ((B.1.Stations.length:Nat):Int)) fun S=>
 Option.bind (room ((V.People++[S.1])).length) fun t=>
 Option.bind (bE (fun I=>dU N O B V I.1 I.2.1 I.2.2.1 I.2.2.2) N (V.Stations,0,S.2.1,S.2.2)) fun n=>
 exK n (fun I=>Option.bind (room ((R.People++[([]:List Int)])).length) fun s=>
 Option.bind (room ((R.Stations++[(⟨5,([]:List Int)⟩:aC)])).length) fun q=>
 Option.bind (gC N (⟨U.People,(U.Stations.set ((W (M)).tmod ((B.1.Stations.length:Nat):Int)).toNat (⟨W (k.Places + 1),m.Order⟩:aC))⟩:aB)) fun X=>
 Option.bind (gC N (⟨(V.People++[S.1]),I.1⟩:aB)) fun Y=>
 Option.bind (gC N (⟨(R.People++[([]:List Int)]),(R.Stations++[(⟨5,([]:List Int)⟩:aC)])⟩:aB)) fun J=>
 Option.bind (cond ((((((((D.2 != 0) || (X.2 != 0)) || (Y.2 != 0)) || (J.2 != 0)) || (((D.1.length:Nat):Int) != ((B.1.People.length:Nat):Int))) || (((X.1.length:Nat):Int) != ((D.1.length:Nat):Int))) || (((Y.1.length:Nat):Int) != (W (((D.1.length:Nat):Int) + 1)))) || (((J.1.length:Nat):Int) != (W (((D.1.length:Nat):Int) + 1)))) (some true) (Option.bind (bH J.1 ((D.1.length:Nat):Int)) fun o=>
 some (o != (-1)))) fun i=>
 Option.bind (cond i (some true) (Option.bind (xE J.1 0 ((D.1.length:Nat):Int)) fun sub=>
 Option.bind (kG N sub D.1) fun g=>
 some (!g))) fun j=>
 cond j
 (some false)
 (Option.bind (bE (fun b=>dR N B D X Y b) N 0) fun p=>
 exK p (fun b=>Option.bind (oR N) fun d=>
 some d) some)) some
theorem xH {N:Nat} {G:aO} {Lf:List Ent} {w:World} (bk:List Int) (az:List Int) (Y:Int) {bt:Option Addr} {bs:Nat} {ag:Option Addr} {ad:Nat} (cc:Rd G 1 bt bs (bk.map oF)) (cs:Rd G 1 ag ad (az.map oF)) (hc:Ctx G (Lf) w) {c4:Bool} (hF:nA N bk az Y=some c4):Calls Tryz.prog 3 #[.slice bt bk.length bs,.slice ag az.length ad,.int .u8 Y] w (fun e w=>e=.returned (.bool c4)∧Ctx G (Lf) w):=by
 unfold nA at hF
 refine bI Tryz.func3 rfl Tryz.ntmps3 rfl fun a hf=>zS fun K h=>sp 1 hf rfl fun a hf=>zT h ?_
 refine zS fun K h=>sp 1 hf rfl fun a hf=>?_
 obtain ⟨r,hr,hF⟩:=aA hF
 refine zC hf en_5 rfl (aAx bk cc hc hr) ?_
 rintro _ w ⟨gf,rfl,hc⟩
 refine ⟨_,rfl,fun a hf=>?_⟩
 obtain ⟨D,iv,hF⟩:=aA hF
 refine zC hf en_4 rfl (aBf (⟨bk,r.1,r.2⟩:bD) 8 cc (hc.pick k0) iv) ?_
 rintro _ w ⟨s,X,q,I,rfl,hc⟩
 refine ⟨_,rfl,fun a hf=>?_⟩
 refine zA hf hc wW rfl fun ab a w hf hc=>zW hf hc yL u0 rfl fun w hc=>zT h ?_
 refine zS fun K h=>sp 1 hf rfl fun a hf=>?_
 obtain ⟨b9,g8,hF⟩:=aA hF
 refine zC hf en_5 rfl (aAx az cs hc g8) ?_
 rintro _ w ⟨a7,rfl,hc⟩
 refine ⟨_,rfl,fun a hf=>?_⟩
 refine sp 1 hf rfl fun a hf=>zT h ?_
 refine zS fun K h=>zN hf hc mD m1 rfl fun a w hf hc=>?_
 obtain ⟨B,iq,hF⟩:=aA hF
 obtain ⟨G1,br,aj,hc,ap⟩:=jA lX hc k2 k2
 obtain ⟨G2,an,aq,hc,am⟩:=jA nK hc k2 k2
 refine zC hf aHh rfl (lI D.1 (aj.mono an) aq hc iq) ?_
 rintro _ w ⟨ar,au,rfl,hc⟩
 refine ⟨_,rfl,fun a hf=>?_⟩
 replace hc:=am _ _ hc
 replace hc:=ap _ _ hc
 refine sp 5 hf rfl fun a hf=>zT h ?_
 refine zS fun K h=>sp 1 hf rfl fun a hf=>zP hf rfl (pCv Tryz.underlying5 Tryz.underlying3 rfl) fun a hf=>zP hf rfl (pFA eG rfl) fun a hf=>zL hf hc lN m6 rfl fun a w hf hc=>zP hf rfl (bC Tryz.underlying24 rfl) fun a hf=>?_
 obtain ⟨un,j4,hF⟩:=aA hF
 refine zP hf rfl (pRem rfl rfl (zX j4)) fun a hf=>sp 1 hf rfl fun a hf=>zT h ?_
 refine wp_seq_k fun K6 h6=>?_
 obtain ⟨R,g9,hF⟩:=aA hF
 obtain ⟨V,ik,hF⟩:=aA hF
 obtain ⟨O,g4,hF⟩:=aA hF
 replace hc:=hc.nilRow 0 0
 replace hc:=hc.nilRow 0 0
 replace hc:=hc.nilRow 0 0
 replace hc:=hc.nilRow 0 0
 replace hc:=hc.nilRow 0 0
 replace hc:=hc.nilRow 0 0
 replace hc:=hc.nilRow 0 0
 replace hc:=hc.nilRow 0 0
 replace hc:=hc.nilRow 0 0
 replace hc:=hc.nilRow 0 0
 replace hc:=hc.nilRow 0 0
 replace hc:=hc.nilRow 0 0
 replace hc:=hc.nilRow 0 0
 replace hc:=hc.nilRow 0 0
 replace hc:=hc.nilRow 0 0
 refine gK (fun θ=>[⟨none,none,7,pq ab⟩,⟨none,none,8,pq a7⟩,⟨none,none,9,.slice ar B.1.length au⟩,⟨none,none,10,i6 B.2⟩,⟨none,none,11,i6 ((W (Y)).tmod ((D.1.Stations.length:Nat):Int))⟩,⟨some 0,none,40,.agg #[.slice s D.1.People.length X.1,.slice q D.1.Stations.length I.1]⟩,⟨some 1,none,41,.agg #[.slice ((θ 8).p) R.People.length ((θ 8).c),.slice ((θ 9).p) R.Stations.length ((θ 9).c)]⟩,⟨some 2,none,42,.agg #[.slice s D.1.People.length X.1,.slice q D.1.Stations.length I.1]⟩,⟨some 3,none,43,.agg #[.slice ((θ 24).p) V.People.length ((θ 24).c),.slice ((θ 25).p) V.Stations.length ((θ 25).c)]⟩,⟨some 4,none,44,.agg #[.slice s D.1.People.length X.1,.slice q D.1.Stations.length I.1]⟩,⟨some 5,none,45,.agg #[.slice ((θ 40).p) O.People.length ((θ 40).c),.slice ((θ 41).p) O.Stations.length ((θ 41).c)]⟩,⟨some 6,none,12,.pointer (some ⟨(θ 48).b,0,none⟩)⟩,⟨some 7,none,13,.pointer (some ⟨(θ 56).b,0,none⟩)⟩,⟨some 8,none,14,.pointer (some ⟨(θ 64).b,0,none⟩)⟩]) (fun E θ=>(bif E 11 then .box (θ 64).b [.slice ((θ 40).p) O.People.length ((θ 40).c),.slice ((θ 41).p) O.Stations.length ((θ 41).c)] 26 else bif E 8 then .box (θ 64).b [.slice none 0 0,.slice none 0 0] 26 else .row none 0 [] 0 0)::(bif E 10 then .box (θ 56).b [.slice ((θ 24).p) V.People.length ((θ 24).c),.slice ((θ 25).p) V.Stations.length ((θ 25).c)] 26 else bif E 7 then .box (θ 56).b [.slice none 0 0,.slice none 0 0] 26 else .row none 0 [] 0 0)::(bif E 9 then .box (θ 48).b [.slice ((θ 8).p) R.People.length ((θ 8).c),.slice ((θ 9).p) R.Stations.length ((θ 9).c)] 26 else bif E 6 then .box (θ 48).b [.slice none 0 0,.slice none 0 0] 26 else .row none 0 [] 0 0)::(bif E 5 then aQ aL (aF (θ 41).h O.Stations) else .row none 0 [] 0 0)::(bif E 5 then .row ((θ 41).p) ((θ 41).c) ((aF (θ 41).h O.Stations).map (Kd.v aL)) 36 2 else .row none 0 [] 0 0)::(bif E 5 then aQ aG (aF (θ 40).h O.People) else .row none 0 [] 0 0)::(bif E 5 then .row ((θ 40).p) ((θ 40).c) ((aF (θ 40).h O.People).map (Kd.v aG)) 30 1 else .row none 0 [] 0 0)::(bif E 3 then aQ aL (aF (θ 25).h V.Stations) else .row none 0 [] 0 0)::(bif E 3 then .row ((θ 25).p) ((θ 25).c) ((aF (θ 25).h V.Stations).map (Kd.v aL)) 36 2 else .row none 0 [] 0 0)::(bif E 3 then aQ aG (aF (θ 24).h V.People) else .row none 0 [] 0 0)::(bif E 3 then .row ((θ 24).p) ((θ 24).c) ((aF (θ 24).h V.People).map (Kd.v aG)) 30 1 else .row none 0 [] 0 0)::(bif E 1 then aQ aL (aF (θ 9).h R.Stations) else .row none 0 [] 0 0)::(bif E 1 then .row ((θ 9).p) ((θ 9).c) ((aF (θ 9).h R.Stations).map (Kd.v aL)) 36 2 else .row none 0 [] 0 0)::(bif E 1 then aQ aG (aF (θ 8).h R.People) else .row none 0 [] 0 0)::(bif E 1 then .row ((θ 8).p) ((θ 8).c) ((aF (θ 8).h R.People).map (Kd.v aG)) 30 1 else .row none 0 [] 0 0)::.row s X.1 ((aF X.2 D.1.People).map (Kd.v aG)) 30 1::aQ aG (aF X.2 D.1.People)::.row q I.1 ((aF I.2 D.1.Stations).map (Kd.v aL)) 36 2::aQ aL (aF I.2 D.1.Stations)::.row ar au (B.1.map aD) 3 1::.box a7 [.slice ag az.length ad,i6 b9.1,i6 b9.2] 46::.box ab [.slice s D.1.People.length X.1,.slice q D.1.Stations.length I.1] 26::.box gf [.slice bt bk.length bs,i6 D.2.1,i6 D.2.2] 46::Lf) [(9,1),(10,3),(11,5),(9,6),(10,7),(11,8)] (fun a w=>∃ (bj:Nat) (a5:Nat) (bi:Nat) (av:Option Addr) (bc:Nat) (ba:Hds) (ak:Option Addr) (a8:Nat) (t:Hds) (b6:Option Addr) (cd:Nat) (bg:Hds) (bd:Option Addr) (bq:Nat) (a6:Hds) (ac:Option Addr) (a2:Nat) (m:Hds) (c0:Option Addr) (a3:Nat) (d:Hds),Has 219 a [(7,pq ab),(8,pq a7),(9,.slice ar B.1.length au),(10,i6 B.2),(11,i6 ((W (Y)).tmod ((D.1.Stations.length:Nat):Int))),(12,pq bj),(13,pq a5),(14,pq bi)]∧Ctx G (.box bi [.slice av O.People.length bc,.slice ak O.Stations.length a8] 26::.box a5 [.slice b6 V.People.length cd,.slice bd V.Stations.length bq] 26::.box bj [.slice ac R.People.length a2,.slice c0 R.Stations.length a3] 26::aQ aL (aF t O.Stations)::.row ak a8 ((aF t O.Stations).map (Kd.v aL)) 36 2::aQ aG (aF ba O.People)::.row av bc ((aF ba O.People).map (Kd.v aG)) 30 1::aQ aL (aF a6 V.Stations)::.row bd bq ((aF a6 V.Stations).map (Kd.v aL)) 36 2::aQ aG (aF bg V.People)::.row b6 cd ((aF bg V.People).map (Kd.v aG)) 30 1::aQ aL (aF d R.Stations)::.row c0 a3 ((aF d R.Stations).map (Kd.v aL)) 36 2::aQ aG (aF m R.People)::.row ac a2 ((aF m R.People).map (Kd.v aG)) 30 1::.row s X.1 ((aF X.2 D.1.People).map (Kd.v aG)) 30 1::aQ aG (aF X.2 D.1.People)::.row q I.1 ((aF I.2 D.1.Stations).map (Kd.v aL)) 36 2::aQ aL (aF I.2 D.1.Stations)::.row ar au (B.1.map aD) 3 1::.box a7 [.slice ag az.length ad,i6 b9.1,i6 b9.2] 46::.box ab [.slice s D.1.People.length X.1,.slice q D.1.Stations.length I.1] 26::.box gf [.slice bt bk.length bs,i6 D.2.1,i6 D.2.2] 46::Lf) w) aU (by kernel_rfl) (by kernel_rfl) (fB.of hf ⟨rfl,rfl,rfl,rfl,rfl,trivial,trivial,trivial,trivial,trivial,trivial,trivial,trivial,trivial,trivial⟩) hc ⟨?_,?_,?_,?_,?_,?_,?_,?_,?_,?_,?_,?_,trivial⟩ ?_ ?_
 ·intro E θ a w hD hi hp he hc
  have hf:=he.h0.mT he 0 rfl
  refine zN hf hc mD m21 rfl fun a w hf hc=>zD θ he hi hf 5 rfl rfl rfl hc
 ·intro E θ a w hD hi hp he hc
  have e0:=hp.o 0 rfl
  have e9:=hD.f 0 rfl hi
  try dsimp only at hc
  rw [hi,e9] at hc
  have hf:=he.h0.mP he 5 rfl e0
  obtain ⟨G1,br,aj,hc,ap⟩:=jA lX hc k15 k15
  obtain ⟨G2,an,aq,hc,am⟩:=jA nK hc k15 k15
  refine zC hf en_7 rfl (lZ D.1 (aj.mono an) aq hc g9) ?_
  rintro _ w ⟨j2,c9,jr,c6,rfl,hc⟩
  refine ⟨_,rfl,fun a hf=>?_⟩
  replace hc:=am _ _ hc
  replace hc:=ap _ _ hc
  refine aP ?_
  refine cV ?_
  intro ds u a4
  replace hc:=((((((((((((((((((((((hc.drop k22).drop k21).drop k20).drop k19).pick k3).pick k3).pick k3).pick k3).pick k4).pick k5).pick k6).pick k7).pick k18).pick k18).pick k18).pick k18).pick k18).pick k18).pick k18).pick k18).pick k18).pick k18).pick k18
  refine ⟨(lA (lA θ 8 ⟨0,j2,c9.1,c9.2⟩) 9 ⟨0,jr,c6.1,c6.2⟩),he.put hi a4 hf rfl [] trivial ⟨qq,qq,qq,qq,qq,qq,qq,qq,qq,qq,qq,qq,qq,qq,trivial⟩,?_⟩
  try dsimp only
  rw [aR E 1,bB 1 e9 rfl]
  exact hc
 ·intro E θ a w hD hi hp he hc
  have hf:=he.h0.mT he 0 rfl
  refine zN hf hc mD m21 rfl fun a w hf hc=>zD θ he hi hf 7 rfl rfl rfl hc
 ·intro E θ a w hD hi hp he hc
  have e2:=hp.o 2 rfl
  have bf:=hD.f 1 rfl hi
  try dsimp only at hc
  rw [hi,bf] at hc
  have hf:=he.h0.mP he 7 rfl e2
  obtain ⟨G1,br,aj,hc,ap⟩:=jA lX hc k15 k15
  obtain ⟨G2,an,aq,hc,am⟩:=jA nK hc k15 k15
  refine zC hf en_7 rfl (lZ D.1 (aj.mono an) aq hc ik) ?_
  rintro _ w ⟨ja,db,j1,c5,rfl,hc⟩
  refine ⟨_,rfl,fun a hf=>?_⟩
  replace hc:=am _ _ hc
  replace hc:=ap _ _ hc
  refine aP ?_
  refine cV ?_
  intro ds u a4
  replace hc:=((((((((((((((((((((((hc.drop k18).drop k17).drop k16).drop k15).pick k3).pick k3).pick k3).pick k3).pick k18).pick k18).pick k18).pick k18).pick k8).pick k9).pick k10).pick k11).pick k18).pick k18).pick k18).pick k18).pick k18).pick k18).pick k18
  refine ⟨(lA (lA θ 24 ⟨0,ja,db.1,db.2⟩) 25 ⟨0,j1,c5.1,c5.2⟩),he.put hi a4 hf rfl [] trivial ⟨qq,qq,qq,qq,qq,qq,qq,qq,qq,qq,qq,qq,qq,qq,trivial⟩,?_⟩
  try dsimp only
  rw [aR E 3,bB 3 bf rfl]
  exact hc
 ·intro E θ a w hD hi hp he hc
  have hf:=he.h0.mT he 0 rfl
  refine zN hf hc mD m21 rfl fun a w hf hc=>zD θ he hi hf 9 rfl rfl rfl hc
 ·intro E θ a w hD hi hp he hc
  have e4:=hp.o 4 rfl
  have cb:=hD.f 2 rfl hi
  try dsimp only at hc
  rw [hi,cb] at hc
  have hf:=he.h0.mP he 9 rfl e4
  obtain ⟨G1,br,aj,hc,ap⟩:=jA lX hc k15 k15
  obtain ⟨G2,an,aq,hc,am⟩:=jA nK hc k15 k15
  refine zC hf en_7 rfl (lZ D.1 (aj.mono an) aq hc g4) ?_
  rintro _ w ⟨j0,da,jn,dd,rfl,hc⟩
  refine ⟨_,rfl,fun a hf=>?_⟩
  replace hc:=am _ _ hc
  replace hc:=ap _ _ hc
  refine aP ?_
  refine cV ?_
  intro ds u a4
  replace hc:=((((((((((((((((((((((hc.drop k14).drop k13).drop k12).drop k11).pick k3).pick k3).pick k3).pick k3).pick k18).pick k18).pick k18).pick k18).pick k18).pick k18).pick k18).pick k18).pick k12).pick k13).pick k14).pick k15).pick k18).pick k18).pick k18
  refine ⟨(lA (lA θ 40 ⟨0,j0,da.1,da.2⟩) 41 ⟨0,jn,dd.1,dd.2⟩),he.put hi a4 hf rfl [] trivial ⟨qq,qq,qq,qq,qq,qq,qq,qq,qq,qq,qq,qq,qq,qq,trivial⟩,?_⟩
  try dsimp only
  rw [aR E 5,bB 5 cb rfl]
  exact hc
 ·intro E θ a w hD hi hp he hc
  have e9:=hD.f 3 rfl hi
  try dsimp only at hc
  rw [hi,e9] at hc
  have hf:=he.h0
  refine zA hf hc wW rfl fun jg a w hf hc=>aP ?_
  refine cV ?_
  intro ds u a4
  replace hc:=(((hc.drop k3).pick k0).pick k2).pick k2
  refine ⟨(lA θ 48 ⟨jg,none,0,(fun _=>(none,0))⟩),he.put hi a4 hf rfl [] trivial ⟨qq,qq,qq,qq,qq,qq,qq,qq,qq,qq,qq,qq,qq,qq,trivial⟩,?_⟩
  try dsimp only
  rw [aR E 6,bB 6 e9 rfl]
  exact hc
 ·intro E θ a w hD hi hp he hc
  have bf:=hD.f 4 rfl hi
  try dsimp only at hc
  rw [hi,bf] at hc
  have hf:=he.h0
  refine zA hf hc wW rfl fun jb a w hf hc=>aP ?_
  refine cV ?_
  intro ds u a4
  replace hc:=((hc.drop k2).pick k0).pick k1
  refine ⟨(lA θ 56 ⟨jb,none,0,(fun _=>(none,0))⟩),he.put hi a4 hf rfl [] trivial ⟨qq,qq,qq,qq,qq,qq,qq,qq,qq,qq,qq,qq,qq,qq,trivial⟩,?_⟩
  try dsimp only
  rw [aR E 7,bB 7 bf rfl]
  exact hc
 ·intro E θ a w hD hi hp he hc
  have cb:=hD.f 5 rfl hi
  try dsimp only at hc
  rw [hi,cb] at hc
  have hf:=he.h0
  refine zA hf hc wW rfl fun jx a w hf hc=>aP ?_
  refine cV ?_
  intro ds u a4
  replace hc:=hc.drop k1
  refine ⟨(lA θ 64 ⟨jx,none,0,(fun _=>(none,0))⟩),he.put hi a4 hf rfl [] trivial ⟨qq,qq,qq,qq,qq,qq,qq,qq,qq,qq,qq,qq,qq,qq,trivial⟩,?_⟩
  try dsimp only
  rw [aR E 8,bB 8 cb rfl]
  exact hc
 ·intro E θ a w hD hi hp he hc
  have e1:=hp.o 1 rfl
  have e6:=hp.o 6 rfl
  try dsimp only at hc
  rw [e6,hi] at hc
  have hf:=(he.h0.mP he 6 rfl e1).mP he 11 rfl e6
  refine zW hf hc yL u2 rfl fun w hc=>zG θ he hi hf rfl ?_
  try dsimp only
  rw [dK 9 e6,aR E 9]
  exact hc
 ·intro E θ a w hD hi hp he hc
  have e3:=hp.o 3 rfl
  have e7:=hp.o 7 rfl
  try dsimp only at hc
  rw [e7,hi] at hc
  have hf:=(he.h0.mP he 8 rfl e3).mP he 12 rfl e7
  refine zW hf hc yL u1 rfl fun w hc=>zG θ he hi hf rfl ?_
  try dsimp only
  rw [dK 10 e7,aR E 10]
  exact hc
 ·intro E θ a w hD hi hp he hc
  have e5:=hp.o 5 rfl
  have e8:=hp.o 8 rfl
  try dsimp only at hc
  rw [e8,hi] at hc
  have hf:=(he.h0.mP he 10 rfl e5).mP he 13 rfl e8
  refine zW hf hc yL u0 rfl fun w hc=>zG θ he hi hf rfl ?_
  try dsimp only
  rw [dK 11 e8,aR E 11]
  exact hc
 ·intro E θ a w a1 he hc
  have hf:=he.h0
  have e1:=a1 1 rfl
  have e3:=a1 3 rfl
  have e5:=a1 5 rfl
  have e6:=a1 6 rfl
  have e7:=a1 7 rfl
  have e8:=a1 8 rfl
  have e9:=a1 9 rfl
  have bf:=a1 10 rfl
  have cb:=a1 11 rfl
  replace hf:=hf.more he 13 rfl (onP e8)
  replace hf:=hf.more he 12 rfl (onP e7)
  replace hf:=hf.more he 11 rfl (onP e6)
  replace hf:=hf.more he 4 rfl (onT)
  replace hf:=hf.more he 3 rfl (onT)
  replace hf:=hf.more he 2 rfl (onT)
  replace hf:=hf.more he 1 rfl (onT)
  replace hf:=hf.more he 0 rfl (onT)
  try dsimp only at hc
  rw [e1,e3,e5,e6,e7,e8,e9,bf,cb] at hc
  exact ⟨(θ 48).b,(θ 56).b,(θ 64).b,(θ 40).p,(θ 40).c,(θ 40).h,(θ 41).p,(θ 41).c,(θ 41).h,(θ 24).p,(θ 24).c,(θ 24).h,(θ 25).p,(θ 25).c,(θ 25).h,(θ 8).p,(θ 8).c,(θ 8).h,(θ 9).p,(θ 9).c,(θ 9).h,hf.kp rfl,hc⟩
 rintro a w ⟨bj,a5,bi,av,bc,ba,ak,a8,t,b6,cd,bg,bd,bq,a6,ac,a2,m,c0,a3,d,hf,hc⟩
 replace hc:=hc.drop k22
 refine h6 _ _ ?_
 refine zS fun K h=>zP hf rfl (pFA eG rfl) fun a hf=>zL hf hc lN m2 rfl fun a w hf hc=>sp 1 hf rfl fun a hf=>?_
 obtain ⟨af,ig,hF⟩:=aA hF
 obtain ⟨g,rfl,qa,qr⟩:=hU hc m12 (dE ig)
 refine zP hf rfl (pIA Tryz.underlying24 pF rfl rfl (At.len qa (by simp only [bY,List.length_set]))) fun a hf=>zP hf rfl (pFA pW rfl) fun a hf=>zE hf hc rfl (bT bA rfl (eJ (sz:=2) (i:=((W (Y)).tmod ((D.1.Stations.length:Nat):Int)).toNat) (j:=0) m12 qr rfl)) fun a w hf hc=>sp 1 hf rfl fun a hf=>?_
 obtain ⟨ai,cu,hF⟩:=aA hF
 obtain ⟨g3,kb⟩:=jE hc m12 (dE cu)
 refine zP hf rfl (pIA Tryz.underlying24 pF rfl rfl (At.len g3 (by simp only [bY,List.length_set]))) fun a hf=>zP hf rfl (pFA pW rfl) fun a hf=>aBi (vs:=[i6 (W (af.Places + 1))]) (o':=0) (z:=((d ((W (Y)).tmod ((D.1.Stations.length:Nat):Int)).toNat),(⟨W (af.Places + 1),ai.Order⟩:aC))) (xs:=(aF d R.Stations)) hf hc rfl rfl rfl rfl eL rfl (fun x=>(rV x).1) (oE (dE cu)) (fun e' dr=>by obtain rfl:=sj ((jJ (hs:=d) (fM cu).2).symm.trans dr); rfl) rfl u12 fun w hc=>?_
 replace hc:=((((((((((((hc.pick k10).pick k10).pick k10).pick k10).pick k10).pick k10).pick k10).pick k10).pick k10).pick k10).pick k10).pick k11).pick k12
 replace hc:=aHu (K:=aL) (hs:=d) (y:=(⟨W (af.Places + 1),ai.Order⟩:aC)) cu rfl hc
 replace hc:Ctx G (.row (some ⟨g,0,none⟩) a3 ((aF d (R.Stations.set ((W (Y)).tmod ((D.1.Stations.length:Nat):Int)).toNat (⟨W (af.Places + 1),ai.Order⟩:aC))).map (Kd.v aL)) 36 2::aQ aL (aF d (R.Stations.set ((W (Y)).tmod ((D.1.Stations.length:Nat):Int)).toNat (⟨W (af.Places + 1),ai.Order⟩:aC)))::.box bi [.slice av O.People.length bc,.slice ak O.Stations.length a8] 26::.box a5 [.slice b6 V.People.length cd,.slice bd V.Stations.length bq] 26::.box bj [.slice ac R.People.length a2,.slice (some ⟨g,0,none⟩) R.Stations.length a3] 26::aQ aL (aF t O.Stations)::.row ak a8 ((aF t O.Stations).map (Kd.v aL)) 36 2::aQ aG (aF ba O.People)::.row av bc ((aF ba O.People).map (Kd.v aG)) 30 1::aQ aL (aF a6 V.Stations)::.row bd bq ((aF a6 V.Stations).map (Kd.v aL)) 36 2::aQ aG (aF bg V.People)::.row b6 cd ((aF bg V.People).map (Kd.v aG)) 30 1::aQ aG (aF m R.People)::.row ac a2 ((aF m R.People).map (Kd.v aG)) 30 1::.row s X.1 ((aF X.2 D.1.People).map (Kd.v aG)) 30 1::aQ aG (aF X.2 D.1.People)::.row q I.1 ((aF I.2 D.1.Stations).map (Kd.v aL)) 36 2::aQ aL (aF I.2 D.1.Stations)::.row ar au (B.1.map aD) 3 1::.box a7 [.slice ag az.length ad,i6 b9.1,i6 b9.2] 46::.box ab [.slice s D.1.People.length X.1,.slice q D.1.Stations.length I.1] 26::Lf) w:=hc
 replace hc:=((((((((((((hc.pick k0).pick k1).pick k12).pick k12).pick k12).pick k12).pick k12).pick k12).pick k12).pick k12).pick k12).pick k12).pick k12
 refine zT h ?_
 refine wp_seq_k fun K8 h8=>?_
 obtain ⟨Z,g5,hF⟩:=aA hF
 obtain ⟨j5,d4,hF⟩:=aA hF
 replace hc:=hc.nilRow 0 0
 replace hc:=hc.nilRow 0 0
 refine gK (fun θ=>[⟨none,none,7,pq ab⟩,⟨none,none,8,pq a7⟩,⟨none,none,9,.slice ar B.1.length au⟩,⟨none,none,10,i6 B.2⟩,⟨none,none,12,pq bj⟩,⟨none,none,13,pq a5⟩,⟨none,none,14,pq bi⟩,⟨some 0,none,55,pq a5⟩,⟨some 1,none,56,.slice b6 V.People.length cd⟩,⟨some 2,none,57,pq a7⟩,⟨some 3,none,58,.pointer (some ⟨ab,1,none⟩)⟩,⟨some 4,none,59,.slice q D.1.Stations.length I.1⟩,⟨some 5,none,60,i6 ((D.1.Stations.length:Nat):Int)⟩,⟨some 6,none,61,.slice ((θ 48).p) Z.1.length ((θ 48).c)⟩,⟨some 7,none,62,.slice (some ⟨(θ 56).b,0,none⟩) 1 1⟩,⟨some 8,none,63,.slice ((θ 64).p) ((V.People++[Z.1]).length) ((θ 64).c)⟩,⟨some 9,none,64,pq a5⟩]) (fun E θ=>(bif E 7 then .row (some ⟨(θ 56).b,0,none⟩) 1 (([(((θ 48).p,(θ 48).c),Z.1)]:List (H2 × (List Int))).map (Kd.v aG)) 30 1 else .row none 0 [] 0 0)::(bif E 6 then .row ((θ 48).p) ((θ 48).c) (Z.1.map aD) 3 1 else .row none 0 [] 0 0)::.box bi [.slice av O.People.length bc,.slice ak O.Stations.length a8] 26::(bif E 10 then .box a5 [.slice ((θ 64).p) ((V.People++[Z.1]).length) ((θ 64).c),.slice bd V.Stations.length bq] 26 else .box a5 [.slice b6 V.People.length cd,.slice bd V.Stations.length bq] 26)::.box bj [.slice ac R.People.length a2,.slice (some ⟨g,0,none⟩) R.Stations.length a3] 26::aQ aL (aF t O.Stations)::.row ak a8 ((aF t O.Stations).map (Kd.v aL)) 36 2::aQ aG (aF ba O.People)::.row av bc ((aF ba O.People).map (Kd.v aG)) 30 1::aQ aL (aF a6 V.Stations)::.row bd bq ((aF a6 V.Stations).map (Kd.v aL)) 36 2::aQ aG (aF bg V.People)::(bif E 8 then .row ((θ 64).p) ((θ 64).c) (((aF bg V.People)++([(((θ 48).p,(θ 48).c),Z.1)]:List (H2 × (List Int)))).map (Kd.v aG)) 30 1 else .row b6 cd ((aF bg V.People).map (Kd.v aG)) 30 1)::aQ aL (aF d (R.Stations.set ((W (Y)).tmod ((D.1.Stations.length:Nat):Int)).toNat (⟨W (af.Places + 1),ai.Order⟩:aC)))::.row (some ⟨g,0,none⟩) a3 ((aF d (R.Stations.set ((W (Y)).tmod ((D.1.Stations.length:Nat):Int)).toNat (⟨W (af.Places + 1),ai.Order⟩:aC))).map (Kd.v aL)) 36 2::aQ aG (aF m R.People)::.row ac a2 ((aF m R.People).map (Kd.v aG)) 30 1::.row s X.1 ((aF X.2 D.1.People).map (Kd.v aG)) 30 1::aQ aG (aF X.2 D.1.People)::.row q I.1 ((aF I.2 D.1.Stations).map (Kd.v aL)) 36 2::aQ aL (aF I.2 D.1.Stations)::.row ar au (B.1.map aD) 3 1::(bif E 6 then .box a7 [.slice ag az.length ad,i6 Z.2.1,i6 Z.2.2] 46 else .box a7 [.slice ag az.length ad,i6 b9.1,i6 b9.2] 46)::.box ab [.slice s D.1.People.length X.1,.slice q D.1.Stations.length I.1] 26::Lf) [(10,1),(7,6),(8,6),(10,8)] (fun a w=>∃ (dm:Nat) (ci:Option Addr) (cr:Nat) (a0:Option Addr) (ay:Nat),Has 219 a [(7,pq ab),(8,pq a7),(9,.slice ar B.1.length au),(10,i6 B.2),(12,pq bj),(13,pq a5),(14,pq bi)]∧Ctx G (.row (some ⟨dm,0,none⟩) 1 (([((ci,cr),Z.1)]:List (H2 × (List Int))).map (Kd.v aG)) 30 1::.row ci cr (Z.1.map aD) 3 1::.box bi [.slice av O.People.length bc,.slice ak O.Stations.length a8] 26::.box a5 [.slice a0 ((V.People++[Z.1]).length) ay,.slice bd V.Stations.length bq] 26::.box bj [.slice ac R.People.length a2,.slice (some ⟨g,0,none⟩) R.Stations.length a3] 26::aQ aL (aF t O.Stations)::.row ak a8 ((aF t O.Stations).map (Kd.v aL)) 36 2::aQ aG (aF ba O.People)::.row av bc ((aF ba O.People).map (Kd.v aG)) 30 1::aQ aL (aF a6 V.Stations)::.row bd bq ((aF a6 V.Stations).map (Kd.v aL)) 36 2::aQ aG (aF bg V.People)::.row a0 ay (((aF bg V.People)++([((ci,cr),Z.1)]:List (H2 × (List Int)))).map (Kd.v aG)) 30 1::aQ aL (aF d (R.Stations.set ((W (Y)).tmod ((D.1.Stations.length:Nat):Int)).toNat (⟨W (af.Places + 1),ai.Order⟩:aC)))::.row (some ⟨g,0,none⟩) a3 ((aF d (R.Stations.set ((W (Y)).tmod ((D.1.Stations.length:Nat):Int)).toNat (⟨W (af.Places + 1),ai.Order⟩:aC))).map (Kd.v aL)) 36 2::aQ aG (aF m R.People)::.row ac a2 ((aF m R.People).map (Kd.v aG)) 30 1::.row s X.1 ((aF X.2 D.1.People).map (Kd.v aG)) 30 1::aQ aG (aF X.2 D.1.People)::.row q I.1 ((aF I.2 D.1.Stations).map (Kd.v aL)) 36 2::aQ aL (aF I.2 D.1.Stations)::.row ar au (B.1.map aD) 3 1::.box a7 [.slice ag az.length ad,i6 Z.2.1,i6 Z.2.2] 46::.box ab [.slice s D.1.People.length X.1,.slice q D.1.Stations.length I.1] 26::Lf) w) aU (by kernel_rfl) (by kernel_rfl) (fB.of hf ⟨rfl,rfl,rfl,rfl,rfl,rfl,rfl,trivial,trivial,trivial,trivial,trivial,trivial,trivial,trivial,trivial,trivial,trivial⟩) hc ⟨?_,?_,?_,?_,?_,?_,?_,?_,?_,?_,?_,trivial⟩ ?_ ?_
 ·intro E θ a w hD hi hp he hc
  have hf:=he.h0.mT he 5 rfl
  refine zP hf rfl (pFA eZ rfl) fun a hf=>zD θ he hi hf 7 rfl rfl rfl hc
 ·intro E θ a w hD hi hp he hc
  have e0:=hp.o 0 rfl
  have bf:=hD.f 0 rfl hi
  try dsimp only at hc
  rw [bf] at hc
  have hf:=he.h0.mP he 7 rfl e0
  refine zL hf hc mA m3 rfl fun a w hf hc=>zD θ he hi hf 8 rfl rfl rfl ?_
  try dsimp only
  rw [bB 1 bf rfl]
  exact hc
 ·intro E θ a w hD hi hp he hc
  have hf:=he.h0.mT he 1 rfl
  refine sp 1 hf rfl fun a hf=>zD θ he hi hf 9 rfl rfl rfl hc
 ·intro E θ a w hD hi hp he hc
  have hf:=he.h0.mT he 0 rfl
  refine zP hf rfl (pFA eG rfl) fun a hf=>zD θ he hi hf 10 rfl rfl rfl hc
 ·intro E θ a w hD hi hp he hc
  have e3:=hp.o 3 rfl
  have hf:=he.h0.mP he 10 rfl e3
  refine zL hf hc lN m23 rfl fun a w hf hc=>zD θ he hi hf 11 rfl rfl rfl hc
 ·intro E θ a w hD hi hp he hc
  have e4:=hp.o 4 rfl
  have hf:=he.h0.mP he 11 rfl e4
  refine zP hf rfl (bC Tryz.underlying24 rfl) fun a hf=>zD θ he hi hf 12 rfl rfl rfl hc
 ·intro E θ a w hD hi hp he hc
  have e2:=hp.o 2 rfl
  have e5:=hp.o 5 rfl
  have e7:=hD.f 1 rfl hi
  have e8:=hD.f 2 rfl hi
  try dsimp only at hc
  rw [hi,e7,e8] at hc
  have hf:=(he.h0.mP he 9 rfl e2).mP he 12 rfl e5
  refine zC hf en_8 rfl (oW (⟨az,b9.1,b9.2⟩:bD) ((D.1.Stations.length:Nat):Int) cs (hc.pick k22) g5) ?_
  rintro _ w ⟨gx,i8,rfl,hc⟩
  refine ⟨_,rfl,fun a hf=>?_⟩
  refine aP ?_
  refine cV ?_
  intro ds u a4
  replace hc:=(((((((((((((((((((((((hc.drop k3).pick k1).pick k22).pick k22).pick k22).pick k22).pick k22).pick k22).pick k22).pick k22).pick k22).pick k22).pick k22).pick k22).pick k22).pick k22).pick k22).pick k22).pick k22).pick k22).pick k22).pick k22).pick k21).pick k22
  refine ⟨(lA θ 48 ⟨0,gx,i8,(fun _=>(none,0))⟩),he.put hi a4 hf rfl [] trivial ⟨qq,qq,qq,qq,qq,qq,qq,qq,qq,qq,qq,qq,qq,qq,qq,qq,qq,trivial⟩,?_⟩
  try dsimp only
  rw [aR E 6,bB 6 e7 rfl,bB 6 e8 rfl]
  exact hc
 ·intro E θ a w hD hi hp he hc
  have e6:=hp.o 6 rfl
  try dsimp only at hc
  rw [hi,e6] at hc
  have hf:=he.h0.mP he 13 rfl e6
  refine jD (rows:=([(((θ 48).p,(θ 48).c),Z.1)]:List (H2 × (List Int))).map (Kd.v aG)) (vs:=[(0,.slice ((θ 48).p) Z.1.length ((θ 48).c))]) hf hc rfl rfl wH rfl ⟨rfl,rfl,rfl,trivial⟩ rfl rfl fun i4 a w hf hc=>aP ?_
  refine cV ?_
  intro ds u a4
  replace hc:=hc.drop k1
  refine ⟨(lA θ 56 ⟨i4,none,0,(fun _=>(none,0))⟩),he.put hi a4 hf rfl [] trivial ⟨qq,qq,qq,qq,qq,qq,qq,qq,qq,qq,qq,qq,qq,qq,qq,qq,qq,trivial⟩,?_⟩
  try dsimp only
  rw [aR E 7,dK 7 e6]
  exact hc
 ·intro E θ a w hD hi hp he hc
  have e1:=hp.o 1 rfl
  have e7:=hp.o 7 rfl
  have bf:=hD.f 3 rfl hi
  try dsimp only at hc
  rw [e7,hi,bf] at hc
  have hf:=(he.h0.mP he 8 rfl e1).mP he 14 rfl e7
  refine kY (xs:=(aF bg V.People)) (ys:=([(((θ 48).p,(θ 48).c),Z.1)]:List (H2 × (List Int)))) hf hc rfl rfl wH rfl rfl (bY _ _).symm rfl rfl cD (fG hc m0) (fun _ _=>u12) (by simpa [bY] using cP d4) fun dp gd a w hf hc=>?_
  replace hf:=jP (v':=.slice dp (V.People++[Z.1]).length gd) (by simp [bY]) hf
  refine aP ?_
  refine cV ?_
  intro ds u a4
  refine ⟨(lA θ 64 ⟨0,dp,gd,(fun _=>(none,0))⟩),he.put hi a4 hf rfl [] trivial ⟨qq,qq,qq,qq,qq,qq,qq,qq,qq,qq,qq,qq,qq,qq,qq,qq,qq,trivial⟩,?_⟩
  try dsimp only
  rw [dK 8 e7,aR E 8,bB 8 bf rfl]
  exact hc
 ·intro E θ a w hD hi hp he hc
  have hf:=he.h0.mT he 5 rfl
  refine zP hf rfl (pFA eZ rfl) fun a hf=>zD θ he hi hf 16 rfl rfl rfl hc
 ·intro E θ a w hD hi hp he hc
  have e8:=hp.o 8 rfl
  have e9:=hp.o 9 rfl
  try dsimp only at hc
  rw [hi] at hc
  have hf:=(he.h0.mP he 15 rfl e8).mP he 16 rfl e9
  refine zW hf hc aG2 u3 rfl fun w hc=>zG θ he hi hf rfl ?_
  try dsimp only
  rw [aR E 10]
  exact hc
 ·intro E θ a w a1 he hc
  have hf:=he.h0
  have e6:=a1 6 rfl
  have e7:=a1 7 rfl
  have e8:=a1 8 rfl
  have bf:=a1 10 rfl
  replace hf:=hf.more he 6 rfl (onT)
  replace hf:=hf.more he 5 rfl (onT)
  replace hf:=hf.more he 4 rfl (onT)
  replace hf:=hf.more he 3 rfl (onT)
  replace hf:=hf.more he 2 rfl (onT)
  replace hf:=hf.more he 1 rfl (onT)
  replace hf:=hf.more he 0 rfl (onT)
  try dsimp only at hc
  rw [e6,e7,e8,bf] at hc
  exact ⟨(θ 56).b,(θ 48).p,(θ 48).c,(θ 64).p,(θ 64).c,hf.kp rfl,hc⟩
 rintro a w ⟨dm,ci,cr,a0,ay,hf,hc⟩
 replace hc:=((((((((((((hc.drop k0).pick k9).pick k9).pick k9).pick k9).pick k9).pick k9).pick k9).pick k9).pick k9).pick k9).pick k10).pick k11
 obtain ⟨ax,hc⟩:=nW (K:=aG) ([((ci,cr),Z.1)]:List (H2 × (List Int))) hc
 replace hc:Ctx G (.row a0 ay ((aF ax (V.People++[Z.1])).map (Kd.v aG)) 30 1::aQ aG (aF ax (V.People++[Z.1]))::.box bi [.slice av O.People.length bc,.slice ak O.Stations.length a8] 26::.box a5 [.slice a0 ((V.People++[Z.1]).length) ay,.slice bd V.Stations.length bq] 26::.box bj [.slice ac R.People.length a2,.slice (some ⟨g,0,none⟩) R.Stations.length a3] 26::aQ aL (aF t O.Stations)::.row ak a8 ((aF t O.Stations).map (Kd.v aL)) 36 2::aQ aG (aF ba O.People)::.row av bc ((aF ba O.People).map (Kd.v aG)) 30 1::aQ aL (aF a6 V.Stations)::.row bd bq ((aF a6 V.Stations).map (Kd.v aL)) 36 2::aQ aL (aF d (R.Stations.set ((W (Y)).tmod ((D.1.Stations.length:Nat):Int)).toNat (⟨W (af.Places + 1),ai.Order⟩:aC)))::.row (some ⟨g,0,none⟩) a3 ((aF d (R.Stations.set ((W (Y)).tmod ((D.1.Stations.length:Nat):Int)).toNat (⟨W (af.Places + 1),ai.Order⟩:aC))).map (Kd.v aL)) 36 2::aQ aG (aF m R.People)::.row ac a2 ((aF m R.People).map (Kd.v aG)) 30 1::.row s X.1 ((aF X.2 D.1.People).map (Kd.v aG)) 30 1::aQ aG (aF X.2 D.1.People)::.row q I.1 ((aF I.2 D.1.Stations).map (Kd.v aL)) 36 2::aQ aL (aF I.2 D.1.Stations)::.row ar au (B.1.map aD) 3 1::.box a7 [.slice ag az.length ad,i6 Z.2.1,i6 Z.2.2] 46::.box ab [.slice s D.1.People.length X.1,.slice q D.1.Stations.length I.1] 26::Lf) w:=hc
 refine h8 _ _ ?_
 refine wp_seq_k fun K9 h9=>zS fun K h=>zP hf rfl (pFA eG rfl) fun a hf=>zL hf hc lN m3 rfl fun a w hf hc=>zP hf rfl (bC Tryz.underlying24 rfl) fun a hf=>sp 1 hf rfl fun a hf=>zT h ?_
 refine wp_block ?_
 obtain ⟨dj,ib,hF⟩:=aA hF
 let S11:((List aC) × Int × Int × Int)→Act→World→Prop:=(fun (zz:(List aC) × Int × Int × Int) a w=>∃ (bx:Option Addr) (U:rM),Has 219 a [(7,pq ab),(8,pq a7),(9,.slice ar B.1.length au),(10,i6 B.2),(12,pq bj),(13,pq a5),(14,pq bi),(66,.slice bx zz.1.length U.1),(67,i6 ((V.Stations.length:Nat):Int)),(68,i6 zz.2.1)]∧Ctx G (.row a0 ay ((aF ax (V.People++[Z.1])).map (Kd.v aG)) 30 1::aQ aG (aF ax (V.People++[Z.1]))::.box bi [.slice av O.People.length bc,.slice ak O.Stations.length a8] 26::.box a5 [.slice a0 ((V.People++[Z.1]).length) ay,.slice bx zz.1.length U.1] 26::.box bj [.slice ac R.People.length a2,.slice (some ⟨g,0,none⟩) ((R.Stations.set ((W (Y)).tmod ((D.1.Stations.length:Nat):Int)).toNat (⟨W (af.Places + 1),ai.Order⟩:aC)).length) a3] 26::.row ak a8 ((aF t O.Stations).map (Kd.v aL)) 36 2::aQ aL (aF t O.Stations)::.row av bc ((aF ba O.People).map (Kd.v aG)) 30 1::aQ aG (aF ba O.People)::.row bx U.1 ((aF U.2 zz.1).map (Kd.v aL)) 36 2::aQ aL (aF U.2 zz.1)::.row (some ⟨g,0,none⟩) a3 ((aF d (R.Stations.set ((W (Y)).tmod ((D.1.Stations.length:Nat):Int)).toNat (⟨W (af.Places + 1),ai.Order⟩:aC))).map (Kd.v aL)) 36 2::aQ aL (aF d (R.Stations.set ((W (Y)).tmod ((D.1.Stations.length:Nat):Int)).toNat (⟨W (af.Places + 1),ai.Order⟩:aC)))::.row ac a2 ((aF m R.People).map (Kd.v aG)) 30 1::aQ aG (aF m R.People)::.row s X.1 ((aF X.2 D.1.People).map (Kd.v aG)) 30 1::aQ aG (aF X.2 D.1.People)::.row q I.1 ((aF I.2 D.1.Stations).map (Kd.v aL)) 36 2::aQ aL (aF I.2 D.1.Stations)::.row ar au (B.1.map aD) 3 1::.box a7 [.slice ag az.length ad,i6 zz.2.2.1,i6 zz.2.2.2] 46::.box ab [.slice s D.1.People.length X.1,.slice q D.1.Stations.length I.1] 26::Lf) w)
 have g7:∀ (zz:(List aC) × Int × Int × Int) a w,dj=.go zz→S11 zz a w→K9 a w:=by
  rintro ⟨x,aa,df,c3⟩ a w rfl ⟨bx,U,hf,hc⟩
  replace hF:=bP hF
  refine h9 _ _ ?_
  refine wp_seq_k fun K12 jz=>cJ ?_
  refine zP hf rfl (pFA eZ rfl) fun a hf=>zL hf hc mA m2 rfl fun a w hf hc=>?_
  replace hc:=hc.nilRow 3 1
  refine jD (rows:=([((none,0),([]:List Int))]:List (H2 × (List Int))).map (Kd.v aG)) (vs:=[(0,.slice none 0 0)]) hf hc rfl rfl wH rfl ⟨rfl,rfl,rfl,trivial⟩ rfl rfl fun j9 a w hf hc=>?_
  obtain ⟨kc,d9,hF⟩:=aA hF
  refine kY (xs:=(aF ba O.People)) (ys:=([((none,0),([]:List Int))]:List (H2 × (List Int)))) hf hc rfl rfl wH rfl rfl (bY _ _).symm rfl rfl cD (fG hc m0) (fun _ _=>u9) (by simpa [bY] using cP d9) fun cj cp a w hf hc=>?_
  replace hf:=jP (v':=.slice cj (O.People++[([]:List Int)]).length cp) (by simp [bY]) hf
  refine zP hf rfl (pFA eZ rfl) fun a hf=>zW hf hc aG2 u4 rfl fun w hc=>aP ?_
  replace hc:=((((((((((hc.drop k0).pick k7).pick k7).pick k7).pick k7).pick k7).pick k7).pick k7).pick k7).pick k9).pick k9
  obtain ⟨cf,hc⟩:=nW (K:=aG) ([((none,0),([]:List Int))]:List (H2 × (List Int))) hc
  replace hc:Ctx G (.row cj cp ((aF cf (O.People++[([]:List Int)])).map (Kd.v aG)) 30 1::aQ aG (aF cf (O.People++[([]:List Int)]))::.row a0 ay ((aF ax (V.People++[Z.1])).map (Kd.v aG)) 30 1::aQ aG (aF ax (V.People++[Z.1]))::.box bi [.slice cj ((O.People++[([]:List Int)]).length) cp,.slice ak O.Stations.length a8] 26::.box a5 [.slice a0 ((V.People++[Z.1]).length) ay,.slice bx x.length U.1] 26::.box bj [.slice ac R.People.length a2,.slice (some ⟨g,0,none⟩) ((R.Stations.set ((W (Y)).tmod ((D.1.Stations.length:Nat):Int)).toNat (⟨W (af.Places + 1),ai.Order⟩:aC)).length) a3] 26::.row ak a8 ((aF t O.Stations).map (Kd.v aL)) 36 2::aQ aL (aF t O.Stations)::.row bx U.1 ((aF U.2 x).map (Kd.v aL)) 36 2::aQ aL (aF U.2 x)::.row (some ⟨g,0,none⟩) a3 ((aF d (R.Stations.set ((W (Y)).tmod ((D.1.Stations.length:Nat):Int)).toNat (⟨W (af.Places + 1),ai.Order⟩:aC))).map (Kd.v aL)) 36 2::aQ aL (aF d (R.Stations.set ((W (Y)).tmod ((D.1.Stations.length:Nat):Int)).toNat (⟨W (af.Places + 1),ai.Order⟩:aC)))::.row ac a2 ((aF m R.People).map (Kd.v aG)) 30 1::aQ aG (aF m R.People)::.row s X.1 ((aF X.2 D.1.People).map (Kd.v aG)) 30 1::aQ aG (aF X.2 D.1.People)::.row q I.1 ((aF I.2 D.1.Stations).map (Kd.v aL)) 36 2::aQ aL (aF I.2 D.1.Stations)::.row ar au (B.1.map aD) 3 1::.box a7 [.slice ag az.length ad,i6 df,i6 c3] 46::.box ab [.slice s D.1.People.length X.1,.slice q D.1.Stations.length I.1] 26::Lf) w:=hc
  replace hc:=hc.drop k20
  refine jz _ _ ?_
  refine wp_seq_k fun K13 ju=>cJ ?_
  refine zP hf rfl (pFA eG rfl) fun a hf=>zL hf hc lN m4 rfl fun a w hf hc=>zP hf rfl (cF (cells:=[i6 5,.slice none 0 0]) aDm rfl rfl) fun a hf=>?_
  replace hc:=hc.nilRow 3 1
  refine jD (rows:=([((none,0),(⟨5,([]:List Int)⟩:aC))]:List (H2 × aC)).map (Kd.v aL)) (vs:=[(0,.agg #[i6 5,.slice none 0 0])]) hf hc rfl rfl aAe rfl ⟨rfl,rfl,rfl,trivial⟩ rfl rfl fun j7 a w hf hc=>?_
  obtain ⟨j6,d2,hF⟩:=aA hF
  refine kY (xs:=(aF t O.Stations)) (ys:=([((none,0),(⟨5,([]:List Int)⟩:aC))]:List (H2 × aC))) hf hc rfl rfl aAe rfl rfl (bY _ _).symm rfl rfl rV (fG hc m0) (fun _ _=>u9) (by simpa [bY] using cP d2) fun c2 c1 a w hf hc=>?_
  replace hf:=jP (v':=.slice c2 (O.Stations++[(⟨5,([]:List Int)⟩:aC)]).length c1) (by simp [bY]) hf
  refine zP hf rfl (pFA eG rfl) fun a hf=>zW hf hc aIq u6 rfl fun w hc=>aP ?_
  replace hc:=((((((((((hc.drop k0).pick k7).pick k7).pick k7).pick k7).pick k7).pick k7).pick k7).pick k7).pick k9).pick k9
  obtain ⟨dg,hc⟩:=nW (K:=aL) ([((none,0),(⟨5,([]:List Int)⟩:aC))]:List (H2 × aC)) hc
  replace hc:Ctx G (.row c2 c1 ((aF dg (O.Stations++[(⟨5,([]:List Int)⟩:aC)])).map (Kd.v aL)) 36 2::aQ aL (aF dg (O.Stations++[(⟨5,([]:List Int)⟩:aC)]))::.row cj cp ((aF cf (O.People++[([]:List Int)])).map (Kd.v aG)) 30 1::aQ aG (aF cf (O.People++[([]:List Int)]))::.row a0 ay ((aF ax (V.People++[Z.1])).map (Kd.v aG)) 30 1::aQ aG (aF ax (V.People++[Z.1]))::.box bi [.slice cj ((O.People++[([]:List Int)]).length) cp,.slice c2 ((O.Stations++[(⟨5,([]:List Int)⟩:aC)]).length) c1] 26::.box a5 [.slice a0 ((V.People++[Z.1]).length) ay,.slice bx x.length U.1] 26::.box bj [.slice ac R.People.length a2,.slice (some ⟨g,0,none⟩) ((R.Stations.set ((W (Y)).tmod ((D.1.Stations.length:Nat):Int)).toNat (⟨W (af.Places + 1),ai.Order⟩:aC)).length) a3] 26::.row bx U.1 ((aF U.2 x).map (Kd.v aL)) 36 2::aQ aL (aF U.2 x)::.row (some ⟨g,0,none⟩) a3 ((aF d (R.Stations.set ((W (Y)).tmod ((D.1.Stations.length:Nat):Int)).toNat (⟨W (af.Places + 1),ai.Order⟩:aC))).map (Kd.v aL)) 36 2::aQ aL (aF d (R.Stations.set ((W (Y)).tmod ((D.1.Stations.length:Nat):Int)).toNat (⟨W (af.Places + 1),ai.Order⟩:aC)))::.row ac a2 ((aF m R.People).map (Kd.v aG)) 30 1::aQ aG (aF m R.People)::.row s X.1 ((aF X.2 D.1.People).map (Kd.v aG)) 30 1::aQ aG (aF X.2 D.1.People)::.row q I.1 ((aF I.2 D.1.Stations).map (Kd.v aL)) 36 2::aQ aL (aF I.2 D.1.Stations)::.row ar au (B.1.map aD) 3 1::.box ab [.slice s D.1.People.length X.1,.slice q D.1.Stations.length I.1] 26::Lf) w:=hc
  refine ju _ _ ?_
  refine wp_seq_k fun K14 jf=>cJ ?_
  refine zN hf hc mD m8 rfl fun a w hf hc=>?_
  obtain ⟨H,i1,hF⟩:=aA hF
  obtain ⟨G1,br,aj,hc,ap⟩:=jA lX hc k13 k13
  obtain ⟨G2,an,aq,hc,am⟩:=jA nK hc k11 k11
  refine zC hf aHh rfl (lI (⟨R.People,(R.Stations.set ((W (Y)).tmod ((D.1.Stations.length:Nat):Int)).toNat (⟨W (af.Places + 1),ai.Order⟩:aC))⟩:aB) (aj.mono an) aq hc i1) ?_
  rintro _ w ⟨bu,bv,rfl,hc⟩
  refine ⟨_,rfl,fun a hf=>?_⟩
  replace hc:=am _ _ hc
  replace hc:=ap _ _ hc
  refine sp 5 hf rfl fun a hf=>aP ?_
  replace hc:=((((hc.drop k13).drop k3).drop k2).drop k1).drop k0
  refine jf _ _ ?_
  refine wp_seq_k fun K15 jj=>cJ ?_
  refine zN hf hc mD m8 rfl fun a w hf hc=>?_
  obtain ⟨J,iu,hF⟩:=aA hF
  obtain ⟨G1,br,aj,hc,ap⟩:=jA lX hc k5 k5
  obtain ⟨G2,an,aq,hc,am⟩:=jA nK hc k7 k7
  refine zC hf aHh rfl (lI (⟨(V.People++[Z.1]),x⟩:aB) (aj.mono an) aq hc iu) ?_
  rintro _ w ⟨bp,bn,rfl,hc⟩
  refine ⟨_,rfl,fun a hf=>?_⟩
  replace hc:=am _ _ hc
  replace hc:=ap _ _ hc
  refine sp 5 hf rfl fun a hf=>aP ?_
  replace hc:=((((hc.drop k11).drop k3).drop k2).drop k1).drop k0
  refine jj _ _ ?_
  refine wp_seq_k fun K16 jc=>cJ ?_
  refine zN hf hc mD m6 rfl fun a w hf hc=>?_
  obtain ⟨M,d8,hF⟩:=aA hF
  obtain ⟨G1,br,aj,hc,ap⟩:=jA lX hc k4 k4
  obtain ⟨G2,an,aq,hc,am⟩:=jA nK hc k2 k2
  refine zC hf aHh rfl (lI (⟨(O.People++[([]:List Int)]),(O.Stations++[(⟨5,([]:List Int)⟩:aC)])⟩:aB) (aj.mono an) aq hc d8) ?_
  rintro _ w ⟨b3,b4,rfl,hc⟩
  refine ⟨_,rfl,fun a hf=>?_⟩
  replace hc:=am _ _ hc
  replace hc:=ap _ _ hc
  refine sp 5 hf rfl fun a hf=>aP ?_
  replace hc:=((((hc.drop k7).drop k3).drop k2).drop k1).drop k0
  refine jc _ _ ?_
  refine wp_seq_k fun K17 jy=>wp_seq_k fun K18 j3=>cJ ?_
  refine sp 3 hf rfl fun a hf=>gX 3 (fun a=>Has 219 a [(7,pq ab),(9,.slice ar B.1.length au),(10,i6 B.2),(17,.slice bu H.1.length bv),(18,i6 H.2),(19,.slice bp J.1.length bn),(20,i6 J.2),(21,.slice b3 M.1.length b4),(22,i6 M.2),(118,i6 B.2),(119,.bool (B.2 != 0)),(120,.bool (B.2 != 0)),(123,.bool ((B.2 != 0) || (H.2 != 0)))]) hc ?_ ?_
  ·cases hb:(B.2 != 0)
   ·rw [hb] at hf
    refine sp 3 hf rfl fun a hf=>aP ⟨hf.kp rfl,hc⟩
   ·rw [hb] at hf
    refine stS hf rfl rfl rfl fun a hf=>stS hf rfl rfl rfl fun a hf=>sp 1 hf rfl fun a hf=>aP ⟨hf.kp rfl,hc⟩
  intro a w ⟨hf,hc⟩
  refine sp 1 hf rfl fun a hf=>gX 3 (fun a=>Has 219 a [(7,pq ab),(9,.slice ar B.1.length au),(10,i6 B.2),(17,.slice bu H.1.length bv),(18,i6 H.2),(19,.slice bp J.1.length bn),(20,i6 J.2),(21,.slice b3 M.1.length b4),(22,i6 M.2),(118,i6 B.2),(119,.bool (B.2 != 0)),(120,.bool (B.2 != 0)),(123,.bool ((B.2 != 0) || (H.2 != 0))),(124,.bool ((B.2 != 0) || (H.2 != 0))),(127,.bool (((B.2 != 0) || (H.2 != 0)) || (J.2 != 0)))]) hc ?_ ?_
  ·cases hb:((B.2 != 0) || (H.2 != 0))
   ·rw [hb] at hf
    refine sp 3 hf rfl fun a hf=>aP ⟨hf.kp rfl,hc⟩
   ·rw [hb] at hf
    refine stS hf rfl rfl rfl fun a hf=>stS hf rfl rfl rfl fun a hf=>sp 1 hf rfl fun a hf=>aP ⟨hf.kp rfl,hc⟩
  intro a w ⟨hf,hc⟩
  refine sp 1 hf rfl fun a hf=>gX 3 (fun a=>Has 219 a [(7,pq ab),(9,.slice ar B.1.length au),(10,i6 B.2),(17,.slice bu H.1.length bv),(18,i6 H.2),(19,.slice bp J.1.length bn),(20,i6 J.2),(21,.slice b3 M.1.length b4),(22,i6 M.2),(118,i6 B.2),(119,.bool (B.2 != 0)),(120,.bool (B.2 != 0)),(123,.bool ((B.2 != 0) || (H.2 != 0))),(124,.bool ((B.2 != 0) || (H.2 != 0))),(127,.bool (((B.2 != 0) || (H.2 != 0)) || (J.2 != 0))),(128,.bool (((B.2 != 0) || (H.2 != 0)) || (J.2 != 0))),(131,.bool ((((B.2 != 0) || (H.2 != 0)) || (J.2 != 0)) || (M.2 != 0)))]) hc ?_ ?_
  ·cases hb:(((B.2 != 0) || (H.2 != 0)) || (J.2 != 0))
   ·rw [hb] at hf
    refine sp 3 hf rfl fun a hf=>aP ⟨hf.kp rfl,hc⟩
   ·rw [hb] at hf
    refine stS hf rfl rfl rfl fun a hf=>stS hf rfl rfl rfl fun a hf=>sp 1 hf rfl fun a hf=>aP ⟨hf.kp rfl,hc⟩
  intro a w ⟨hf,hc⟩
  refine sp 1 hf rfl fun a hf=>gX 7 (fun a=>Has 219 a [(7,pq ab),(9,.slice ar B.1.length au),(10,i6 B.2),(17,.slice bu H.1.length bv),(18,i6 H.2),(19,.slice bp J.1.length bn),(20,i6 J.2),(21,.slice b3 M.1.length b4),(22,i6 M.2),(118,i6 B.2),(119,.bool (B.2 != 0)),(120,.bool (B.2 != 0)),(123,.bool ((B.2 != 0) || (H.2 != 0))),(124,.bool ((B.2 != 0) || (H.2 != 0))),(127,.bool (((B.2 != 0) || (H.2 != 0)) || (J.2 != 0))),(128,.bool (((B.2 != 0) || (H.2 != 0)) || (J.2 != 0))),(131,.bool ((((B.2 != 0) || (H.2 != 0)) || (J.2 != 0)) || (M.2 != 0))),(132,.bool ((((B.2 != 0) || (H.2 != 0)) || (J.2 != 0)) || (M.2 != 0))),(139,.bool (((((B.2 != 0) || (H.2 != 0)) || (J.2 != 0)) || (M.2 != 0)) || (((B.1.length:Nat):Int) != ((D.1.People.length:Nat):Int))))]) hc ?_ ?_
  ·cases hb:((((B.2 != 0) || (H.2 != 0)) || (J.2 != 0)) || (M.2 != 0))
   ·rw [hb] at hf
    refine sp 1 hf rfl fun a hf=>zP hf rfl (bC Tryz.underlying30 rfl) fun a hf=>zP hf rfl (pFA eZ rfl) fun a hf=>zL hf hc mA m8 rfl fun a w hf hc=>zP hf rfl (bC Tryz.underlying23 rfl) fun a hf=>sp 2 hf rfl fun a hf=>aP ⟨hf.kp rfl,hc⟩
   ·rw [hb] at hf
    refine stS hf rfl rfl rfl fun a hf=>stS hf rfl rfl rfl fun a hf=>stS hf rfl rfl rfl fun a hf=>stS hf rfl rfl rfl fun a hf=>stS hf rfl rfl rfl fun a hf=>stS hf rfl rfl rfl fun a hf=>sp 1 hf rfl fun a hf=>aP ⟨hf.kp rfl,hc⟩
  intro a w ⟨hf,hc⟩
  refine sp 1 hf rfl fun a hf=>gX 6 (fun a=>Has 219 a [(7,pq ab),(9,.slice ar B.1.length au),(10,i6 B.2),(17,.slice bu H.1.length bv),(18,i6 H.2),(19,.slice bp J.1.length bn),(20,i6 J.2),(21,.slice b3 M.1.length b4),(22,i6 M.2),(118,i6 B.2),(119,.bool (B.2 != 0)),(120,.bool (B.2 != 0)),(123,.bool ((B.2 != 0) || (H.2 != 0))),(124,.bool ((B.2 != 0) || (H.2 != 0))),(127,.bool (((B.2 != 0) || (H.2 != 0)) || (J.2 != 0))),(128,.bool (((B.2 != 0) || (H.2 != 0)) || (J.2 != 0))),(131,.bool ((((B.2 != 0) || (H.2 != 0)) || (J.2 != 0)) || (M.2 != 0))),(132,.bool ((((B.2 != 0) || (H.2 != 0)) || (J.2 != 0)) || (M.2 != 0))),(139,.bool (((((B.2 != 0) || (H.2 != 0)) || (J.2 != 0)) || (M.2 != 0)) || (((B.1.length:Nat):Int) != ((D.1.People.length:Nat):Int)))),(140,.bool (((((B.2 != 0) || (H.2 != 0)) || (J.2 != 0)) || (M.2 != 0)) || (((B.1.length:Nat):Int) != ((D.1.People.length:Nat):Int)))),(146,.bool ((((((B.2 != 0) || (H.2 != 0)) || (J.2 != 0)) || (M.2 != 0)) || (((B.1.length:Nat):Int) != ((D.1.People.length:Nat):Int))) || (((H.1.length:Nat):Int) != ((B.1.length:Nat):Int))))]) hc ?_ ?_
  ·cases hb:(((((B.2 != 0) || (H.2 != 0)) || (J.2 != 0)) || (M.2 != 0)) || (((B.1.length:Nat):Int) != ((D.1.People.length:Nat):Int)))
   ·rw [hb] at hf
    refine sp 1 hf rfl fun a hf=>zP hf rfl (bC Tryz.underlying30 rfl) fun a hf=>sp 1 hf rfl fun a hf=>zP hf rfl (bC Tryz.underlying30 rfl) fun a hf=>sp 2 hf rfl fun a hf=>aP ⟨hf.kp rfl,hc⟩
   ·rw [hb] at hf
    refine stS hf rfl rfl rfl fun a hf=>stS hf rfl rfl rfl fun a hf=>stS hf rfl rfl rfl fun a hf=>stS hf rfl rfl rfl fun a hf=>stS hf rfl rfl rfl fun a hf=>sp 1 hf rfl fun a hf=>aP ⟨hf.kp rfl,hc⟩
  intro a w ⟨hf,hc⟩
  refine sp 1 hf rfl fun a hf=>gX 7 (fun a=>Has 219 a [(7,pq ab),(9,.slice ar B.1.length au),(10,i6 B.2),(17,.slice bu H.1.length bv),(18,i6 H.2),(19,.slice bp J.1.length bn),(20,i6 J.2),(21,.slice b3 M.1.length b4),(22,i6 M.2),(118,i6 B.2),(119,.bool (B.2 != 0)),(120,.bool (B.2 != 0)),(123,.bool ((B.2 != 0) || (H.2 != 0))),(124,.bool ((B.2 != 0) || (H.2 != 0))),(127,.bool (((B.2 != 0) || (H.2 != 0)) || (J.2 != 0))),(128,.bool (((B.2 != 0) || (H.2 != 0)) || (J.2 != 0))),(131,.bool ((((B.2 != 0) || (H.2 != 0)) || (J.2 != 0)) || (M.2 != 0))),(132,.bool ((((B.2 != 0) || (H.2 != 0)) || (J.2 != 0)) || (M.2 != 0))),(139,.bool (((((B.2 != 0) || (H.2 != 0)) || (J.2 != 0)) || (M.2 != 0)) || (((B.1.length:Nat):Int) != ((D.1.People.length:Nat):Int)))),(140,.bool (((((B.2 != 0) || (H.2 != 0)) || (J.2 != 0)) || (M.2 != 0)) || (((B.1.length:Nat):Int) != ((D.1.People.length:Nat):Int)))),(146,.bool ((((((B.2 != 0) || (H.2 != 0)) || (J.2 != 0)) || (M.2 != 0)) || (((B.1.length:Nat):Int) != ((D.1.People.length:Nat):Int))) || (((H.1.length:Nat):Int) != ((B.1.length:Nat):Int)))),(147,.bool ((((((B.2 != 0) || (H.2 != 0)) || (J.2 != 0)) || (M.2 != 0)) || (((B.1.length:Nat):Int) != ((D.1.People.length:Nat):Int))) || (((H.1.length:Nat):Int) != ((B.1.length:Nat):Int)))),(154,.bool (((((((B.2 != 0) || (H.2 != 0)) || (J.2 != 0)) || (M.2 != 0)) || (((B.1.length:Nat):Int) != ((D.1.People.length:Nat):Int))) || (((H.1.length:Nat):Int) != ((B.1.length:Nat):Int))) || (((J.1.length:Nat):Int) != (W (((B.1.length:Nat):Int) + 1)))))]) hc ?_ ?_
  ·cases hb:((((((B.2 != 0) || (H.2 != 0)) || (J.2 != 0)) || (M.2 != 0)) || (((B.1.length:Nat):Int) != ((D.1.People.length:Nat):Int))) || (((H.1.length:Nat):Int) != ((B.1.length:Nat):Int)))
   ·rw [hb] at hf
    refine sp 1 hf rfl fun a hf=>zP hf rfl (bC Tryz.underlying30 rfl) fun a hf=>sp 1 hf rfl fun a hf=>zP hf rfl (bC Tryz.underlying30 rfl) fun a hf=>sp 3 hf rfl fun a hf=>aP ⟨hf.kp rfl,hc⟩
   ·rw [hb] at hf
    refine stS hf rfl rfl rfl fun a hf=>stS hf rfl rfl rfl fun a hf=>stS hf rfl rfl rfl fun a hf=>stS hf rfl rfl rfl fun a hf=>stS hf rfl rfl rfl fun a hf=>stS hf rfl rfl rfl fun a hf=>sp 1 hf rfl fun a hf=>aP ⟨hf.kp rfl,hc⟩
  intro a w ⟨hf,hc⟩
  refine sp 1 hf rfl fun a hf=>gX 7 (fun a=>Has 219 a [(7,pq ab),(9,.slice ar B.1.length au),(10,i6 B.2),(17,.slice bu H.1.length bv),(18,i6 H.2),(19,.slice bp J.1.length bn),(20,i6 J.2),(21,.slice b3 M.1.length b4),(22,i6 M.2),(118,i6 B.2),(119,.bool (B.2 != 0)),(120,.bool (B.2 != 0)),(123,.bool ((B.2 != 0) || (H.2 != 0))),(124,.bool ((B.2 != 0) || (H.2 != 0))),(127,.bool (((B.2 != 0) || (H.2 != 0)) || (J.2 != 0))),(128,.bool (((B.2 != 0) || (H.2 != 0)) || (J.2 != 0))),(131,.bool ((((B.2 != 0) || (H.2 != 0)) || (J.2 != 0)) || (M.2 != 0))),(132,.bool ((((B.2 != 0) || (H.2 != 0)) || (J.2 != 0)) || (M.2 != 0))),(139,.bool (((((B.2 != 0) || (H.2 != 0)) || (J.2 != 0)) || (M.2 != 0)) || (((B.1.length:Nat):Int) != ((D.1.People.length:Nat):Int)))),(140,.bool (((((B.2 != 0) || (H.2 != 0)) || (J.2 != 0)) || (M.2 != 0)) || (((B.1.length:Nat):Int) != ((D.1.People.length:Nat):Int)))),(146,.bool ((((((B.2 != 0) || (H.2 != 0)) || (J.2 != 0)) || (M.2 != 0)) || (((B.1.length:Nat):Int) != ((D.1.People.length:Nat):Int))) || (((H.1.length:Nat):Int) != ((B.1.length:Nat):Int)))),(147,.bool ((((((B.2 != 0) || (H.2 != 0)) || (J.2 != 0)) || (M.2 != 0)) || (((B.1.length:Nat):Int) != ((D.1.People.length:Nat):Int))) || (((H.1.length:Nat):Int) != ((B.1.length:Nat):Int)))),(154,.bool (((((((B.2 != 0) || (H.2 != 0)) || (J.2 != 0)) || (M.2 != 0)) || (((B.1.length:Nat):Int) != ((D.1.People.length:Nat):Int))) || (((H.1.length:Nat):Int) != ((B.1.length:Nat):Int))) || (((J.1.length:Nat):Int) != (W (((B.1.length:Nat):Int) + 1))))),(155,.bool (((((((B.2 != 0) || (H.2 != 0)) || (J.2 != 0)) || (M.2 != 0)) || (((B.1.length:Nat):Int) != ((D.1.People.length:Nat):Int))) || (((H.1.length:Nat):Int) != ((B.1.length:Nat):Int))) || (((J.1.length:Nat):Int) != (W (((B.1.length:Nat):Int) + 1))))),(162,.bool ((((((((B.2 != 0) || (H.2 != 0)) || (J.2 != 0)) || (M.2 != 0)) || (((B.1.length:Nat):Int) != ((D.1.People.length:Nat):Int))) || (((H.1.length:Nat):Int) != ((B.1.length:Nat):Int))) || (((J.1.length:Nat):Int) != (W (((B.1.length:Nat):Int) + 1)))) || (((M.1.length:Nat):Int) != (W (((B.1.length:Nat):Int) + 1)))))]) hc ?_ ?_
  ·cases hb:(((((((B.2 != 0) || (H.2 != 0)) || (J.2 != 0)) || (M.2 != 0)) || (((B.1.length:Nat):Int) != ((D.1.People.length:Nat):Int))) || (((H.1.length:Nat):Int) != ((B.1.length:Nat):Int))) || (((J.1.length:Nat):Int) != (W (((B.1.length:Nat):Int) + 1))))
   ·rw [hb] at hf
    refine sp 1 hf rfl fun a hf=>zP hf rfl (bC Tryz.underlying30 rfl) fun a hf=>sp 1 hf rfl fun a hf=>zP hf rfl (bC Tryz.underlying30 rfl) fun a hf=>sp 3 hf rfl fun a hf=>aP ⟨hf.kp rfl,hc⟩
   ·rw [hb] at hf
    refine stS hf rfl rfl rfl fun a hf=>stS hf rfl rfl rfl fun a hf=>stS hf rfl rfl rfl fun a hf=>stS hf rfl rfl rfl fun a hf=>stS hf rfl rfl rfl fun a hf=>stS hf rfl rfl rfl fun a hf=>sp 1 hf rfl fun a hf=>aP ⟨hf.kp rfl,hc⟩
  intro a w ⟨hf,hc⟩
  refine sp 1 hf rfl fun a hf=>?_
  obtain ⟨c8,dn,hF⟩:=aA hF
  refine gX 7 (fun a=>Has 219 a [(7,pq ab),(9,.slice ar B.1.length au),(10,i6 B.2),(17,.slice bu H.1.length bv),(18,i6 H.2),(19,.slice bp J.1.length bn),(20,i6 J.2),(21,.slice b3 M.1.length b4),(22,i6 M.2),(118,i6 B.2),(119,.bool (B.2 != 0)),(120,.bool (B.2 != 0)),(123,.bool ((B.2 != 0) || (H.2 != 0))),(124,.bool ((B.2 != 0) || (H.2 != 0))),(127,.bool (((B.2 != 0) || (H.2 != 0)) || (J.2 != 0))),(128,.bool (((B.2 != 0) || (H.2 != 0)) || (J.2 != 0))),(131,.bool ((((B.2 != 0) || (H.2 != 0)) || (J.2 != 0)) || (M.2 != 0))),(132,.bool ((((B.2 != 0) || (H.2 != 0)) || (J.2 != 0)) || (M.2 != 0))),(139,.bool (((((B.2 != 0) || (H.2 != 0)) || (J.2 != 0)) || (M.2 != 0)) || (((B.1.length:Nat):Int) != ((D.1.People.length:Nat):Int)))),(140,.bool (((((B.2 != 0) || (H.2 != 0)) || (J.2 != 0)) || (M.2 != 0)) || (((B.1.length:Nat):Int) != ((D.1.People.length:Nat):Int)))),(146,.bool ((((((B.2 != 0) || (H.2 != 0)) || (J.2 != 0)) || (M.2 != 0)) || (((B.1.length:Nat):Int) != ((D.1.People.length:Nat):Int))) || (((H.1.length:Nat):Int) != ((B.1.length:Nat):Int)))),(147,.bool ((((((B.2 != 0) || (H.2 != 0)) || (J.2 != 0)) || (M.2 != 0)) || (((B.1.length:Nat):Int) != ((D.1.People.length:Nat):Int))) || (((H.1.length:Nat):Int) != ((B.1.length:Nat):Int)))),(154,.bool (((((((B.2 != 0) || (H.2 != 0)) || (J.2 != 0)) || (M.2 != 0)) || (((B.1.length:Nat):Int) != ((D.1.People.length:Nat):Int))) || (((H.1.length:Nat):Int) != ((B.1.length:Nat):Int))) || (((J.1.length:Nat):Int) != (W (((B.1.length:Nat):Int) + 1))))),(155,.bool (((((((B.2 != 0) || (H.2 != 0)) || (J.2 != 0)) || (M.2 != 0)) || (((B.1.length:Nat):Int) != ((D.1.People.length:Nat):Int))) || (((H.1.length:Nat):Int) != ((B.1.length:Nat):Int))) || (((J.1.length:Nat):Int) != (W (((B.1.length:Nat):Int) + 1))))),(162,.bool ((((((((B.2 != 0) || (H.2 != 0)) || (J.2 != 0)) || (M.2 != 0)) || (((B.1.length:Nat):Int) != ((D.1.People.length:Nat):Int))) || (((H.1.length:Nat):Int) != ((B.1.length:Nat):Int))) || (((J.1.length:Nat):Int) != (W (((B.1.length:Nat):Int) + 1)))) || (((M.1.length:Nat):Int) != (W (((B.1.length:Nat):Int) + 1))))),(163,.bool ((((((((B.2 != 0) || (H.2 != 0)) || (J.2 != 0)) || (M.2 != 0)) || (((B.1.length:Nat):Int) != ((D.1.People.length:Nat):Int))) || (((H.1.length:Nat):Int) != ((B.1.length:Nat):Int))) || (((J.1.length:Nat):Int) != (W (((B.1.length:Nat):Int) + 1)))) || (((M.1.length:Nat):Int) != (W (((B.1.length:Nat):Int) + 1))))),(170,.bool c8)]) hc ?_ ?_
  ·cases hb:((((((((B.2 != 0) || (H.2 != 0)) || (J.2 != 0)) || (M.2 != 0)) || (((B.1.length:Nat):Int) != ((D.1.People.length:Nat):Int))) || (((H.1.length:Nat):Int) != ((B.1.length:Nat):Int))) || (((J.1.length:Nat):Int) != (W (((B.1.length:Nat):Int) + 1)))) || (((M.1.length:Nat):Int) != (W (((B.1.length:Nat):Int) + 1))))
   ·rw [hb] at hf
    have hF:=jM hb dn
    refine sp 2 hf rfl fun a hf=>zP hf rfl (bC Tryz.underlying30 rfl) fun a hf=>?_
    obtain ⟨kj,ip,hF⟩:=aA hF
    obtain ⟨kg,rfl,g6,ia⟩:=hU hc m0 ip
    refine zP hf rfl (pIA Tryz.underlying30 eL rfl rfl g6) fun a hf=>zE hf hc rfl (bT bA rfl (eJ (sz:=1) (i:=((B.1.length:Nat):Int).toNat) (j:=0) m0 ia rfl)) fun a w hf hc=>sp 2 hf rfl fun a hf=>?_
    obtain rfl:=sj hF
    exact aP ⟨hf.kp rfl,hc⟩
   ·rw [hb] at hf
    have hF:=iL hb dn
    obtain rfl:=sj hF
    refine stS hf rfl rfl rfl fun a hf=>stS hf rfl rfl rfl fun a hf=>stS hf rfl rfl rfl fun a hf=>stS hf rfl rfl rfl fun a hf=>stS hf rfl rfl rfl fun a hf=>stS hf rfl rfl rfl fun a hf=>sp 1 hf rfl fun a hf=>aP ⟨hf.kp rfl,hc⟩
  intro a w ⟨hf,hc⟩
  refine sp 1 hf rfl fun a hf=>?_
  obtain ⟨i7,dt,hF⟩:=aA hF
  refine gX 8 (fun a=>Has 219 a [(7,pq ab),(9,.slice ar B.1.length au),(10,i6 B.2),(17,.slice bu H.1.length bv),(18,i6 H.2),(19,.slice bp J.1.length bn),(20,i6 J.2),(21,.slice b3 M.1.length b4),(22,i6 M.2),(118,i6 B.2),(119,.bool (B.2 != 0)),(120,.bool (B.2 != 0)),(123,.bool ((B.2 != 0) || (H.2 != 0))),(124,.bool ((B.2 != 0) || (H.2 != 0))),(127,.bool (((B.2 != 0) || (H.2 != 0)) || (J.2 != 0))),(128,.bool (((B.2 != 0) || (H.2 != 0)) || (J.2 != 0))),(131,.bool ((((B.2 != 0) || (H.2 != 0)) || (J.2 != 0)) || (M.2 != 0))),(132,.bool ((((B.2 != 0) || (H.2 != 0)) || (J.2 != 0)) || (M.2 != 0))),(139,.bool (((((B.2 != 0) || (H.2 != 0)) || (J.2 != 0)) || (M.2 != 0)) || (((B.1.length:Nat):Int) != ((D.1.People.length:Nat):Int)))),(140,.bool (((((B.2 != 0) || (H.2 != 0)) || (J.2 != 0)) || (M.2 != 0)) || (((B.1.length:Nat):Int) != ((D.1.People.length:Nat):Int)))),(146,.bool ((((((B.2 != 0) || (H.2 != 0)) || (J.2 != 0)) || (M.2 != 0)) || (((B.1.length:Nat):Int) != ((D.1.People.length:Nat):Int))) || (((H.1.length:Nat):Int) != ((B.1.length:Nat):Int)))),(147,.bool ((((((B.2 != 0) || (H.2 != 0)) || (J.2 != 0)) || (M.2 != 0)) || (((B.1.length:Nat):Int) != ((D.1.People.length:Nat):Int))) || (((H.1.length:Nat):Int) != ((B.1.length:Nat):Int)))),(154,.bool (((((((B.2 != 0) || (H.2 != 0)) || (J.2 != 0)) || (M.2 != 0)) || (((B.1.length:Nat):Int) != ((D.1.People.length:Nat):Int))) || (((H.1.length:Nat):Int) != ((B.1.length:Nat):Int))) || (((J.1.length:Nat):Int) != (W (((B.1.length:Nat):Int) + 1))))),(155,.bool (((((((B.2 != 0) || (H.2 != 0)) || (J.2 != 0)) || (M.2 != 0)) || (((B.1.length:Nat):Int) != ((D.1.People.length:Nat):Int))) || (((H.1.length:Nat):Int) != ((B.1.length:Nat):Int))) || (((J.1.length:Nat):Int) != (W (((B.1.length:Nat):Int) + 1))))),(162,.bool ((((((((B.2 != 0) || (H.2 != 0)) || (J.2 != 0)) || (M.2 != 0)) || (((B.1.length:Nat):Int) != ((D.1.People.length:Nat):Int))) || (((H.1.length:Nat):Int) != ((B.1.length:Nat):Int))) || (((J.1.length:Nat):Int) != (W (((B.1.length:Nat):Int) + 1)))) || (((M.1.length:Nat):Int) != (W (((B.1.length:Nat):Int) + 1))))),(163,.bool ((((((((B.2 != 0) || (H.2 != 0)) || (J.2 != 0)) || (M.2 != 0)) || (((B.1.length:Nat):Int) != ((D.1.People.length:Nat):Int))) || (((H.1.length:Nat):Int) != ((B.1.length:Nat):Int))) || (((J.1.length:Nat):Int) != (W (((B.1.length:Nat):Int) + 1)))) || (((M.1.length:Nat):Int) != (W (((B.1.length:Nat):Int) + 1))))),(170,.bool c8),(171,.bool c8),(179,.bool i7)]) hc ?_ ?_
  ·cases hb:c8
   ·rw [hb] at hf
    try rw [hb] at hc
    have hF:=jM hb dt
    refine sp 2 hf rfl fun a hf=>zP hf rfl (bC Tryz.underlying30 rfl) fun a hf=>?_
    have qc:=wO hc m0
    obtain ⟨sub,dq,hF⟩:=aA hF
    refine zP hf rfl (pSl Tryz.underlying30 eL rfl rfl qc rfl rfl dq) fun a hf=>sp 1 hf rfl fun a hf=>?_
    obtain ⟨gk,ga,hF⟩:=aA hF
    refine zQ (v:=.bool gk) hf hc aHc rfl (fun w hc=>by obtain ⟨G1,br,aj,hc,ap⟩:=lend hc k0; obtain ⟨G2,an,aq,hc,am⟩:=lend hc k6; exact (pC sub B.1 (Rd.sub (aj.mono an) dq) aq hc ga).mono fun e w h=>⟨h.1,((ap _ _ ((am _ _ h.2).unpick k6)).unpick k0)⟩) fun a w hf hc=>sp 2 hf rfl fun a hf=>?_
    obtain rfl:=sj hF
    exact aP ⟨hf.kp rfl,hc⟩
   ·rw [hb] at hf
    try rw [hb] at hc
    have hF:=iL hb dt
    obtain rfl:=sj hF
    refine stS hf rfl rfl rfl fun a hf=>stS hf rfl rfl rfl fun a hf=>stS hf rfl rfl rfl fun a hf=>stS hf rfl rfl rfl fun a hf=>stS hf rfl rfl rfl fun a hf=>stS hf rfl rfl rfl fun a hf=>stS hf rfl rfl rfl fun a hf=>sp 1 hf rfl fun a hf=>aP ⟨hf.kp rfl,hc⟩
  intro a w ⟨hf,hc⟩
  refine aP ?_
  replace hc:=hc.drop k0
  refine j3 _ _ ?_
  refine zI hf rfl hF ?_ ?_ <;> clear hF <;> intro hF
  ·refine zS fun K h=>sp 1 hf rfl fun a hf=>zT h ?_
   refine wp_ret ?_
   refine aN ?_
   obtain rfl:=sj hF
   replace hc:=(((((((hc.drop k7).drop k6).drop k5).drop k4).drop k3).drop k2).drop k1).drop k0
   exact zO1 Tryz.results3 hf rfl ⟨rfl,hc⟩
  ·refine wp_skip ?_
   refine jy _ _ ?_
   refine wp_seq_k fun K20 jv=>zS fun K h=>sp 1 hf rfl fun a hf=>zP hf rfl (bC Tryz.underlying30 rfl) fun a hf=>sp 1 hf rfl fun a hf=>zT h ?_
   refine wp_block ?_
   obtain ⟨dz,i2,hF⟩:=aA hF
   let S22:Int→Act→World→Prop:=(fun (zz:Int) a w=>∃ (cg:Option Addr) (b7:Nat) (cn:Option Addr) (b5:Nat),Has 219 a [(7,pq ab),(9,.slice cg B.1.length b7),(17,.slice cn H.1.length b5),(19,.slice bp J.1.length bn),(181,i6 ((B.1.length:Nat):Int)),(182,i6 zz)]∧Ctx G (.row bp bn (J.1.map aD) 3 1::.row cn b5 (H.1.map aD) 3 1::.row s X.1 ((aF X.2 D.1.People).map (Kd.v aG)) 30 1::aQ aG (aF X.2 D.1.People)::.row q I.1 ((aF I.2 D.1.Stations).map (Kd.v aL)) 36 2::aQ aL (aF I.2 D.1.Stations)::.row cg b7 (B.1.map aD) 3 1::.box ab [.slice s D.1.People.length X.1,.slice q D.1.Stations.length I.1] 26::Lf) w)
   have g0:∀ (zz:Int) a w,dz=.go zz→S22 zz a w→K20 a w:=by
    rintro a9 a w rfl ⟨cg,b7,cn,b5,hf,hc⟩
    replace hF:=bP hF
    refine jv _ _ ?_
    refine zS fun K h=>?_
    obtain ⟨gs,d6,hF⟩:=aA hF
    refine zQ (v:=.bool gs) hf hc en_13 rfl (fun w hc=>aAk hc d6) fun a w hf hc=>sp 1 hf rfl fun a hf=>zT h ?_
    refine wp_ret ?_
    obtain rfl:=sj hF
    replace hc:=(((((((hc.drop k7).drop k6).drop k5).drop k4).drop k3).drop k2).drop k1).drop k0
    exact zO1 Tryz.results3 hf rfl ⟨rfl,hc⟩
   have g1:∀ r,dz=.out r→r=c4:=by
    rintro r rfl
    exact sj hF
   refine cR N (cL (S:=S22) (x:=dz) ?_ N 0 _ _ ⟨ar,au,bu,bv,hf.kp rfl,hc⟩ i2)
   clear hF hf hc
   rintro a9 ka a w KB22 ⟨cg,b7,cn,b5,hf,hc⟩ hF ca g2
   unfold dR at hF
   refine zS fun K h=>sp 1 hf rfl fun a hf=>zT h ?_
   refine wp_seq_k fun K25 jk=>zI hf rfl hF ?_ ?_ <;> clear hF <;> intro hF
   ·refine wp_skip ?_
    refine jk _ _ ?_
    refine wp_seq_k fun K26 ji=>wp_block ?_
    refine zS fun K h=>sp 2 hf rfl fun a hf=>zT h ?_
    refine wp_seq_k fun K28 jp=>?_
    obtain ⟨di,i0,hF⟩:=aA hF
    obtain ⟨dc,rfl,gu,gi⟩:=hU hc m1 i0
    obtain ⟨cq,d5,hF⟩:=aA hF
    obtain ⟨dv,ir,hF⟩:=aA hF
    obtain ⟨c7,rfl,ii,ic⟩:=hU hc m6 ir
    obtain ⟨ck,gb,hF⟩:=aA hF
    obtain ⟨jm,dy,hF⟩:=aA hF
    refine cQ hc aU (by kernel_rfl) ?_
    refine qE hf rfl rfl rfl (jN (vs:=[.slice s D.1.People.length X.1,.slice q D.1.Stations.length I.1]) mD rfl rfl (bM (n:=2) m7 rfl)) fun a hf=>qE hf rfl rfl rfl (Pu.ev (pM rfl)) fun a hf=>qE hf rfl rfl rfl (Pu.ev (pM rfl)) fun a hf=>qE hf rfl rfl rfl (Pu.ev (pM rfl)) fun a hf=>qE hf rfl rfl rfl (Pu.ev (pIA Tryz.underlying30 eL rfl rfl gu)) fun a hf=>qE hf rfl rfl rfl (bT bA rfl (eJ (sz:=1) (i:=a9.toNat) (j:=0) m1 gi rfl)) fun a hf=>qE hf rfl rfl rfl (eC (v:=i6 cq) (vs:=[.agg #[.slice s D.1.People.length X.1,.slice q D.1.Stations.length I.1],i6 a9,i6 di]) (caps:=[]) aFi rfl rfl rfl rfl (fun w hc=>by obtain ⟨G1,br,aj,hc,ap⟩:=jA lX hc k2 k2; obtain ⟨G2,an,aq,hc,am⟩:=jA nK hc k2 k2; exact (oC D.1 a9 di (aj.mono an) aq hc d5).mono fun e w h=>⟨h.1,(mI (ap _ _ (mI (am _ _ h.2) k2 k2)) k2 k2)⟩)) fun a hf=>qE hf rfl rfl rfl (jN (vs:=[.slice s D.1.People.length X.1,.slice q D.1.Stations.length I.1]) mD rfl rfl (bM (n:=2) m7 rfl)) fun a hf=>qE hf rfl rfl rfl (Pu.ev (pM rfl)) fun a hf=>qE hf rfl rfl rfl (Pu.ev (pM rfl)) fun a hf=>qE hf rfl rfl rfl (Pu.ev (pM rfl)) fun a hf=>qE hf rfl rfl rfl (Pu.ev (pIA Tryz.underlying30 eL rfl rfl ii)) fun a hf=>qE hf rfl rfl rfl (bT bA rfl (eJ (sz:=1) (i:=a9.toNat) (j:=0) m6 ic rfl)) fun a hf=>?_
    refine qE hf rfl rfl rfl (eC (v:=i6 ck) (vs:=[.agg #[.slice s D.1.People.length X.1,.slice q D.1.Stations.length I.1],i6 a9,i6 dv]) (caps:=[]) aFi rfl rfl rfl rfl (fun w hc=>by obtain ⟨G1,br,aj,hc,ap⟩:=jA lX hc k2 k2; obtain ⟨G2,an,aq,hc,am⟩:=jA nK hc k2 k2; exact (oC D.1 a9 dv (aj.mono an) aq hc gb).mono fun e w h=>⟨h.1,(mI (ap _ _ (mI (am _ _ h.2) k2 k2)) k2 k2)⟩)) fun a hf=>qE hf rfl rfl rfl (Pu.ev (pGt rfl rfl)) fun a hf=>qE hf rfl rfl rfl (Pu.ev (pM rfl)) fun a hf=>qCut 16 (fun a=>Has 219 a [(7,pq ab),(9,.slice (some ⟨c7,0,none⟩) B.1.length b7),(17,.slice (some ⟨dc,0,none⟩) H.1.length b5),(19,.slice bp J.1.length bn),(181,i6 ((B.1.length:Nat):Int)),(182,i6 a9),(23,i6 a9),(185,.agg #[.slice s D.1.People.length X.1,.slice q D.1.Stations.length I.1]),(186,i6 a9),(187,.slice (some ⟨dc,0,none⟩) H.1.length b5),(188,i6 a9),(189,.pointer (some ⟨dc,a9.toNat * 1,none⟩)),(190,i6 di),(191,i6 cq),(192,.agg #[.slice s D.1.People.length X.1,.slice q D.1.Stations.length I.1]),(193,i6 a9),(194,.slice (some ⟨c7,0,none⟩) B.1.length b7),(195,i6 a9),(196,.pointer (some ⟨c7,a9.toNat * 1,none⟩)),(197,i6 dv),(198,i6 ck),(199,.bool (decide (ck < cq))),(200,.bool (decide (ck < cq))),(216,.bool jm)]) ?_ ?_
    ·cases hb:(decide (ck < cq))
     ·rw [hb] at hf
      have hF:=jM hb dy
      obtain ⟨gc,gp,hF⟩:=aA hF
      obtain ⟨ki,rfl,it,gy⟩:=hU hc m0 gp
      obtain ⟨i3,d7,hF⟩:=aA hF
      obtain ⟨gg,iz,hF⟩:=aA hF
      obtain ⟨i5,gz⟩:=jE hc m6 iz
      obtain ⟨gv,d0,hF⟩:=aA hF
      refine qE hf rfl rfl rfl (jN (vs:=[.slice s D.1.People.length X.1,.slice q D.1.Stations.length I.1]) mD rfl rfl (bM (n:=2) m7 rfl)) fun a hf=>qE hf rfl rfl rfl (Pu.ev (pM rfl)) fun a hf=>qE hf rfl rfl rfl (Pu.ev (pM rfl)) fun a hf=>qE hf rfl rfl rfl (Pu.ev (pM rfl)) fun a hf=>qE hf rfl rfl rfl (Pu.ev (pIA Tryz.underlying30 eL rfl rfl it)) fun a hf=>qE hf rfl rfl rfl (bT bA rfl (eJ (sz:=1) (i:=a9.toNat) (j:=0) m0 gy rfl)) fun a hf=>qE hf rfl rfl rfl (eC (v:=i6 i3) (vs:=[.agg #[.slice s D.1.People.length X.1,.slice q D.1.Stations.length I.1],i6 a9,i6 gc]) (caps:=[]) aFi rfl rfl rfl rfl (fun w hc=>by obtain ⟨G1,br,aj,hc,ap⟩:=jA lX hc k2 k2; obtain ⟨G2,an,aq,hc,am⟩:=jA nK hc k2 k2; exact (oC D.1 a9 gc (aj.mono an) aq hc d7).mono fun e w h=>⟨h.1,(mI (ap _ _ (mI (am _ _ h.2) k2 k2)) k2 k2)⟩)) fun a hf=>qE hf rfl rfl rfl (jN (vs:=[.slice s D.1.People.length X.1,.slice q D.1.Stations.length I.1]) mD rfl rfl (bM (n:=2) m7 rfl)) fun a hf=>qE hf rfl rfl rfl (Pu.ev (pM rfl)) fun a hf=>qE hf rfl rfl rfl (Pu.ev (pM rfl)) fun a hf=>qE hf rfl rfl rfl (Pu.ev (pM rfl)) fun a hf=>qE hf rfl rfl rfl (Pu.ev (pIA Tryz.underlying30 eL rfl rfl i5)) fun a hf=>qE hf rfl rfl rfl (bT bA rfl (eJ (sz:=1) (i:=a9.toNat) (j:=0) m6 gz rfl)) fun a hf=>?_
      refine qE hf rfl rfl rfl (eC (v:=i6 gv) (vs:=[.agg #[.slice s D.1.People.length X.1,.slice q D.1.Stations.length I.1],i6 a9,i6 gg]) (caps:=[]) aFi rfl rfl rfl rfl (fun w hc=>by obtain ⟨G1,br,aj,hc,ap⟩:=jA lX hc k2 k2; obtain ⟨G2,an,aq,hc,am⟩:=jA nK hc k2 k2; exact (oC D.1 a9 gg (aj.mono an) aq hc d0).mono fun e w h=>⟨h.1,(mI (ap _ _ (mI (am _ _ h.2) k2 k2)) k2 k2)⟩)) fun a hf=>qE hf rfl rfl rfl (Pu.ev (pLt rfl rfl)) fun a hf=>qE hf rfl rfl rfl (Pu.ev (pPf rfl rfl)) fun a hf=>?_
      obtain rfl:=sj hF
      exact aDi (hf.kp rfl)
     ·rw [hb] at hf
      have hF:=iL hb dy
      obtain rfl:=sj hF
      refine qS hf rfl rfl rfl fun a hf=>qS hf rfl rfl rfl fun a hf=>qS hf rfl rfl rfl fun a hf=>qS hf rfl rfl rfl fun a hf=>qS hf rfl rfl rfl fun a hf=>qS hf rfl rfl rfl fun a hf=>qS hf rfl rfl rfl fun a hf=>qS hf rfl rfl rfl fun a hf=>qS hf rfl rfl rfl fun a hf=>qS hf rfl rfl rfl fun a hf=>qS hf rfl rfl rfl fun a hf=>qS hf rfl rfl rfl fun a hf=>qS hf rfl rfl rfl fun a hf=>?_
      refine qS hf rfl rfl rfl fun a hf=>qS hf rfl rfl rfl fun a hf=>qE hf rfl rfl rfl (Pu.ev (pPt rfl rfl)) fun a hf=>aDi (hf.kp rfl)
    intro a hf
    intro w hc
    refine jp _ _ ?_
    refine zI hf rfl hF ?_ ?_ <;> clear hF <;> intro hF
    ·refine zS fun K h=>sp 1 hf rfl fun a hf=>zT h ?_
     refine wp_ret ?_
     refine bN ?_
     refine aN ?_
     refine aN ?_
     have he:=sj hF
     rw [← he] at ca
     replace hF:=g1 _ ca
     refine bN ?_
     refine aN ?_
     obtain rfl:=hF
     replace hc:=(((((((hc.drop k7).drop k6).drop k5).drop k4).drop k3).drop k2).drop k1).drop k0
     exact zO1 Tryz.results3 hf rfl ⟨rfl,hc⟩
    ·refine wp_skip ?_
     refine ji _ _ ?_
     refine cJ ?_
     refine sp 2 hf rfl fun a hf=>aP ?_
     exact g2 (W (a9 + 1)) _ _ (sj hF).symm ⟨(some ⟨c7,0,none⟩),b7,(some ⟨dc,0,none⟩),b5,hf.kp rfl,hc⟩
   ·refine wp_exit ?_
    refine aW ?_
    refine aW ?_
    have he:=sj hF
    rw [← he] at ca
    refine eV ?_
    exact g0 _ _ _ ca ⟨cg,b7,cn,b5,hf.kp rfl,hc⟩
 have kd:∀ r,dj=.out r→r=c4:=by
  rintro r rfl
  exact sj hF
 replace hc:Ctx G (.row a0 ay ((aF ax (V.People++[Z.1])).map (Kd.v aG)) 30 1::aQ aG (aF ax (V.People++[Z.1]))::.box bi [.slice av O.People.length bc,.slice ak O.Stations.length a8] 26::.box a5 [.slice a0 ((V.People++[Z.1]).length) ay,.slice bd V.Stations.length bq] 26::.box bj [.slice ac R.People.length a2,.slice (some ⟨g,0,none⟩) ((R.Stations.set ((W (Y)).tmod ((D.1.Stations.length:Nat):Int)).toNat (⟨W (af.Places + 1),ai.Order⟩:aC)).length) a3] 26::aQ aL (aF t O.Stations)::.row ak a8 ((aF t O.Stations).map (Kd.v aL)) 36 2::aQ aG (aF ba O.People)::.row av bc ((aF ba O.People).map (Kd.v aG)) 30 1::aQ aL (aF a6 V.Stations)::.row bd bq ((aF a6 V.Stations).map (Kd.v aL)) 36 2::aQ aL (aF d (R.Stations.set ((W (Y)).tmod ((D.1.Stations.length:Nat):Int)).toNat (⟨W (af.Places + 1),ai.Order⟩:aC)))::.row (some ⟨g,0,none⟩) a3 ((aF d (R.Stations.set ((W (Y)).tmod ((D.1.Stations.length:Nat):Int)).toNat (⟨W (af.Places + 1),ai.Order⟩:aC))).map (Kd.v aL)) 36 2::aQ aG (aF m R.People)::.row ac a2 ((aF m R.People).map (Kd.v aG)) 30 1::.row s X.1 ((aF X.2 D.1.People).map (Kd.v aG)) 30 1::aQ aG (aF X.2 D.1.People)::.row q I.1 ((aF I.2 D.1.Stations).map (Kd.v aL)) 36 2::aQ aL (aF I.2 D.1.Stations)::.row ar au (B.1.map aD) 3 1::.box a7 [.slice ag az.length ad,i6 Z.2.1,i6 Z.2.2] 46::.box ab [.slice s D.1.People.length X.1,.slice q D.1.Stations.length I.1] 26::Lf) w:=by simp only [List.length_set] at hc ⊢; exact hc
 replace hc:=((((((((((((((hc.pick k13).pick k14).pick k13).pick k14).pick k13).pick k14).pick k13).pick k14).pick k13).pick k14).pick k14).pick k14).pick k14).pick k14).pick k14
 refine cR N (cL (S:=S11) (x:=dj) ?_ N (V.Stations,0,Z.2.1,Z.2.2) _ _ ⟨bd,(bq,a6),hf.kp rfl,hc⟩ ib)
 clear hF hf hc
 rintro ⟨x,aa,df,c3⟩ j8 a w KB11 ⟨bx,U,hf,hc⟩ hF cz iy
 unfold dU at hF
 refine zS fun K h=>sp 1 hf rfl fun a hf=>zT h ?_
 refine wp_seq_k fun K31 jd=>zI hf rfl hF ?_ ?_ <;> clear hF <;> intro hF
 ·refine wp_skip ?_
  refine jd _ _ ?_
  refine wp_seq_k fun K32 jt=>wp_block ?_
  refine zS fun K h=>sp 1 hf rfl fun a hf=>?_
  obtain ⟨b1,dx,hF⟩:=aA hF
  obtain ⟨bm,rfl,gj,gq⟩:=hU hc m9 (dE dx)
  refine zP hf rfl (pIA Tryz.underlying24 pF rfl rfl (At.len gj (by simp only [bY,List.length_set]))) fun a hf=>zE hf hc rfl (jN (vs:=[i6 b1.Places,.slice ((U.2 aa.toNat).1) b1.Order.length ((U.2 aa.toNat).2)]) aAn rfl rfl (aC4 (sz:=2) (i:=aa.toNat) m9 gq (n:=2) (o':=0) rfl)) fun a w hf hc=>zA hf hc aHd rfl fun cm a w hf hc=>sp 1 hf rfl fun a hf=>zW hf hc pF u0 rfl fun w hc=>zT h ?_
  obtain ⟨bz,d1,hF⟩:=aA hF
  obtain ⟨bb,d3,hF⟩:=aA hF
  obtain ⟨b2,cv,hF⟩:=aA hF
  obtain ⟨ij,kf⟩:=jE hc m10 (dE cv)
  replace hc:=hc.nilRow 0 0
  replace hc:=hc.nilRow 0 0
  refine gK (fun θ=>(⟨none,none,7,pq ab⟩::⟨none,none,8,pq a7⟩::⟨none,none,9,.slice ar B.1.length au⟩::⟨none,none,10,i6 B.2⟩::⟨none,none,12,pq bj⟩::⟨none,none,13,pq a5⟩::⟨none,none,14,pq bi⟩::⟨none,none,15,i6 aa⟩::⟨none,none,16,pq cm⟩::⟨none,none,66,.slice (some ⟨bm,0,none⟩) x.length U.1⟩::⟨none,none,67,i6 ((V.Stations.length:Nat):Int)⟩::⟨none,none,68,i6 aa⟩::⟨some 0,none,73,.pointer (some ⟨a5,1,none⟩)⟩::⟨some 1,none,74,.slice (some ⟨bm,0,none⟩) x.length U.1⟩::⟨some 2,none,75,i6 aa⟩::⟨some 3,none,76,.pointer (some ⟨cm,1,none⟩)⟩::⟨some 4,none,77,.slice ((U.2 aa.toNat).1) b1.Order.length ((U.2 aa.toNat).2)⟩::⟨some 5,none,78,pq a7⟩::⟨some 6,none,79,.pointer (some ⟨cm,1,none⟩)⟩::⟨some 7,none,80,.slice ((U.2 aa.toNat).1) b1.Order.length ((U.2 aa.toNat).2)⟩::⟨some 8,none,81,i6 ((b1.Order.length:Nat):Int)⟩::⟨some 9,none,82,i6 (W (((b1.Order.length:Nat):Int) + 1))⟩::⟨some 10,none,83,i6 bz.1⟩::⟨some 11,none,84,pq ab⟩::⟨some 12,none,85,.slice s D.1.People.length X.1⟩::⟨some 13,none,86,i6 ((D.1.People.length:Nat):Int)⟩::⟨some 14,none,87,.slice (some ⟨(θ 112).b,0,none⟩) 1 1⟩::⟨some 15,none,88,.slice ((θ 120).p) bb.length ((θ 120).c)⟩::⟨some 16,none,89,.pointer (some ⟨bm,aa.toNat * 2,none⟩)⟩::⟨some 17,none,90,.pointer (some ⟨bm,aa.toNat * 2 + 1,none⟩)⟩::[])) (fun E θ=>(bif E 18 then .row none 0 [] 0 0 else bif E 15 then .row ((θ 120).p) ((θ 120).c) (bb.map aD) 3 1 else .row none 0 [] 0 0)::(bif E 14 then .row (some ⟨(θ 112).b,0,none⟩) 1 (([((D.1.People.length:Nat):Int)]:List Int).map aD) 3 1 else .row none 0 [] 0 0)::.box cm [i6 b1.Places,.slice ((U.2 aa.toNat).1) b1.Order.length ((U.2 aa.toNat).2)] 36::.row a0 ay ((aF ax (V.People++[Z.1])).map (Kd.v aG)) 30 1::aQ aG (aF ax (V.People++[Z.1]))::.box bi [.slice av O.People.length bc,.slice ak O.Stations.length a8] 26::(bif E 18 then .box a5 [.slice a0 ((V.People++[Z.1]).length) ay,.slice (some ⟨bm,0,none⟩) x.length U.1] 26 else .box a5 [.slice a0 ((V.People++[Z.1]).length) ay,.slice (some ⟨bm,0,none⟩) x.length U.1] 26)::.box bj [.slice ac R.People.length a2,.slice (some ⟨g,0,none⟩) ((R.Stations.set ((W (Y)).tmod ((D.1.Stations.length:Nat):Int)).toNat (⟨W (af.Places + 1),ai.Order⟩:aC)).length) a3] 26::.row ak a8 ((aF t O.Stations).map (Kd.v aL)) 36 2::aQ aL (aF t O.Stations)::.row av bc ((aF ba O.People).map (Kd.v aG)) 30 1::aQ aG (aF ba O.People)::(bif E 18 then .row (some ⟨bm,0,none⟩) U.1 ((aF (θ 144).h (x.set aa.toNat (⟨b2.Places,bb⟩:aC))).map (Kd.v aL)) 36 2 else .row (some ⟨bm,0,none⟩) U.1 ((aF U.2 x).map (Kd.v aL)) 36 2)::(bif E 18 then aQ aL (aF (θ 144).h (x.set aa.toNat (⟨b2.Places,bb⟩:aC))) else bif E 15 then aQ aL ((aF U.2 x).eraseIdx aa.toNat) else aQ aL (aF U.2 x))::.row (some ⟨g,0,none⟩) a3 ((aF d (R.Stations.set ((W (Y)).tmod ((D.1.Stations.length:Nat):Int)).toNat (⟨W (af.Places + 1),ai.Order⟩:aC))).map (Kd.v aL)) 36 2::aQ aL (aF d (R.Stations.set ((W (Y)).tmod ((D.1.Stations.length:Nat):Int)).toNat (⟨W (af.Places + 1),ai.Order⟩:aC)))::.row ac a2 ((aF m R.People).map (Kd.v aG)) 30 1::aQ aG (aF m R.People)::.row s X.1 ((aF X.2 D.1.People).map (Kd.v aG)) 30 1::aQ aG (aF X.2 D.1.People)::.row q I.1 ((aF I.2 D.1.Stations).map (Kd.v aL)) 36 2::aQ aL (aF I.2 D.1.Stations)::.row ar au (B.1.map aD) 3 1::(bif E 10 then .box a7 [.slice ag az.length ad,i6 bz.2.1,i6 bz.2.2] 46 else .box a7 [.slice ag az.length ad,i6 df,i6 c3] 46)::.box ab [.slice s D.1.People.length X.1,.slice q D.1.Stations.length I.1] 26::Lf) [(18,1),(18,15),(17,16),(18,17)] (fun a w=>∃ (dk:Nat) (b0:Hds),Has 219 a [(7,pq ab),(8,pq a7),(9,.slice ar B.1.length au),(10,i6 B.2),(12,pq bj),(13,pq a5),(14,pq bi),(66,.slice (some ⟨bm,0,none⟩) x.length U.1),(67,i6 ((V.Stations.length:Nat):Int)),(68,i6 aa)]∧Ctx G (.row (some ⟨dk,0,none⟩) 1 (([((D.1.People.length:Nat):Int)]:List Int).map aD) 3 1::.box cm [i6 b1.Places,.slice ((U.2 aa.toNat).1) b1.Order.length ((U.2 aa.toNat).2)] 36::.row a0 ay ((aF ax (V.People++[Z.1])).map (Kd.v aG)) 30 1::aQ aG (aF ax (V.People++[Z.1]))::.box bi [.slice av O.People.length bc,.slice ak O.Stations.length a8] 26::.box a5 [.slice a0 ((V.People++[Z.1]).length) ay,.slice (some ⟨bm,0,none⟩) x.length U.1] 26::.box bj [.slice ac R.People.length a2,.slice (some ⟨g,0,none⟩) ((R.Stations.set ((W (Y)).tmod ((D.1.Stations.length:Nat):Int)).toNat (⟨W (af.Places + 1),ai.Order⟩:aC)).length) a3] 26::.row ak a8 ((aF t O.Stations).map (Kd.v aL)) 36 2::aQ aL (aF t O.Stations)::.row av bc ((aF ba O.People).map (Kd.v aG)) 30 1::aQ aG (aF ba O.People)::.row (some ⟨bm,0,none⟩) U.1 ((aF b0 (x.set aa.toNat (⟨b2.Places,bb⟩:aC))).map (Kd.v aL)) 36 2::aQ aL (aF b0 (x.set aa.toNat (⟨b2.Places,bb⟩:aC)))::.row (some ⟨g,0,none⟩) a3 ((aF d (R.Stations.set ((W (Y)).tmod ((D.1.Stations.length:Nat):Int)).toNat (⟨W (af.Places + 1),ai.Order⟩:aC))).map (Kd.v aL)) 36 2::aQ aL (aF d (R.Stations.set ((W (Y)).tmod ((D.1.Stations.length:Nat):Int)).toNat (⟨W (af.Places + 1),ai.Order⟩:aC)))::.row ac a2 ((aF m R.People).map (Kd.v aG)) 30 1::aQ aG (aF m R.People)::.row s X.1 ((aF X.2 D.1.People).map (Kd.v aG)) 30 1::aQ aG (aF X.2 D.1.People)::.row q I.1 ((aF I.2 D.1.Stations).map (Kd.v aL)) 36 2::aQ aL (aF I.2 D.1.Stations)::.row ar au (B.1.map aD) 3 1::.box a7 [.slice ag az.length ad,i6 bz.2.1,i6 bz.2.2] 46::.box ab [.slice s D.1.People.length X.1,.slice q D.1.Stations.length I.1] 26::Lf) w) aU (by kernel_rfl) (by kernel_rfl) (fB.of hf ⟨rfl,rfl,rfl,rfl,rfl,rfl,rfl,rfl,rfl,rfl,rfl,rfl,trivial,trivial,trivial,trivial,trivial,trivial,trivial,trivial,trivial,trivial,trivial,trivial,trivial,trivial,trivial,trivial,trivial,trivial,trivial⟩) hc ⟨?_,?_,?_,?_,?_,?_,?_,?_,?_,?_,?_,?_,?_,?_,?_,?_,?_,?_,?_,trivial⟩ ?_ ?_
  ·intro E θ a w hD hi hp he hc
   have hf:=he.h0.mT he 5 rfl
   refine zP hf rfl (pFA eG rfl) fun a hf=>zD θ he hi hf 12 rfl rfl rfl hc
  ·intro E θ a w hD hi hp he hc
   have e0:=hp.o 0 rfl
   have b8:=hD.f 0 rfl hi
   try dsimp only at hc
   rw [b8] at hc
   have hf:=he.h0.mP he 12 rfl e0
   refine zL hf hc lN m6 rfl fun a w hf hc=>zD θ he hi hf 13 rfl rfl rfl ?_
   try dsimp only
   rw [bB 1 b8 rfl]
   exact hc
  ·intro E θ a w hD hi hp he hc
   have hf:=he.h0.mT he 7 rfl
   refine sp 1 hf rfl fun a hf=>zD θ he hi hf 14 rfl rfl rfl hc
  ·intro E θ a w hD hi hp he hc
   have hf:=he.h0.mT he 8 rfl
   refine zP hf rfl (pFA tF rfl) fun a hf=>zD θ he hi hf 15 rfl rfl rfl hc
  ·intro E θ a w hD hi hp he hc
   have e3:=hp.o 3 rfl
   have hf:=he.h0.mP he 15 rfl e3
   refine zL hf hc kJ m2 rfl fun a w hf hc=>zD θ he hi hf 16 rfl rfl rfl hc
  ·intro E θ a w hD hi hp he hc
   have hf:=he.h0.mT he 1 rfl
   refine sp 1 hf rfl fun a hf=>zD θ he hi hf 17 rfl rfl rfl hc
  ·intro E θ a w hD hi hp he hc
   have hf:=he.h0.mT he 8 rfl
   refine zP hf rfl (pFA tF rfl) fun a hf=>zD θ he hi hf 18 rfl rfl rfl hc
  ·intro E θ a w hD hi hp he hc
   have e6:=hp.o 6 rfl
   have hf:=he.h0.mP he 18 rfl e6
   refine zL hf hc kJ m2 rfl fun a w hf hc=>zD θ he hi hf 19 rfl rfl rfl hc
  ·intro E θ a w hD hi hp he hc
   have e7:=hp.o 7 rfl
   have hf:=he.h0.mP he 19 rfl e7
   refine zP hf rfl (bC Tryz.underlying30 rfl) fun a hf=>zD θ he hi hf 20 rfl rfl rfl hc
  ·intro E θ a w hD hi hp he hc
   have e8:=hp.o 8 rfl
   have hf:=he.h0.mP he 20 rfl e8
   refine sp 1 hf rfl fun a hf=>zD θ he hi hf 21 rfl rfl rfl hc
  ·intro E θ a w hD hi hp he hc
   have e5:=hp.o 5 rfl
   have e9:=hp.o 9 rfl
   try dsimp only at hc
   rw [hi] at hc
   have hf:=(he.h0.mP he 17 rfl e5).mP he 21 rfl e9
   refine zC hf aFk rfl (kE (⟨az,df,c3⟩:bD) (W (((b1.Order.length:Nat):Int) + 1)) cs (hc.pick k23) d1) ?_
   rintro _ w ⟨rfl,hc⟩
   refine ⟨_,rfl,fun a hf=>?_⟩
   refine aP ?_
   refine cV ?_
   intro ds u a4
   replace hc:=(((((((((((((((((((((((hc.pick k0).pick k23).pick k23).pick k23).pick k23).pick k23).pick k23).pick k23).pick k23).pick k23).pick k23).pick k23).pick k23).pick k23).pick k23).pick k23).pick k23).pick k23).pick k23).pick k23).pick k23).pick k23).pick k23).pick k23
   refine ⟨θ,he.put0 hi a4 hf rfl 22 rfl rfl,?_⟩
   try dsimp only
   rw [aR E 10]
   exact hc
  ·intro E θ a w hD hi hp he hc
   have hf:=he.h0.mT he 0 rfl
   refine zP hf rfl (pFA eZ rfl) fun a hf=>zD θ he hi hf 23 rfl rfl rfl hc
  ·intro E θ a w hD hi hp he hc
   have cb:=hp.o 11 rfl
   have hf:=he.h0.mP he 23 rfl cb
   refine zL hf hc mA m24 rfl fun a w hf hc=>zD θ he hi hf 24 rfl rfl rfl hc
  ·intro E θ a w hD hi hp he hc
   have i9:=hp.o 12 rfl
   have hf:=he.h0.mP he 24 rfl i9
   refine zP hf rfl (bC Tryz.underlying23 rfl) fun a hf=>zD θ he hi hf 25 rfl rfl rfl hc
  ·intro E θ a w hD hi hp he hc
   have jq:=hp.o 13 rfl
   try dsimp only at hc
   rw [hi] at hc
   have hf:=he.h0.mP he 25 rfl jq
   refine jD (rows:=([((D.1.People.length:Nat):Int)]:List Int).map aD) (vs:=[(0,i6 ((D.1.People.length:Nat):Int))]) hf hc rfl rfl fN rfl ⟨rfl,rfl,rfl,trivial⟩ rfl rfl fun gn a w hf hc=>aP ?_
   refine cV ?_
   intro ds u a4
   replace hc:=((hc.drop k2).pick k0).pick k1
   refine ⟨(lA θ 112 ⟨gn,none,0,(fun _=>(none,0))⟩),he.put hi a4 hf rfl [] trivial ⟨qq,qq,qq,qq,qq,qq,qq,qq,qq,qq,qq,qq,qq,qq,qq,qq,qq,qq,qq,qq,qq,qq,qq,qq,qq,qq,qq,qq,qq,qq,trivial⟩,?_⟩
   try dsimp only
   rw [aR E 14]
   exact hc
  ·intro E θ a w hD hi hp he hc
   have e4:=hp.o 4 rfl
   have bf:=hp.o 10 rfl
   have cy:=hp.o 14 rfl
   have b8:=hD.f 1 rfl hi
   try dsimp only at hc
   rw [hi,b8,cy] at hc
   have hf:=((he.h0.mP he 16 rfl e4).mP he 22 rfl bf).mP he 26 rfl cy
   replace hc:=vC (hc.pick k13) dx
   replace hc:Ctx _ (.row ((U.2 aa.toNat).1) ((U.2 aa.toNat).2) (b1.Order.map aD) 3 1::aQ aL ((aF U.2 x).eraseIdx aa.toNat)::_) _:=hc
   refine zC hf en_9 rfl (qY b1.Order bz.1 ([((D.1.People.length:Nat):Int)]:List Int) ((hc.pick k3).pick k1) d3) ?_
   rintro _ w ⟨ix,gr,rfl,hc⟩
   refine ⟨_,rfl,fun a hf=>?_⟩
   refine aP ?_
   refine cV ?_
   intro ds u a4
   replace hc:=((((((((((((((hc.drop k3).pick k2).pick k13).pick k13).pick k13).pick k13).pick k13).pick k13).pick k13).pick k13).pick k13).pick k13).pick k13).pick k13).pick k13
   refine ⟨(lA θ 120 ⟨0,ix,gr,(fun _=>(none,0))⟩),he.put hi a4 hf rfl [] trivial ⟨qq,qq,qq,qq,qq,qq,qq,qq,qq,qq,qq,qq,qq,qq,qq,qq,qq,qq,qq,qq,qq,qq,qq,qq,qq,qq,qq,qq,qq,qq,trivial⟩,?_⟩
   try dsimp only
   rw [aR E 15,bB 15 b8 rfl,dK 15 cy]
   exact hc
  ·intro E θ a w hD hi hp he hc
   have e1:=hp.o 1 rfl
   have e2:=hp.o 2 rfl
   have du:=hD.f 2 rfl hi
   have b8:=hD.f 3 rfl du
   try dsimp only at hc
   rw [b8] at hc
   have hf:=(he.h0.mP he 13 rfl e1).mP he 14 rfl e2
   refine zP hf rfl (pIA Tryz.underlying24 pF rfl rfl (At.len ij (by simp only [bY,List.length_set]))) fun a hf=>zD θ he hi hf 28 rfl rfl rfl ?_
   try dsimp only
   rw [bB 16 b8 rfl]
   exact hc
  ·intro E θ a w hD hi hp he hc
   have js:=hp.o 16 rfl
   have hf:=he.h0.mP he 28 rfl js
   refine zP hf rfl (pFA tF rfl) fun a hf=>zD θ he hi hf 29 rfl rfl rfl hc
  ·intro E θ a w hD hi hp he hc
   have cx:=hp.o 15 rfl
   have du:=hp.o 17 rfl
   try dsimp only at hc
   rw [cx,hi] at hc
   have hf:=(he.h0.mP he 27 rfl cx).mP he 29 rfl du
   refine aBi (vs:=[.slice ((θ 120).p) bb.length ((θ 120).c)]) (o':=1) (z:=(((θ 120).p,(θ 120).c),(⟨b2.Places,bb⟩:aC))) (xs:=(aF U.2 x)) hf hc rfl rfl rfl rfl nB rfl (fun x=>(rV x).1) (oE (dE cv)) (fun e' dr=>by obtain rfl:=sj ((jJ (hs:=U.2) (fM cv).2).symm.trans dr); rfl) rfl u12 fun w hc=>?_
   replace hc:=(((((((((((((hc.pick k11).pick k11).pick k11).pick k11).pick k11).pick k11).pick k11).pick k11).pick k11).pick k11).pick k11).pick k13).pick k13).pick k13
   obtain ⟨ct,hc⟩:=vI (K:=aL) (h':=((θ 120).p,(θ 120).c)) (y:=(⟨b2.Places,bb⟩:aC)) cv hc
   replace hc:Ctx _ (.row (some ⟨bm,0,none⟩) U.1 ((aF ct (x.set aa.toNat (⟨b2.Places,bb⟩:aC))).map (Kd.v aL)) 36 2::aQ aL (aF ct (x.set aa.toNat (⟨b2.Places,bb⟩:aC)))::_) _:=hc
   replace hc:=hc.nilRow 0 0
   refine aP ?_
   refine cV ?_
   intro ds u a4
   replace hc:=(((((((((((((hc.pick k2).pick k2).pick k13).pick k13).pick k13).pick k13).pick k13).pick k13).pick k13).pick k13).pick k13).pick k13).pick k13).pick k13
   refine ⟨(lA θ 144 ⟨0,none,0,ct⟩),he.stay hi a4 hf ⟨qq,qq,qq,qq,qq,qq,qq,qq,qq,qq,qq,qq,qq,qq,qq,qq,qq,qq,qq,qq,qq,qq,qq,qq,qq,qq,qq,qq,qq,qq,trivial⟩,?_⟩
   try dsimp only
   rw [dK 18 cx,aR E 18]
   exact hc
  ·intro E θ a w a1 he hc
   have hf:=he.h0
   have bf:=a1 10 rfl
   have cy:=a1 14 rfl
   have cx:=a1 15 rfl
   have b8:=a1 18 rfl
   replace hf:=hf.more he 11 rfl (onT)
   replace hf:=hf.more he 10 rfl (onT)
   replace hf:=hf.more he 9 rfl (onT)
   replace hf:=hf.more he 6 rfl (onT)
   replace hf:=hf.more he 5 rfl (onT)
   replace hf:=hf.more he 4 rfl (onT)
   replace hf:=hf.more he 3 rfl (onT)
   replace hf:=hf.more he 2 rfl (onT)
   replace hf:=hf.more he 1 rfl (onT)
   replace hf:=hf.more he 0 rfl (onT)
   try dsimp only at hc
   rw [bf,cy,cx,b8] at hc
   replace hc:=hc.drop k0
   exact ⟨(θ 112).b,(θ 144).h,hf.kp rfl,hc⟩
  rintro a w ⟨dk,b0,hf,hc⟩
  replace hc:=(hc.drop k1).drop k0
  refine jt _ _ ?_
  refine cJ ?_
  refine sp 2 hf rfl fun a hf=>aP ?_
  replace hc:Ctx G (.row a0 ay ((aF ax (V.People++[Z.1])).map (Kd.v aG)) 30 1::aQ aG (aF ax (V.People++[Z.1]))::.box bi [.slice av O.People.length bc,.slice ak O.Stations.length a8] 26::.box a5 [.slice a0 ((V.People++[Z.1]).length) ay,.slice (some ⟨bm,0,none⟩) ((x.set aa.toNat (⟨b2.Places,bb⟩:aC)).length) U.1] 26::.box bj [.slice ac R.People.length a2,.slice (some ⟨g,0,none⟩) ((R.Stations.set ((W (Y)).tmod ((D.1.Stations.length:Nat):Int)).toNat (⟨W (af.Places + 1),ai.Order⟩:aC)).length) a3] 26::.row ak a8 ((aF t O.Stations).map (Kd.v aL)) 36 2::aQ aL (aF t O.Stations)::.row av bc ((aF ba O.People).map (Kd.v aG)) 30 1::aQ aG (aF ba O.People)::.row (some ⟨bm,0,none⟩) U.1 ((aF b0 (x.set aa.toNat (⟨b2.Places,bb⟩:aC))).map (Kd.v aL)) 36 2::aQ aL (aF b0 (x.set aa.toNat (⟨b2.Places,bb⟩:aC)))::.row (some ⟨g,0,none⟩) a3 ((aF d (R.Stations.set ((W (Y)).tmod ((D.1.Stations.length:Nat):Int)).toNat (⟨W (af.Places + 1),ai.Order⟩:aC))).map (Kd.v aL)) 36 2::aQ aL (aF d (R.Stations.set ((W (Y)).tmod ((D.1.Stations.length:Nat):Int)).toNat (⟨W (af.Places + 1),ai.Order⟩:aC)))::.row ac a2 ((aF m R.People).map (Kd.v aG)) 30 1::aQ aG (aF m R.People)::.row s X.1 ((aF X.2 D.1.People).map (Kd.v aG)) 30 1::aQ aG (aF X.2 D.1.People)::.row q I.1 ((aF I.2 D.1.Stations).map (Kd.v aL)) 36 2::aQ aL (aF I.2 D.1.Stations)::.row ar au (B.1.map aD) 3 1::.box a7 [.slice ag az.length ad,i6 bz.2.1,i6 bz.2.2] 46::.box ab [.slice s D.1.People.length X.1,.slice q D.1.Stations.length I.1] 26::Lf) w:=by simp only [List.length_set] at hc ⊢; exact hc
  replace hf:=hf.castAt 66 (v':=.slice (some ⟨bm,0,none⟩) ((x.set aa.toNat (⟨b2.Places,bb⟩:aC)).length) U.1) rfl (congrArg (fun k=>Value.slice (some ⟨bm,0,none⟩) k U.1) (by simp))
  exact iy ((x.set aa.toNat (⟨b2.Places,bb⟩:aC)),W (aa + 1),bz.2.1,bz.2.2) _ _ (sj hF).symm ⟨(some ⟨bm,0,none⟩),(U.1,b0),hf.kp rfl,hc⟩
 ·refine wp_exit ?_
  refine aW ?_
  refine aW ?_
  have he:=sj hF
  rw [← he] at cz
  refine eV ?_
  exact g7 _ _ _ cz ⟨bx,U,hf.kp rfl,hc⟩

end Go.Nilo
