/-
  What functions of the Go text compute, as plain functions, and that they do, part 3 of 5. Conditions: what each theorem names.
-/
import Derived.Test.YtcefmiiipbjngaaGreatCs2
import Derived.Test.YtcefmiiipbjngaaGreatProg
set_option linter.unusedVariables false
set_option linter.unusedSimpArgs false
set_option maxRecDepth 100000
set_option maxHeartbeats 4000000
namespace Go.Nilo
open Go.Proofs


variable {N:Nat} {G:cJ} {Lf:List Ent} {w:World}

def gC (N:Nat)  : Option (Bool) :=
 Option.bind (yI N) λr=>
 Option.bind (qN N r) λY=>
 Option.bind (yI N) λs=>
 Option.bind (oR N s ([0,1]:List Int)) λR=>
 Option.bind (yI N) λp=>
 Option.bind (sJ N p ([(⟨0,0⟩:aA)]:List aA)) λV=>
 Option.bind (wI N 70) λt=>
 Option.bind (mI N 0 t) λX=>
 Option.bind (wI N 70) λq=>
 Option.bind (uV N 0 q) λU=>
 Option.bind (cond (((((Y.2 != 0) || (R.2 != 0)) || (V.2 != 0)) || (X.2 != 0)) || (U.2.2 != 0)) (some true) (Option.bind (dW N Y.1 ([1,0]:List Int)) λm=>
 some (!m))) λn=>
 Option.bind (cond ((n || (!(R.1.Person == 1 && R.1.Station == 0))) || (!V.1)) (some true) (Option.bind (oM N X.1 ([(⟨35,40⟩:aE),(⟨65,75⟩:aE)]:List aE)) λk=>
 some (!k))) λo=>
 cond ((o || (U.1 != 1)) || (U.2.1 != (-1)))
 (some false)
 (Option.bind (wI N 80) λg=>
 Option.bind (qM N g) λI=>
 Option.bind (uE N) λi=>
 Option.bind (sX N i 5) λB=>
 Option.bind (uE N) λb=>
 Option.bind (oN N b) λD=>
 Option.bind (uE N) λH=>
 Option.bind (iJ N 90 90) λS=>
 Option.bind (room ((H.Rides++[(⟨5,5,S⟩:aC)])).length) λun=>
 Option.bind (uL N (⟨H.Car,H.Wide,H.Sag,H.Most,(H.Rides++[(⟨5,5,S⟩:aC)])⟩:aJ)) λO=>
 Option.bind (kI N (⟨600,480,500⟩:dN) ([481]:List Int)) λM=>
 Option.bind (cond ((((((I.2 == 0) && (B.2 == 0)) && (D.2.2 == 0)) && (O.2 == 0)) && (M.2 == 0)) && (I.1 == 5)) (iJ N 290 320) (some (⟨0,0⟩:aE))) λJ=>
 Option.bind (cond (((((((((I.2 == 0) && (B.2 == 0)) && (D.2.2 == 0)) && (O.2 == 0)) && (M.2 == 0)) && (I.1 == 5)) && (B.1.Lo == J.Lo && B.1.Hi == J.Hi)) && (D.1 == 5)) && (D.2.1 == (-1))) (dW N O.1 ([0,10,15]:List Int)) (some false)) λj=>
 some (((((((((((I.2 == 0) && (B.2 == 0)) && (D.2.2 == 0)) && (O.2 == 0)) && (M.2 == 0)) && (I.1 == 5)) && (B.1.Lo == J.Lo && B.1.Hi == J.Hi)) && (D.1 == 5)) && (D.2.1 == (-1))) && j) && (M.1 == 4815)))
theorem jH (d:Ctx G (Lf) w) {br:Bool} (F:gC N=some br):Cz G 14 #[] w (.bool br) (Lf):=by
 refine bY Tryz.func14 Z Tryz.ntmps14 Z λa f=>zS λK h=>sp 1 f Z λa f=>zT h (zS λK h=>aH F λr hr F=>zC f (eN 4) Z (yH d hr) ?_)
 rintro _ w ⟨dy,d6,d2,dm,rfl,d⟩
 refine ⟨_,Z,λa f=>aH F λn ct F=>?_⟩
 obtain ⟨G1,i,S,d,U⟩:=lE pS d k0 k0
 obtain ⟨G2,k,j,d,m⟩:=lE wH d k0 k0
 refine zC f (eN 25) Z (aCu r (S.mono k) j d ct) ?_
 rintro _ w ⟨a3,a4,rfl,d⟩
 refine ⟨_,Z,λa f=>have d:=m _ _ d;have d:=U _ _ d;sp 5 f Z λa f=>zT h (wp_seq_k λK3 h3=>bK (aH F λcy cm F=>zC f (eN 4) Z (yH d cm) ?_))⟩
 rintro _ w ⟨d3,di,d4,dg,rfl,d⟩
 refine ⟨_,Z,λa f=>gN (rows:=([0,1]:List Int).map aF) (vs:=[(0,i6 0),(1,i6 1)]) f d Z Z eV Z ⟨Z,Z,Z,Z,Z,Z,trivial⟩ Z Z λdx a w f d=>aH F λY cn F=>zQ (v:=.tuple #[.agg #[i6 Y.1.Person,i6 Y.1.Station],i6 Y.2]) f d (eN 20) Z (λw d=>by obtain ⟨G1,i,S,d,U⟩:=lE pS d k1 k1;obtain ⟨G2,k,j,d,m⟩:=lE wH d k1 k1;obtain ⟨G3,ap,az,d,a1⟩:=lend d k0;exact (aCf cy ([0,1]:List Int) ((S.mono k).mono ap) (j.mono ap) az d cn).mono λe w h=>⟨h.1,(gV (U _ _ (gV (m _ _ ((a1 _ _ h.2).unpick k0)) k1 k1)) k1 k1)⟩) λa w f d=>sp 3 f Z λa f=>zA f d aF4 Z λav a w f d=>zW f d pP u0 Z λw d=>sp 1 f Z λa f=>aN (have d:=((((((((d.drop k9).drop k8).drop k7).drop k6).drop k5).drop k4).drop k3).drop k2).drop k1;h3 _ _ (zS λK h=>aH F λcv cr F=>zC f (eN 4) Z (yH d cr) ?_))⟩
 rintro _ w ⟨ga,dj,d0,dk,rfl,d⟩
 refine ⟨_,Z,λa f=>zP f Z (bS (cells:=[i6 0,i6 0]) xR Z Z) λa f=>gN (rows:=([(⟨0,0⟩:aA)]:List aA).map aM) (vs:=[(0,.agg #[i6 0,i6 0])]) f d Z Z aHi Z ⟨Z,Z,Z,trivial⟩ Z Z λd5 a w f d=>aH F λg cb F=>zQ (v:=.tuple #[.bool g.1,i6 g.2]) f d (eN 22) Z (λw d=>by obtain ⟨G1,i,S,d,U⟩:=lE pS d k1 k1;obtain ⟨G2,k,j,d,m⟩:=lE wH d k1 k1;obtain ⟨G3,ap,az,d,a1⟩:=lend d k0;exact (aDm cv ([(⟨0,0⟩:aA)]:List aA) ((S.mono k).mono ap) (j.mono ap) az d cb).mono λe w h=>⟨h.1,(gV (U _ _ (gV (m _ _ ((a1 _ _ h.2).unpick k0)) k1 k1)) k1 k1)⟩) λa w f d=>sp 5 f Z λa f=>zT h (wp_seq_k λK5 h5=>bK (aH F λc9 cf F=>zC f (eN 5) Z (wR 70 d cf) ?_))⟩
 rintro _ w ⟨d9,dt,rfl,d⟩
 refine ⟨_,Z,λa f=>aH F λq cu F=>?_⟩
 obtain ⟨G1,i,S,d,U⟩:=lend d k0
 refine zC f (eN 33) Z (aAe 0 c9 S d cu) ?_
 rintro _ w ⟨aj,ar,rfl,d⟩
 refine ⟨_,Z,λa f=>have d:=U _ _ d;sp 5 f Z λa f=>aN (have d:=(((((d.drop k6).drop k5).drop k4).drop k3).drop k2).drop k0;h5 _ _ (zS λK h=>aH F λc1 ck F=>zC f (eN 5) Z (wR 70 d ck) ?_))⟩
 rintro _ w ⟨dq,d7,rfl,d⟩
 refine ⟨_,Z,λa f=>aH F λV cc F=>zQ (v:=.tuple #[i6 V.1,i6 V.2.1,i6 V.2.2]) f d (eN 37) Z (λw d=>by obtain ⟨G1,i,S,d,U⟩:=lend d k0;exact (aEx 0 c1 S d cc).mono λe w h=>⟨h.1,((U _ _ h.2).unpick k0)⟩) λa w f d=>sp 7 f Z λa f=>zT h (wp_seq_k λK7 h7=>zS λK h=>sp 3 f Z λa f=>cV 3 (λa=>Has 174 a [(1,.slice a3 n.1.length a4),(3,pq av),(5,.bool g.1),(6,i6 g.2),(7,.slice aj q.1.length ar),(8,i6 q.2),(9,i6 V.1),(10,i6 V.2.1),(11,i6 V.2.2),(51,.bool ((n.2 != 0) || (Y.2 != 0)))]) d ?_ ?_)⟩
 ·cases hb:(n.2 != 0) <;> (rw [hb] at f;exact sp 3 f Z λa f=>aN ⟨f.kp Z,d⟩)
 intro a w ⟨f,d⟩
 refine sp 1 f Z λa f=>cV 3 (λa=>Has 174 a [(1,.slice a3 n.1.length a4),(3,pq av),(5,.bool g.1),(7,.slice aj q.1.length ar),(8,i6 q.2),(9,i6 V.1),(10,i6 V.2.1),(11,i6 V.2.2),(55,.bool (((n.2 != 0) || (Y.2 != 0)) || (g.2 != 0)))]) d ?_ ?_
 ·cases hb:((n.2 != 0) || (Y.2 != 0)) <;> (rw [hb] at f;exact sp 3 f Z λa f=>aN ⟨f.kp Z,d⟩)
 intro a w ⟨f,d⟩
 refine sp 1 f Z λa f=>cV 3 (λa=>Has 174 a [(1,.slice a3 n.1.length a4),(3,pq av),(5,.bool g.1),(7,.slice aj q.1.length ar),(9,i6 V.1),(10,i6 V.2.1),(11,i6 V.2.2),(59,.bool ((((n.2 != 0) || (Y.2 != 0)) || (g.2 != 0)) || (q.2 != 0)))]) d ?_ ?_
 ·cases hb:(((n.2 != 0) || (Y.2 != 0)) || (g.2 != 0)) <;> (rw [hb] at f;exact sp 3 f Z λa f=>aN ⟨f.kp Z,d⟩)
 intro a w ⟨f,d⟩
 refine sp 1 f Z λa f=>cV 3 (λa=>Has 174 a [(1,.slice a3 n.1.length a4),(3,pq av),(5,.bool g.1),(7,.slice aj q.1.length ar),(9,i6 V.1),(10,i6 V.2.1),(63,.bool (((((n.2 != 0) || (Y.2 != 0)) || (g.2 != 0)) || (q.2 != 0)) || (V.2.2 != 0)))]) d ?_ ?_
 ·cases hb:((((n.2 != 0) || (Y.2 != 0)) || (g.2 != 0)) || (q.2 != 0)) <;> (rw [hb] at f;exact sp 3 f Z λa f=>aN ⟨f.kp Z,d⟩)
 intro a w ⟨f,d⟩
 refine sp 1 f Z λa f=>aH F λau a5 F=>cV 5 (λa=>Has 174 a [(3,pq av),(5,.bool g.1),(7,.slice aj q.1.length ar),(9,i6 V.1),(10,i6 V.2.1),(69,.bool au)]) d ?_ ?_
 ·cases hb:(((((n.2 != 0) || (Y.2 != 0)) || (g.2 != 0)) || (q.2 != 0)) || (V.2.2 != 0))
  ·rw [hb] at f
   refine have F:=eG hb a5;sp 1 f Z λa f=>gN (rows:=([1,0]:List Int).map aF) (vs:=[(0,i6 1),(1,i6 0)]) f d Z Z eV Z ⟨Z,Z,Z,Z,Z,Z,trivial⟩ Z Z λd1 a w f d=>aH F λcg bn F=>zQ (v:=.bool cg) f d (eN 27) Z (λw d=>by obtain ⟨G1,i,S,d,U⟩:=lend d k4;obtain ⟨G2,k,j,d,m⟩:=lend d k0;exact (jL n.1 ([1,0]:List Int) (S.mono k) j d bn).mono λe w h=>⟨h.1,((U _ _ ((m _ _ h.2).unpick k0)).unpick k4)⟩) λa w f d=>sp 2 f Z λa f=>have d:=d.drop k0;?_
   obtain rfl:=sj F
   exact aN ⟨f.kp Z,d⟩
  ·rw [hb] at f
   have F:=cO hb a5
   obtain rfl:=sj F
   exact sp 5 f Z λa f=>aN ⟨f.kp Z,d⟩
 intro a w ⟨f,d⟩
 refine sp 1 f Z λa f=>cV 4 (λa=>Has 174 a [(5,.bool g.1),(7,.slice aj q.1.length ar),(9,i6 V.1),(10,i6 V.2.1),(74,.bool (au || (!(Y.1.Person == 1 && Y.1.Station == 0))))]) d ?_ ?_
 ·cases hb:au
  ·rw [hb] at f
   try rw [hb] at d
   exact zN f d rL m2 Z λa w f d=>zP f Z (bS (cells:=[i6 1,i6 0]) xR Z Z) λa f=>zP f Z (aMc aK2 Z Z (aHy _ _ _ _)) λa f=>sp 1 f Z λa f=>aN ⟨f.kp Z,d⟩
  ·rw [hb] at f
   try rw [hb] at d
   exact sp 4 f Z λa f=>aN ⟨f.kp Z,d⟩
 intro a w ⟨f,d⟩
 refine sp 1 f Z λa f=>cV 3 (λa=>Has 174 a [(7,.slice aj q.1.length ar),(9,i6 V.1),(10,i6 V.2.1),(78,.bool ((au || (!(Y.1.Person == 1 && Y.1.Station == 0))) || (!g.1)))]) d ?_ ?_
 ·cases hb:(au || (!(Y.1.Person == 1 && Y.1.Station == 0))) <;> (rw [hb] at f;exact sp 3 f Z λa f=>aN ⟨f.kp Z,d⟩)
 intro a w ⟨f,d⟩
 refine sp 1 f Z λa f=>aH F λay a6 F=>cV 7 (λa=>Has 174 a [(9,i6 V.1),(10,i6 V.2.1),(86,.bool ay)]) d ?_ ?_
 ·cases hb:((au || (!(Y.1.Person == 1 && Y.1.Station == 0))) || (!g.1))
  ·rw [hb] at f
   refine have F:=eG hb a6;sp 1 f Z λa f=>zP f Z (bS (cells:=[i6 35,i6 40]) aBn Z Z) λa f=>zP f Z (bS (cells:=[i6 65,i6 75]) aBn Z Z) λa f=>gN (rows:=([(⟨35,40⟩:aE),(⟨65,75⟩:aE)]:List aE).map cN) (vs:=[(0,.agg #[i6 35,i6 40]),(1,.agg #[i6 65,i6 75])]) f d Z Z aK3 Z ⟨Z,Z,Z,Z,Z,Z,trivial⟩ Z Z λdv a w f d=>aH F λcq bg F=>zQ (v:=.bool cq) f d (eN 36) Z (λw d=>by obtain ⟨G1,i,S,d,U⟩:=lend d k2;obtain ⟨G2,k,j,d,m⟩:=lend d k0;exact (wV q.1 ([(⟨35,40⟩:aE),(⟨65,75⟩:aE)]:List aE) (S.mono k) j d bg).mono λe w h=>⟨h.1,((U _ _ ((m _ _ h.2).unpick k0)).unpick k2)⟩) λa w f d=>sp 2 f Z λa f=>have d:=d.drop k0;?_
   obtain rfl:=sj F
   exact aN ⟨f.kp Z,d⟩
  ·rw [hb] at f
   have F:=cO hb a6
   obtain rfl:=sj F
   exact sp 7 f Z λa f=>aN ⟨f.kp Z,d⟩
 intro a w ⟨f,d⟩
 refine sp 1 f Z λa f=>cV 3 (λa=>Has 174 a [(10,i6 V.2.1),(90,.bool (ay || (V.1 != 1)))]) d ?_ ?_
 ·cases hb:ay <;> (rw [hb] at f;(try rw [hb] at d);exact sp 3 f Z λa f=>aN ⟨f.kp Z,d⟩)
 intro a w ⟨f,d⟩
 refine sp 1 f Z λa f=>cV 3 (λa=>Has 174 a [(94,.bool ((ay || (V.1 != 1)) || (V.2.1 != (-1))))]) d ?_ ?_
 ·cases hb:(ay || (V.1 != 1)) <;> (rw [hb] at f;exact sp 3 f Z λa f=>aN ⟨f.kp Z,d⟩)
 intro a w ⟨f,d⟩
 refine zT h (zI f Z F ?_ ?_) <;> intro F
 ·refine zS λK h=>sp 1 f Z λa f=>zT h (wp_ret (aL ?_))
  obtain rfl:=sj F
  exact have d:=(((d.drop k3).drop k2).drop k1).drop k0;zO1 Tryz.results14 f Z ⟨Z,d⟩
 ·refine wp_skip (h7 _ _ (zS λK h=>aH F λcd ba F=>zC f (eN 5) Z (wR 80 d ba) ?_))
  rintro _ w ⟨dn,dz,rfl,d⟩
  refine ⟨_,Z,λa f=>aH F λH bi F=>zQ (v:=.tuple #[i6 H.1,i6 H.2]) f d (eN 39) Z (λw d=>by obtain ⟨G1,i,S,d,U⟩:=lend d k0;exact (aCo cd S d bi).mono λe w h=>⟨h.1,((U _ _ h.2).unpick k0)⟩) λa w f d=>sp 5 f Z λa f=>zT h (zS λK h=>aH F λcp bf F=>zC f (eN 6) Z (wK d bf) ?_)⟩
  rintro _ w ⟨dp,du,rfl,d⟩
  refine ⟨_,Z,λa f=>aH F λB bc F=>zQ (v:=.tuple #[.agg #[i6 B.1.Lo,i6 B.1.Hi],i6 B.2]) f d (eN 46) Z (λw d=>by obtain ⟨G1,i,S,d,U⟩:=lend d k0;exact (aEl cp 5 S d bc).mono λe w h=>⟨h.1,((U _ _ h.2).unpick k0)⟩) λa w f d=>sp 3 f Z λa f=>zA f d aE8 Z λaq a w f d=>zW f d uS u0 Z λw d=>sp 1 f Z λa f=>zT h (zS λK h=>aH F λcj bb F=>zC f (eN 6) Z (wK d bb) ?_)⟩
  rintro _ w ⟨dr,d8,rfl,d⟩
  refine ⟨_,Z,λa f=>aH F λD bm F=>zQ (v:=.tuple #[i6 D.1,i6 D.2.1,i6 D.2.2]) f d (eN 48) Z (λw d=>by obtain ⟨G1,i,S,d,U⟩:=lend d k0;exact (aB9 cj S d bm).mono λe w h=>⟨h.1,((U _ _ h.2).unpick k0)⟩) λa w f d=>sp 7 f Z λa f=>zT h (wp_seq_k λK13 c5=>bK (aH F λO bq F=>zC f (eN 6) Z (wK d bq) ?_))⟩
  rintro _ w ⟨a0,a8,rfl,d⟩
  refine ⟨_,Z,λa f=>zA f d aE9 Z λz a w f d=>zW f d aDj u0 Z λw d=>aN (have d:=((((((d.drop k9).drop k8).drop k7).drop k6).drop k5).drop k4).drop k2;c5 _ _ (wp_seq_k λK14 df=>aH F λR bd F=>aH F λun c6 F=>have d:=d.nilRow 0 0;jV (λθ=>[f0 2 (i6 H.2),f0 4 (i6 B.2),f0 6 (i6 D.2.2),f0 9 (i6 D.1),f0 10 (i6 D.2.1),f0 12 (i6 H.1),f0 13 (pq aq),f0 14 (pq z),f1 0 112 (.pointer (some ⟨z,4,none⟩)),f1 1 113 (.slice a0 O.Rides.length a8),f1 2 114 (.agg #[i6 R.Lo,i6 R.Hi]),f1 3 115 (.agg #[i6 5,i6 5,i6 R.Lo,i6 R.Hi]),f1 4 116 (.slice (some ⟨(θ 32).b,0,none⟩) 1 1),f1 5 117 (.slice ((θ 40).p) ((O.Rides++[(⟨5,5,R⟩:aC)]).length) ((θ 40).c)),f1 6 118 (.pointer (some ⟨z,4,none⟩))]) (λE θ=>(bif E 4 then .row (some ⟨(θ 32).b,0,none⟩) 1 (([(⟨5,5,R⟩:aC)]:List aC).map aI) 47 4 else .row none 0 [] 0 0)::(bif E 7 then .box z [i6 O.Car,i6 O.Wide,i6 O.Sag,i6 O.Most,.slice ((θ 40).p) ((O.Rides++[(⟨5,5,R⟩:aC)]).length) ((θ 40).c)] 37 else .box z [i6 O.Car,i6 O.Wide,i6 O.Sag,i6 O.Most,.slice a0 O.Rides.length a8] 37)::(bif E 5 then .row ((θ 40).p) ((θ 40).c) ((O.Rides++[(⟨5,5,R⟩:aC)]).map aI) 47 4 else .row a0 a8 (O.Rides.map aI) 47 4)::.box aq [i6 B.1.Lo,i6 B.1.Hi] 43::Lf) [(7,1),(7,5)] (λa w=>∃ (a2:Nat) (y:Option Addr) (x:Nat),Has 174 a [(2,i6 H.2),(4,i6 B.2),(6,i6 D.2.2),(9,i6 D.1),(10,i6 D.2.1),(12,i6 H.1),(13,pq aq),(14,pq z)]∧Ctx G (.row (sa a2) 1 (([(⟨5,5,R⟩:aC)]:List aC).map aI) 47 4::.box z [i6 O.Car,i6 O.Wide,i6 O.Sag,i6 O.Most,.slice y ((O.Rides++[(⟨5,5,R⟩:aC)]).length) x] 37::.row y x ((O.Rides++[(⟨5,5,R⟩:aC)]).map aI) 47 4::.box aq [i6 B.1.Lo,i6 B.1.Hi] 43::Lf) w) aU (by kernel_rfl) (by kernel_rfl) (iW.of f ⟨Z,Z,Z,Z,Z,Z,Z,Z,trivial,trivial,trivial,trivial,trivial,trivial,trivial,trivial⟩) d ⟨?_,?_,?_,?_,?_,?_,?_,?_,trivial⟩ ?_ ?_))⟩
  ·exact λE θ a w hD hi hp he d=>have f:=he.h0.mT he 7 Z;zP f Z (pFA fR Z) λa f=>zD θ he hi f 8 Z Z Z d
  ·refine λE θ a w hD hi hp he d=>have e0:=hp.o 0 Z;have e7:=hD.f 0 Z hi;?_
   try dsimp only at d
   rw [e7] at d
   refine have f:=he.h0.mP he 8 Z e0;zL f d sL m1 Z λa w f d=>zD θ he hi f 9 Z Z Z ?_
   try dsimp only
   rw [cR 1 e7 Z]
   exact d
  ·exact λE θ a w hD hi hp he d=>have f:=he.h0;zQ (v:=.agg #[i6 R.Lo,i6 R.Hi]) f d (eN 10) Z (λw d=>fJ 90 90 d bd) λa w f d=>zD θ he hi f 10 Z Z Z d
  ·exact λE θ a w hD hi hp he d=>have e2:=hp.o 2 Z;have f:=he.h0.mP he 10 Z e2;zP f Z (bS (cells:=[i6 5,i6 5,i6 R.Lo,i6 R.Hi]) aLe Z Z) λa f=>zD θ he hi f 11 Z Z Z d
  ·refine λE θ a w hD hi hp he d=>have e3:=hp.o 3 Z;?_
   try dsimp only at d
   rw [hi] at d
   refine have f:=he.h0.mP he 11 Z e3;gN (rows:=([(⟨5,5,R⟩:aC)]:List aC).map aI) (vs:=[(0,.agg #[i6 5,i6 5,i6 R.Lo,i6 R.Hi])]) f d Z Z aBo Z ⟨Z,Z,Z,trivial⟩ Z Z λc3 a w f d=>aN (eS (λds u ax=>have d:=d.drop k1;?_))
   refine ⟨(qR θ 32 ⟨c3,none,0,(λ_=>(none,0))⟩),he.put hi ax f Z [] trivial ⟨qq,qq,qq,qq,qq,qq,qq,qq,qq,qq,qq,qq,qq,qq,qq,trivial⟩,?_⟩
   try dsimp only
   rw [bE E 4]
   exact d
  ·refine λE θ a w hD hi hp he d=>have e1:=hp.o 1 Z;have e4:=hp.o 4 Z;have e7:=hD.f 1 Z hi;?_
   try dsimp only at d
   rw [e4,hi,e7] at d
   refine have f:=(he.h0.mP he 9 Z e1).mP he 12 Z e4;mV (xs:=O.Rides) (ys:=([(⟨5,5,R⟩:aC)]:List aC)) f d Z Z aBo Z Z Z Z Z dX (gL d m0) (λ_ _=>u2) (by simpa using cZ c6) λci c4 a w f d=>aN (eS (λds u ax=>?_))
   refine ⟨(qR θ 40 ⟨0,ci,c4,(λ_=>(none,0))⟩),he.put hi ax f Z [] trivial ⟨qq,qq,qq,qq,qq,qq,qq,qq,qq,qq,qq,qq,qq,qq,qq,trivial⟩,?_⟩
   try dsimp only
   rw [eD 5 e4,bE E 5,cR 5 e7 Z]
   exact d
  ·exact λE θ a w hD hi hp he d=>have f:=he.h0.mT he 7 Z;zP f Z (pFA fR Z) λa f=>zD θ he hi f 14 Z Z Z d
  ·refine λE θ a w hD hi hp he d=>have e5:=hp.o 5 Z;have e6:=hp.o 6 Z;?_
   try dsimp only at d
   rw [hi] at d
   refine have f:=(he.h0.mP he 13 Z e5).mP he 14 Z e6;zW f d aJa u1 Z λw d=>zG θ he hi f Z ?_
   try dsimp only
   rw [bE E 7]
   exact d
  ·refine λE θ a w aa he d=>have f:=he.h0;have e4:=aa 4 Z;have e5:=aa 5 Z;have e7:=aa 7 Z;have f:=f.more he 7 Z (onT);have f:=f.more he 6 Z (onT);have f:=f.more he 5 Z (onT);have f:=f.more he 4 Z (onT);have f:=f.more he 3 Z (onT);have f:=f.more he 2 Z (onT);have f:=f.more he 1 Z (onT);have f:=f.more he 0 Z (onT);?_
   try dsimp only at d
   rw [e4,e5,e7] at d
   exact ⟨(θ 32).b,(θ 40).p,(θ 40).c,f.kp Z,d⟩
  rintro a w ⟨a2,y,x,f,d⟩
  refine df _ _ (zS λK h=>zN f d lC m1 Z λa w f d=>aH F λJ a9 F=>?_)
  obtain ⟨G1,i,S,d,U⟩:=lend d k2
  refine zC f (eN 50) Z (aDi (⟨O.Car,O.Wide,O.Sag,O.Most,(O.Rides++[(⟨5,5,R⟩:aC)])⟩:aJ) S d a9) ?_
  rintro _ w ⟨ak,am,rfl,d⟩
  refine ⟨_,Z,λa f=>have d:=U _ _ d;sp 5 f Z λa f=>zT h (zS λK h=>zP f Z (bS (cells:=[i6 600,i6 480,i6 500]) aJe Z Z) λa f=>gN (rows:=([481]:List Int).map aF) (vs:=[(0,i6 481)]) f d Z Z eV Z ⟨Z,Z,Z,trivial⟩ Z Z λa7 a w f d=>aH F λM bp F=>zQ (v:=.tuple #[i6 M.1,i6 M.2]) f d (eN 13) Z (λw d=>by obtain ⟨G1,i,S,d,U⟩:=lend d k0;exact (yB (⟨600,480,500⟩:dN) ([481]:List Int) S d bp).mono λe w h=>⟨h.1,((U _ _ h.2).unpick k0)⟩) λa w f d=>sp 5 f Z λa f=>zT h (wp_seq_k λK17 c0=>aH F λI bj F=>aH F λX bk F=>?_))⟩
  refine have d:=d.nilRow 0 0;jV (λθ=>(f0 2 (i6 H.2)::f0 4 (i6 B.2)::f0 6 (i6 D.2.2)::f0 8 (i6 J.2)::f0 9 (i6 D.1)::f0 10 (i6 D.2.1)::f0 11 (i6 M.2)::f0 12 (i6 H.1)::f0 13 (pq aq)::f0 15 (.slice ak J.1.length am)::f0 16 (i6 M.1)::f1 0 130 (i6 H.2)::f1 1 131 (.bool (H.2 == 0))::f1 2 132 (.bool (H.2 == 0))::⟨some 3,none,133,(bif (H.2 == 0) then i6 B.2 else undef)⟩::⟨some 4,none,134,(bif (H.2 == 0) then .bool (B.2 == 0) else undef)⟩::f1 5 135 (.bool ((H.2 == 0) && (B.2 == 0)))::f1 6 136 (.bool ((H.2 == 0) && (B.2 == 0)))::⟨some 7,none,137,(bif ((H.2 == 0) && (B.2 == 0)) then i6 D.2.2 else undef)⟩::⟨some 8,none,138,(bif ((H.2 == 0) && (B.2 == 0)) then .bool (D.2.2 == 0) else undef)⟩::f1 9 139 (.bool (((H.2 == 0) && (B.2 == 0)) && (D.2.2 == 0)))::f1 10 140 (.bool (((H.2 == 0) && (B.2 == 0)) && (D.2.2 == 0)))::⟨some 11,none,141,(bif (((H.2 == 0) && (B.2 == 0)) && (D.2.2 == 0)) then i6 J.2 else undef)⟩::⟨some 12,none,142,(bif (((H.2 == 0) && (B.2 == 0)) && (D.2.2 == 0)) then .bool (J.2 == 0) else undef)⟩::f1 13 143 (.bool ((((H.2 == 0) && (B.2 == 0)) && (D.2.2 == 0)) && (J.2 == 0)))::f1 14 144 (.bool ((((H.2 == 0) && (B.2 == 0)) && (D.2.2 == 0)) && (J.2 == 0)))::⟨some 15,none,145,(bif ((((H.2 == 0) && (B.2 == 0)) && (D.2.2 == 0)) && (J.2 == 0)) then i6 M.2 else undef)⟩::⟨some 16,none,146,(bif ((((H.2 == 0) && (B.2 == 0)) && (D.2.2 == 0)) && (J.2 == 0)) then .bool (M.2 == 0) else undef)⟩::f1 17 147 (.bool (((((H.2 == 0) && (B.2 == 0)) && (D.2.2 == 0)) && (J.2 == 0)) && (M.2 == 0)))::f1 18 148 (.bool (((((H.2 == 0) && (B.2 == 0)) && (D.2.2 == 0)) && (J.2 == 0)) && (M.2 == 0)))::⟨some 19,none,149,(bif (((((H.2 == 0) && (B.2 == 0)) && (D.2.2 == 0)) && (J.2 == 0)) && (M.2 == 0)) then i6 H.1 else undef)⟩::⟨some 20,none,150,(bif (((((H.2 == 0) && (B.2 == 0)) && (D.2.2 == 0)) && (J.2 == 0)) && (M.2 == 0)) then .bool (H.1 == 5) else undef)⟩::f1 21 151 (.bool ((((((H.2 == 0) && (B.2 == 0)) && (D.2.2 == 0)) && (J.2 == 0)) && (M.2 == 0)) && (H.1 == 5)))::f1 22 152 (.bool ((((((H.2 == 0) && (B.2 == 0)) && (D.2.2 == 0)) && (J.2 == 0)) && (M.2 == 0)) && (H.1 == 5)))::⟨some 23,none,153,(bif ((((((H.2 == 0) && (B.2 == 0)) && (D.2.2 == 0)) && (J.2 == 0)) && (M.2 == 0)) && (H.1 == 5)) then .agg #[i6 B.1.Lo,i6 B.1.Hi] else undef)⟩::⟨some 24,none,154,(bif ((((((H.2 == 0) && (B.2 == 0)) && (D.2.2 == 0)) && (J.2 == 0)) && (M.2 == 0)) && (H.1 == 5)) then .agg #[i6 I.Lo,i6 I.Hi] else undef)⟩::⟨some 25,none,155,(bif ((((((H.2 == 0) && (B.2 == 0)) && (D.2.2 == 0)) && (J.2 == 0)) && (M.2 == 0)) && (H.1 == 5)) then .bool (B.1.Lo == I.Lo && B.1.Hi == I.Hi) else undef)⟩::f1 26 156 (.bool (((((((H.2 == 0) && (B.2 == 0)) && (D.2.2 == 0)) && (J.2 == 0)) && (M.2 == 0)) && (H.1 == 5)) && (B.1.Lo == I.Lo && B.1.Hi == I.Hi)))::f1 27 157 (.bool (((((((H.2 == 0) && (B.2 == 0)) && (D.2.2 == 0)) && (J.2 == 0)) && (M.2 == 0)) && (H.1 == 5)) && (B.1.Lo == I.Lo && B.1.Hi == I.Hi)))::⟨some 28,none,158,(bif (((((((H.2 == 0) && (B.2 == 0)) && (D.2.2 == 0)) && (J.2 == 0)) && (M.2 == 0)) && (H.1 == 5)) && (B.1.Lo == I.Lo && B.1.Hi == I.Hi)) then i6 D.1 else undef)⟩::⟨some 29,none,159,(bif (((((((H.2 == 0) && (B.2 == 0)) && (D.2.2 == 0)) && (J.2 == 0)) && (M.2 == 0)) && (H.1 == 5)) && (B.1.Lo == I.Lo && B.1.Hi == I.Hi)) then .bool (D.1 == 5) else undef)⟩::f1 30 160 (.bool ((((((((H.2 == 0) && (B.2 == 0)) && (D.2.2 == 0)) && (J.2 == 0)) && (M.2 == 0)) && (H.1 == 5)) && (B.1.Lo == I.Lo && B.1.Hi == I.Hi)) && (D.1 == 5)))::f1 31 161 (.bool ((((((((H.2 == 0) && (B.2 == 0)) && (D.2.2 == 0)) && (J.2 == 0)) && (M.2 == 0)) && (H.1 == 5)) && (B.1.Lo == I.Lo && B.1.Hi == I.Hi)) && (D.1 == 5)))::⟨some 32,none,162,(bif ((((((((H.2 == 0) && (B.2 == 0)) && (D.2.2 == 0)) && (J.2 == 0)) && (M.2 == 0)) && (H.1 == 5)) && (B.1.Lo == I.Lo && B.1.Hi == I.Hi)) && (D.1 == 5)) then i6 D.2.1 else undef)⟩::⟨some 33,none,163,(bif ((((((((H.2 == 0) && (B.2 == 0)) && (D.2.2 == 0)) && (J.2 == 0)) && (M.2 == 0)) && (H.1 == 5)) && (B.1.Lo == I.Lo && B.1.Hi == I.Hi)) && (D.1 == 5)) then .bool (D.2.1 == (-1)) else undef)⟩::f1 34 164 (.bool (((((((((H.2 == 0) && (B.2 == 0)) && (D.2.2 == 0)) && (J.2 == 0)) && (M.2 == 0)) && (H.1 == 5)) && (B.1.Lo == I.Lo && B.1.Hi == I.Hi)) && (D.1 == 5)) && (D.2.1 == (-1))))::f1 35 165 (.bool (((((((((H.2 == 0) && (B.2 == 0)) && (D.2.2 == 0)) && (J.2 == 0)) && (M.2 == 0)) && (H.1 == 5)) && (B.1.Lo == I.Lo && B.1.Hi == I.Hi)) && (D.1 == 5)) && (D.2.1 == (-1))))::⟨some 36,none,166,(bif (((((((((H.2 == 0) && (B.2 == 0)) && (D.2.2 == 0)) && (J.2 == 0)) && (M.2 == 0)) && (H.1 == 5)) && (B.1.Lo == I.Lo && B.1.Hi == I.Hi)) && (D.1 == 5)) && (D.2.1 == (-1))) then .slice ak J.1.length am else undef)⟩::⟨some 37,none,167,(bif (((((((((H.2 == 0) && (B.2 == 0)) && (D.2.2 == 0)) && (J.2 == 0)) && (M.2 == 0)) && (H.1 == 5)) && (B.1.Lo == I.Lo && B.1.Hi == I.Hi)) && (D.1 == 5)) && (D.2.1 == (-1))) then .slice (some ⟨(θ 296).b,0,none⟩) 3 3 else undef)⟩::⟨some 38,none,168,(bif (((((((((H.2 == 0) && (B.2 == 0)) && (D.2.2 == 0)) && (J.2 == 0)) && (M.2 == 0)) && (H.1 == 5)) && (B.1.Lo == I.Lo && B.1.Hi == I.Hi)) && (D.1 == 5)) && (D.2.1 == (-1))) then .bool X else undef)⟩::f1 39 169 (.bool ((((((((((H.2 == 0) && (B.2 == 0)) && (D.2.2 == 0)) && (J.2 == 0)) && (M.2 == 0)) && (H.1 == 5)) && (B.1.Lo == I.Lo && B.1.Hi == I.Hi)) && (D.1 == 5)) && (D.2.1 == (-1))) && X))::f1 40 170 (.bool ((((((((((H.2 == 0) && (B.2 == 0)) && (D.2.2 == 0)) && (J.2 == 0)) && (M.2 == 0)) && (H.1 == 5)) && (B.1.Lo == I.Lo && B.1.Hi == I.Hi)) && (D.1 == 5)) && (D.2.1 == (-1))) && X))::⟨some 41,none,171,(bif ((((((((((H.2 == 0) && (B.2 == 0)) && (D.2.2 == 0)) && (J.2 == 0)) && (M.2 == 0)) && (H.1 == 5)) && (B.1.Lo == I.Lo && B.1.Hi == I.Hi)) && (D.1 == 5)) && (D.2.1 == (-1))) && X) then i6 M.1 else undef)⟩::⟨some 42,none,172,(bif ((((((((((H.2 == 0) && (B.2 == 0)) && (D.2.2 == 0)) && (J.2 == 0)) && (M.2 == 0)) && (H.1 == 5)) && (B.1.Lo == I.Lo && B.1.Hi == I.Hi)) && (D.1 == 5)) && (D.2.1 == (-1))) && X) then .bool (M.1 == 4815) else undef)⟩::f1 43 173 (.bool (((((((((((H.2 == 0) && (B.2 == 0)) && (D.2.2 == 0)) && (J.2 == 0)) && (M.2 == 0)) && (H.1 == 5)) && (B.1.Lo == I.Lo && B.1.Hi == I.Hi)) && (D.1 == 5)) && (D.2.1 == (-1))) && X) && (M.1 == 4815)))::f1 44 0 (.bool (((((((((((H.2 == 0) && (B.2 == 0)) && (D.2.2 == 0)) && (J.2 == 0)) && (M.2 == 0)) && (H.1 == 5)) && (B.1.Lo == I.Lo && B.1.Hi == I.Hi)) && (D.1 == 5)) && (D.2.1 == (-1))) && X) && (M.1 == 4815)))::[])) (λE θ=>(bif E 37 then (gE (((((((((H.2 == 0) && (B.2 == 0)) && (D.2.2 == 0)) && (J.2 == 0)) && (M.2 == 0)) && (H.1 == 5)) && (B.1.Lo == I.Lo && B.1.Hi == I.Hi)) && (D.1 == 5)) && (D.2.1 == (-1))) (.row (some ⟨(θ 296).b,0,none⟩) 3 (([0,10,15]:List Int).map aF) 3 1)) else .row none 0 [] 0 0)::.row (sa a7) 1 (([481]:List Int).map aF) 3 1::.row y x ((O.Rides++[(⟨5,5,R⟩:aC)]).map aI) 47 4::.row ak am (J.1.map aF) 3 1::.row (sa a2) 1 (([(⟨5,5,R⟩:aC)]:List aC).map aI) 47 4::.box z [i6 O.Car,i6 O.Wide,i6 O.Sag,i6 O.Most,.slice y ((O.Rides++[(⟨5,5,R⟩:aC)]).length) x] 37::.box aq [i6 B.1.Lo,i6 B.1.Hi] 43::Lf) [] (λa w=>Has 174 a [(0,.bool (((((((((((H.2 == 0) && (B.2 == 0)) && (D.2.2 == 0)) && (J.2 == 0)) && (M.2 == 0)) && (H.1 == 5)) && (B.1.Lo == I.Lo && B.1.Hi == I.Hi)) && (D.1 == 5)) && (D.2.1 == (-1))) && X) && (M.1 == 4815)))]∧Ctx G (.row (sa a7) 1 (([481]:List Int).map aF) 3 1::.row y x ((O.Rides++[(⟨5,5,R⟩:aC)]).map aI) 47 4::.row ak am (J.1.map aF) 3 1::.row (sa a2) 1 (([(⟨5,5,R⟩:aC)]:List aC).map aI) 47 4::.box z [i6 O.Car,i6 O.Wide,i6 O.Sag,i6 O.Most,.slice y ((O.Rides++[(⟨5,5,R⟩:aC)]).length) x] 37::.box aq [i6 B.1.Lo,i6 B.1.Hi] 43::Lf) w) aU (by kernel_rfl) (by kernel_rfl) (iW.of f ⟨Z,Z,Z,Z,Z,Z,Z,Z,Z,Z,Z,trivial,trivial,trivial,trivial,trivial,trivial,trivial,trivial,trivial,trivial,trivial,trivial,trivial,trivial,trivial,trivial,trivial,trivial,trivial,trivial,trivial,trivial,trivial,trivial,trivial,trivial,trivial,trivial,trivial,trivial,trivial,trivial,trivial,trivial,trivial,trivial,trivial,trivial,trivial,trivial,trivial,trivial,trivial,trivial,trivial,trivial⟩) d ⟨?_,?_,?_,?_,?_,?_,?_,?_,?_,?_,?_,?_,?_,?_,?_,?_,?_,?_,?_,?_,?_,?_,?_,?_,?_,?_,?_,?_,?_,?_,?_,?_,?_,?_,?_,?_,?_,?_,?_,?_,?_,?_,?_,?_,?_,trivial⟩ ?_ ?_
  ·exact λE θ a w hD hi hp he d=>have f:=he.h0.mT he 0 Z;sp 1 f Z λa f=>zD θ he hi f 11 Z Z Z d
  ·exact λE θ a w hD hi hp he d=>have e0:=hp.o 0 Z;have f:=he.h0.mP he 11 Z e0;sp 1 f Z λa f=>zD θ he hi f 12 Z Z Z d
  ·exact λE θ a w hD hi hp he d=>have e1:=hp.o 1 Z;have f:=he.h0.mP he 12 Z e1;sp 1 f Z λa f=>zD θ he hi f 13 Z Z Z d
  ·refine λE θ a w hD hi hp he d=>have e2:=hp.o 2 Z;?_
   rcases cH (H.2 == 0) with hb | hb
   ·exact have f:=(he.h0.mT he 1 Z).mP he 13 Z e2;have f:=bH hb f;sp 1 f Z λa f=>have f:=eP (u:=undef) hb f;zD θ he hi f 14 Z Z Z d
   ·exact have f:=(he.h0.mT he 1 Z).mP he 13 Z e2;have f:=bH hb f;sp 1 f Z λa f=>have f:=eQ (u:=i6 B.2) hb f;zD θ he hi f 14 Z Z Z d
  ·refine λE θ a w hD hi hp he d=>have e2:=hp.o 2 Z;have e3:=hp.o 3 Z;?_
   rcases cH (H.2 == 0) with hb | hb
   ·exact have f:=he.h0.mP he 13 Z e2;have f:=bH hb f;have f:=f.more he 14 Z (onP e3);have f:=dD hb f;sp 1 f Z λa f=>have f:=eP (u:=undef) hb f;zD θ he hi f 15 Z Z Z d
   ·exact have f:=he.h0.mP he 13 Z e2;have f:=bH hb f;have f:=f.more he 14 Z (onP e3);have f:=dB hb f;sp 1 f Z λa f=>have f:=eQ (u:=.bool (B.2 == 0)) hb f;zD θ he hi f 15 Z Z Z d
  ·refine λE θ a w hD hi hp he d=>have e2:=hp.o 2 Z;have e4:=hp.o 4 Z;?_
   rcases cH (H.2 == 0) with hb | hb
   ·exact have f:=he.h0.mP he 13 Z e2;have f:=bH hb f;have f:=f.more he 15 Z (onP e4);have f:=dD hb f;sp 1 f Z λa f=>have f:=mQ (v':=.bool ((H.2 == 0) && (B.2 == 0))) (congrArg Value.bool (aHp hb)) f;zD θ he hi f 16 Z Z Z d
   ·exact have f:=he.h0.mP he 13 Z e2;have f:=bH hb f;have f:=f.more he 15 Z (onP e4);have f:=dB hb f;sp 1 f Z λa f=>have f:=mQ (v':=.bool ((H.2 == 0) && (B.2 == 0))) (congrArg Value.bool (aHw hb)) f;zD θ he hi f 16 Z Z Z d
  ·exact λE θ a w hD hi hp he d=>have e5:=hp.o 5 Z;have f:=he.h0.mP he 16 Z e5;sp 1 f Z λa f=>zD θ he hi f 17 Z Z Z d
  ·refine λE θ a w hD hi hp he d=>have e6:=hp.o 6 Z;?_
   rcases cH ((H.2 == 0) && (B.2 == 0)) with hb | hb
   ·exact have f:=(he.h0.mT he 2 Z).mP he 17 Z e6;have f:=bH hb f;sp 1 f Z λa f=>have f:=eP (u:=undef) hb f;zD θ he hi f 18 Z Z Z d
   ·exact have f:=(he.h0.mT he 2 Z).mP he 17 Z e6;have f:=bH hb f;sp 1 f Z λa f=>have f:=eQ (u:=i6 D.2.2) hb f;zD θ he hi f 18 Z Z Z d
  ·refine λE θ a w hD hi hp he d=>have e6:=hp.o 6 Z;have e7:=hp.o 7 Z;?_
   rcases cH ((H.2 == 0) && (B.2 == 0)) with hb | hb
   ·exact have f:=he.h0.mP he 17 Z e6;have f:=bH hb f;have f:=f.more he 18 Z (onP e7);have f:=dD hb f;sp 1 f Z λa f=>have f:=eP (u:=undef) hb f;zD θ he hi f 19 Z Z Z d
   ·exact have f:=he.h0.mP he 17 Z e6;have f:=bH hb f;have f:=f.more he 18 Z (onP e7);have f:=dB hb f;sp 1 f Z λa f=>have f:=eQ (u:=.bool (D.2.2 == 0)) hb f;zD θ he hi f 19 Z Z Z d
  ·refine λE θ a w hD hi hp he d=>have e6:=hp.o 6 Z;have e8:=hp.o 8 Z;?_
   rcases cH ((H.2 == 0) && (B.2 == 0)) with hb | hb
   ·exact have f:=he.h0.mP he 17 Z e6;have f:=bH hb f;have f:=f.more he 19 Z (onP e8);have f:=dD hb f;sp 1 f Z λa f=>have f:=mQ (v':=.bool (((H.2 == 0) && (B.2 == 0)) && (D.2.2 == 0))) (congrArg Value.bool (aHp hb)) f;zD θ he hi f 20 Z Z Z d
   ·exact have f:=he.h0.mP he 17 Z e6;have f:=bH hb f;have f:=f.more he 19 Z (onP e8);have f:=dB hb f;sp 1 f Z λa f=>have f:=mQ (v':=.bool (((H.2 == 0) && (B.2 == 0)) && (D.2.2 == 0))) (congrArg Value.bool (aHw hb)) f;zD θ he hi f 20 Z Z Z d
  ·exact λE θ a w hD hi hp he d=>have e9:=hp.o 9 Z;have f:=he.h0.mP he 20 Z e9;sp 1 f Z λa f=>zD θ he hi f 21 Z Z Z d
  ·refine λE θ a w hD hi hp he d=>have ab:=hp.o 10 Z;?_
   rcases cH (((H.2 == 0) && (B.2 == 0)) && (D.2.2 == 0)) with hb | hb
   ·exact have f:=(he.h0.mT he 3 Z).mP he 21 Z ab;have f:=bH hb f;sp 1 f Z λa f=>have f:=eP (u:=undef) hb f;zD θ he hi f 22 Z Z Z d
   ·exact have f:=(he.h0.mT he 3 Z).mP he 21 Z ab;have f:=bH hb f;sp 1 f Z λa f=>have f:=eQ (u:=i6 J.2) hb f;zD θ he hi f 22 Z Z Z d
  ·refine λE θ a w hD hi hp he d=>have ab:=hp.o 10 Z;have b8:=hp.o 11 Z;?_
   rcases cH (((H.2 == 0) && (B.2 == 0)) && (D.2.2 == 0)) with hb | hb
   ·exact have f:=he.h0.mP he 21 Z ab;have f:=bH hb f;have f:=f.more he 22 Z (onP b8);have f:=dD hb f;sp 1 f Z λa f=>have f:=eP (u:=undef) hb f;zD θ he hi f 23 Z Z Z d
   ·exact have f:=he.h0.mP he 21 Z ab;have f:=bH hb f;have f:=f.more he 22 Z (onP b8);have f:=dB hb f;sp 1 f Z λa f=>have f:=eQ (u:=.bool (J.2 == 0)) hb f;zD θ he hi f 23 Z Z Z d
  ·refine λE θ a w hD hi hp he d=>have ab:=hp.o 10 Z;have bu:=hp.o 12 Z;?_
   rcases cH (((H.2 == 0) && (B.2 == 0)) && (D.2.2 == 0)) with hb | hb
   ·exact have f:=he.h0.mP he 21 Z ab;have f:=bH hb f;have f:=f.more he 23 Z (onP bu);have f:=dD hb f;sp 1 f Z λa f=>have f:=mQ (v':=.bool ((((H.2 == 0) && (B.2 == 0)) && (D.2.2 == 0)) && (J.2 == 0))) (congrArg Value.bool (aHp hb)) f;zD θ he hi f 24 Z Z Z d
   ·exact have f:=he.h0.mP he 21 Z ab;have f:=bH hb f;have f:=f.more he 23 Z (onP bu);have f:=dB hb f;sp 1 f Z λa f=>have f:=mQ (v':=.bool ((((H.2 == 0) && (B.2 == 0)) && (D.2.2 == 0)) && (J.2 == 0))) (congrArg Value.bool (aHw hb)) f;zD θ he hi f 24 Z Z Z d
  ·exact λE θ a w hD hi hp he d=>have c2:=hp.o 13 Z;have f:=he.h0.mP he 24 Z c2;sp 1 f Z λa f=>zD θ he hi f 25 Z Z Z d
  ·refine λE θ a w hD hi hp he d=>have af:=hp.o 14 Z;?_
   rcases cH ((((H.2 == 0) && (B.2 == 0)) && (D.2.2 == 0)) && (J.2 == 0)) with hb | hb
   ·exact have f:=(he.h0.mT he 6 Z).mP he 25 Z af;have f:=bH hb f;sp 1 f Z λa f=>have f:=eP (u:=undef) hb f;zD θ he hi f 26 Z Z Z d
   ·exact have f:=(he.h0.mT he 6 Z).mP he 25 Z af;have f:=bH hb f;sp 1 f Z λa f=>have f:=eQ (u:=i6 M.2) hb f;zD θ he hi f 26 Z Z Z d
  ·refine λE θ a w hD hi hp he d=>have af:=hp.o 14 Z;have b2:=hp.o 15 Z;?_
   rcases cH ((((H.2 == 0) && (B.2 == 0)) && (D.2.2 == 0)) && (J.2 == 0)) with hb | hb
   ·exact have f:=he.h0.mP he 25 Z af;have f:=bH hb f;have f:=f.more he 26 Z (onP b2);have f:=dD hb f;sp 1 f Z λa f=>have f:=eP (u:=undef) hb f;zD θ he hi f 27 Z Z Z d
   ·exact have f:=he.h0.mP he 25 Z af;have f:=bH hb f;have f:=f.more he 26 Z (onP b2);have f:=dB hb f;sp 1 f Z λa f=>have f:=eQ (u:=.bool (M.2 == 0)) hb f;zD θ he hi f 27 Z Z Z d
  ·refine λE θ a w hD hi hp he d=>have af:=hp.o 14 Z;have b9:=hp.o 16 Z;?_
   rcases cH ((((H.2 == 0) && (B.2 == 0)) && (D.2.2 == 0)) && (J.2 == 0)) with hb | hb
   ·exact have f:=he.h0.mP he 25 Z af;have f:=bH hb f;have f:=f.more he 27 Z (onP b9);have f:=dD hb f;sp 1 f Z λa f=>have f:=mQ (v':=.bool (((((H.2 == 0) && (B.2 == 0)) && (D.2.2 == 0)) && (J.2 == 0)) && (M.2 == 0))) (congrArg Value.bool (aHp hb)) f;zD θ he hi f 28 Z Z Z d
   ·exact have f:=he.h0.mP he 25 Z af;have f:=bH hb f;have f:=f.more he 27 Z (onP b9);have f:=dB hb f;sp 1 f Z λa f=>have f:=mQ (v':=.bool (((((H.2 == 0) && (B.2 == 0)) && (D.2.2 == 0)) && (J.2 == 0)) && (M.2 == 0))) (congrArg Value.bool (aHw hb)) f;zD θ he hi f 28 Z Z Z d
  ·exact λE θ a w hD hi hp he d=>have db:=hp.o 17 Z;have f:=he.h0.mP he 28 Z db;sp 1 f Z λa f=>zD θ he hi f 29 Z Z Z d
  ·refine λE θ a w hD hi hp he d=>have ac:=hp.o 18 Z;?_
   rcases cH (((((H.2 == 0) && (B.2 == 0)) && (D.2.2 == 0)) && (J.2 == 0)) && (M.2 == 0)) with hb | hb
   ·exact have f:=(he.h0.mT he 7 Z).mP he 29 Z ac;have f:=bH hb f;sp 1 f Z λa f=>have f:=eP (u:=undef) hb f;zD θ he hi f 30 Z Z Z d
   ·exact have f:=(he.h0.mT he 7 Z).mP he 29 Z ac;have f:=bH hb f;sp 1 f Z λa f=>have f:=eQ (u:=i6 H.1) hb f;zD θ he hi f 30 Z Z Z d
  ·refine λE θ a w hD hi hp he d=>have ac:=hp.o 18 Z;have b6:=hp.o 19 Z;?_
   rcases cH (((((H.2 == 0) && (B.2 == 0)) && (D.2.2 == 0)) && (J.2 == 0)) && (M.2 == 0)) with hb | hb
   ·exact have f:=he.h0.mP he 29 Z ac;have f:=bH hb f;have f:=f.more he 30 Z (onP b6);have f:=dD hb f;sp 1 f Z λa f=>have f:=eP (u:=undef) hb f;zD θ he hi f 31 Z Z Z d
   ·exact have f:=he.h0.mP he 29 Z ac;have f:=bH hb f;have f:=f.more he 30 Z (onP b6);have f:=dB hb f;sp 1 f Z λa f=>have f:=eQ (u:=.bool (H.1 == 5)) hb f;zD θ he hi f 31 Z Z Z d
  ·refine λE θ a w hD hi hp he d=>have ac:=hp.o 18 Z;have bv:=hp.o 20 Z;?_
   rcases cH (((((H.2 == 0) && (B.2 == 0)) && (D.2.2 == 0)) && (J.2 == 0)) && (M.2 == 0)) with hb | hb
   ·exact have f:=he.h0.mP he 29 Z ac;have f:=bH hb f;have f:=f.more he 31 Z (onP bv);have f:=dD hb f;sp 1 f Z λa f=>have f:=mQ (v':=.bool ((((((H.2 == 0) && (B.2 == 0)) && (D.2.2 == 0)) && (J.2 == 0)) && (M.2 == 0)) && (H.1 == 5))) (congrArg Value.bool (aHp hb)) f;zD θ he hi f 32 Z Z Z d
   ·exact have f:=he.h0.mP he 29 Z ac;have f:=bH hb f;have f:=f.more he 31 Z (onP bv);have f:=dB hb f;sp 1 f Z λa f=>have f:=mQ (v':=.bool ((((((H.2 == 0) && (B.2 == 0)) && (D.2.2 == 0)) && (J.2 == 0)) && (M.2 == 0)) && (H.1 == 5))) (congrArg Value.bool (aHw hb)) f;zD θ he hi f 32 Z Z Z d
  ·exact λE θ a w hD hi hp he d=>have dd:=hp.o 21 Z;have f:=he.h0.mP he 32 Z dd;sp 1 f Z λa f=>zD θ he hi f 33 Z Z Z d
  ·refine λE θ a w hD hi hp he d=>have s:=hp.o 22 Z;?_
   rcases cH ((((((H.2 == 0) && (B.2 == 0)) && (D.2.2 == 0)) && (J.2 == 0)) && (M.2 == 0)) && (H.1 == 5)) with hb | hb
   ·exact have f:=(he.h0.mT he 8 Z).mP he 33 Z s;have f:=bH hb f;zN f d rG m6 Z λa w f d=>have f:=eP (u:=undef) hb f;zD θ he hi f 34 Z Z Z d
   ·exact have f:=(he.h0.mT he 8 Z).mP he 33 Z s;have f:=bH hb f;sp 1 f Z λa f=>have f:=eQ (u:=.agg #[i6 B.1.Lo,i6 B.1.Hi]) hb f;zD θ he hi f 34 Z Z Z d
  ·refine λE θ a w hD hi hp he d=>have s:=hp.o 22 Z;?_
   rcases cH ((((((H.2 == 0) && (B.2 == 0)) && (D.2.2 == 0)) && (J.2 == 0)) && (M.2 == 0)) && (H.1 == 5)) with hb | hb
   ·exact have f:=he.h0.mP he 33 Z s;have f:=bH hb f;zQ (v:=.agg #[i6 I.Lo,i6 I.Hi]) f d (eN 10) Z (λw d=>fJ 290 320 d (cO hb bj)) λa w f d=>have f:=eP (u:=undef) hb f;zD θ he hi f 35 Z Z Z d
   ·exact have f:=he.h0.mP he 33 Z s;have f:=bH hb f;sp 1 f Z λa f=>have f:=eQ (u:=.agg #[i6 I.Lo,i6 I.Hi]) hb f;zD θ he hi f 35 Z Z Z d
  ·refine λE θ a w hD hi hp he d=>have s:=hp.o 22 Z;have b7:=hp.o 23 Z;have bt:=hp.o 24 Z;?_
   rcases cH ((((((H.2 == 0) && (B.2 == 0)) && (D.2.2 == 0)) && (J.2 == 0)) && (M.2 == 0)) && (H.1 == 5)) with hb | hb
   ·exact have f:=he.h0.mP he 33 Z s;have f:=bH hb f;have f:=f.more he 34 Z (onP b7);have f:=dD hb f;have f:=f.more he 35 Z (onP bt);have f:=dD hb f;zP f Z (pEqA aPj Z Z (aLs _ _ _ _)) λa f=>have f:=eP (u:=undef) hb f;zD θ he hi f 36 Z Z Z d
   ·exact have f:=he.h0.mP he 33 Z s;have f:=bH hb f;have f:=f.more he 34 Z (onP b7);have f:=dB hb f;have f:=f.more he 35 Z (onP bt);have f:=dB hb f;sp 1 f Z λa f=>have f:=eQ (u:=.bool (B.1.Lo == I.Lo && B.1.Hi == I.Hi)) hb f;zD θ he hi f 36 Z Z Z d
  ·refine λE θ a w hD hi hp he d=>have s:=hp.o 22 Z;have bs:=hp.o 25 Z;?_
   rcases cH ((((((H.2 == 0) && (B.2 == 0)) && (D.2.2 == 0)) && (J.2 == 0)) && (M.2 == 0)) && (H.1 == 5)) with hb | hb
   ·exact have f:=he.h0.mP he 33 Z s;have f:=bH hb f;have f:=f.more he 36 Z (onP bs);have f:=dD hb f;sp 1 f Z λa f=>have f:=mQ (v':=.bool (((((((H.2 == 0) && (B.2 == 0)) && (D.2.2 == 0)) && (J.2 == 0)) && (M.2 == 0)) && (H.1 == 5)) && (B.1.Lo == I.Lo && B.1.Hi == I.Hi))) (congrArg Value.bool (aHp hb)) f;zD θ he hi f 37 Z Z Z d
   ·exact have f:=he.h0.mP he 33 Z s;have f:=bH hb f;have f:=f.more he 36 Z (onP bs);have f:=dB hb f;sp 1 f Z λa f=>have f:=mQ (v':=.bool (((((((H.2 == 0) && (B.2 == 0)) && (D.2.2 == 0)) && (J.2 == 0)) && (M.2 == 0)) && (H.1 == 5)) && (B.1.Lo == I.Lo && B.1.Hi == I.Hi))) (congrArg Value.bool (aHw hb)) f;zD θ he hi f 37 Z Z Z d
  ·exact λE θ a w hD hi hp he d=>have c8:=hp.o 26 Z;have f:=he.h0.mP he 37 Z c8;sp 1 f Z λa f=>zD θ he hi f 38 Z Z Z d
  ·refine λE θ a w hD hi hp he d=>have ag:=hp.o 27 Z;?_
   rcases cH (((((((H.2 == 0) && (B.2 == 0)) && (D.2.2 == 0)) && (J.2 == 0)) && (M.2 == 0)) && (H.1 == 5)) && (B.1.Lo == I.Lo && B.1.Hi == I.Hi)) with hb | hb
   ·exact have f:=(he.h0.mT he 4 Z).mP he 38 Z ag;have f:=bH hb f;sp 1 f Z λa f=>have f:=eP (u:=undef) hb f;zD θ he hi f 39 Z Z Z d
   ·exact have f:=(he.h0.mT he 4 Z).mP he 38 Z ag;have f:=bH hb f;sp 1 f Z λa f=>have f:=eQ (u:=i6 D.1) hb f;zD θ he hi f 39 Z Z Z d
  ·refine λE θ a w hD hi hp he d=>have ag:=hp.o 27 Z;have b5:=hp.o 28 Z;?_
   rcases cH (((((((H.2 == 0) && (B.2 == 0)) && (D.2.2 == 0)) && (J.2 == 0)) && (M.2 == 0)) && (H.1 == 5)) && (B.1.Lo == I.Lo && B.1.Hi == I.Hi)) with hb | hb
   ·exact have f:=he.h0.mP he 38 Z ag;have f:=bH hb f;have f:=f.more he 39 Z (onP b5);have f:=dD hb f;sp 1 f Z λa f=>have f:=eP (u:=undef) hb f;zD θ he hi f 40 Z Z Z d
   ·exact have f:=he.h0.mP he 38 Z ag;have f:=bH hb f;have f:=f.more he 39 Z (onP b5);have f:=dB hb f;sp 1 f Z λa f=>have f:=eQ (u:=.bool (D.1 == 5)) hb f;zD θ he hi f 40 Z Z Z d
  ·refine λE θ a w hD hi hp he d=>have ag:=hp.o 27 Z;have bz:=hp.o 29 Z;?_
   rcases cH (((((((H.2 == 0) && (B.2 == 0)) && (D.2.2 == 0)) && (J.2 == 0)) && (M.2 == 0)) && (H.1 == 5)) && (B.1.Lo == I.Lo && B.1.Hi == I.Hi)) with hb | hb
   ·exact have f:=he.h0.mP he 38 Z ag;have f:=bH hb f;have f:=f.more he 40 Z (onP bz);have f:=dD hb f;sp 1 f Z λa f=>have f:=mQ (v':=.bool ((((((((H.2 == 0) && (B.2 == 0)) && (D.2.2 == 0)) && (J.2 == 0)) && (M.2 == 0)) && (H.1 == 5)) && (B.1.Lo == I.Lo && B.1.Hi == I.Hi)) && (D.1 == 5))) (congrArg Value.bool (aHp hb)) f;zD θ he hi f 41 Z Z Z d
   ·exact have f:=he.h0.mP he 38 Z ag;have f:=bH hb f;have f:=f.more he 40 Z (onP bz);have f:=dB hb f;sp 1 f Z λa f=>have f:=mQ (v':=.bool ((((((((H.2 == 0) && (B.2 == 0)) && (D.2.2 == 0)) && (J.2 == 0)) && (M.2 == 0)) && (H.1 == 5)) && (B.1.Lo == I.Lo && B.1.Hi == I.Hi)) && (D.1 == 5))) (congrArg Value.bool (aHw hb)) f;zD θ he hi f 41 Z Z Z d
  ·exact λE θ a w hD hi hp he d=>have cz:=hp.o 30 Z;have f:=he.h0.mP he 41 Z cz;sp 1 f Z λa f=>zD θ he hi f 42 Z Z Z d
  ·refine λE θ a w hD hi hp he d=>have ad:=hp.o 31 Z;?_
   rcases cH ((((((((H.2 == 0) && (B.2 == 0)) && (D.2.2 == 0)) && (J.2 == 0)) && (M.2 == 0)) && (H.1 == 5)) && (B.1.Lo == I.Lo && B.1.Hi == I.Hi)) && (D.1 == 5)) with hb | hb
   ·exact have f:=(he.h0.mT he 5 Z).mP he 42 Z ad;have f:=bH hb f;sp 1 f Z λa f=>have f:=eP (u:=undef) hb f;zD θ he hi f 43 Z Z Z d
   ·exact have f:=(he.h0.mT he 5 Z).mP he 42 Z ad;have f:=bH hb f;sp 1 f Z λa f=>have f:=eQ (u:=i6 D.2.1) hb f;zD θ he hi f 43 Z Z Z d
  ·refine λE θ a w hD hi hp he d=>have ad:=hp.o 31 Z;have b1:=hp.o 32 Z;?_
   rcases cH ((((((((H.2 == 0) && (B.2 == 0)) && (D.2.2 == 0)) && (J.2 == 0)) && (M.2 == 0)) && (H.1 == 5)) && (B.1.Lo == I.Lo && B.1.Hi == I.Hi)) && (D.1 == 5)) with hb | hb
   ·exact have f:=he.h0.mP he 42 Z ad;have f:=bH hb f;have f:=f.more he 43 Z (onP b1);have f:=dD hb f;sp 1 f Z λa f=>have f:=eP (u:=undef) hb f;zD θ he hi f 44 Z Z Z d
   ·exact have f:=he.h0.mP he 42 Z ad;have f:=bH hb f;have f:=f.more he 43 Z (onP b1);have f:=dB hb f;sp 1 f Z λa f=>have f:=eQ (u:=.bool (D.2.1 == (-1))) hb f;zD θ he hi f 44 Z Z Z d
  ·refine λE θ a w hD hi hp he d=>have ad:=hp.o 31 Z;have b3:=hp.o 33 Z;?_
   rcases cH ((((((((H.2 == 0) && (B.2 == 0)) && (D.2.2 == 0)) && (J.2 == 0)) && (M.2 == 0)) && (H.1 == 5)) && (B.1.Lo == I.Lo && B.1.Hi == I.Hi)) && (D.1 == 5)) with hb | hb
   ·exact have f:=he.h0.mP he 42 Z ad;have f:=bH hb f;have f:=f.more he 44 Z (onP b3);have f:=dD hb f;sp 1 f Z λa f=>have f:=mQ (v':=.bool (((((((((H.2 == 0) && (B.2 == 0)) && (D.2.2 == 0)) && (J.2 == 0)) && (M.2 == 0)) && (H.1 == 5)) && (B.1.Lo == I.Lo && B.1.Hi == I.Hi)) && (D.1 == 5)) && (D.2.1 == (-1)))) (congrArg Value.bool (aHp hb)) f;zD θ he hi f 45 Z Z Z d
   ·exact have f:=he.h0.mP he 42 Z ad;have f:=bH hb f;have f:=f.more he 44 Z (onP b3);have f:=dB hb f;sp 1 f Z λa f=>have f:=mQ (v':=.bool (((((((((H.2 == 0) && (B.2 == 0)) && (D.2.2 == 0)) && (J.2 == 0)) && (M.2 == 0)) && (H.1 == 5)) && (B.1.Lo == I.Lo && B.1.Hi == I.Hi)) && (D.1 == 5)) && (D.2.1 == (-1)))) (congrArg Value.bool (aHw hb)) f;zD θ he hi f 45 Z Z Z d
  ·exact λE θ a w hD hi hp he d=>have dc:=hp.o 34 Z;have f:=he.h0.mP he 45 Z dc;sp 1 f Z λa f=>zD θ he hi f 46 Z Z Z d
  ·refine λE θ a w hD hi hp he d=>have t:=hp.o 35 Z;?_
   rcases cH (((((((((H.2 == 0) && (B.2 == 0)) && (D.2.2 == 0)) && (J.2 == 0)) && (M.2 == 0)) && (H.1 == 5)) && (B.1.Lo == I.Lo && B.1.Hi == I.Hi)) && (D.1 == 5)) && (D.2.1 == (-1))) with hb | hb
   ·exact have f:=(he.h0.mT he 9 Z).mP he 46 Z t;have f:=bH hb f;sp 1 f Z λa f=>have f:=eP (u:=undef) hb f;zD θ he hi f 47 Z Z Z d
   ·exact have f:=(he.h0.mT he 9 Z).mP he 46 Z t;have f:=bH hb f;sp 1 f Z λa f=>have f:=eQ (u:=.slice ak J.1.length am) hb f;zD θ he hi f 47 Z Z Z d
  ·refine λE θ a w hD hi hp he d=>have t:=hp.o 35 Z;?_
   try dsimp only at d
   rw [hi] at d
   rcases cH (((((((((H.2 == 0) && (B.2 == 0)) && (D.2.2 == 0)) && (J.2 == 0)) && (M.2 == 0)) && (H.1 == 5)) && (B.1.Lo == I.Lo && B.1.Hi == I.Hi)) && (D.1 == 5)) && (D.2.1 == (-1))) with hb | hb
   ·refine have f:=he.h0.mP he 46 Z t;have f:=bH hb f;gN (rows:=([0,10,15]:List Int).map aF) (vs:=[(0,i6 0),(1,i6 10),(2,i6 15)]) f d Z Z eV Z ⟨Z,Z,Z,Z,Z,Z,Z,Z,Z,trivial⟩ Z Z λcs a w f d=>have f:=eP (u:=undef) hb f;aN (eS (λds u ax=>have d:=d.drop k1;?_))
    refine ⟨(qR θ 296 ⟨cs,none,0,(λ_=>(none,0))⟩),he.put hi ax f Z [] trivial ⟨qq,qq,qq,qq,qq,qq,qq,qq,qq,qq,qq,qq,qq,qq,qq,qq,qq,qq,qq,qq,qq,qq,qq,qq,qq,qq,qq,qq,qq,qq,qq,qq,qq,qq,qq,qq,qq,qq,qq,qq,qq,qq,qq,qq,qq,qq,qq,qq,qq,qq,qq,qq,qq,qq,qq,qq,trivial⟩,?_⟩
    try dsimp only
    rw [bE E 37]
    rw [aOn hb]
    exact d
   ·refine have f:=he.h0.mP he 46 Z t;have f:=bH hb f;sp 1 f Z λa f=>have f:=eQ (u:=.slice (some ⟨(θ 296).b,0,none⟩) 3 3) hb f;zD θ he hi f 48 Z Z Z ?_
    try dsimp only
    rw [bE E 37]
    rw [aN6 hb]
    exact d
  ·refine λE θ a w hD hi hp he d=>have t:=hp.o 35 Z;have ca:=hp.o 36 Z;have an:=hp.o 37 Z;?_
   try dsimp only at d
   rw [an] at d
   rcases cH (((((((((H.2 == 0) && (B.2 == 0)) && (D.2.2 == 0)) && (J.2 == 0)) && (M.2 == 0)) && (H.1 == 5)) && (B.1.Lo == I.Lo && B.1.Hi == I.Hi)) && (D.1 == 5)) && (D.2.1 == (-1))) with hb | hb
   ·refine have f:=he.h0.mP he 46 Z t;have f:=bH hb f;have f:=f.more he 47 Z (onP ca);have f:=dD hb f;have f:=f.more he 48 Z (onP an);have f:=dD hb f;?_
    rw [aOn hb] at d
    refine zQ (v:=.bool X) f d (eN 27) Z (λw d=>by obtain ⟨G1,i,S,d,U⟩:=lend d k3;obtain ⟨G2,k,j,d,m⟩:=lend d k0;exact (jL J.1 ([0,10,15]:List Int) (S.mono k) j d (cO hb bk)).mono λe w h=>⟨h.1,((U _ _ ((m _ _ h.2).unpick k0)).unpick k3)⟩) λa w f d=>have f:=eP (u:=undef) hb f;zD θ he hi f 49 Z Z Z ?_
    try dsimp only
    rw [eD 38 an]
    rw [aOn hb]
    exact d
   ·refine have f:=he.h0.mP he 46 Z t;have f:=bH hb f;have f:=f.more he 47 Z (onP ca);have f:=dB hb f;have f:=f.more he 48 Z (onP an);have f:=dB hb f;?_
    rw [aN6 hb] at d
    refine sp 1 f Z λa f=>have f:=eQ (u:=.bool X) hb f;zD θ he hi f 49 Z Z Z ?_
    try dsimp only
    rw [eD 38 an]
    rw [aN6 hb]
    exact d
  ·refine λE θ a w hD hi hp he d=>have t:=hp.o 35 Z;have bx:=hp.o 38 Z;?_
   rcases cH (((((((((H.2 == 0) && (B.2 == 0)) && (D.2.2 == 0)) && (J.2 == 0)) && (M.2 == 0)) && (H.1 == 5)) && (B.1.Lo == I.Lo && B.1.Hi == I.Hi)) && (D.1 == 5)) && (D.2.1 == (-1))) with hb | hb
   ·exact have f:=he.h0.mP he 46 Z t;have f:=bH hb f;have f:=f.more he 49 Z (onP bx);have f:=dD hb f;sp 1 f Z λa f=>have f:=mQ (v':=.bool ((((((((((H.2 == 0) && (B.2 == 0)) && (D.2.2 == 0)) && (J.2 == 0)) && (M.2 == 0)) && (H.1 == 5)) && (B.1.Lo == I.Lo && B.1.Hi == I.Hi)) && (D.1 == 5)) && (D.2.1 == (-1))) && X)) (congrArg Value.bool (aHp hb)) f;zD θ he hi f 50 Z Z Z d
   ·exact have f:=he.h0.mP he 46 Z t;have f:=bH hb f;have f:=f.more he 49 Z (onP bx);have f:=dB hb f;sp 1 f Z λa f=>have f:=mQ (v':=.bool ((((((((((H.2 == 0) && (B.2 == 0)) && (D.2.2 == 0)) && (J.2 == 0)) && (M.2 == 0)) && (H.1 == 5)) && (B.1.Lo == I.Lo && B.1.Hi == I.Hi)) && (D.1 == 5)) && (D.2.1 == (-1))) && X)) (congrArg Value.bool (aHw hb)) f;zD θ he hi f 50 Z Z Z d
  ·exact λE θ a w hD hi hp he d=>have c7:=hp.o 39 Z;have f:=he.h0.mP he 50 Z c7;sp 1 f Z λa f=>zD θ he hi f 51 Z Z Z d
  ·refine λE θ a w hD hi hp he d=>have ai:=hp.o 40 Z;?_
   rcases cH ((((((((((H.2 == 0) && (B.2 == 0)) && (D.2.2 == 0)) && (J.2 == 0)) && (M.2 == 0)) && (H.1 == 5)) && (B.1.Lo == I.Lo && B.1.Hi == I.Hi)) && (D.1 == 5)) && (D.2.1 == (-1))) && X) with hb | hb
   ·exact have f:=(he.h0.mT he 10 Z).mP he 51 Z ai;have f:=bH hb f;sp 1 f Z λa f=>have f:=eP (u:=undef) hb f;zD θ he hi f 52 Z Z Z d
   ·exact have f:=(he.h0.mT he 10 Z).mP he 51 Z ai;have f:=bH hb f;sp 1 f Z λa f=>have f:=eQ (u:=i6 M.1) hb f;zD θ he hi f 52 Z Z Z d
  ·refine λE θ a w hD hi hp he d=>have ai:=hp.o 40 Z;have b0:=hp.o 41 Z;?_
   rcases cH ((((((((((H.2 == 0) && (B.2 == 0)) && (D.2.2 == 0)) && (J.2 == 0)) && (M.2 == 0)) && (H.1 == 5)) && (B.1.Lo == I.Lo && B.1.Hi == I.Hi)) && (D.1 == 5)) && (D.2.1 == (-1))) && X) with hb | hb
   ·exact have f:=he.h0.mP he 51 Z ai;have f:=bH hb f;have f:=f.more he 52 Z (onP b0);have f:=dD hb f;sp 1 f Z λa f=>have f:=eP (u:=undef) hb f;zD θ he hi f 53 Z Z Z d
   ·exact have f:=he.h0.mP he 51 Z ai;have f:=bH hb f;have f:=f.more he 52 Z (onP b0);have f:=dB hb f;sp 1 f Z λa f=>have f:=eQ (u:=.bool (M.1 == 4815)) hb f;zD θ he hi f 53 Z Z Z d
  ·refine λE θ a w hD hi hp he d=>have ai:=hp.o 40 Z;have b4:=hp.o 42 Z;?_
   rcases cH ((((((((((H.2 == 0) && (B.2 == 0)) && (D.2.2 == 0)) && (J.2 == 0)) && (M.2 == 0)) && (H.1 == 5)) && (B.1.Lo == I.Lo && B.1.Hi == I.Hi)) && (D.1 == 5)) && (D.2.1 == (-1))) && X) with hb | hb
   ·exact have f:=he.h0.mP he 51 Z ai;have f:=bH hb f;have f:=f.more he 53 Z (onP b4);have f:=dD hb f;sp 1 f Z λa f=>have f:=mQ (v':=.bool (((((((((((H.2 == 0) && (B.2 == 0)) && (D.2.2 == 0)) && (J.2 == 0)) && (M.2 == 0)) && (H.1 == 5)) && (B.1.Lo == I.Lo && B.1.Hi == I.Hi)) && (D.1 == 5)) && (D.2.1 == (-1))) && X) && (M.1 == 4815))) (congrArg Value.bool (aHp hb)) f;zD θ he hi f 54 Z Z Z d
   ·exact have f:=he.h0.mP he 51 Z ai;have f:=bH hb f;have f:=f.more he 53 Z (onP b4);have f:=dB hb f;sp 1 f Z λa f=>have f:=mQ (v':=.bool (((((((((((H.2 == 0) && (B.2 == 0)) && (D.2.2 == 0)) && (J.2 == 0)) && (M.2 == 0)) && (H.1 == 5)) && (B.1.Lo == I.Lo && B.1.Hi == I.Hi)) && (D.1 == 5)) && (D.2.1 == (-1))) && X) && (M.1 == 4815))) (congrArg Value.bool (aHw hb)) f;zD θ he hi f 54 Z Z Z d
  ·exact λE θ a w hD hi hp he d=>have da:=hp.o 43 Z;have f:=he.h0.mP he 54 Z da;sp 1 f Z λa f=>zD θ he hi f 55 Z Z Z d
  ·refine λE θ a w aa he d=>have f:=he.h0;have an:=aa 37 Z;have cx:=aa 44 Z;have f:=f.more he 55 Z (onP cx);?_
   try dsimp only at d
   rw [an] at d
   exact have d:=d.drop k0;⟨f.kp Z,d⟩
  rintro a w ⟨f,d⟩
  refine c0 _ _ (wp_ret ?_)
  obtain rfl:=sj F
  exact have d:=(((((d.drop k5).drop k4).drop k3).drop k2).drop k1).drop k0;zO1 Tryz.results14 f Z ⟨Z,d⟩

def gO (N:Nat) (l:List Int):Option ((List Int)) :=
 Option.bind (room (l).length) λun=>
 some l
theorem rQ {I:Option Addr} {J:Nat} (l:List Int) (R:Rd G 1 I J (l.map aF)) (d:Ctx G (Lf) w) {B:(List Int)} (F:gO N l=some B):Calls Tryz.prog 16 #[.slice I l.length J] w (λe w=>∃ (H:Option Addr) (D:Nat),e=.returned (.slice H B.length D)∧Ctx G (.row H D (B.map aF) 3 1::Lf) w):=by
 refine bY Tryz.func16 Z Tryz.ntmps16 Z λa f=>zS λK h=>sp 1 f Z λa f=>zT h (zS λK h=>sp 1 f Z λa f=>zT h (zS λK h=>sp 2 f Z λa f=>have d:=d.nilRow 3 1;aH F λun S F=>mV (xs:=([]:List Int)) (ys:=l) f d Z Z eV Z Z Z Z Z bQ (aDn d R) (λ_ _=>u0) (by simpa using cZ S) λO M a w f d=>sp 1 f Z λa f=>zT h ?_))
 refine wp_ret ?_
 obtain rfl:=sj F
 exact zO1 Tryz.results16 f Z ⟨O,M,Z,d⟩

def eW (N:Nat) (l:List (List Int)) (out:List (List Int)) (B:Int):Option (bC ((List (List Int)) × Int) ((List (List Int)))) :=
 cond (decide (B < ((l.length:Nat):Int)))
 (Option.bind (aQ l B) λD=>
 Option.bind (gO N D) λr=>
 Option.bind (room ((out++[r])).length) λun=>
 some (.cont ((out++[r]),W (B + 1))))
 (some (.brk (out,B)))
def oJ (N:Nat) (l:List (List Int)):Option ((List (List Int))) :=
 Option.bind (aS (λs5=>eW N l s5.1 s5.2) N (([]:List (List Int)),0)) λx5=>
 exK x5 (λs5=>some s5.1) some
theorem wU {R:Option Addr} {U:Nat} (l:List (List Int)) (s:RdT aT G 1 R U l) (d:Ctx G (Lf) w) {J:(List (List Int))} (F:oJ N l=some J):Calls Tryz.prog 67 #[.slice R l.length U] w (λe w=>∃ (b:Option Addr) (D:aAf),e=.returned (.slice b J.length D.1)∧Ctx G (.row b D.1 ((aO D.2 J).map (Kd.v aT)) 22 1::bX aT (aO D.2 J)::Lf) w):=by
 refine bY Tryz.func67 Z Tryz.ntmps67 Z λa f=>zS λK h=>sp 1 f Z λa f=>zT h (zS λK h=>sp 1 f Z λa f=>zT h (wp_seq_k λK3 h3=>zS λK h=>sp 1 f Z λa f=>zT h (wp_block (aH F λx5 n F=>?_))))
 let S5:((List (List Int)) × Int)→Act→World→Prop:=(λ(zz:(List (List Int)) × Int) a w=>∃ (H:Option Addr) (B:aAf),Has 20 a [(0,.slice R l.length U),(3,.slice H zz.1.length B.1),(4,i6 zz.2)]∧Ctx G (.row H B.1 ((aO B.2 zz.1).map (Kd.v aT)) 22 1::bX aT (aO B.2 zz.1)::Lf) w)
 have m:∀ (zz:(List (List Int)) × Int) a w,x5=.go zz→S5 zz a w→K3 a w:=by
  rintro ⟨out,g⟩ a w rfl ⟨H,B,f,d⟩
  refine have F:=bI F;h3 _ _ (zS λK h=>sp 2 f Z λa f=>zT h (wp_ret ?_))
  obtain rfl:=sj F
  exact zO1 Tryz.results67 f Z ⟨H,B,Z,d⟩
 have t:∀ r,x5=.out r→r=J:=by
  rintro r rfl
  exact sj F
 refine have d:=d.nilRow 22 1;have d:=aEk (K:=aT) (hs:=(noH 0)) d;have d:=(d.pick k0).pick k1;cF N (cE (S:=S5) (x:=x5) ?_ N (([]:List (List Int)),0) _ _ ⟨none,(0,(noH 0)),f.kp Z,d⟩ n)
 clear F f d
 rintro ⟨out,g⟩ u a w KB5 ⟨H,B,f,d⟩ F I k
 unfold eW at F
 refine wp_seq_k λK7 h7=>zS λK h=>sp 2 f Z λa f=>zP f Z (bA Tryz.underlying23 Z) λa f=>sp 1 f Z λa f=>zT h (zI f Z F ?_ ?_) <;> intro F
 ·refine wp_skip (h7 _ _ (wp_seq_k λK9 h9=>wp_block (bK (sp 3 f Z λa f=>aH F λp i F=>?_))))
  obtain ⟨y,o,hd,qa,qp,qr⟩:=s.atm i
  refine zP f Z (pIA Tryz.underlying23 lN Z Z qa) λa f=>zE f d Z (bB eL Z (aV (j:=0) qp Z)) λa w f d=>aH F λr hr F=>zC f (eN 16) Z (rQ p qr d hr) ?_
  rintro _ w ⟨O,M,rfl,d⟩
  refine ⟨_,Z,λa f=>gN (rows:=([((O,M),r)]:List (H2 × (List Int))).map (Kd.v aT)) (vs:=[(0,.slice O r.length M)]) f d Z Z aHx Z ⟨Z,Z,Z,trivial⟩ Z Z λz a w f d=>aH F λun q F=>mV (xs:=(aO B.2 out)) (ys:=([((O,M),r)]:List (H2 × (List Int)))) f d Z Z aHx Z Z (eF _ _).symm Z Z kG (gL d m0) (λ_ _=>u2) (by simpa [eF] using cZ q) λV Y a w f d=>have f:=mQ (v':=.slice V (out++[r]).length Y) (by simp [eF]) f;sp 1 f Z λa f=>aN (have d:=(((d.drop k0).pick k0).pick k2).pick k2;?_)⟩
  obtain ⟨X,d⟩:=aA6 (K:=aT) ([((O,M),r)]:List (H2 × (List Int))) d
  exact have d:Ctx G (.row V Y ((aO X (out++[r])).map (Kd.v aT)) 22 1::bX aT (aO X (out++[r]))::Lf) w:=d;h9 _ _ (bK (sp 3 f Z λa f=>aN (k ((out++[r]),W (g + 1)) _ _ (sj F).symm ⟨V,(Y,X),f.kp Z,d⟩)))
 ·exact wp_exit (aP (aP (have I:=cB F I;cX (m _ _ _ I ⟨H,B,f.kp Z,d⟩))))

def gT (N:Nat) (r:aB) (x:Int) (B:List aD):Option (bC (Int × (List aD)) (aB)) :=
 cond (decide (x < ((r.Stations.length:Nat):Int)))
 (Option.bind (aQ r.Stations x) λD=>
 Option.bind (gO N D.Order) λH=>
 Option.bind (room ((B++[(⟨D.Places,H⟩:aD)])).length) λun=>
 some (.cont (W (x + 1),(B++[(⟨D.Places,H⟩:aD)]))))
 (some (.brk (x,B)))
def pQ (N:Nat) (r:aB):Option (aB) :=
 Option.bind (oJ N r.People) λB=>
 Option.bind (aS (λs5=>gT N r s5.1 s5.2) N (0,([]:List aD))) λx5=>
 exK x5 (λs5=>some (⟨B,s5.2⟩:aB)) some
theorem aDe {Y I:Option Addr} {g H:Nat} (r:aB) (ac:RdT aT G 1 Y g r.People) (s:RdT bD G 2 I H r.Stations) (d:Ctx G (Lf) w) {i:aB} (F:pQ N r=some i):Calls Tryz.prog 15 #[.agg #[.slice Y r.People.length g,.slice I r.Stations.length H]] w (λe w=>∃ (aq:Option Addr) (j:aAf) (ak:Option Addr) (k:aAf),e=.returned (.agg #[.slice aq i.People.length j.1,.slice ak i.Stations.length k.1])∧Ctx G (.row aq j.1 ((aO j.2 i.People).map (Kd.v aT)) 22 1::bX aT (aO j.2 i.People)::.row ak k.1 ((aO k.2 i.Stations).map (Kd.v bD)) 41 2::bX bD (aO k.2 i.Stations)::Lf) w):=by
 refine bY Tryz.func15 Z Tryz.ntmps15 Z λa f=>zS λK h=>zB f d Z λa8 a w f d=>zA f d aId Z λq a w f d=>zT h (zS λK h=>zP f Z (pFA iG Z) λa f=>zL f d gR m1 Z λa w f d=>aH F λR au F=>zC f (eN 67) Z (wU r.People ac d au) ?_)
 rintro _ w ⟨U,M,rfl,d⟩
 refine ⟨_,Z,λa f=>zP f Z (bS (cells:=[.slice U R.length M.1,.slice none 0 0]) aQ6 Z Z) λa f=>zA f d aId Z λX a w f d=>zW f d aJc u0 Z λw d=>zT h (wp_seq_k λK3 h3=>zS λK h=>zP f Z (pFA fH Z) λa f=>zL f d pB m4 Z λa w f d=>zP f Z (bA Tryz.underlying24 Z) λa f=>sp 1 f Z λa f=>zT h (wp_block (aH F λx5 ax F=>?_)))⟩
 let S5:(Int × (List aD))→Act→World→Prop:=(λ(zz:Int × (List aD)) a w=>∃ (V:Option Addr) (B:aAf),Has 30 a [(2,pq q),(3,pq X),(11,.slice I r.Stations.length H),(12,i6 ((r.Stations.length:Nat):Int)),(13,i6 zz.1)]∧Ctx G (.row V B.1 ((aO B.2 zz.2).map (Kd.v bD)) 41 2::bX bD (aO B.2 zz.2)::.box X [.slice U R.length M.1,.slice V zz.2.length B.1] 26::.row U M.1 ((aO M.2 R).map (Kd.v aT)) 22 1::bX aT (aO M.2 R)::.box q [.slice none 0 0,.slice none 0 0] 26::Lf) w)
 have a1:∀ (zz:Int × (List aD)) a w,x5=.go zz→S5 zz a w→K3 a w:=by
  rintro ⟨x,O⟩ a w rfl ⟨V,B,f,d⟩
  refine have F:=bI F;h3 _ _ (zS λK h=>zN f d qC m2 Z λa w f d=>zW f d aJc u5 Z λw d=>zT h (wp_ret ?_))
  obtain rfl:=sj F
  exact have d:=((((d.drop k2).pick k1).pick k1).pick k3).pick k3;yY (by simp) Z Tryz.results15 f d (eE (vs:=[.slice U R.length M.1,.slice V O.length B.1]) qC Z Z (bT (n:=2) m4 Z)) ⟨U,M,V,B,Z,(d.drop k4)⟩
 have a6:∀ r,x5=.out r→r=i:=by
  rintro r rfl
  exact sj F
 refine have d:=d.nilRow 41 2;have d:=aEk (K:=bD) (hs:=(noH 0)) d;have d:=((d.drop k6).pick k0).pick k1;cF N (cE (S:=S5) (x:=x5) ?_ N (0,([]:List aD)) _ _ ⟨none,(0,(noH 0)),f.kp Z,d⟩ ax)
 clear F f d
 rintro ⟨x,O⟩ a7 a w KB5 ⟨V,B,f,d⟩ F ad a0
 refine zS λK h=>sp 1 f Z λa f=>zT h (wp_seq_k λK8 h8=>zI f Z F ?_ ?_) <;> intro F
 ·refine wp_skip (h8 _ _ (wp_seq_k λK9 h9=>wp_block (zS λK h=>aH F λD ar F=>?_)))
  obtain ⟨a5,o,hd,qa,qp,qr⟩:=s.atm ar
  refine zP f Z (pIA Tryz.underlying24 tV Z Z qa) λa f=>zE f d Z (iY (vs:=[i6 D.Places,.slice hd.1 D.Order.length hd.2]) aF1 Z Z (cY qp (n:=2) (o':=0) Z)) λa w f d=>zA f d aMu Z λz a w f d=>zW f d tV u0 Z λw d=>zT h (aH F λJ av F=>aH F λun a3 F=>have d:=d.nilRow 0 0;have d:=d.nilRow 0 0;jV (λθ=>[f0 2 (pq q),f0 3 (pq X),f0 5 (pq z),f0 11 (.slice I r.Stations.length H),f0 12 (i6 ((r.Stations.length:Nat):Int)),f0 13 (i6 x),f1 0 17 (.pointer (some ⟨X,1,none⟩)),f1 1 18 (.slice V O.length B.1),f1 2 19 (pq z),f1 3 20 (i6 D.Places),f1 4 21 (.pointer (some ⟨z,1,none⟩)),f1 5 22 (.slice hd.1 D.Order.length hd.2),f1 6 23 (.slice ((θ 48).p) J.length ((θ 48).c)),f1 7 24 (.agg #[i6 D.Places,.slice ((θ 48).p) J.length ((θ 48).c)]),f1 8 25 (.slice (some ⟨(θ 64).b,0,none⟩) 1 1),f1 9 26 (.slice ((θ 72).p) ((O++[(⟨D.Places,J⟩:aD)]).length) ((θ 72).c)),f1 10 27 (.pointer (some ⟨X,1,none⟩))]) (λE θ=>(bif E 8 then .row (some ⟨(θ 64).b,0,none⟩) 1 (([(((θ 48).p,(θ 48).c),(⟨D.Places,J⟩:aD))]:List (H2 × aD)).map (Kd.v bD)) 41 2 else .row none 0 [] 0 0)::(bif E 6 then .row ((θ 48).p) ((θ 48).c) (J.map aF) 3 1 else .row none 0 [] 0 0)::.box z [i6 D.Places,.slice hd.1 D.Order.length hd.2] 41::(bif E 9 then .row ((θ 72).p) ((θ 72).c) (((aO B.2 O)++([(((θ 48).p,(θ 48).c),(⟨D.Places,J⟩:aD))]:List (H2 × aD))).map (Kd.v bD)) 41 2 else .row V B.1 ((aO B.2 O).map (Kd.v bD)) 41 2)::bX bD (aO B.2 O)::(bif E 11 then .box X [.slice U R.length M.1,.slice ((θ 72).p) ((O++[(⟨D.Places,J⟩:aD)]).length) ((θ 72).c)] 26 else .box X [.slice U R.length M.1,.slice V O.length B.1] 26)::.row U M.1 ((aO M.2 R).map (Kd.v aT)) 22 1::bX aT (aO M.2 R)::.box q [.slice none 0 0,.slice none 0 0] 26::Lf) [(7,6),(11,1),(8,7),(9,6),(11,9)] (λa w=>∃ (am:Nat) (af:Option Addr) (ag:Nat) (aa:Option Addr) (y:Nat),Has 30 a [(2,pq q),(3,pq X),(11,.slice I r.Stations.length H),(12,i6 ((r.Stations.length:Nat):Int)),(13,i6 x)]∧Ctx G (.row (sa am) 1 (([((af,ag),(⟨D.Places,J⟩:aD))]:List (H2 × aD)).map (Kd.v bD)) 41 2::.row af ag (J.map aF) 3 1::.box z [i6 D.Places,.slice hd.1 D.Order.length hd.2] 41::.row aa y (((aO B.2 O)++([((af,ag),(⟨D.Places,J⟩:aD))]:List (H2 × aD))).map (Kd.v bD)) 41 2::bX bD (aO B.2 O)::.box X [.slice U R.length M.1,.slice aa ((O++[(⟨D.Places,J⟩:aD)]).length) y] 26::.row U M.1 ((aO M.2 R).map (Kd.v aT)) 22 1::bX aT (aO M.2 R)::.box q [.slice none 0 0,.slice none 0 0] 26::Lf) w) aU (by kernel_rfl) (by kernel_rfl) (iW.of f ⟨Z,Z,Z,Z,Z,Z,trivial,trivial,trivial,trivial,trivial,trivial,trivial,trivial,trivial,trivial,trivial,trivial⟩) d ⟨?_,?_,?_,?_,?_,?_,?_,?_,?_,?_,?_,?_,trivial⟩ ?_ ?_)
  ·exact λE θ a w hD hi hp he d=>have f:=he.h0.mT he 1 Z;zP f Z (pFA fH Z) λa f=>zD θ he hi f 6 Z Z Z d
  ·refine λE θ a w hD hi hp he d=>have e0:=hp.o 0 Z;have m:=hD.f 1 Z hi;?_
   try dsimp only at d
   rw [m] at d
   refine have f:=he.h0.mP he 6 Z e0;zL f d pB m5 Z λa w f d=>zD θ he hi f 7 Z Z Z ?_
   try dsimp only
   rw [cR 1 m Z]
   exact d
  ·exact λE θ a w hD hi hp he d=>have f:=he.h0.mT he 2 Z;zP f Z (pFA wL Z) λa f=>zD θ he hi f 8 Z Z Z d
  ·exact λE θ a w hD hi hp he d=>have e2:=hp.o 2 Z;have f:=he.h0.mP he 8 Z e2;zL f d aZ m2 Z λa w f d=>zD θ he hi f 9 Z Z Z d
  ·exact λE θ a w hD hi hp he d=>have f:=he.h0.mT he 2 Z;zP f Z (pFA wP Z) λa f=>zD θ he hi f 10 Z Z Z d
  ·exact λE θ a w hD hi hp he d=>have e4:=hp.o 4 Z;have f:=he.h0.mP he 10 Z e4;zL f d eL m2 Z λa w f d=>zD θ he hi f 11 Z Z Z d
  ·refine λE θ a w hD hi hp he d=>have e5:=hp.o 5 Z;have e7:=hD.f 0 Z hi;have e8:=hD.f 2 Z e7;have e9:=hD.f 3 Z hi;?_
   try dsimp only at d
   rw [hi,e8,e9] at d
   refine have f:=he.h0.mP he 11 Z e5;zC f (eN 16) Z (rQ D.Order qr d av) ?_
   rintro _ w ⟨a4,az,rfl,d⟩
   refine ⟨_,Z,λa f=>aN (eS (λds u ai=>have d:=((d.drop k2).pick k0).pick k1;?_))⟩
   refine ⟨(qR θ 48 ⟨0,a4,az,(λ_=>(none,0))⟩),he.put hi ai f Z [7] ⟨⟨e7,Z⟩,trivial⟩ ⟨qq,qq,qq,qq,qq,qq,qq,qq,qq,qq,qq,qq,qq,trivial,qq,qq,qq,trivial⟩,?_⟩
   try dsimp only
   rw [bE E 6,cR 6 e8 Z,cR 6 e9 Z]
   exact d
  ·exact λE θ a w hD hi hp he d=>have e3:=hp.o 3 Z;have e6:=hp.o 6 Z;have f:=(he.h0.mP he 9 Z e3).mP he 12 Z e6;zP f Z (bS (cells:=[i6 D.Places,.slice ((θ 48).p) J.length ((θ 48).c)]) aHm Z Z) λa f=>zD θ he hi f 13 Z Z Z d
  ·refine λE θ a w hD hi hp he d=>have e7:=hp.o 7 Z;have e6:=hD.t 0 Z e7;?_
   try dsimp only at d
   rw [hi,e6] at d
   refine have f:=he.h0.mP he 13 Z e7;gN (rows:=([(((θ 48).p,(θ 48).c),(⟨D.Places,J⟩:aD))]:List (H2 × aD)).map (Kd.v bD)) (vs:=[(0,.agg #[i6 D.Places,.slice ((θ 48).p) J.length ((θ 48).c)])]) f d Z Z aI6 Z ⟨Z,Z,Z,trivial⟩ Z Z λay a w f d=>aN (eS (λds u ai=>have d:=d.drop k1;?_))
   refine ⟨(qR θ 64 ⟨ay,none,0,(λ_=>(none,0))⟩),he.put hi ai f Z [] trivial ⟨qq,qq,qq,qq,qq,qq,qq,qq,qq,qq,qq,qq,qq,qq,qq,qq,qq,trivial⟩,?_⟩
   try dsimp only
   rw [bE E 8,eD 8 e6]
   exact d
  ·refine λE θ a w hD hi hp he d=>have e1:=hp.o 1 Z;have e8:=hp.o 8 Z;have m:=hD.f 4 Z hi;?_
   try dsimp only at d
   rw [e8,hi,m] at d
   refine have f:=(he.h0.mP he 7 Z e1).mP he 14 Z e8;mV (xs:=(aO B.2 O)) (ys:=([(((θ 48).p,(θ 48).c),(⟨D.Places,J⟩:aD))]:List (H2 × aD))) f d Z Z aI6 Z Z (eF _ _).symm Z Z aFn (gL d m0) (λ_ _=>u3) (by simpa [eF] using cZ a3) λap an a w f d=>have f:=mQ (v':=.slice ap (O++[(⟨D.Places,J⟩:aD)]).length an) (by simp [eF]) f;aN (eS (λds u ai=>?_))
   refine ⟨(qR θ 72 ⟨0,ap,an,(λ_=>(none,0))⟩),he.put hi ai f Z [] trivial ⟨qq,qq,qq,qq,qq,qq,qq,qq,qq,qq,qq,qq,qq,qq,qq,qq,qq,trivial⟩,?_⟩
   try dsimp only
   rw [eD 9 e8,bE E 9,cR 9 m Z]
   exact d
  ·exact λE θ a w hD hi hp he d=>have f:=he.h0.mT he 1 Z;zP f Z (pFA fH Z) λa f=>zD θ he hi f 16 Z Z Z d
  ·refine λE θ a w hD hi hp he d=>have e9:=hp.o 9 Z;have a2:=hp.o 10 Z;?_
   try dsimp only at d
   rw [hi] at d
   refine have f:=(he.h0.mP he 15 Z e9).mP he 16 Z a2;zW f d aSo u5 Z λw d=>zG θ he hi f Z ?_
   try dsimp only
   rw [bE E 11]
   exact d
  ·refine λE θ a w ab he d=>have f:=he.h0;have e6:=ab 6 Z;have e8:=ab 8 Z;have e9:=ab 9 Z;have m:=ab 11 Z;have f:=f.more he 5 Z (onT);have f:=f.more he 4 Z (onT);have f:=f.more he 3 Z (onT);have f:=f.more he 1 Z (onT);have f:=f.more he 0 Z (onT);?_
   try dsimp only at d
   rw [e6,e8,e9,m] at d
   exact ⟨(θ 64).b,(θ 48).p,(θ 48).c,(θ 72).p,(θ 72).c,f.kp Z,d⟩
  rintro a w ⟨am,af,ag,aa,y,f,d⟩
  replace d:=((((d.drop k0).pick k1).pick k1).pick k3).pick k3
  obtain ⟨aj,d⟩:=aA6 (K:=bD) ([((af,ag),(⟨D.Places,J⟩:aD))]:List (H2 × aD)) d
  exact have d:Ctx G (.row aa y ((aO aj (O++[(⟨D.Places,J⟩:aD)])).map (Kd.v bD)) 41 2::bX bD (aO aj (O++[(⟨D.Places,J⟩:aD)]))::.box z [i6 D.Places,.slice hd.1 D.Order.length hd.2] 41::.box X [.slice U R.length M.1,.slice aa ((O++[(⟨D.Places,J⟩:aD)]).length) y] 26::.row U M.1 ((aO M.2 R).map (Kd.v aT)) 22 1::bX aT (aO M.2 R)::.box q [.slice none 0 0,.slice none 0 0] 26::Lf) w:=d;h9 _ _ (bK (sp 2 f Z λa f=>aN (have d:=d.drop k2;a0 (W (x + 1),(O++[(⟨D.Places,J⟩:aD)])) _ _ (sj F).symm ⟨aa,(y,aj),f.kp Z,d⟩)))
 ·exact wp_exit (aP (aP (have ad:=cB F ad;cX (a1 _ _ _ ad ⟨V,B,f.kp Z,d⟩))))

def nO (N:Nat) (l:List aA):Option ((List aA)) :=
 Option.bind (room (l).length) λun=>
 some l
theorem aAd {I:Option Addr} {J:Nat} (l:List aA) (R:Rd G 2 I J (l.map aM)) (d:Ctx G (Lf) w) {B:(List aA)} (F:nO N l=some B):Calls Tryz.prog 17 #[.slice I l.length J] w (λe w=>∃ (H:Option Addr) (D:Nat),e=.returned (.slice H B.length D)∧Ctx G (.row H D (B.map aM) 29 2::Lf) w):=by
 refine bY Tryz.func17 Z Tryz.ntmps17 Z λa f=>zS λK h=>sp 1 f Z λa f=>zT h (zS λK h=>sp 1 f Z λa f=>zT h (zS λK h=>sp 2 f Z λa f=>have d:=d.nilRow 29 2;aH F λun S F=>mV (xs:=([]:List aA)) (ys:=l) f d Z Z aHi Z Z Z Z Z oL (aDn d R) (λ_ _=>u0) (by simpa using cZ S) λO M a w f d=>sp 1 f Z λa f=>zT h ?_))
 refine wp_ret ?_
 obtain rfl:=sj F
 exact zO1 Tryz.results17 f Z ⟨O,M,Z,d⟩

def mD (N:Nat) (r:aB) (x:Int) (B:List bL):Option (bC (Int × (List bL)) (bR)) :=
 cond (decide (x < ((r.Stations.length:Nat):Int)))
 (Option.bind (aQ r.Stations x) λD=>
 Option.bind (gO N D.Order) λH=>
 Option.bind (room ((B++[(⟨D.Places,H⟩:bL)])).length) λun=>
 some (.cont (W (x + 1),(B++[(⟨D.Places,H⟩:bL)]))))
 (some (.brk (x,B)))
def iD (N:Nat) (r:aB):Option (bR) :=
 Option.bind (oJ N r.People) λB=>
 Option.bind (aS (λs5=>mD N r s5.1 s5.2) N (0,([]:List bL))) λx5=>
 exK x5 (λs5=>some (⟨B,s5.2⟩:bR)) some
theorem rJ {Y I:Option Addr} {g H:Nat} (r:aB) (ac:RdT aT G 1 Y g r.People) (s:RdT bD G 2 I H r.Stations) (d:Ctx G (Lf) w) {i:bR} (F:iD N r=some i):Calls Tryz.prog 19 #[.agg #[.slice Y r.People.length g,.slice I r.Stations.length H]] w (λe w=>∃ (aq:Option Addr) (j:aAf) (ak:Option Addr) (k:aAf),e=.returned (.agg #[.slice aq i.People.length j.1,.slice ak i.Stations.length k.1])∧Ctx G (.row aq j.1 ((aO j.2 i.People).map (Kd.v aT)) 22 1::bX aT (aO j.2 i.People)::.row ak k.1 ((aO k.2 i.Stations).map (Kd.v iZ)) 125 2::bX iZ (aO k.2 i.Stations)::Lf) w):=by
 refine bY Tryz.func19 Z Tryz.ntmps19 Z λa f=>zS λK h=>zB f d Z λa8 a w f d=>zA f d aR8 Z λq a w f d=>zT h (zS λK h=>zP f Z (pFA iG Z) λa f=>zL f d gR m1 Z λa w f d=>aH F λR au F=>zC f (eN 67) Z (wU r.People ac d au) ?_)
 rintro _ w ⟨U,M,rfl,d⟩
 refine ⟨_,Z,λa f=>zP f Z (bS (cells:=[.slice U R.length M.1,.slice none 0 0]) bt_65 Z Z) λa f=>zA f d aR8 Z λX a w f d=>zW f d aSs u0 Z λw d=>zT h (wp_seq_k λK3 h3=>zS λK h=>zP f Z (pFA fH Z) λa f=>zL f d pB m4 Z λa w f d=>zP f Z (bA Tryz.underlying24 Z) λa f=>sp 1 f Z λa f=>zT h (wp_block (aH F λx5 ax F=>?_)))⟩
 let S5:(Int × (List bL))→Act→World→Prop:=(λ(zz:Int × (List bL)) a w=>∃ (V:Option Addr) (B:aAf),Has 30 a [(2,pq q),(3,pq X),(11,.slice I r.Stations.length H),(12,i6 ((r.Stations.length:Nat):Int)),(13,i6 zz.1)]∧Ctx G (.row V B.1 ((aO B.2 zz.2).map (Kd.v iZ)) 125 2::bX iZ (aO B.2 zz.2)::.box X [.slice U R.length M.1,.slice V zz.2.length B.1] 65::.row U M.1 ((aO M.2 R).map (Kd.v aT)) 22 1::bX aT (aO M.2 R)::.box q [.slice none 0 0,.slice none 0 0] 65::Lf) w)
 have a1:∀ (zz:Int × (List bL)) a w,x5=.go zz→S5 zz a w→K3 a w:=by
  rintro ⟨x,O⟩ a w rfl ⟨V,B,f,d⟩
  refine have F:=bI F;h3 _ _ (zS λK h=>zN f d aBm m2 Z λa w f d=>zW f d aSs u5 Z λw d=>zT h (wp_ret ?_))
  obtain rfl:=sj F
  exact have d:=((((d.drop k2).pick k1).pick k1).pick k3).pick k3;yY (by simp) Z Tryz.results19 f d (eE (vs:=[.slice U R.length M.1,.slice V O.length B.1]) aBm Z Z (bT (n:=2) m4 Z)) ⟨U,M,V,B,Z,(d.drop k4)⟩
 have a6:∀ r,x5=.out r→r=i:=by
  rintro r rfl
  exact sj F
 refine have d:=d.nilRow 125 2;have d:=aEk (K:=iZ) (hs:=(noH 0)) d;have d:=((d.drop k6).pick k0).pick k1;cF N (cE (S:=S5) (x:=x5) ?_ N (0,([]:List bL)) _ _ ⟨none,(0,(noH 0)),f.kp Z,d⟩ ax)
 clear F f d
 rintro ⟨x,O⟩ a7 a w KB5 ⟨V,B,f,d⟩ F ad a0
 refine zS λK h=>sp 1 f Z λa f=>zT h (wp_seq_k λK8 h8=>zI f Z F ?_ ?_) <;> intro F
 ·refine wp_skip (h8 _ _ (wp_seq_k λK9 h9=>wp_block (zS λK h=>aH F λD ar F=>?_)))
  obtain ⟨a5,o,hd,qa,qp,qr⟩:=s.atm ar
  refine zP f Z (pIA Tryz.underlying24 tV Z Z qa) λa f=>zE f d Z (iY (vs:=[i6 D.Places,.slice hd.1 D.Order.length hd.2]) aF1 Z Z (cY qp (n:=2) (o':=0) Z)) λa w f d=>zA f d aMu Z λz a w f d=>zW f d tV u0 Z λw d=>zT h (aH F λJ av F=>aH F λun a3 F=>have d:=d.nilRow 0 0;have d:=d.nilRow 0 0;jV (λθ=>[f0 2 (pq q),f0 3 (pq X),f0 5 (pq z),f0 11 (.slice I r.Stations.length H),f0 12 (i6 ((r.Stations.length:Nat):Int)),f0 13 (i6 x),f1 0 17 (.pointer (some ⟨X,1,none⟩)),f1 1 18 (.slice V O.length B.1),f1 2 19 (pq z),f1 3 20 (i6 D.Places),f1 4 21 (.pointer (some ⟨z,1,none⟩)),f1 5 22 (.slice hd.1 D.Order.length hd.2),f1 6 23 (.slice ((θ 48).p) J.length ((θ 48).c)),f1 7 24 (.agg #[i6 D.Places,.slice ((θ 48).p) J.length ((θ 48).c)]),f1 8 25 (.slice (some ⟨(θ 64).b,0,none⟩) 1 1),f1 9 26 (.slice ((θ 72).p) ((O++[(⟨D.Places,J⟩:bL)]).length) ((θ 72).c)),f1 10 27 (.pointer (some ⟨X,1,none⟩))]) (λE θ=>(bif E 8 then .row (some ⟨(θ 64).b,0,none⟩) 1 (([(((θ 48).p,(θ 48).c),(⟨D.Places,J⟩:bL))]:List (H2 × bL)).map (Kd.v iZ)) 125 2 else .row none 0 [] 0 0)::(bif E 6 then .row ((θ 48).p) ((θ 48).c) (J.map aF) 3 1 else .row none 0 [] 0 0)::.box z [i6 D.Places,.slice hd.1 D.Order.length hd.2] 41::(bif E 9 then .row ((θ 72).p) ((θ 72).c) (((aO B.2 O)++([(((θ 48).p,(θ 48).c),(⟨D.Places,J⟩:bL))]:List (H2 × bL))).map (Kd.v iZ)) 125 2 else .row V B.1 ((aO B.2 O).map (Kd.v iZ)) 125 2)::bX iZ (aO B.2 O)::(bif E 11 then .box X [.slice U R.length M.1,.slice ((θ 72).p) ((O++[(⟨D.Places,J⟩:bL)]).length) ((θ 72).c)] 65 else .box X [.slice U R.length M.1,.slice V O.length B.1] 65)::.row U M.1 ((aO M.2 R).map (Kd.v aT)) 22 1::bX aT (aO M.2 R)::.box q [.slice none 0 0,.slice none 0 0] 65::Lf) [(7,6),(11,1),(8,7),(9,6),(11,9)] (λa w=>∃ (am:Nat) (af:Option Addr) (ag:Nat) (aa:Option Addr) (y:Nat),Has 30 a [(2,pq q),(3,pq X),(11,.slice I r.Stations.length H),(12,i6 ((r.Stations.length:Nat):Int)),(13,i6 x)]∧Ctx G (.row (sa am) 1 (([((af,ag),(⟨D.Places,J⟩:bL))]:List (H2 × bL)).map (Kd.v iZ)) 125 2::.row af ag (J.map aF) 3 1::.box z [i6 D.Places,.slice hd.1 D.Order.length hd.2] 41::.row aa y (((aO B.2 O)++([((af,ag),(⟨D.Places,J⟩:bL))]:List (H2 × bL))).map (Kd.v iZ)) 125 2::bX iZ (aO B.2 O)::.box X [.slice U R.length M.1,.slice aa ((O++[(⟨D.Places,J⟩:bL)]).length) y] 65::.row U M.1 ((aO M.2 R).map (Kd.v aT)) 22 1::bX aT (aO M.2 R)::.box q [.slice none 0 0,.slice none 0 0] 65::Lf) w) aU (by kernel_rfl) (by kernel_rfl) (iW.of f ⟨Z,Z,Z,Z,Z,Z,trivial,trivial,trivial,trivial,trivial,trivial,trivial,trivial,trivial,trivial,trivial,trivial⟩) d ⟨?_,?_,?_,?_,?_,?_,?_,?_,?_,?_,?_,?_,trivial⟩ ?_ ?_)
  ·exact λE θ a w hD hi hp he d=>have f:=he.h0.mT he 1 Z;zP f Z (pFA kV Z) λa f=>zD θ he hi f 6 Z Z Z d
  ·refine λE θ a w hD hi hp he d=>have e0:=hp.o 0 Z;have m:=hD.f 1 Z hi;?_
   try dsimp only at d
   rw [m] at d
   refine have f:=he.h0.mP he 6 Z e0;zL f d uP m5 Z λa w f d=>zD θ he hi f 7 Z Z Z ?_
   try dsimp only
   rw [cR 1 m Z]
   exact d
  ·exact λE θ a w hD hi hp he d=>have f:=he.h0.mT he 2 Z;zP f Z (pFA wL Z) λa f=>zD θ he hi f 8 Z Z Z d
  ·exact λE θ a w hD hi hp he d=>have e2:=hp.o 2 Z;have f:=he.h0.mP he 8 Z e2;zL f d aZ m2 Z λa w f d=>zD θ he hi f 9 Z Z Z d
  ·exact λE θ a w hD hi hp he d=>have f:=he.h0.mT he 2 Z;zP f Z (pFA wP Z) λa f=>zD θ he hi f 10 Z Z Z d
  ·exact λE θ a w hD hi hp he d=>have e4:=hp.o 4 Z;have f:=he.h0.mP he 10 Z e4;zL f d eL m2 Z λa w f d=>zD θ he hi f 11 Z Z Z d
  ·refine λE θ a w hD hi hp he d=>have e5:=hp.o 5 Z;have e7:=hD.f 0 Z hi;have e8:=hD.f 2 Z e7;have e9:=hD.f 3 Z hi;?_
   try dsimp only at d
   rw [hi,e8,e9] at d
   refine have f:=he.h0.mP he 11 Z e5;zC f (eN 16) Z (rQ D.Order qr d av) ?_
   rintro _ w ⟨a4,az,rfl,d⟩
   refine ⟨_,Z,λa f=>aN (eS (λds u ai=>have d:=((d.drop k2).pick k0).pick k1;?_))⟩
   refine ⟨(qR θ 48 ⟨0,a4,az,(λ_=>(none,0))⟩),he.put hi ai f Z [7] ⟨⟨e7,Z⟩,trivial⟩ ⟨qq,qq,qq,qq,qq,qq,qq,qq,qq,qq,qq,qq,qq,trivial,qq,qq,qq,trivial⟩,?_⟩
   try dsimp only
   rw [bE E 6,cR 6 e8 Z,cR 6 e9 Z]
   exact d
  ·exact λE θ a w hD hi hp he d=>have e3:=hp.o 3 Z;have e6:=hp.o 6 Z;have f:=(he.h0.mP he 9 Z e3).mP he 12 Z e6;zP f Z (bS (cells:=[i6 D.Places,.slice ((θ 48).p) J.length ((θ 48).c)]) aSy Z Z) λa f=>zD θ he hi f 13 Z Z Z d
  ·refine λE θ a w hD hi hp he d=>have e7:=hp.o 7 Z;have e6:=hD.t 0 Z e7;?_
   try dsimp only at d
   rw [hi,e6] at d
   refine have f:=he.h0.mP he 13 Z e7;gN (rows:=([(((θ 48).p,(θ 48).c),(⟨D.Places,J⟩:bL))]:List (H2 × bL)).map (Kd.v iZ)) (vs:=[(0,.agg #[i6 D.Places,.slice ((θ 48).p) J.length ((θ 48).c)])]) f d Z Z aSf Z ⟨Z,Z,Z,trivial⟩ Z Z λay a w f d=>aN (eS (λds u ai=>have d:=d.drop k1;?_))
   refine ⟨(qR θ 64 ⟨ay,none,0,(λ_=>(none,0))⟩),he.put hi ai f Z [] trivial ⟨qq,qq,qq,qq,qq,qq,qq,qq,qq,qq,qq,qq,qq,qq,qq,qq,qq,trivial⟩,?_⟩
   try dsimp only
   rw [bE E 8,eD 8 e6]
   exact d
  ·refine λE θ a w hD hi hp he d=>have e1:=hp.o 1 Z;have e8:=hp.o 8 Z;have m:=hD.f 4 Z hi;?_
   try dsimp only at d
   rw [e8,hi,m] at d
   refine have f:=(he.h0.mP he 7 Z e1).mP he 14 Z e8;mV (xs:=(aO B.2 O)) (ys:=([(((θ 48).p,(θ 48).c),(⟨D.Places,J⟩:bL))]:List (H2 × bL))) f d Z Z aSf Z Z (eF _ _).symm Z Z aMg (gL d m0) (λ_ _=>u3) (by simpa [eF] using cZ a3) λap an a w f d=>have f:=mQ (v':=.slice ap (O++[(⟨D.Places,J⟩:bL)]).length an) (by simp [eF]) f;aN (eS (λds u ai=>?_))
   refine ⟨(qR θ 72 ⟨0,ap,an,(λ_=>(none,0))⟩),he.put hi ai f Z [] trivial ⟨qq,qq,qq,qq,qq,qq,qq,qq,qq,qq,qq,qq,qq,qq,qq,qq,qq,trivial⟩,?_⟩
   try dsimp only
   rw [eD 9 e8,bE E 9,cR 9 m Z]
   exact d
  ·exact λE θ a w hD hi hp he d=>have f:=he.h0.mT he 1 Z;zP f Z (pFA kV Z) λa f=>zD θ he hi f 16 Z Z Z d
  ·refine λE θ a w hD hi hp he d=>have e9:=hp.o 9 Z;have a2:=hp.o 10 Z;?_
   try dsimp only at d
   rw [hi] at d
   refine have f:=(he.h0.mP he 15 Z e9).mP he 16 Z a2;zW f d sz_63 u5 Z λw d=>zG θ he hi f Z ?_
   try dsimp only
   rw [bE E 11]
   exact d
  ·refine λE θ a w ab he d=>have f:=he.h0;have e6:=ab 6 Z;have e8:=ab 8 Z;have e9:=ab 9 Z;have m:=ab 11 Z;have f:=f.more he 5 Z (onT);have f:=f.more he 4 Z (onT);have f:=f.more he 3 Z (onT);have f:=f.more he 1 Z (onT);have f:=f.more he 0 Z (onT);?_
   try dsimp only at d
   rw [e6,e8,e9,m] at d
   exact ⟨(θ 64).b,(θ 48).p,(θ 48).c,(θ 72).p,(θ 72).c,f.kp Z,d⟩
  rintro a w ⟨am,af,ag,aa,y,f,d⟩
  replace d:=((((d.drop k0).pick k1).pick k1).pick k3).pick k3
  obtain ⟨aj,d⟩:=aA6 (K:=iZ) ([((af,ag),(⟨D.Places,J⟩:bL))]:List (H2 × bL)) d
  exact have d:Ctx G (.row aa y ((aO aj (O++[(⟨D.Places,J⟩:bL)])).map (Kd.v iZ)) 125 2::bX iZ (aO aj (O++[(⟨D.Places,J⟩:bL)]))::.box z [i6 D.Places,.slice hd.1 D.Order.length hd.2] 41::.box X [.slice U R.length M.1,.slice aa ((O++[(⟨D.Places,J⟩:bL)]).length) y] 65::.row U M.1 ((aO M.2 R).map (Kd.v aT)) 22 1::bX aT (aO M.2 R)::.box q [.slice none 0 0,.slice none 0 0] 65::Lf) w:=d;h9 _ _ (bK (sp 2 f Z λa f=>aN (have d:=d.drop k2;a0 (W (x + 1),(O++[(⟨D.Places,J⟩:bL)])) _ _ (sj F).symm ⟨aa,(y,aj),f.kp Z,d⟩)))
 ·exact wp_exit (aP (aP (have ad:=cB F ad;cX (a1 _ _ _ ad ⟨V,B,f.kp Z,d⟩))))

def aK (n:Int) (a_:Int) (b_:Int):Bool :=
 ((decide (n < a_)) || (decide (b_ < n)))
theorem cM (n a_ b_:Int) (d:Ctx G (Lf) w) {B:Bool} (F:aK n a_ b_=B):Cz G 69 #[i6 n,i6 a_,i6 b_] w (.bool B) (Lf):=by
 refine bY Tryz.func69 Z Tryz.ntmps69 Z λa f=>zS λK h=>sp 1 f Z λa f=>zT h (zS λK h=>sp 4 f Z λa f=>cV 4 (λa=>Has 15 a [(6,.bool false),(14,.bool ((decide (n < a_)) || (decide (b_ < n))))]) d ?_ ?_)
 ·cases hb:(decide (n < a_)) <;> (rw [hb] at f;exact sp 4 f Z λa f=>aN ⟨f.kp Z,d⟩)
 intro a w ⟨f,d⟩
 refine sp 1 f Z λa f=>zT h (wp_ret ?_)
 obtain rfl:=F
 exact zO1 Tryz.results69 f Z ⟨Z,d⟩

def yU (N:Nat) (l:List Int) (n:Int) (B:Int):Option (bC (Int) (Int)) :=
 cond (decide (B < ((l.length:Nat):Int)))
 (Option.bind (aQ l B) λD=>
 cond (D == n)
 (some (.ret B))
 (some (.cont (W (B + 1)))))
 (some (.brk B))
def eH (N:Nat) (l:List Int) (n:Int):Option (Int) :=
 Option.bind (aS (λs4=>yU N l n s4) N 0) λx4=>
 exK x4 (λs4=>some (-1)) some
theorem gY {H:Option Addr} {I:Nat} (l:List Int) (n:Int) (R:Rd G 1 H I (l.map aF)) (d:Ctx G (Lf) w) {D:Int} (F:eH N l n=some D):Cz G 83 #[.slice H l.length I,i6 n] w (i6 D) (Lf):=by
 refine bY Tryz.func83 Z Tryz.ntmps83 Z λa f=>zS λK h=>sp 1 f Z λa f=>zT h (wp_seq_k λK2 h2=>zS λK h=>sp 1 f Z λa f=>zT h (wp_block (aH F λx4 X F=>?_)))
 let S4:Int→Act→World→Prop:=(λ(zz:Int) a w=>Has 19 a [(0,.slice H l.length I),(1,i6 n),(5,i6 zz)]∧Ctx G (Lf) w)
 have U:∀ (zz:Int) a w,x4=.go zz→S4 zz a w→K2 a w:=by
  rintro J a w rfl ⟨f,d⟩
  refine have F:=bI F;h2 _ _ (zS λK h=>sp 1 f Z λa f=>zT h (wp_ret ?_))
  obtain rfl:=sj F
  exact zO1 Tryz.results83 f Z ⟨Z,d⟩
 have O:∀ r,x4=.out r→r=D:=by
  rintro r rfl
  exact sj F
 refine cF N (cE (S:=S4) (x:=x4) ?_ N 0 _ _ ⟨f.kp Z,d⟩ X)
 clear F f d
 rintro J b a w KB4 ⟨f,d⟩ F B V
 unfold yU at F
 refine wp_seq_k λK6 h6=>zS λK h=>sp 2 f Z λa f=>zP f Z (bA Tryz.underlying22 Z) λa f=>sp 1 f Z λa f=>zT h (zI f Z F ?_ ?_) <;> intro F
 ·refine wp_skip (h6 _ _ (wp_seq_k λK8 h8=>wp_block (zS λK h=>sp 2 f Z λa f=>aH F λY M F=>?_)))
  obtain ⟨g,o,qa,qp⟩:=R.atm M
  refine zP f Z (pIA Tryz.underlying22 cS Z Z qa) λa f=>zE f d Z (bB aZ Z (aV (j:=0) qp Z)) λa w f d=>sp 2 f Z λa f=>zT h (zI f Z F ?_ ?_) <;> intro F
  ·refine zS λK h=>sp 2 f Z λa f=>zT h (wp_ret (bG (aL (aL (have B:=cB F B;have F:=O _ B;bG (aL ?_))))))
   obtain rfl:=F
   exact zO1 Tryz.results83 f Z ⟨Z,d⟩
  ·exact wp_skip (h8 _ _ (bK (sp 3 f Z λa f=>aN (V (W (J + 1)) _ _ (sj F).symm ⟨f.kp Z,d⟩))))
 ·exact wp_exit (aP (aP (have B:=cB F B;cX (U _ _ _ B ⟨f.kp Z,d⟩))))

def rI (N:Nat) (D:Int) (B:Int):Option (bC (Int × Int) (Int)) :=
 some (.cont (B,W (D + 1)))
def jN (N:Nat) (l:List Int) (D:Int) (out:Int) (B:Int):Option (bC (Int × Int) (Int)) :=
 cond (decide (B < ((l.length:Nat):Int)))
 (Option.bind (aQ l B) λI=>
 cond (aK I 0 (W (D - 1)))
 (some (.ret 1))
 (Option.bind (aQ l B) λH=>
 Option.bind (eH N l H) λr=>
 cond (decide (r < B))
 (rI N B 2)
 (rI N B out)))
 (some (.brk (out,B)))
def tB (N:Nat) (l:List Int) (B:Int):Option (Int) :=
 Option.bind (aS (λs5=>jN N l B s5.1 s5.2) N (0,0)) λx5=>
 exK x5 (λs5=>some s5.1) some
theorem aBq {I:Option Addr} {J:Nat} (l:List Int) (B:Int) (R:Rd G 1 I J (l.map aF)) (d:Ctx G (Lf) w) {O:Int} (F:tB N l B=some O):Cz G 68 #[.slice I l.length J,i6 B] w (i6 O) (Lf):=by
 refine bY Tryz.func68 Z Tryz.ntmps68 Z λa f=>zS λK h=>sp 1 f Z λa f=>zT h (zS λK h=>sp 1 f Z λa f=>zT h (wp_seq_k λK3 h3=>zS λK h=>sp 1 f Z λa f=>zT h (wp_block (aH F λx5 n F=>?_))))
 let S5:(Int × Int)→Act→World→Prop:=(λ(zz:Int × Int) a w=>Has 29 a [(0,.slice I l.length J),(1,i6 B),(5,i6 zz.1),(6,i6 zz.2)]∧Ctx G (Lf) w)
 have m:∀ (zz:Int × Int) a w,x5=.go zz→S5 zz a w→K3 a w:=by
  rintro ⟨out,M⟩ a w rfl ⟨f,d⟩
  refine have F:=bI F;h3 _ _ (zS λK h=>sp 2 f Z λa f=>zT h (wp_ret ?_))
  obtain rfl:=sj F
  exact zO1 Tryz.results68 f Z ⟨Z,d⟩
 have i:∀ r,x5=.out r→r=O:=by
  rintro r rfl
  exact sj F
 refine cF N (cE (S:=S5) (x:=x5) ?_ N (0,0) _ _ ⟨f.kp Z,d⟩ n)
 clear F f d
 rintro ⟨out,M⟩ p a w KB5 ⟨f,d⟩ F D k
 unfold jN at F
 refine wp_seq_k λK7 h7=>zS λK h=>sp 2 f Z λa f=>zP f Z (bA Tryz.underlying22 Z) λa f=>sp 1 f Z λa f=>zT h (zI f Z F ?_ ?_) <;> intro F
 ·refine wp_skip (h7 _ _ (wp_seq_k λK9 h9=>?_))
  have U:∀ (H:Int) a w,Has 29 a [(0,.slice I l.length J),(1,i6 B),(5,i6 H),(6,i6 M)]→Ctx G (Lf) w→rI N M H=some p→K9 a w:=by
   repeat first | clear F | clear d | clear f
   intro H a w f d F
   unfold rI at F
   exact h9 _ _ (bK (sp 3 f Z λa f=>aN (k (H,W (M + 1)) _ _ (sj F).symm ⟨f.kp Z,d⟩)))
  refine wp_block (wp_seq_k λK10 s=>zS λK h=>sp 2 f Z λa f=>aH F λV g F=>?_)
  obtain ⟨u,o,qa,qp⟩:=R.atm g
  refine zP f Z (pIA Tryz.underlying22 cS Z Z qa) λa f=>zE f d Z (bB aZ Z (aV (j:=0) qp Z)) λa w f d=>sp 2 f Z λa f=>zQ (v:=.bool (aK V 0 (W (B - 1)))) f d (eN 69) Z (λw d=>cM V 0 (W (B - 1)) d Z) λa w f d=>zT h (zI f Z F ?_ ?_) <;> intro F
  ·refine zS λK h=>sp 1 f Z λa f=>zT h (wp_ret (aL (bG (aL (aL (have D:=cB F D;have F:=i _ D;bG (aL ?_)))))))
   obtain rfl:=F
   exact zO1 Tryz.results68 f Z ⟨Z,d⟩
  ·refine wp_skip (s _ _ (zS λK h=>sp 3 f Z λa f=>aH F λq X F=>?_))
   obtain ⟨y,t,b,Y⟩:=R.atm X
   refine zP f Z (pIA Tryz.underlying22 cS Z Z b) λa f=>zE f d Z (bB aZ Z (aV (j:=0) Y Z)) λa w f d=>aH F λr hr F=>zQ (v:=i6 r) f d (eN 83) Z (λw d=>gY l q R d hr) λa w f d=>sp 2 f Z λa f=>zT h (zI f Z F ?_ ?_) <;> intro F
   ·exact bK (sp 1 f Z λa f=>aN (U 2 _ _  (f.kp Z) d F))
   ·exact wp_skip (U out _ _  (f.kp Z) d F)
 ·exact wp_exit (aP (aP (have D:=cB F D;cX (m _ _ _ D ⟨f.kp Z,d⟩))))

def iA (N:Nat) (r:bR) (B:Bool) (D:Int):Option (bC (Bool × Int) (Int)) :=
 cond (decide (D < ((r.Stations.length:Nat):Int)))
 (Option.bind (aQ r.Stations D) λM=>
 Option.bind (tB N M.Order ((r.People.length:Nat):Int)) λH=>
 Option.bind (cond (H == 1) (some true) (Option.bind (aQ r.Stations D) λJ=>
 some (aK J.Places 1 12))) λI=>
 cond I
 (some (.ret 120))
 (some (.cont ((B || (H == 2)),W (D + 1)))))
 (some (.brk (B,D)))
def kZ (N:Nat) (r:bR) (D:Bool) (B:Int):Option (bC (Bool × Int) (Int)) :=
 cond (decide (B < ((r.People.length:Nat):Int)))
 (Option.bind (aQ r.People B) λI=>
 Option.bind (tB N I ((r.Stations.length:Nat):Int)) λH=>
 cond (H == 1)
 (some (.ret 120))
 (some (.cont ((D || (H == 2)),W (B + 1)))))
 (some (.brk (D,B)))
def qK (N:Nat) (r:bR):Option (Int) :=
 cond ((((decide (((r.People.length:Nat):Int) < 1)) || (decide (12 < ((r.People.length:Nat):Int)))) || (decide (((r.Stations.length:Nat):Int) < 1))) || (decide (12 < ((r.Stations.length:Nat):Int))))
 (some 3)
 (Option.bind (aS (λs8=>kZ N r s8.1 s8.2) N (false,0)) λx8=>
 exK x8 (λs8=>Option.bind (aS (λB=>iA N r B.1 B.2) N (s8.1,0)) λD=>
 exK D (λB=>cond B.1
 (some 10)
 (some 0)) some) some)
theorem vI {H D:Option Addr} {I B:Nat} (r:bR) (X:RdT aT G 1 H I r.People) (O:RdT iZ G 2 D B r.Stations) (d:Ctx G (Lf) w) {b:Int} (F:qK N r=some b):Cz G 18 #[.agg #[.slice H r.People.length I,.slice D r.Stations.length B]] w (i6 b) (Lf):=by
 refine bY Tryz.func18 Z Tryz.ntmps18 Z λa f=>zS λK h=>zB f d Z λV a w f d=>sp 1 f Z λa f=>zT h (wp_seq_k λK2 h2=>zS λK h=>zP f Z (pFA kW Z) λa f=>zL f d gR m0 Z λa w f d=>zP f Z (bA Tryz.underlying23 Z) λa f=>sp 2 f Z λa f=>cV 5 (λa=>Has 87 a [(1,pq V),(17,.bool ((decide (((r.People.length:Nat):Int) < 1)) || (decide (12 < ((r.People.length:Nat):Int)))))]) d ?_ ?_)
 ·cases hb:(decide (((r.People.length:Nat):Int) < 1))
  ·rw [hb] at f
   exact zP f Z (pFA kW Z) λa f=>zL f d gR m0 Z λa w f d=>zP f Z (bA Tryz.underlying23 Z) λa f=>sp 2 f Z λa f=>aN ⟨f.kp Z,d⟩
  ·rw [hb] at f
   exact sp 5 f Z λa f=>aN ⟨f.kp Z,d⟩
 intro a w ⟨f,d⟩
 refine sp 1 f Z λa f=>cV 5 (λa=>Has 87 a [(1,pq V),(23,.bool (((decide (((r.People.length:Nat):Int) < 1)) || (decide (12 < ((r.People.length:Nat):Int)))) || (decide (((r.Stations.length:Nat):Int) < 1))))]) d ?_ ?_
 ·cases hb:((decide (((r.People.length:Nat):Int) < 1)) || (decide (12 < ((r.People.length:Nat):Int))))
  ·rw [hb] at f
   exact zP f Z (pFA kV Z) λa f=>zL f d uP m0 Z λa w f d=>zP f Z (bA Tryz.underlying63 Z) λa f=>sp 2 f Z λa f=>aN ⟨f.kp Z,d⟩
  ·rw [hb] at f
   exact sp 5 f Z λa f=>aN ⟨f.kp Z,d⟩
 intro a w ⟨f,d⟩
 refine sp 1 f Z λa f=>cV 5 (λa=>Has 87 a [(1,pq V),(29,.bool ((((decide (((r.People.length:Nat):Int) < 1)) || (decide (12 < ((r.People.length:Nat):Int)))) || (decide (((r.Stations.length:Nat):Int) < 1))) || (decide (12 < ((r.Stations.length:Nat):Int)))))]) d ?_ ?_
 ·cases hb:(((decide (((r.People.length:Nat):Int) < 1)) || (decide (12 < ((r.People.length:Nat):Int)))) || (decide (((r.Stations.length:Nat):Int) < 1)))
  ·rw [hb] at f
   exact zP f Z (pFA kV Z) λa f=>zL f d uP m0 Z λa w f d=>zP f Z (bA Tryz.underlying63 Z) λa f=>sp 2 f Z λa f=>aN ⟨f.kp Z,d⟩
  ·rw [hb] at f
   exact sp 5 f Z λa f=>aN ⟨f.kp Z,d⟩
 intro a w ⟨f,d⟩
 refine zT h (zI f Z F ?_ ?_) <;> intro F
 ·refine zS λK h=>sp 1 f Z λa f=>zT h (wp_ret (aL ?_))
  obtain rfl:=sj F
  exact have d:=d.drop k0;zO1 Tryz.results18 f Z ⟨Z,d⟩
 ·refine wp_skip (h2 _ _ (zS λK h=>sp 1 f Z λa f=>zT h (wp_seq_k λK6 h6=>zS λK h=>sp 1 f Z λa f=>zT h (wp_block (aH F λx8 a1 F=>?_)))))
  let S8:(Bool × Int)→Act→World→Prop:=(λ(zz:Bool × Int) a w=>Has 87 a [(1,pq V),(3,.bool zz.1),(4,i6 zz.2)]∧Ctx G (.box V [.slice H r.People.length I,.slice D r.Stations.length B] 65::Lf) w)
  have a0:∀ (zz:Bool × Int) a w,x8=.go zz→S8 zz a w→K6 a w:=by
   rintro ⟨U,n⟩ a w rfl ⟨f,d⟩
   refine have F:=bI F;h6 _ _ (wp_seq_k λK9 h9=>zS λK h=>sp 1 f Z λa f=>zT h (wp_block (aH F λi an F=>?_)))
   let S11:(Bool × Int)→Act→World→Prop:=(λ(zz:Bool × Int) a w=>Has 87 a [(1,pq V),(3,.bool zz.1),(6,i6 zz.2)]∧Ctx G (.box V [.slice H r.People.length I,.slice D r.Stations.length B] 65::Lf) w)
   have aj:∀ (zz:Bool × Int) a w,i=.go zz→S11 zz a w→K9 a w:=by
    rintro ⟨J,g⟩ a w rfl ⟨f,d⟩
    refine have F:=bI F;h9 _ _ (wp_seq_k λK12 ay=>zS λK h=>sp 1 f Z λa f=>zT h (zI f Z F ?_ ?_)) <;> intro F
    ·refine zS λK h=>sp 1 f Z λa f=>zT h (wp_ret (aL ?_))
     obtain rfl:=sj F
     exact have d:=d.drop k0;zO1 Tryz.results18 f Z ⟨Z,d⟩
    ·refine wp_skip (ay _ _ (zS λK h=>sp 1 f Z λa f=>zT h (wp_ret ?_)))
     obtain rfl:=sj F
     exact have d:=d.drop k0;zO1 Tryz.results18 f Z ⟨Z,d⟩
   have af:∀ r,i=.out r→r=b:=by
    rintro r rfl
    exact sj F
   refine cF N (cE (S:=S11) (x:=i) ?_ N (U,0) _ _ ⟨f.kp Z,d⟩ an)
   clear F f d
   rintro ⟨J,g⟩ a8 a w KB11 ⟨f,d⟩ F M ai
   unfold iA at F
   refine wp_seq_k λK16 ar=>zS λK h=>sp 1 f Z λa f=>zP f Z (pFA kV Z) λa f=>zL f d uP m0 Z λa w f d=>zP f Z (bA Tryz.underlying63 Z) λa f=>sp 1 f Z λa f=>zT h (zI f Z F ?_ ?_) <;> intro F
   ·refine wp_skip (ar _ _ (wp_seq_k λK18 a3=>wp_block (wp_seq_k λK19 a2=>aH F λq z F=>?_)))
    obtain ⟨a9,o,hd,qa,qp,qr⟩:=O.atm z
    refine aH F λY ac F=>cQ d aU (by kernel_rfl) (qU f Z (pFA kV Z) λa f=>qV f Z (bB uP Z (bN m0 Z)) λa f=>qp_ 1 f Z λa f=>qU f Z (pIA Tryz.underlying63 wC Z Z qa) λa f=>qU f Z (pFA wT Z) λa f=>qV f Z (bB eL Z (aV (j:=1) qp Z)) λa f=>qU f Z (pFA kW Z) λa f=>qV f Z (bB gR Z (bN m0 Z)) λa f=>qU f Z (bA Tryz.underlying23 Z) λa f=>qV f Z (eC (v:=i6 Y) (vs:=[.slice hd.1 q.Order.length hd.2,i6 ((r.People.length:Nat):Int)]) (caps:=[]) (eN 68) Z Z Z Z (λw d=>aBq q.Order ((r.People.length:Nat):Int) qr d ac)) λa f=>qp_ 1 f Z λa f=>λw d=>?_)
    refine a2 _ _ (wp_seq_k λK20 au=>zS λK h=>sp 3 f Z λa f=>aH F λap p F=>cV 8 (λa=>Has 87 a [(1,pq V),(3,.bool J),(6,i6 g),(7,i6 Y),(80,.bool ap)]) d ?_ ?_)
    ·cases hb:(Y == 1)
     ·rw [hb] at f
      refine have F:=eG hb p;zP f Z (pFA kV Z) λa f=>zL f d uP m0 Z λa w f d=>sp 1 f Z λa f=>aH F λs ab F=>?_
      obtain ⟨bc,bb,a7,y,u,a6⟩:=O.atm ab
      refine zP f Z (pIA Tryz.underlying63 wC Z Z y) λa f=>zP f Z (pFA aCq Z) λa f=>zE f d Z (bB aZ Z (aV (j:=0) u Z)) λa w f d=>zQ (v:=.bool (aK s.Places 1 12)) f d (eN 69) Z (λw d=>cM s.Places 1 12 d Z) λa w f d=>sp 1 f Z λa f=>?_
      obtain rfl:=sj F
      exact aN ⟨f.kp Z,d⟩
     ·rw [hb] at f
      have F:=cO hb p
      obtain rfl:=sj F
      exact sp 8 f Z λa f=>aN ⟨f.kp Z,d⟩
    intro a w ⟨f,d⟩
    refine zT h (zI f Z F ?_ ?_) <;> intro F
    ·refine zS λK h=>sp 1 f Z λa f=>zT h (wp_ret (aL (bG (aL (aL (have M:=cB F M;have F:=af _ M;bG (aL ?_)))))))
     obtain rfl:=F
     exact have d:=d.drop k0;zO1 Tryz.results18 f Z ⟨Z,d⟩
    ·refine wp_skip (au _ _ (bK (sp 2 f Z λa f=>cV 3 (λa=>Has 87 a [(1,pq V),(3,.bool J),(6,i6 g),(85,.bool (J || (Y == 2)))]) d ?_ ?_)))
     ·cases hb:J <;> (rw [hb] at f;(try rw [hb] at d);exact sp 3 f Z λa f=>aN ⟨f.kp Z,d⟩)
     intro a w ⟨f,d⟩
     exact sp 1 f Z λa f=>aN (a3 _ _ (bK (sp 3 f Z λa f=>aN (ai ((J || (Y == 2)),W (g + 1)) _ _ (sj F).symm ⟨f.kp Z,d⟩))))
   ·exact wp_exit (aP (aP (have M:=cB F M;cX (aj _ _ _ M ⟨f.kp Z,d⟩))))
  have ax:∀ r,x8=.out r→r=b:=by
   rintro r rfl
   exact sj F
  refine cF N (cE (S:=S8) (x:=x8) ?_ N (false,0) _ _ ⟨f.kp Z,d⟩ a1)
  clear F f d
  rintro ⟨U,n⟩ bf a w KB8 ⟨f,d⟩ F R av
  unfold kZ at F
  refine wp_seq_k λK23 a4=>zS λK h=>sp 1 f Z λa f=>zP f Z (pFA kW Z) λa f=>zL f d gR m0 Z λa w f d=>zP f Z (bA Tryz.underlying23 Z) λa f=>sp 1 f Z λa f=>zT h (zI f Z F ?_ ?_) <;> intro F
  ·refine wp_skip (a4 _ _ (wp_seq_k λK25 a5=>wp_block (wp_seq_k λK26 aq=>aH F λt aa F=>?_)))
   obtain ⟨ba,bd,m,ag,am,ad⟩:=X.atm aa
   refine aH F λk ak F=>cQ d aU (by kernel_rfl) (qU f Z (pFA kW Z) λa f=>qV f Z (bB gR Z (bN m0 Z)) λa f=>qp_ 1 f Z λa f=>qU f Z (pIA Tryz.underlying23 lN Z Z ag) λa f=>qV f Z (bB eL Z (aV (j:=0) am Z)) λa f=>qU f Z (pFA kV Z) λa f=>qV f Z (bB uP Z (bN m0 Z)) λa f=>qU f Z (bA Tryz.underlying63 Z) λa f=>qV f Z (eC (v:=i6 k) (vs:=[.slice m.1 t.length m.2,i6 ((r.Stations.length:Nat):Int)]) (caps:=[]) (eN 68) Z Z Z Z (λw d=>aBq t ((r.Stations.length:Nat):Int) ad d ak)) λa f=>qp_ 1 f Z λa f=>λw d=>aq _ _ ?_)
   refine wp_seq_k λK27 az=>zS λK h=>sp 2 f Z λa f=>zT h (zI f Z F ?_ ?_) <;> intro F
   ·refine zS λK h=>sp 1 f Z λa f=>zT h (wp_ret (aL (bG (aL (aL (have R:=cB F R;have F:=ax _ R;bG (aL ?_)))))))
    obtain rfl:=F
    exact have d:=d.drop k0;zO1 Tryz.results18 f Z ⟨Z,d⟩
   ·refine wp_skip (az _ _ (bK (sp 2 f Z λa f=>cV 3 (λa=>Has 87 a [(1,pq V),(3,.bool U),(4,i6 n),(52,.bool (U || (k == 2)))]) d ?_ ?_)))
    ·cases hb:U <;> (rw [hb] at f;(try rw [hb] at d);exact sp 3 f Z λa f=>aN ⟨f.kp Z,d⟩)
    intro a w ⟨f,d⟩
    exact sp 1 f Z λa f=>aN (a5 _ _ (bK (sp 3 f Z λa f=>aN (av ((U || (k == 2)),W (n + 1)) _ _ (sj F).symm ⟨f.kp Z,d⟩))))
  ·exact wp_exit (aP (aP (have R:=cB F R;cX (a0 _ _ _ R ⟨f.kp Z,d⟩))))

def gG (N:Nat) (r:bR) (p_:Int) (s_:Int):Option (Bool) :=
 Option.bind (aQ r.People p_) λJ=>
 Option.bind (eH N J s_) λD=>
 Option.bind (cond (D != (-1)) (Option.bind (aQ r.Stations s_) λI=>
 Option.bind (eH N I.Order p_) λH=>
 some (H != (-1))) (some false)) λB=>
 some B
theorem lO {H D:Option Addr} {I B:Nat} (r:bR) (p_ s_:Int) (M:RdT aT G 1 H I r.People) (J:RdT iZ G 2 D B r.Stations) (d:Ctx G (Lf) w) {R:Bool} (F:gG N r p_ s_=some R):Cz G 77 #[.agg #[.slice H r.People.length I,.slice D r.Stations.length B],i6 p_,i6 s_] w (.bool R) (Lf):=by
 refine bY Tryz.func77 Z Tryz.ntmps77 Z λa f=>zS λK h=>zB f d Z λu a w f d=>sp 1 f Z λa f=>zT h (zS λK h=>zP f Z (pFA kW Z) λa f=>zL f d gR m0 Z λa w f d=>sp 1 f Z λa f=>aH F λm b F=>?_)
 obtain ⟨x,o,hd,qa,qp,qr⟩:=M.atm b
 refine zP f Z (pIA Tryz.underlying23 lN Z Z qa) λa f=>zE f d Z (bB eL Z (aV (j:=0) qp Z)) λa w f d=>sp 1 f Z λa f=>aH F λS X F=>zQ (v:=i6 S) f d (eN 83) Z (λw d=>gY m s_ qr d X) λa w f d=>sp 2 f Z λa f=>aH F λk O F=>cV 10 (λa=>Has 26 a [(6,.bool false),(25,.bool k)]) d ?_ ?_
 ·cases hb:(S != (-1))
  ·rw [hb] at f
   have F:=eG hb O
   obtain rfl:=sj F
   exact sp 10 f Z λa f=>aN ⟨f.kp Z,d⟩
  ·rw [hb] at f
   refine have F:=cO hb O;zP f Z (pFA kV Z) λa f=>zL f d uP m0 Z λa w f d=>sp 1 f Z λa f=>aH F λp U F=>?_
   obtain ⟨t,s,q,Y,V,g⟩:=J.atm U
   refine zP f Z (pIA Tryz.underlying63 wC Z Z Y) λa f=>zP f Z (pFA wT Z) λa f=>zE f d Z (bB eL Z (aV (j:=1) V Z)) λa w f d=>sp 1 f Z λa f=>aH F λn i F=>zQ (v:=i6 n) f d (eN 83) Z (λw d=>gY p.Order p_ g d i) λa w f d=>sp 2 f Z λa f=>?_
   obtain rfl:=sj F
   exact aN ⟨f.kp Z,d⟩
 intro a w ⟨f,d⟩
 refine sp 1 f Z λa f=>zT h (wp_ret ?_)
 obtain rfl:=sj F
 exact have d:=d.drop k0;zO1 Tryz.results77 f Z ⟨Z,d⟩

def sP (N:Nat) (B:Int) (D:Int):Option (bC (Int × Int) (Int)) :=
 some (.cont (D,W (B + 1)))
def lG (N:Nat) (B:List Int) (s_:Int) (n:Int) (D:Int):Option (bC (Int × Int) (Int)) :=
 cond (decide (D < ((B.length:Nat):Int)))
 (Option.bind (aQ B D) λH=>
 cond (H == s_)
 (sP N D (W (n + 1)))
 (sP N D n))
 (some (.brk (n,D)))
def uT (N:Nat) (B:List Int) (s_:Int):Option (Int) :=
 Option.bind (aS (λs5=>lG N B s_ s5.1 s5.2) N (0,0)) λx5=>
 exK x5 (λs5=>some s5.1) some
theorem yJ {D:Option Addr} {B:Nat} (H:List Int) (s_:Int) (I:Rd G 1 D B (H.map aF)) (d:Ctx G (Lf) w) {R:Int} (F:uT N H s_=some R):Cz G 78 #[.slice D H.length B,i6 s_] w (i6 R) (Lf):=by
 refine bY Tryz.func78 Z Tryz.ntmps78 Z λa f=>zS λK h=>sp 1 f Z λa f=>zT h (zS λK h=>sp 1 f Z λa f=>zT h (wp_seq_k λK3 h3=>zS λK h=>sp 1 f Z λa f=>zT h (wp_block (aH F λx5 b F=>?_))))
 let S5:(Int × Int)→Act→World→Prop:=(λ(zz:Int × Int) a w=>Has 22 a [(0,.slice D H.length B),(1,i6 s_),(5,i6 zz.1),(6,i6 zz.2)]∧Ctx G (Lf) w)
 have Y:∀ (zz:Int × Int) a w,x5=.go zz→S5 zz a w→K3 a w:=by
  rintro ⟨n,O⟩ a w rfl ⟨f,d⟩
  refine have F:=bI F;h3 _ _ (zS λK h=>sp 2 f Z λa f=>zT h (wp_ret ?_))
  obtain rfl:=sj F
  exact zO1 Tryz.results78 f Z ⟨Z,d⟩
 have i:∀ r,x5=.out r→r=R:=by
  rintro r rfl
  exact sj F
 refine cF N (cE (S:=S5) (x:=x5) ?_ N (0,0) _ _ ⟨f.kp Z,d⟩ b)
 clear F f d
 rintro ⟨n,O⟩ g a w KB5 ⟨f,d⟩ F J X
 unfold lG at F
 refine wp_seq_k λK7 h7=>zS λK h=>sp 2 f Z λa f=>zP f Z (bA Tryz.underlying22 Z) λa f=>sp 1 f Z λa f=>zT h (zI f Z F ?_ ?_) <;> intro F
 ·refine wp_skip (h7 _ _ (wp_seq_k λK9 h9=>?_))
  have U:∀ (M:Int) a w,Has 22 a [(0,.slice D H.length B),(1,i6 s_),(5,i6 M),(6,i6 O)]→Ctx G (Lf) w→sP N O M=some g→K9 a w:=by
   repeat first | clear F | clear d | clear f
   intro M a w f d F
   unfold sP at F
   exact h9 _ _ (bK (sp 3 f Z λa f=>aN (X (M,W (O + 1)) _ _ (sj F).symm ⟨f.kp Z,d⟩)))
  refine wp_block (zS λK h=>sp 2 f Z λa f=>aH F λk V F=>?_)
  obtain ⟨m,o,qa,qp⟩:=I.atm V
  refine zP f Z (pIA Tryz.underlying22 cS Z Z qa) λa f=>zE f d Z (bB aZ Z (aV (j:=0) qp Z)) λa w f d=>sp 2 f Z λa f=>zT h (zI f Z F ?_ ?_) <;> intro F
  ·exact bK (sp 3 f Z λa f=>aN (U (W (n + 1)) _ _  (f.kp Z) d F))
  ·exact wp_skip (U n _ _  (f.kp Z) d F)
 ·exact wp_exit (aP (aP (have J:=cB F J;cX (Y _ _ _ J ⟨f.kp Z,d⟩))))

def lJ (N:Nat) (r:bR) (B:List Int) (p_:Int) (s_:Int) (q:Int):Option (bC (Int) (Bool)) :=
 cond (decide (q < ((B.length:Nat):Int)))
 (Option.bind (aQ B q) λM=>
 Option.bind (cond (M == s_) (Option.bind (aQ r.Stations s_) λJ=>
 Option.bind (eH N J.Order q) λI=>
 Option.bind (aQ r.Stations s_) λO=>
 Option.bind (eH N O.Order p_) λH=>
 some (decide (H < I))) (some false)) λD=>
 cond D
 (some (.ret true))
 (some (.cont (W (q + 1)))))
 (some (.brk q))
def zR (N:Nat) (r:bR) (B:List Int) (p_:Int) (s_:Int):Option (Bool) :=
 Option.bind (uT N B s_) λD=>
 Option.bind (aQ r.Stations s_) λH=>
 cond (decide (D < H.Places))
 (some true)
 (Option.bind (aS (λs7=>lJ N r B p_ s_ s7) N 0) λx7=>
 exK x7 (λs7=>some false) some)
theorem aIf {O J H:Option Addr} {R I D:Nat} (r:bR) (B:List Int) (p_ s_:Int) (m:RdT aT G 1 O R r.People) (M:RdT iZ G 2 J I r.Stations) (U:Rd G 1 H D (B.map aF)) (d:Ctx G (Lf) w) {Y:Bool} (F:zR N r B p_ s_=some Y):Cz G 79 #[.agg #[.slice O r.People.length R,.slice J r.Stations.length I],.slice H B.length D,i6 p_,i6 s_] w (.bool Y) (Lf):=by
 refine bY Tryz.func79 Z Tryz.ntmps79 Z λa f=>zS λK h=>zB f d Z λk a w f d=>sp 1 f Z λa f=>zT h (wp_seq_k λK2 h2=>wp_seq_k λK3 h3=>aH F λau ac F=>aH F λa4 y F=>?_)
 obtain ⟨a5,o,hd,qa,qp,qr⟩:=M.atm y
 refine cQ d aU (by kernel_rfl) (qp_ 2 f Z λa f=>qV f Z (eC (v:=i6 au) (vs:=[.slice H B.length D,i6 s_]) (caps:=[]) (eN 78) Z Z Z Z (λw d=>yJ B s_ U d ac)) λa f=>qU f Z (pFA kV Z) λa f=>qV f Z (bB uP Z (bN m0 Z)) λa f=>qp_ 1 f Z λa f=>qU f Z (pIA Tryz.underlying63 wC Z Z qa) λa f=>qU f Z (pFA aCq Z) λa f=>qV f Z (bB aZ Z (aV (j:=0) qp Z)) λa f=>qp_ 1 f Z λa f=>λw d=>h3 _ _ (zI f Z F ?_ ?_)) <;> intro F
 ·refine zS λK h=>sp 1 f Z λa f=>zT h (wp_ret (aL ?_))
  obtain rfl:=sj F
  exact have d:=d.drop k0;zO1 Tryz.results79 f Z ⟨Z,d⟩
 ·refine wp_skip (h2 _ _ (wp_seq_k λK5 h5=>zS λK h=>sp 1 f Z λa f=>zT h (wp_block (aH F λx7 av F=>?_))))
  let S7:Int→Act→World→Prop:=(λ(zz:Int) a w=>Has 51 a [(1,.slice H B.length D),(2,i6 p_),(3,i6 s_),(4,pq k),(9,i6 zz)]∧Ctx G (.box k [.slice O r.People.length R,.slice J r.Stations.length I] 65::Lf) w)
  have ap:∀ (zz:Int) a w,x7=.go zz→S7 zz a w→K5 a w:=by
   rintro q a w rfl ⟨f,d⟩
   refine have F:=bI F;h5 _ _ (zS λK h=>sp 1 f Z λa f=>zT h (wp_ret ?_))
   obtain rfl:=sj F
   exact have d:=d.drop k0;zO1 Tryz.results79 f Z ⟨Z,d⟩
  have a0:∀ r,x7=.out r→r=Y:=by
   rintro r rfl
   exact sj F
  refine cF N (cE (S:=S7) (x:=x7) ?_ N 0 _ _ ⟨f.kp Z,d⟩ av)
  clear F f d
  rintro q a3 a w KB7 ⟨f,d⟩ F V a2
  unfold lJ at F
  refine wp_seq_k λK9 h9=>zS λK h=>sp 2 f Z λa f=>zP f Z (bA Tryz.underlying22 Z) λa f=>sp 1 f Z λa f=>zT h (zI f Z F ?_ ?_) <;> intro F
  ·refine wp_skip (h9 _ _ (wp_seq_k λK11 az=>wp_block (wp_seq_k λK12 ar=>aH F λX ab F=>?_)))
   obtain ⟨a1,ay,u,s⟩:=U.atm ab
   refine aH F λan g F=>cQ d aU (by kernel_rfl) (qp_ 2 f Z λa f=>qU f Z (pIA Tryz.underlying22 cS Z Z u) λa f=>qV f Z (bB aZ Z (aV (j:=0) s Z)) λa f=>qp_ 3 f Z λa f=>aB5 18 (λa=>Has 51 a [(1,.slice H B.length D),(2,i6 p_),(3,i6 s_),(4,pq k),(9,i6 q),(26,.slice H B.length D),(27,i6 q),(28,.pointer (some ⟨a1,ay,none⟩)),(29,i6 X),(30,i6 s_),(31,.bool (X == s_)),(32,.bool (X == s_)),(50,.bool an)]) ?_ ?_)
   ·cases hb:(X == s_)
    ·rw [hb] at f
     have F:=eG hb g
     obtain rfl:=sj F
     exact qk_ 17 f Z λa f=>qp_ 1 f Z λa f=>sZ (f.kp Z)
    ·rw [hb] at f
     refine have F:=cO hb g;aH F λp aa F=>?_
     obtain ⟨a6,a9,i,ai,am,z⟩:=M.atm aa
     refine aH F λaq ak F=>aH F λn ag F=>?_
     obtain ⟨a8,a7,b,af,aj,ad⟩:=M.atm ag
     refine aH F λax t F=>qU f Z (pFA kV Z) λa f=>qV f Z (bB uP Z (bN m0 Z)) λa f=>qp_ 1 f Z λa f=>qU f Z (pIA Tryz.underlying63 wC Z Z ai) λa f=>qU f Z (pFA wT Z) λa f=>qV f Z (bB eL Z (aV (j:=1) am Z)) λa f=>qp_ 1 f Z λa f=>qV f Z (eC (v:=i6 aq) (vs:=[.slice i.1 p.Order.length i.2,i6 q]) (caps:=[]) (eN 83) Z Z Z Z (λw d=>gY p.Order q z d ak)) λa f=>qU f Z (pFA kV Z) λa f=>qV f Z (bB uP Z (bN m0 Z)) λa f=>qp_ 1 f Z λa f=>qU f Z (pIA Tryz.underlying63 wC Z Z af) λa f=>qU f Z (pFA wT Z) λa f=>?_
     refine qV f Z (bB eL Z (aV (j:=1) aj Z)) λa f=>qp_ 1 f Z λa f=>qV f Z (eC (v:=i6 ax) (vs:=[.slice b.1 n.Order.length b.2,i6 p_]) (caps:=[]) (eN 83) Z Z Z Z (λw d=>gY n.Order p_ ad d t)) λa f=>qp_ 2 f Z λa f=>?_
     obtain rfl:=sj F
     exact sZ (f.kp Z)
   refine λa f=>λw d=>ar _ _ (zI f Z F ?_ ?_) <;> intro F
   ·refine zS λK h=>sp 1 f Z λa f=>zT h (wp_ret (bG (aL (aL (have V:=cB F V;have F:=a0 _ V;bG (aL ?_))))))
    obtain rfl:=F
    exact have d:=d.drop k0;zO1 Tryz.results79 f Z ⟨Z,d⟩
   ·exact wp_skip (az _ _ (bK (sp 3 f Z λa f=>aN (a2 (W (q + 1)) _ _ (sj F).symm ⟨f.kp Z,d⟩))))
  ·exact wp_exit (aP (aP (have V:=cB F V;cX (ap _ _ _ V ⟨f.kp Z,d⟩))))

def kF (N:Nat) (r:bR) (B:List Int) (D:Int) (H:Int):Option (bC (Int) (bC (Int) (aW × Int))) :=
 Option.bind (aQ r.People D) λU=>
 cond (decide (H < ((U.length:Nat):Int)))
 (Option.bind (aQ r.People D) λR=>
 Option.bind (aQ R H) λI=>
 Option.bind (aQ B D) λS=>
 cond (I == S)
 (some (.brk H))
 (Option.bind (gG N r D I) λO=>
 Option.bind (cond O (Option.bind (zR N r B D I) λM=>
 some M) (some false)) λJ=>
 cond J
 (some (.ret (.ret ((⟨D,I⟩:aW),0))))
 (some (.cont (W (H + 1))))))
 (some (.brk H))
def iO (N:Nat) (r:bR) (B:List Int) (D:Int):Option (bC (Int) (aW × Int)) :=
 cond (decide (D < ((B.length:Nat):Int)))
 (Option.bind (aS (λH=>kF N r B D H) N 0) λI=>
 exK I (λH=>some (.cont (W (D + 1)))) some)
 (some (.brk D))
def iQ (N:Nat) (r:bR) (B:List Int) (D:Int):Option (bC (Int) (aW × Int)) :=
 cond (decide (D < ((B.length:Nat):Int)))
 (Option.bind (aQ B D) λH=>
 Option.bind (cond (H != (-1)) (Option.bind (gG N r D H) λI=>
 Option.bind (cond (!I) (some true) (Option.bind (uT N B H) λJ=>
 Option.bind (aQ r.Stations H) λO=>
 some (decide (O.Places < J)))) λR=>
 some R) (some false)) λM=>
 cond M
 (some (.ret ((⟨0,0⟩:aW),7)))
 (some (.cont (W (D + 1)))))
 (some (.brk D))
def gM (N:Nat) (r:bR) (B:List Int) (D:Int):Option (bC (Int) (aW × Int)) :=
 cond (decide (D < ((B.length:Nat):Int)))
 (Option.bind (aQ B D) λH=>
 cond (aK H (-1) (W (((r.Stations.length:Nat):Int) - 1)))
 (some (.ret ((⟨0,0⟩:aW),2)))
 (some (.cont (W (D + 1)))))
 (some (.brk D))
def oP (N:Nat) (r:bR) (B:List Int):Option (aW × Int) :=
 Option.bind (qK N r) λJ=>
 cond (J != 0)
 (some ((⟨0,0⟩:aW),J))
 (cond (((B.length:Nat):Int) != ((r.People.length:Nat):Int))
 (some ((⟨0,0⟩:aW),2))
 (Option.bind (aS (λD=>gM N r B D) N 0) λM=>
 exK M (λD=>Option.bind (aS (λI=>iQ N r B I) N 0) λR=>
 exK R (λI=>Option.bind (aS (λH=>iO N r B H) N 0) λO=>
 exK O (λH=>some ((⟨0,0⟩:aW),5)) some) some) some))
theorem aGc {O J D:Option Addr} {M I H:Nat} (r:bR) (B:List Int) (V:RdT aT G 1 O M r.People) (R:RdT iZ G 2 J I r.Stations) (U:Rd G 1 D H (B.map aF)) (d:Ctx G (Lf) w) {q:aW × Int} (F:oP N r B=some q):Cz G 21 #[.agg #[.slice O r.People.length M,.slice J r.Stations.length I],.slice D B.length H] w (.tuple #[.agg #[i6 q.1.Person,i6 q.1.Station],i6 q.2]) (Lf):=by
 refine bY Tryz.func21 Z Tryz.ntmps21 Z λa f=>zS λK h=>zB f d Z λm a w f d=>zA f d aSe Z λk a w f d=>sp 1 f Z λa f=>zT h (wp_seq_k λK2 h2=>zS λK h=>zN f d aBm m1 Z λa w f d=>aH F λcf au F=>zQ (v:=i6 cf) f d (eN 18) Z (λw d=>vI r V R d au) λa w f d=>sp 1 f Z λa f=>zT h (zS λK h=>?_))
 refine sp 2 f Z λa f=>zT h (zI f Z F ?_ ?_) <;> intro F
 ·refine zS λK h=>zP f Z (bS (cells:=[i6 0,i6 0]) aIw Z Z) λa f=>sp 1 f Z λa f=>zW f d aA5 u0 Z λw d=>sp 1 f Z λa f=>zT h (wp_ret (aL ?_))
  obtain rfl:=sj F
  exact have d:=d.drop k1;xI (by simp) Z Tryz.results21 f d (eE (vs:=[i6 0,i6 0]) aHg Z Z (bT (n:=2) m0 Z)) (show kH _ 5=_ from Z) ⟨Z,(d.drop k0)⟩
 ·refine wp_skip (h2 _ _ (wp_seq_k λK6 h6=>zS λK h=>sp 1 f Z λa f=>zP f Z (bA Tryz.underlying22 Z) λa f=>zP f Z (pFA kW Z) λa f=>zL f d gR m1 Z λa w f d=>zP f Z (bA Tryz.underlying23 Z) λa f=>sp 1 f Z λa f=>zT h (zI f Z F ?_ ?_))) <;> intro F
  ·refine zS λK h=>zP f Z (bS (cells:=[i6 0,i6 0]) aIw Z Z) λa f=>zW f d aA5 u0 Z λw d=>sp 1 f Z λa f=>zT h (wp_ret (aL ?_))
   obtain rfl:=sj F
   exact have d:=d.drop k1;xI (by simp) Z Tryz.results21 f d (eE (vs:=[i6 0,i6 0]) aHg Z Z (bT (n:=2) m0 Z)) (show kH _ 5=_ from Z) ⟨Z,(d.drop k0)⟩
  ·refine wp_skip (h6 _ _ (wp_seq_k λK9 h9=>zS λK h=>sp 1 f Z λa f=>zT h (wp_block (aH F λai ba F=>?_))))
   let S11:Int→Act→World→Prop:=(λ(zz:Int) a w=>Has 119 a [(1,.slice D B.length H),(2,pq m),(4,pq k),(7,i6 zz)]∧Ctx G (.box k [i6 0,i6 0] 69::.box m [.slice O r.People.length M,.slice J r.Stations.length I] 65::Lf) w)
   have b0:∀ (zz:Int) a w,ai=.go zz→S11 zz a w→K9 a w:=by
    rintro am a w rfl ⟨f,d⟩
    refine have F:=bI F;h9 _ _ (wp_seq_k λK12 ca=>zS λK h=>sp 1 f Z λa f=>zT h (wp_block (aH F λaf bc F=>?_)))
    let S14:Int→Act→World→Prop:=(λ(zz:Int) a w=>Has 119 a [(1,.slice D B.length H),(2,pq m),(4,pq k),(8,i6 zz)]∧Ctx G (.box k [i6 0,i6 0] 69::.box m [.slice O r.People.length M,.slice J r.Stations.length I] 65::Lf) w)
    have a9:∀ (zz:Int) a w,af=.go zz→S14 zz a w→K12 a w:=by
     rintro s a w rfl ⟨f,d⟩
     refine have F:=bI F;ca _ _ (wp_seq_k λK15 b7=>zS λK h=>sp 1 f Z λa f=>zT h (wp_block (aH F λab bk F=>?_)))
     let S17:Int→Act→World→Prop:=(λ(zz:Int) a w=>Has 119 a [(1,.slice D B.length H),(2,pq m),(4,pq k),(10,i6 zz)]∧Ctx G (.box k [i6 0,i6 0] 69::.box m [.slice O r.People.length M,.slice J r.Stations.length I] 65::Lf) w)
     have bg:∀ (zz:Int) a w,ab=.go zz→S17 zz a w→K15 a w:=by
      rintro p a w rfl ⟨f,d⟩
      refine have F:=bI F;b7 _ _ (zS λK h=>zP f Z (bS (cells:=[i6 0,i6 0]) aIw Z Z) λa f=>zW f d aA5 u0 Z λw d=>sp 1 f Z λa f=>zT h (wp_ret ?_))
      obtain rfl:=sj F
      exact have d:=d.drop k1;xI (by simp) Z Tryz.results21 f d (eE (vs:=[i6 0,i6 0]) aHg Z Z (bT (n:=2) m0 Z)) (show kH _ 5=_ from Z) ⟨Z,(d.drop k0)⟩
     have aq:∀ r,ab=.out r→r=q:=by
      rintro r rfl
      exact sj F
     refine cF N (cE (S:=S17) (x:=ab) ?_ N 0 _ _ ⟨f.kp Z,d⟩ bk)
     clear F f d
     rintro p ar a w KB17 ⟨f,d⟩ F Y a6
     unfold iO at F
     refine wp_seq_k λK19 cc=>zS λK h=>sp 2 f Z λa f=>zP f Z (bA Tryz.underlying22 Z) λa f=>sp 1 f Z λa f=>zT h (zI f Z F ?_ ?_) <;> intro F
     ·refine wp_skip (cc _ _ (wp_seq_k λK21 b6=>wp_block (zS λK h=>sp 1 f Z λa f=>zT h (sR λK23 ck=>wp_block (aH F λz a4 F=>?_)))))
      let S24:Int→Act→World→Prop:=(λ(zz:Int) a w=>Has 119 a [(1,.slice D B.length H),(2,pq m),(4,pq k),(10,i6 p),(11,i6 zz)]∧Ctx G (.box k [i6 0,i6 0] 69::.box m [.slice O r.People.length M,.slice J r.Stations.length I] 65::Lf) w)
      have ag:∀ (zz:Int) a w,z=.go zz→S24 zz a w→K23 a w:=by
       rintro aj a w rfl ⟨f,d⟩
       exact have F:=bI F;ck _ _ (b6 _ _ (bK (sp 3 f Z λa f=>aN (a6 (W (p + 1)) _ _ (sj F).symm ⟨f.kp Z,d⟩))))
      have bx:∀ r,z=.out r→r=ar:=by
       rintro r rfl
       exact sj F
      refine cF N (cE (S:=S24) (x:=z) ?_ N 0 _ _ ⟨f.kp Z,d⟩ a4)
      clear F f d
      rintro aj ct a w KB24 ⟨f,d⟩ F X a3
      unfold kF at F
      refine wp_seq_k λK25 cn=>zS λK h=>sp 1 f Z λa f=>zP f Z (pFA kW Z) λa f=>zL f d gR m1 Z λa w f d=>sp 1 f Z λa f=>aH F λc3 az F=>?_
      obtain ⟨c7,o,hd,qa,qp,qr⟩:=V.atm az
      refine zP f Z (pIA Tryz.underlying23 lN Z Z qa) λa f=>zE f d Z (bB eL Z (aV (j:=0) qp Z)) λa w f d=>zP f Z (bA Tryz.underlying22 Z) λa f=>sp 1 f Z λa f=>zT h (zI f Z F ?_ ?_) <;> intro F
      ·refine wp_skip (cn _ _ (wp_seq_k λK27 b4=>wp_block (zS λK h=>zP f Z (pFA kW Z) λa f=>zL f d gR m1 Z λa w f d=>sp 1 f Z λa f=>aH F λc8 bn F=>?_)))
       obtain ⟨c5,c9,cu,ay,bd,an⟩:=V.atm bn
       refine zP f Z (pIA Tryz.underlying23 lN Z Z ay) λa f=>zE f d Z (bB eL Z (aV (j:=0) bd Z)) λa w f d=>sp 1 f Z λa f=>aH F λt a1 F=>?_
       obtain ⟨c0,dd,ax,bt⟩:=an.atm a1
       refine zP f Z (pIA Tryz.underlying22 cS Z Z ax) λa f=>zE f d Z (bB aZ Z (aV (j:=0) bt Z)) λa w f d=>sp 1 f Z λa f=>zT h (wp_seq_k λK29 cj=>zS λK h=>sp 3 f Z λa f=>aH F λcz br F=>?_)
       obtain ⟨c4,da,av,bs⟩:=U.atm br
       refine zP f Z (pIA Tryz.underlying22 cS Z Z av) λa f=>zE f d Z (bB aZ Z (aV (j:=0) bs Z)) λa w f d=>sp 1 f Z λa f=>zT h (zI f Z F ?_ ?_) <;> intro F
       ·exact wp_exit (aP (aLb Z (aP (aP (have X:=cB F X;cX (ag _ _ _ X ⟨f.kp Z,d⟩))))))
       ·refine wp_skip (cj _ _ (zS λK h=>zN f d aBm m1 Z λa w f d=>sp 2 f Z λa f=>aH F λak b1 F=>zQ (v:=.bool ak) f d (eN 77) Z (λw d=>lO r p t V R d b1) λa w f d=>sp 1 f Z λa f=>aH F λb2 y F=>cV 6 (λa=>Has 119 a [(1,.slice D B.length H),(2,pq m),(4,pq k),(10,i6 p),(11,i6 aj),(12,i6 t),(114,.bool b2)]) d ?_ ?_))
        ·cases hb:ak
         ·rw [hb] at f
          try rw [hb] at d
          have F:=eG hb y
          obtain rfl:=sj F
          exact sp 6 f Z λa f=>aN ⟨f.kp Z,d⟩
         ·rw [hb] at f
          try rw [hb] at d
          refine have F:=cO hb y;zN f d aBm m1 Z λa w f d=>sp 3 f Z λa f=>aH F λb5 bf F=>zQ (v:=.bool b5) f d (eN 79) Z (λw d=>aIf r B p t V R U d bf) λa w f d=>sp 1 f Z λa f=>?_
          obtain rfl:=sj F
          exact aN ⟨f.kp Z,d⟩
        intro a w ⟨f,d⟩
        refine zT h (zI f Z F ?_ ?_) <;> intro F
        ·refine zS λK h=>sp 2 f Z λa f=>zP f Z (bS (cells:=[i6 p,i6 t]) aIw Z Z) λa f=>zW f d aA5 u0 Z λw d=>sp 1 f Z λa f=>zT h (wp_ret (bG (aL (aL (have X:=cB F X;have F:=bx _ X;bG (aL ?_))))))
         refine bG (aL (aL (have Y:=finQ F Y;have F:=aq _ Y;bG (aL ?_))))
         obtain rfl:=F
         exact have d:=d.drop k1;xI (by simp) Z Tryz.results21 f d (eE (vs:=[i6 p,i6 t]) aHg Z Z (bT (n:=2) m0 Z)) (show kH _ 5=_ from Z) ⟨Z,(d.drop k0)⟩
        ·exact wp_skip (b4 _ _ (bK (sp 3 f Z λa f=>aN (a3 (W (aj + 1)) _ _ (sj F).symm ⟨f.kp Z,d⟩))))
      ·exact wp_exit (aP (aP (have X:=cB F X;cX (ag _ _ _ X ⟨f.kp Z,d⟩))))
     ·exact wp_exit (aP (aP (have Y:=cB F Y;cX (bg _ _ _ Y ⟨f.kp Z,d⟩))))
    have ap:∀ r,af=.out r→r=q:=by
     rintro r rfl
     exact sj F
    refine cF N (cE (S:=S14) (x:=af) ?_ N 0 _ _ ⟨f.kp Z,d⟩ bc)
    clear F f d
    rintro s cq a w KB14 ⟨f,d⟩ F g a7
    unfold iQ at F
    refine wp_seq_k λK33 cb=>zS λK h=>sp 2 f Z λa f=>zP f Z (bA Tryz.underlying22 Z) λa f=>sp 1 f Z λa f=>zT h (zI f Z F ?_ ?_) <;> intro F
    ·refine wp_skip (cb _ _ (wp_seq_k λK35 cp=>wp_block (zS λK h=>sp 2 f Z λa f=>aH F λi a8 F=>?_)))
     obtain ⟨cy,c6,a0,bv⟩:=U.atm a8
     refine zP f Z (pIA Tryz.underlying22 cS Z Z a0) λa f=>zE f d Z (bB aZ Z (aV (j:=0) bv Z)) λa w f d=>sp 1 f Z λa f=>zT h (wp_seq_k λK37 ci=>aH F λb8 ad F=>cQ d aU (by kernel_rfl) (qp_ 3 f Z λa f=>aB5 18 (λa=>Has 119 a [(1,.slice D B.length H),(2,pq m),(4,pq k),(8,i6 s),(9,i6 i),(52,i6 i),(53,.bool (i != (-1))),(54,.bool (i != (-1))),(72,.bool b8)]) ?_ ?_))
     ·cases hb:(i != (-1))
      ·rw [hb] at f
       have F:=eG hb ad
       obtain rfl:=sj F
       exact qk_ 17 f Z λa f=>qp_ 1 f Z λa f=>sZ (f.kp Z)
      ·rw [hb] at f
       refine have F:=cO hb ad;aH F λu bi F=>aH F λcg aa F=>qV f Z (iY (vs:=[.slice O r.People.length M,.slice J r.Stations.length I]) aBm Z Z (bT (n:=2) m1 Z)) λa f=>qp_ 2 f Z λa f=>qV f Z (eC (v:=.bool u) (vs:=[.agg #[.slice O r.People.length M,.slice J r.Stations.length I],i6 s,i6 i]) (caps:=[]) (eN 77) Z Z Z Z (λw d=>lO r s i V R d bi)) λa f=>qp_ 2 f Z λa f=>aB5 11 (λa=>Has 119 a [(1,.slice D B.length H),(2,pq m),(4,pq k),(8,i6 s),(9,i6 i),(52,i6 i),(53,.bool true),(54,.bool true),(55,.agg #[.slice O r.People.length M,.slice J r.Stations.length I]),(56,i6 s),(57,i6 i),(58,.bool u),(59,.bool (!u)),(60,.bool (!u)),(71,.bool cg)]) ?_ ?_
       ·cases hb:(!u)
        ·rw [hb] at f
         refine have F:=eG hb aa;aH F λb3 bu F=>aH F λdb bm F=>?_
         obtain ⟨c1,c2,cs,a2,bp,cr⟩:=R.atm bm
         refine qp_ 2 f Z λa f=>qV f Z (eC (v:=i6 b3) (vs:=[.slice D B.length H,i6 i]) (caps:=[]) (eN 78) Z Z Z Z (λw d=>yJ B i U d bu)) λa f=>qU f Z (pFA kV Z) λa f=>qV f Z (bB uP Z (bN m1 Z)) λa f=>qp_ 1 f Z λa f=>qU f Z (pIA Tryz.underlying63 wC Z Z a2) λa f=>qU f Z (pFA aCq Z) λa f=>qV f Z (bB aZ Z (aV (j:=0) bp Z)) λa f=>qp_ 2 f Z λa f=>?_
         obtain rfl:=sj F
         exact sZ (f.kp Z)
        ·rw [hb] at f
         have F:=cO hb aa
         obtain rfl:=sj F
         exact qk_ 10 f Z λa f=>qp_ 1 f Z λa f=>sZ (f.kp Z)
       refine λa f=>qp_ 1 f Z λa f=>?_
       obtain rfl:=sj F
       exact sZ (f.kp Z)
     refine λa f=>λw d=>ci _ _ (zI f Z F ?_ ?_) <;> intro F
     ·refine zS λK h=>zP f Z (bS (cells:=[i6 0,i6 0]) aIw Z Z) λa f=>zW f d aA5 u0 Z λw d=>sp 1 f Z λa f=>zT h (wp_ret (bG (aL (aL (have g:=cB F g;have F:=ap _ g;bG (aL ?_))))))
      obtain rfl:=F
      exact have d:=d.drop k1;xI (by simp) Z Tryz.results21 f d (eE (vs:=[i6 0,i6 0]) aHg Z Z (bT (n:=2) m0 Z)) (show kH _ 5=_ from Z) ⟨Z,(d.drop k0)⟩
     ·exact wp_skip (cp _ _ (bK (sp 3 f Z λa f=>aN (a7 (W (s + 1)) _ _ (sj F).symm ⟨f.kp Z,d⟩))))
    ·exact wp_exit (aP (aP (have g:=cB F g;cX (a9 _ _ _ g ⟨f.kp Z,d⟩))))
   have bq:∀ r,ai=.out r→r=q:=by
    rintro r rfl
    exact sj F
   refine cF N (cE (S:=S11) (x:=ai) ?_ N 0 _ _ ⟨f.kp Z,d⟩ ba)
   clear F f d
   rintro am cv a w KB11 ⟨f,d⟩ F b bz
   unfold gM at F
   refine wp_seq_k λK39 b9=>zS λK h=>sp 2 f Z λa f=>zP f Z (bA Tryz.underlying22 Z) λa f=>sp 1 f Z λa f=>zT h (zI f Z F ?_ ?_) <;> intro F
   ·refine wp_skip (b9 _ _ (wp_seq_k λK41 cm=>wp_block (wp_seq_k λK42 cd=>aH F λac bb F=>?_)))
    obtain ⟨cx,dc,a5,bj⟩:=U.atm bb
    refine cQ d aU (by kernel_rfl) (qp_ 2 f Z λa f=>qU f Z (pIA Tryz.underlying22 cS Z Z a5) λa f=>qV f Z (bB aZ Z (aV (j:=0) bj Z)) λa f=>qU f Z (pFA kV Z) λa f=>qV f Z (bB uP Z (bN m1 Z)) λa f=>qU f Z (bA Tryz.underlying63 Z) λa f=>qp_ 1 f Z λa f=>qV f Z (eC (v:=.bool (aK ac (-1) (W (((r.Stations.length:Nat):Int) - 1)))) (vs:=[i6 ac,i6 (-1),i6 (W (((r.Stations.length:Nat):Int) - 1))]) (caps:=[]) (eN 69) Z Z Z Z (λw d=>cM ac (-1) (W (((r.Stations.length:Nat):Int) - 1)) d Z)) λa f=>λw d=>cd _ _ (zI f Z F ?_ ?_)) <;> intro F
    ·refine zS λK h=>zP f Z (bS (cells:=[i6 0,i6 0]) aIw Z Z) λa f=>zW f d aA5 u0 Z λw d=>sp 1 f Z λa f=>zT h (wp_ret (bG (aL (aL (have b:=cB F b;have F:=bq _ b;bG (aL ?_))))))
     obtain rfl:=F
     exact have d:=d.drop k1;xI (by simp) Z Tryz.results21 f d (eE (vs:=[i6 0,i6 0]) aHg Z Z (bT (n:=2) m0 Z)) (show kH _ 5=_ from Z) ⟨Z,(d.drop k0)⟩
    ·exact wp_skip (cm _ _ (bK (sp 3 f Z λa f=>aN (bz (W (am + 1)) _ _ (sj F).symm ⟨f.kp Z,d⟩))))
   ·exact wp_exit (aP (aP (have b:=cB F b;cX (b0 _ _ _ b ⟨f.kp Z,d⟩))))

def jD (N:Nat) (l:List aA) (out:List aW) (x:Int):Option (bC ((List aW) × Int) ((List aW))) :=
 cond (decide (x < ((l.length:Nat):Int)))
 (Option.bind (aQ l x) λB=>
 Option.bind (room ((out++[(⟨B.Person,B.Station⟩:aW)])).length) λun=>
 some (.cont ((out++[(⟨B.Person,B.Station⟩:aW)]),W (x + 1))))
 (some (.brk (out,x)))
def pY (N:Nat) (l:List aA):Option ((List aW)) :=
 Option.bind (aS (λs5=>jD N l s5.1 s5.2) N (([]:List aW),0)) λx5=>
 exK x5 (λs5=>some s5.1) some
theorem zK {M:Option Addr} {O:Nat} (l:List aA) (i:Rd G 2 M O (l.map aM)) (d:Ctx G (Lf) w) {J:(List aW)} (F:pY N l=some J):Calls Tryz.prog 24 #[.slice M l.length O] w (λe w=>∃ (R:Option Addr) (U:Nat),e=.returned (.slice R J.length U)∧Ctx G (.row R U (J.map lR) 69 2::Lf) w):=by
 refine bY Tryz.func24 Z Tryz.ntmps24 Z λa f=>zS λK h=>sp 1 f Z λa f=>zT h (zS λK h=>sp 1 f Z λa f=>zT h (wp_seq_k λK3 h3=>zS λK h=>sp 1 f Z λa f=>zP f Z (bA Tryz.underlying30 Z) λa f=>sp 1 f Z λa f=>zT h (wp_block ?_)))
 obtain ⟨x5,b,F⟩:=cU F
 let S5:((List aW) × Int)→Act→World→Prop:=(λ(zz:(List aW) × Int) a w=>∃ (H:Option Addr) (D:Nat),Has 18 a [(3,.slice H zz.1.length D),(6,.slice M l.length O),(7,i6 ((l.length:Nat):Int)),(8,i6 zz.2)]∧Ctx G (.row H D (zz.1.map lR) 69 2::Lf) w)
 have Y:∀ (zz:(List aW) × Int) a w,x5=.go zz→S5 zz a w→K3 a w:=by
  rintro ⟨out,x⟩ a w rfl ⟨H,D,f,d⟩
  refine have F:=bI F;h3 _ _ (zS λK h=>sp 2 f Z λa f=>zT h (wp_ret ?_))
  obtain rfl:=sj F
  exact zO1 Tryz.results24 f Z ⟨H,D,Z,d⟩
 have m:∀ r,x5=.out r→r=J:=by
  rintro r rfl
  exact sj F
 refine have d:=d.nilRow 69 2;cF N (cE (S:=S5) (x:=x5) ?_ N (([]:List aW),0) _ _ ⟨none,0,f.kp Z,d⟩ b)
 clear F f d
 rintro ⟨out,x⟩ q a w KB5 ⟨H,D,f,d⟩ F I X
 refine zS λK h=>sp 1 f Z λa f=>zT h (wp_seq_k λK8 h8=>zI f Z F ?_ ?_) <;> intro F
 ·refine wp_skip (h8 _ _ (wp_seq_k λK9 h9=>wp_block (zS λK h=>aH F λB V F=>?_)))
  obtain ⟨s,o,qa,qp⟩:=i.atm V
  refine zP f Z (pIA Tryz.underlying30 pP Z Z qa) λa f=>zE f d Z (iY (vs:=[i6 B.Person,i6 B.Station]) rL Z Z (cY qp (n:=2) (o':=0) Z)) λa w f d=>zA f d aF4 Z λt a w f d=>zW f d pP u0 Z λw d=>zT h (bK (sp 1 f Z λa f=>zN f d rL m0 Z λa w f d=>gN (rows:=([(⟨B.Person,B.Station⟩:aW)]:List aW).map lR) (vs:=[(0,.agg #[i6 B.Person,i6 B.Station])]) f d Z Z aSg Z ⟨Z,Z,Z,trivial⟩ Z Z λp a w f d=>aH F λun g F=>mV (xs:=out) (ys:=([(⟨B.Person,B.Station⟩:aW)]:List aW)) f d Z Z aSg Z Z Z Z Z aBz (gL d m0) (λ_ _=>u2) (by simpa using cZ g) λk j a w f d=>sp 1 f Z λa f=>aN (h9 _ _ ?_)))
  exact bK (sp 2 f Z λa f=>aN (have d:=(d.drop k1).drop k0;X ((out++[(⟨B.Person,B.Station⟩:aW)]),W (x + 1)) _ _ (sj F).symm ⟨k,j,f.kp Z,d⟩))
 ·exact wp_exit (aP (aP (have I:=cB F I;cX (Y _ _ _ I ⟨H,D,f.kp Z,d⟩))))

def rH (N:Nat) (B:Int):Option (bC (Int) (Bool × Int)) :=
 some (.cont (W (B + 1)))
def nX (N:Nat) (q:Int) (B:Int):Option (bC (Int × Int) (bC (Int) (Bool × Int))) :=
 some (.cont (B,W (q + 1)))
def rM (N:Nat) (k:Int) (B:Int):Option (bC (Int × Int) (bC (Int × Int) (bC (Int) (Bool × Int)))) :=
 some (.cont (B,W (k + 1)))
def jO (N:Nat) (r:bR) (l:List aW) (O:Int) (q:Int) (k:Int) (D:Bool) (B:Int):Option (bC (Bool × Int) (bC (Int × Int) (bC (Int × Int) (bC (Int) (Bool × Int))))) :=
 cond (decide (B < O))
 (Option.bind (cond D (some true) (Option.bind (aQ l B) λS=>
 Option.bind (cond (S.Person == q) (Option.bind (aQ l B) λJ=>
 Option.bind (aQ r.People q) λI=>
 Option.bind (aQ I k) λH=>
 some (J.Station == H)) (some false)) λR=>
 some R)) λM=>
 some (.cont (M,W (B + 1))))
 (some (.brk (D,B)))
def jM (N:Nat) (r:bR) (l:List aW) (M:Int) (R:aW) (q:Int) (B:Int) (k:Int):Option (bC (Int × Int) (bC (Int × Int) (bC (Int) (Bool × Int)))) :=
 Option.bind (aQ r.People q) λO=>
 Option.bind (eH N O R.Station) λH=>
 cond (decide (k < H))
 (Option.bind (aQ r.People q) λI=>
 Option.bind (aQ I k) λJ=>
 Option.bind (gG N r q J) λS=>
 Option.bind (aS (λD=>jO N r l M q k D.1 D.2) N ((!S),0)) λU=>
 exK U (λD=>cond (!D.1)
 (rM N k (W (B + 1)))
 (rM N k B)) some)
 (some (.brk (B,k)))
def jQ (N:Nat) (r:bR) (l:List aW) (S:Int) (V:aW) (H:aW) (B:Int) (q:Int):Option (bC (Int × Int) (bC (Int) (Bool × Int))) :=
 cond (decide (q < ((r.People.length:Nat):Int)))
 (Option.bind (gG N r q H.Station) λR=>
 Option.bind (cond (!R) (some true) (Option.bind (aQ r.Stations H.Station) λU=>
 Option.bind (eH N U.Order q) λI=>
 Option.bind (aQ r.Stations H.Station) λJ=>
 Option.bind (eH N J.Order V.Person) λM=>
 some (decide (M≤I)))) λO=>
 cond O
 (nX N q B)
 (Option.bind (aS (λD=>jM N r l S H q D.1 D.2) N (0,0)) λX=>
 exK X (λD=>cond (D.1 == 0)
 (nX N q (W (B + 1)))
 (nX N q B)) some))
 (some (.brk (B,q)))
def gI (N:Nat) (r:bR) (l:List aW) (B:Int):Option (bC (Int) (Bool × Int)) :=
 cond (decide (B < ((l.length:Nat):Int)))
 (Option.bind (aQ l B) λI=>
 Option.bind (aQ l B) λH=>
 Option.bind (gG N r I.Person H.Station) λJ=>
 cond (!J)
 (rH N B)
 (Option.bind (aS (λD=>jQ N r l B I H D.1 D.2) N (0,0)) λM=>
 exK M (λD=>Option.bind (aQ r.Stations H.Station) λO=>
 cond (decide (D.1 < O.Places))
 (some (.ret (false,0)))
 (rH N B)) some))
 (some (.brk B))
def jK (N:Nat) (r:bR) (l:List aW) (B:Int):Option (bC (Int) (Bool × Int)) :=
 cond (decide (B < ((l.length:Nat):Int)))
 (Option.bind (aQ l B) λD=>
 Option.bind (cond (aK D.Person 0 (W (((r.People.length:Nat):Int) - 1))) (some true) (Option.bind (aQ l B) λH=>
 some (aK H.Station 0 (W (((r.Stations.length:Nat):Int) - 1))))) λI=>
 cond I
 (some (.ret (false,2)))
 (some (.cont (W (B + 1)))))
 (some (.brk B))
def qL (N:Nat) (r:bR) (l:List aW):Option (Bool × Int) :=
 Option.bind (qK N r) λH=>
 cond (H != 0)
 (some (false,H))
 (cond (decide (144 < ((l.length:Nat):Int)))
 (some (false,3))
 (Option.bind (aS (λB=>jK N r l B) N 0) λI=>
 exK I (λB=>Option.bind (aS (λD=>gI N r l D) N 0) λJ=>
 exK J (λD=>some (true,0)) some) some))
theorem aCp {H D R:Option Addr} {I B U:Nat} (r:bR) (l:List aW) (M:RdT aT G 1 H I r.People) (J:RdT iZ G 2 D B r.Stations) (aa:Rd G 2 R U (l.map lR)) (d:Ctx G (Lf) w) {ab:Bool × Int} (F:qL N r l=some ab):Cz G 23 #[.agg #[.slice H r.People.length I,.slice D r.Stations.length B],.slice R l.length U] w (.tuple #[.bool ab.1,i6 ab.2]) (Lf):=by
 refine bY Tryz.func23 Z Tryz.ntmps23 Z λa f=>zS λK h=>zB f d Z λO a w f d=>sp 2 f Z λa f=>zT h (wp_seq_k λK2 h2=>zS λK h=>zN f d aBm m0 Z λa w f d=>aH F λgb cg F=>zQ (v:=i6 gb) f d (eN 18) Z (λw d=>vI r M J d cg) λa w f d=>sp 1 f Z λa f=>zT h (zS λK h=>sp 2 f Z λa f=>?_))
 refine zT h (zI f Z F ?_ ?_) <;> intro F
 ·refine zS λK h=>sp 3 f Z λa f=>zT h (wp_ret (aL ?_))
  obtain rfl:=sj F
  exact have d:=d.drop k0;zO2 Tryz.results23 f Z Z ⟨Z,d⟩
 ·refine wp_skip (h2 _ _ (wp_seq_k λK6 h6=>zS λK h=>sp 1 f Z λa f=>zP f Z (bA Tryz.underlying75 Z) λa f=>sp 1 f Z λa f=>zT h (zI f Z F ?_ ?_))) <;> intro F
  ·refine zS λK h=>sp 2 f Z λa f=>zT h (wp_ret (aL ?_))
   obtain rfl:=sj F
   exact have d:=d.drop k0;zO2 Tryz.results23 f Z Z ⟨Z,d⟩
  ·refine wp_skip (h6 _ _ (wp_seq_k λK9 h9=>zS λK h=>sp 1 f Z λa f=>zT h (wp_block (aH F λa1 dp F=>?_))))
   let S11:Int→Act→World→Prop:=(λ(zz:Int) a w=>Has 175 a [(1,.slice R l.length U),(2,pq O),(7,i6 zz)]∧Ctx G (.box O [.slice H r.People.length I,.slice D r.Stations.length B] 65::Lf) w)
   have dj:∀ (zz:Int) a w,a1=.go zz→S11 zz a w→K9 a w:=by
    rintro aj a w rfl ⟨f,d⟩
    refine have F:=bI F;h9 _ _ (wp_seq_k λK12 dx=>zS λK h=>sp 1 f Z λa f=>zT h (wp_block (aH F λaq bx F=>?_)))
    let S14:Int→Act→World→Prop:=(λ(zz:Int) a w=>Has 175 a [(1,.slice R l.length U),(2,pq O),(8,i6 zz)]∧Ctx G (.box O [.slice H r.People.length I,.slice D r.Stations.length B] 65::Lf) w)
    have dn:∀ (zz:Int) a w,aq=.go zz→S14 zz a w→K12 a w:=by
     rintro g a w rfl ⟨f,d⟩
     refine have F:=bI F;dx _ _ (zS λK h=>sp 2 f Z λa f=>zT h (wp_ret ?_))
     obtain rfl:=sj F
     exact have d:=d.drop k0;zO2 Tryz.results23 f Z Z ⟨Z,d⟩
    have cc:∀ r,aq=.out r→r=ab:=by
     rintro r rfl
     exact sj F
    refine cF N (cE (S:=S14) (x:=aq) ?_ N 0 _ _ ⟨f.kp Z,d⟩ bx)
    clear F f d
    rintro g ar a w KB14 ⟨f,d⟩ F Y df
    unfold gI at F
    refine wp_seq_k λK16 ds=>zS λK h=>sp 2 f Z λa f=>zP f Z (bA Tryz.underlying75 Z) λa f=>sp 1 f Z λa f=>zT h (zI f Z F ?_ ?_) <;> intro F
    ·refine wp_skip (ds _ _ (wp_seq_k λK18 d3=>?_))
     have ax:∀ a w,Has 175 a [(1,.slice R l.length U),(2,pq O),(8,i6 g)]→Ctx G (.box O [.slice H r.People.length I,.slice D r.Stations.length B] 65::Lf) w→rH N g=some ar→K18 a w:=by
      repeat first | clear F | clear d | clear f
      intro a w f d F
      unfold rH at F
      exact d3 _ _ (bK (sp 3 f Z λa f=>aN (df (W (g + 1)) _ _ (sj F).symm ⟨f.kp Z,d⟩)))
     refine wp_block (wp_seq_k λK19 d0=>aH F λi c1 F=>?_)
     obtain ⟨ig,o,qa,qp⟩:=aa.atm c1
     obtain ⟨b,cf,F⟩:=cU F
     obtain ⟨ir,iy,c0,bz⟩:=aa.atm cf
     refine cQ d aU (by kernel_rfl) (qp_ 2 f Z λa f=>qU f Z (pIA Tryz.underlying75 aA5 Z Z qa) λa f=>qU f Z (pFA aJz Z) λa f=>qV f Z (bB aZ Z (aV (j:=0) qp Z)) λa f=>qp_ 2 f Z λa f=>qU f Z (pIA Tryz.underlying75 aA5 Z Z c0) λa f=>qU f Z (pFA aJw Z) λa f=>qV f Z (bB aZ Z (aV (j:=1) bz Z)) λa f=>qp_ 2 f Z λa f=>λw d=>d0 _ _ (wp_seq_k λK20 d8=>zS λK h=>?_))
     refine zN f d aBm m0 Z λa w f d=>sp 2 f Z λa f=>aH F λd9 dm F=>zQ (v:=.bool d9) f d (eN 77) Z (λw d=>lO r i.Person b.Station M J d dm) λa w f d=>sp 1 f Z λa f=>zT h (zI f Z F ?_ ?_) <;> intro F
     ·exact wp_exit (aP (cX (ax  _ _  (f.kp Z) d F)))
     ·refine wp_skip (d8 _ _ (zS λK h=>sp 1 f Z λa f=>zT h (wp_seq_k λK23 gf=>zS λK h=>sp 1 f Z λa f=>zT h (wp_block (aH F λav cr F=>?_)))))
      let S25:(Int × Int)→Act→World→Prop:=(λ(zz:Int × Int) a w=>Has 175 a [(1,.slice R l.length U),(2,pq O),(8,i6 g),(9,i6 i.Person),(10,i6 b.Station),(11,i6 zz.1),(12,i6 zz.2)]∧Ctx G (.box O [.slice H r.People.length I,.slice D r.Stations.length B] 65::Lf) w)
      have dc:∀ (zz:Int × Int) a w,av=.go zz→S25 zz a w→K23 a w:=by
       rintro ⟨V,q⟩ a w rfl ⟨f,d⟩
       refine have F:=bI F;gf _ _ (zS λK h=>sp 1 f Z λa f=>zP f Z (pFA kV Z) λa f=>zL f d uP m0 Z λa w f d=>sp 1 f Z λa f=>aH F λiu c5 F=>?_)
       obtain ⟨ii,i1,hd,cq,cx,qr⟩:=J.atm c5
       refine zP f Z (pIA Tryz.underlying63 wC Z Z cq) λa f=>zP f Z (pFA aCq Z) λa f=>zE f d Z (bB aZ Z (aV (j:=0) cx Z)) λa w f d=>sp 1 f Z λa f=>zT h (zI f Z F ?_ ?_) <;> intro F
       ·refine zS λK h=>sp 2 f Z λa f=>zT h (wp_ret (bG (aL (aL (have Y:=cB F Y;have F:=cc _ Y;bG (aL ?_))))))
        obtain rfl:=F
        exact have d:=d.drop k0;zO2 Tryz.results23 f Z Z ⟨Z,d⟩
       ·exact wp_skip (ax  _ _  (f.kp Z) d F)
      have gy:∀ r,av=.out r→r=ar:=by
       rintro r rfl
       exact sj F
      refine cF N (cE (S:=S25) (x:=av) ?_ N (0,0) _ _ ⟨f.kp Z,d⟩ cr)
      clear F f d
      rintro ⟨V,q⟩ ay a w KB25 ⟨f,d⟩ F z c9
      unfold jQ at F
      refine wp_seq_k λK28 ga=>zS λK h=>sp 1 f Z λa f=>zP f Z (pFA kW Z) λa f=>zL f d gR m0 Z λa w f d=>zP f Z (bA Tryz.underlying23 Z) λa f=>sp 1 f Z λa f=>zT h (zI f Z F ?_ ?_) <;> intro F
      ·refine wp_skip (ga _ _ (wp_seq_k λK30 du=>?_))
       have ag:∀ (t:Int) a w,Has 175 a [(1,.slice R l.length U),(2,pq O),(8,i6 g),(9,i6 i.Person),(10,i6 b.Station),(11,i6 t),(12,i6 q)]→Ctx G (.box O [.slice H r.People.length I,.slice D r.Stations.length B] 65::Lf) w→nX N q t=some ay→K30 a w:=by
        repeat first | clear F | clear d | clear f
        intro t a w f d F
        unfold nX at F
        exact du _ _ (bK (sp 3 f Z λa f=>aN (c9 (t,W (q + 1)) _ _ (sj F).symm ⟨f.kp Z,d⟩)))
       refine wp_block (wp_seq_k λK31 dv=>wp_seq_k λK32 dy=>aH F λac b1 F=>aH F λdr au F=>cQ d aU (by kernel_rfl) (qV f Z (iY (vs:=[.slice H r.People.length I,.slice D r.Stations.length B]) aBm Z Z (bT (n:=2) m0 Z)) λa f=>qp_ 2 f Z λa f=>qV f Z (eC (v:=.bool ac) (vs:=[.agg #[.slice H r.People.length I,.slice D r.Stations.length B],i6 q,i6 b.Station]) (caps:=[]) (eN 77) Z Z Z Z (λw d=>lO r q b.Station M J d b1)) λa f=>qp_ 2 f Z λa f=>aB5 18 (λa=>Has 175 a [(1,.slice R l.length U),(2,pq O),(8,i6 g),(9,i6 i.Person),(10,i6 b.Station),(11,i6 V),(12,i6 q),(81,.agg #[.slice H r.People.length I,.slice D r.Stations.length B]),(82,i6 q),(83,i6 b.Station),(84,.bool ac),(85,.bool (!ac)),(86,.bool (!ac)),(104,.bool dr)]) ?_ ?_))
       ·cases hb:(!ac)
        ·rw [hb] at f
         refine have F:=eG hb au;aH F λbr cn F=>?_
         obtain ⟨ip,iz,a6,cm,ct,b4⟩:=J.atm cn
         refine aH F λd7 b6 F=>aH F λbq dg F=>?_
         obtain ⟨ib,iq,a3,c4,dd,cj⟩:=J.atm dg
         refine aH F λdt c2 F=>qU f Z (pFA kV Z) λa f=>qV f Z (bB uP Z (bN m0 Z)) λa f=>qp_ 1 f Z λa f=>qU f Z (pIA Tryz.underlying63 wC Z Z cm) λa f=>qU f Z (pFA wT Z) λa f=>qV f Z (bB eL Z (aV (j:=1) ct Z)) λa f=>qp_ 1 f Z λa f=>qV f Z (eC (v:=i6 d7) (vs:=[.slice a6.1 br.Order.length a6.2,i6 q]) (caps:=[]) (eN 83) Z Z Z Z (λw d=>gY br.Order q b4 d b6)) λa f=>qU f Z (pFA kV Z) λa f=>qV f Z (bB uP Z (bN m0 Z)) λa f=>qp_ 1 f Z λa f=>qU f Z (pIA Tryz.underlying63 wC Z Z c4) λa f=>qU f Z (pFA wT Z) λa f=>?_
         refine qV f Z (bB eL Z (aV (j:=1) dd Z)) λa f=>qp_ 1 f Z λa f=>qV f Z (eC (v:=i6 dt) (vs:=[.slice a3.1 bq.Order.length a3.2,i6 i.Person]) (caps:=[]) (eN 83) Z Z Z Z (λw d=>gY bq.Order i.Person cj d c2)) λa f=>qp_ 2 f Z λa f=>?_
         obtain rfl:=sj F
         exact sZ (f.kp Z)
        ·rw [hb] at f
         have F:=cO hb au
         obtain rfl:=sj F
         exact qk_ 17 f Z λa f=>qp_ 1 f Z λa f=>sZ (f.kp Z)
       refine λa f=>λw d=>dy _ _ (zI f Z F ?_ ?_) <;> intro F
       ·exact wp_exit (aP (cX (ag V _ _  (f.kp Z) d F)))
       ·refine wp_skip (dv _ _ (zS λK h=>sp 1 f Z λa f=>zT h (wp_seq_k λK34 gg=>zS λK h=>sp 1 f Z λa f=>zT h (wp_block (aH F λa8 cp F=>?_)))))
        let S36:(Int × Int)→Act→World→Prop:=(λ(zz:Int × Int) a w=>Has 175 a [(1,.slice R l.length U),(2,pq O),(8,i6 g),(9,i6 i.Person),(10,i6 b.Station),(11,i6 V),(12,i6 q),(13,i6 zz.1),(14,i6 zz.2)]∧Ctx G (.box O [.slice H r.People.length I,.slice D r.Stations.length B] 65::Lf) w)
        have da:∀ (zz:Int × Int) a w,a8=.go zz→S36 zz a w→K34 a w:=by
         rintro ⟨m,k⟩ a w rfl ⟨f,d⟩
         refine have F:=bI F;gg _ _ (zS λK h=>sp 2 f Z λa f=>zT h (zI f Z F ?_ ?_)) <;> intro F
         ·exact bK (sp 3 f Z λa f=>aN (ag (W (V + 1)) _ _  (f.kp Z) d F))
         ·exact wp_skip (ag V _ _  (f.kp Z) d F)
        have g1:∀ r,a8=.out r→r=ay:=by
         rintro r rfl
         exact sj F
        refine cF N (cE (S:=S36) (x:=a8) ?_ N (0,0) _ _ ⟨f.kp Z,d⟩ cp)
        clear F f d
        rintro ⟨m,k⟩ a4 a w KB36 ⟨f,d⟩ F y b8
        unfold jM at F
        refine wp_seq_k λK38 gk=>zS λK h=>sp 1 f Z λa f=>zP f Z (pFA kW Z) λa f=>zL f d gR m0 Z λa w f d=>sp 1 f Z λa f=>aH F λgi cd F=>?_
        obtain ⟨ij,ia,g0,c6,ci,cy⟩:=M.atm cd
        refine zP f Z (pIA Tryz.underlying23 lN Z Z c6) λa f=>zE f d Z (bB eL Z (aV (j:=0) ci Z)) λa w f d=>sp 1 f Z λa f=>aH F λd6 b5 F=>zQ (v:=i6 d6) f d (eN 83) Z (λw d=>gY gi b.Station cy d b5) λa w f d=>sp 1 f Z λa f=>zT h (zI f Z F ?_ ?_) <;> intro F
        ·refine wp_skip (gk _ _ (wp_seq_k λK40 d4=>?_))
         have a0:∀ (p:Int) a w,Has 175 a [(1,.slice R l.length U),(2,pq O),(8,i6 g),(9,i6 i.Person),(10,i6 b.Station),(11,i6 V),(12,i6 q),(13,i6 p),(14,i6 k)]→Ctx G (.box O [.slice H r.People.length I,.slice D r.Stations.length B] 65::Lf) w→rM N k p=some a4→K40 a w:=by
          repeat first | clear F | clear d | clear f
          intro p a w f d F
          unfold rM at F
          exact d4 _ _ (bK (sp 3 f Z λa f=>aN (b8 (p,W (k + 1)) _ _ (sj F).symm ⟨f.kp Z,d⟩)))
         refine wp_block (wp_seq_k λK41 gj=>aH F λix dq F=>?_)
         obtain ⟨iv,i0,g4,db,cb,b2⟩:=M.atm dq
         obtain ⟨bv,c3,F⟩:=cU F
         obtain ⟨ic,ik,b9,c8⟩:=b2.atm c3
         refine aH F λbs cv F=>cQ d aU (by kernel_rfl) (qV f Z (iY (vs:=[.slice H r.People.length I,.slice D r.Stations.length B]) aBm Z Z (bT (n:=2) m0 Z)) λa f=>qp_ 1 f Z λa f=>qU f Z (pFA kW Z) λa f=>qV f Z (bB gR Z (bN m0 Z)) λa f=>qp_ 1 f Z λa f=>qU f Z (pIA Tryz.underlying23 lN Z Z db) λa f=>qV f Z (bB eL Z (aV (j:=0) cb Z)) λa f=>qp_ 1 f Z λa f=>qU f Z (pIA Tryz.underlying22 cS Z Z b9) λa f=>qV f Z (bB aZ Z (aV (j:=0) c8 Z)) λa f=>qV f Z (eC (v:=.bool bs) (vs:=[.agg #[.slice H r.People.length I,.slice D r.Stations.length B],i6 q,i6 bv]) (caps:=[]) (eN 77) Z Z Z Z (λw d=>lO r q bv M J d cv)) λa f=>qp_ 2 f Z λa f=>?_)
         refine λw d=>gj _ _ (wp_seq_k λK42 d2=>zS λK h=>sp 1 f Z λa f=>zT h (wp_block (aH F λa5 b7 F=>?_)))
         let S44:(Bool × Int)→Act→World→Prop:=(λ(zz:Bool × Int) a w=>Has 175 a [(1,.slice R l.length U),(2,pq O),(8,i6 g),(9,i6 i.Person),(10,i6 b.Station),(11,i6 V),(12,i6 q),(13,i6 m),(14,i6 k),(15,.bool zz.1),(16,i6 zz.2)]∧Ctx G (.box O [.slice H r.People.length I,.slice D r.Stations.length B] 65::Lf) w)
         have cu:∀ (zz:Bool × Int) a w,a5=.go zz→S44 zz a w→K42 a w:=by
          rintro ⟨af,ad⟩ a w rfl ⟨f,d⟩
          refine have F:=bI F;d2 _ _ (zS λK h=>sp 2 f Z λa f=>zT h (zI f Z F ?_ ?_)) <;> intro F
          ·exact bK (sp 3 f Z λa f=>aN (a0 (W (m + 1)) _ _  (f.kp Z) d F))
          ·exact wp_skip (a0 m _ _  (f.kp Z) d F)
         have g8:∀ r,a5=.out r→r=a4:=by
          rintro r rfl
          exact sj F
         refine cF N (cE (S:=S44) (x:=a5) ?_ N ((!bs),0) _ _ ⟨f.kp Z,d⟩ b7)
         clear F f d
         rintro ⟨af,ad⟩ g7 a w KB44 ⟨f,d⟩ F u b3
         unfold jO at F
         refine wp_seq_k λK46 gd=>zS λK h=>sp 3 f Z λa f=>zT h (zI f Z F ?_ ?_) <;> intro F
         ·refine wp_skip (gd _ _ (wp_seq_k λK48 gn=>wp_block (aH F λbu a7 F=>cQ d aU (by kernel_rfl) (qp_ 2 f Z λa f=>aB5 24 (λa=>Has 175 a [(1,.slice R l.length U),(2,pq O),(8,i6 g),(9,i6 i.Person),(10,i6 b.Station),(11,i6 V),(12,i6 q),(13,i6 m),(14,i6 k),(15,.bool af),(16,i6 ad),(133,.bool af),(134,.bool af),(158,.bool bu)]) ?_ ?_))))
          ·cases hb:af
           ·rw [hb] at f
            refine have F:=eG hb a7;aH F λak dk F=>?_
            obtain ⟨ap,bt,c7,cs⟩:=aa.atm dk
            refine aH F λgc az F=>qp_ 2 f Z λa f=>qU f Z (pIA Tryz.underlying75 aA5 Z Z c7) λa f=>qU f Z (pFA aJz Z) λa f=>qV f Z (bB aZ Z (aV (j:=0) cs Z)) λa f=>qp_ 3 f Z λa f=>aB5 15 (λa=>Has 175 a [(1,.slice R l.length U),(2,pq O),(8,i6 g),(9,i6 i.Person),(10,i6 b.Station),(11,i6 V),(12,i6 q),(13,i6 m),(14,i6 k),(15,.bool false),(16,i6 ad),(133,.bool false),(134,.bool false),(135,.slice R l.length U),(136,i6 ad),(137,.pointer (some ⟨ap,bt,none⟩)),(138,.pointer (some ⟨ap,bt + 0,none⟩)),(139,i6 ak.Person),(140,i6 q),(141,.bool (ak.Person == q)),(142,.bool (ak.Person == q)),(157,.bool gc)]) ?_ ?_
            ·cases hb:(ak.Person == q)
             ·rw [hb] at f
              have F:=eG hb az
              obtain rfl:=sj F
              exact qk_ 14 f Z λa f=>qp_ 1 f Z λa f=>sZ (f.kp Z)
             ·rw [hb] at f
              refine have F:=cO hb az;aH F λg6 bk F=>?_
              obtain ⟨g5,it,b0,ca⟩:=aa.atm bk
              obtain ⟨gz,bc,F⟩:=cU F
              obtain ⟨g2,gr,gq,bn,a9,cz⟩:=M.atm bc
              obtain ⟨g9,ba,F⟩:=cU F
              obtain ⟨gv,gu,bd,bb⟩:=cz.atm ba
              refine qp_ 2 f Z λa f=>qU f Z (pIA Tryz.underlying75 aA5 Z Z b0) λa f=>qU f Z (pFA aJw Z) λa f=>qV f Z (bB aZ Z (aV (j:=1) ca Z)) λa f=>qU f Z (pFA kW Z) λa f=>qV f Z (bB gR Z (bN m0 Z)) λa f=>qp_ 1 f Z λa f=>qU f Z (pIA Tryz.underlying23 lN Z Z bn) λa f=>qV f Z (bB eL Z (aV (j:=0) a9 Z)) λa f=>qp_ 1 f Z λa f=>qU f Z (pIA Tryz.underlying22 cS Z Z bd) λa f=>qV f Z (bB aZ Z (aV (j:=0) bb Z)) λa f=>qp_ 2 f Z λa f=>?_
              obtain rfl:=sj F
              exact sZ (f.kp Z)
            refine λa f=>qp_ 1 f Z λa f=>?_
            obtain rfl:=sj F
            exact sZ (f.kp Z)
           ·rw [hb] at f
            have F:=cO hb a7
            obtain rfl:=sj F
            exact qk_ 23 f Z λa f=>qp_ 1 f Z λa f=>sZ (f.kp Z)
          exact λa f=>qp_ 1 f Z λa f=>λw d=>gn _ _ (bK (sp 3 f Z λa f=>aN (b3 (bu,W (ad + 1)) _ _ (sj F).symm ⟨f.kp Z,d⟩)))
         ·exact wp_exit (aP (aP (have u:=cB F u;cX (cu _ _ _ u ⟨f.kp Z,d⟩))))
        ·exact wp_exit (aP (aP (have y:=cB F y;cX (da _ _ _ y ⟨f.kp Z,d⟩))))
      ·exact wp_exit (aP (aP (have z:=cB F z;cX (dc _ _ _ z ⟨f.kp Z,d⟩))))
    ·exact wp_exit (aP (aP (have Y:=cB F Y;cX (dn _ _ _ Y ⟨f.kp Z,d⟩))))
   have ck:∀ r,a1=.out r→r=ab:=by
    rintro r rfl
    exact sj F
   refine cF N (cE (S:=S11) (x:=a1) ?_ N 0 _ _ ⟨f.kp Z,d⟩ dp)
   clear F f d
   rintro aj g3 a w KB11 ⟨f,d⟩ F X di
   unfold jK at F
   refine wp_seq_k λK49 d1=>zS λK h=>sp 2 f Z λa f=>zP f Z (bA Tryz.underlying75 Z) λa f=>sp 1 f Z λa f=>zT h (zI f Z F ?_ ?_) <;> intro F
   ·refine wp_skip (d1 _ _ (wp_seq_k λK51 gp=>wp_block (wp_seq_k λK52 dz=>aH F λs bg F=>?_)))
    obtain ⟨a2,an,bi,bp⟩:=aa.atm bg
    refine aH F λd5 am F=>cQ d aU (by kernel_rfl) (qp_ 2 f Z λa f=>qU f Z (pIA Tryz.underlying75 aA5 Z Z bi) λa f=>qU f Z (pFA aJz Z) λa f=>qV f Z (bB aZ Z (aV (j:=0) bp Z)) λa f=>qU f Z (pFA kW Z) λa f=>qV f Z (bB gR Z (bN m0 Z)) λa f=>qU f Z (bA Tryz.underlying23 Z) λa f=>qp_ 1 f Z λa f=>qV f Z (eC (v:=.bool (aK s.Person 0 (W (((r.People.length:Nat):Int) - 1)))) (vs:=[i6 s.Person,i6 0,i6 (W (((r.People.length:Nat):Int) - 1))]) (caps:=[]) (eN 69) Z Z Z Z (λw d=>cM s.Person 0 (W (((r.People.length:Nat):Int) - 1)) d Z)) λa f=>qp_ 1 f Z λa f=>aB5 11 (λa=>Has 175 a [(1,.slice R l.length U),(2,pq O),(7,i6 aj),(31,.slice R l.length U),(32,i6 aj),(33,.pointer (some ⟨a2,an,none⟩)),(34,.pointer (some ⟨a2,an + 0,none⟩)),(35,i6 s.Person),(36,pq O),(37,.slice H r.People.length I),(38,i6 ((r.People.length:Nat):Int)),(39,i6 (W (((r.People.length:Nat):Int) - 1))),(40,.bool (aK s.Person 0 (W (((r.People.length:Nat):Int) - 1)))),(41,.bool (aK s.Person 0 (W (((r.People.length:Nat):Int) - 1)))),(52,.bool d5)]) ?_ ?_)
    ·cases hb:(aK s.Person 0 (W (((r.People.length:Nat):Int) - 1)))
     ·rw [hb] at f
      refine have F:=eG hb am;aH F λai bm F=>?_
      obtain ⟨gx,gs,bj,bf⟩:=aa.atm bm
      refine qp_ 2 f Z λa f=>qU f Z (pIA Tryz.underlying75 aA5 Z Z bj) λa f=>qU f Z (pFA aJw Z) λa f=>qV f Z (bB aZ Z (aV (j:=1) bf Z)) λa f=>qU f Z (pFA kV Z) λa f=>qV f Z (bB uP Z (bN m0 Z)) λa f=>qU f Z (bA Tryz.underlying63 Z) λa f=>qp_ 1 f Z λa f=>qV f Z (eC (v:=.bool (aK ai.Station 0 (W (((r.Stations.length:Nat):Int) - 1)))) (vs:=[i6 ai.Station,i6 0,i6 (W (((r.Stations.length:Nat):Int) - 1))]) (caps:=[]) (eN 69) Z Z Z Z (λw d=>cM ai.Station 0 (W (((r.Stations.length:Nat):Int) - 1)) d Z)) λa f=>qp_ 1 f Z λa f=>?_
      obtain rfl:=sj F
      exact sZ (f.kp Z)
     ·rw [hb] at f
      have F:=cO hb am
      obtain rfl:=sj F
      exact qk_ 10 f Z λa f=>qp_ 1 f Z λa f=>sZ (f.kp Z)
    refine λa f=>λw d=>dz _ _ (zI f Z F ?_ ?_) <;> intro F
    ·refine zS λK h=>sp 2 f Z λa f=>zT h (wp_ret (bG (aL (aL (have X:=cB F X;have F:=ck _ X;bG (aL ?_))))))
     obtain rfl:=F
     exact have d:=d.drop k0;zO2 Tryz.results23 f Z Z ⟨Z,d⟩
    ·exact wp_skip (gp _ _ (bK (sp 3 f Z λa f=>aN (di (W (aj + 1)) _ _ (sj F).symm ⟨f.kp Z,d⟩))))
   ·exact wp_exit (aP (aP (have X:=cB F X;cX (dj _ _ _ X ⟨f.kp Z,d⟩))))

def kK (N:Nat) (I:Int) (B:List Int) (D:List Int) (H:Bool):Option (bC ((List Int) × (List Int) × Bool × Int) (bC ((List Int) × (List Int) × Bool) ((List Int) × Int))) :=
 some (.cont (B,D,H,W (I + 1)))
def pZ (N:Nat) (q:Int) (B:Int):Option (bC (Int × Int) (bC ((List Int) × (List Int) × Bool × Int) (bC ((List Int) × (List Int) × Bool) ((List Int) × Int)))) :=
 some (.cont (B,W (q + 1)))
def kT (N:Nat) (r:bR) (B:List Int) (R:Int) (H:Int) (D:Int) (q:Int):Option (bC (Int × Int) (bC ((List Int) × (List Int) × Bool × Int) (bC ((List Int) × (List Int) × Bool) ((List Int) × Int)))) :=
 cond (decide (q < ((r.People.length:Nat):Int)))
 (Option.bind (aQ (B.set R.toNat H) q) λJ=>
 Option.bind (cond (J == H) (Option.bind (aQ r.Stations H) λI=>
 Option.bind (eH N I.Order q) λO=>
 Option.bind (aQ r.Stations H) λM=>
 Option.bind (eH N M.Order D) λS=>
 some (decide (S < O))) (some false)) λU=>
 cond U
 (pZ N q q)
 (pZ N q D))
 (some (.brk (D,q)))
def fI (N:Nat) (r:bR) (B:List Int) (H:List Int) (J:Bool) (D:Int):Option (bC ((List Int) × (List Int) × Bool × Int) (bC ((List Int) × (List Int) × Bool) ((List Int) × Int))) :=
 cond (decide (D < ((r.People.length:Nat):Int)))
 (Option.bind (aQ B D) λX=>
 Option.bind (cond (X != (-1)) (some true) (Option.bind (aQ H D) λV=>
 Option.bind (aQ r.People D) λU=>
 some (V == ((U.length:Nat):Int)))) λS=>
 cond S
 (kK N D B H J)
 (Option.bind (aQ r.People D) λj=>
 Option.bind (aQ H D) λY=>
 Option.bind (aQ j Y) λI=>
 Option.bind (aQ H D) λO=>
 Option.bind (aQ H D) λn=>
 Option.bind (gG N r D I) λg=>
 cond (!g)
 (kK N D B (H.set D.toNat (W (O + 1))) true)
 (Option.bind (aQ B D) λm=>
 Option.bind (uT N (B.set D.toNat I) I) λb=>
 Option.bind (aQ r.Stations I) λR=>
 cond (decide (b≤R.Places))
 (kK N D (B.set D.toNat I) (H.set D.toNat (W (O + 1))) true)
 (Option.bind (aS (λM=>kT N r B D I M.1 M.2) N (D,0)) λi=>
 exK i (λM=>Option.bind (aQ (B.set D.toNat I) M.1) λk=>
 kK N D ((B.set D.toNat I).set M.1.toNat (-1)) (H.set D.toNat (W (O + 1))) true) some))))
 (some (.brk (B,H,J,D)))
def iP (N:Nat) (r:bR) (B:List Int) (I:List Int) (H:Bool):Option (bC ((List Int) × (List Int) × Bool) ((List Int) × Int)) :=
 cond H
 (Option.bind (aS (λD=>fI N r D.1 D.2.1 D.2.2.1 D.2.2.2) N (B,I,false,0)) λJ=>
 exK J (λD=>some (.cont (D.1,D.2.1,D.2.2.1))) some)
 (some (.brk (B,I,H)))
def iM (N:Nat) (r:bR) (B:List Int) (D:Int):Option (bC ((List Int) × Int) ((List Int) × Int)) :=
 cond (decide (D < ((r.People.length:Nat):Int)))
 (Option.bind (aQ B D) λH=>
 some (.cont ((B.set D.toNat (-1)),W (D + 1))))
 (some (.brk (B,D)))
def qW (N:Nat) (r:bR):Option ((List Int) × Int) :=
 Option.bind (qK N r) λH=>
 cond (H != 0)
 (some (([]:List Int),H))
 (Option.bind (inM ((r.People.length:Nat):Int)) λun=>
 Option.bind (inM ((r.People.length:Nat):Int)) λM=>
 Option.bind (aS (λD=>iM N r D.1 D.2) N ((List.replicate ((r.People.length:Nat):Int).toNat (0:Int)),0)) λJ=>
 exK J (λD=>Option.bind (aS (λB=>iP N r B.1 B.2.1 B.2.2) N (D.1,(List.replicate ((r.People.length:Nat):Int).toNat (0:Int)),true)) λI=>
 exK I (λB=>some (B.1,0)) some) some)
theorem aGg {M I:Option Addr} {O H:Nat} (r:bR) (n:RdT aT G 1 M O r.People) (V:RdT iZ G 2 I H r.Stations) (d:Ctx G (Lf) w) {ar:(List Int) × Int} (F:qW N r=some ar):Calls Tryz.prog 26 #[.agg #[.slice M r.People.length O,.slice I r.Stations.length H]] w (λe w=>∃ (ca:Option Addr) (cb:Nat),e=.returned (.tuple #[.slice ca ar.1.length cb,i6 ar.2])∧Ctx G (.row ca cb (ar.1.map aF) 3 1::Lf) w):=by
 refine bY Tryz.func26 Z Tryz.ntmps26 Z λa f=>zS λK h=>zB f d Z λp a w f d=>sp 2 f Z λa f=>zT h (wp_seq_k λK2 h2=>zS λK h=>zN f d aBm m0 Z λa w f d=>aH F λgj ct F=>zQ (v:=i6 gj) f d (eN 18) Z (λw d=>vI r n V d ct) λa w f d=>sp 1 f Z λa f=>zT h (zS λK h=>sp 2 f Z λa f=>?_))
 refine zT h (zI f Z F ?_ ?_) <;> intro F
 ·refine zS λK h=>sp 3 f Z λa f=>zT h (wp_ret (aL ?_))
  obtain rfl:=sj F
  exact have d:=d.nilRow 3 1;have d:=d.drop k1;zO2 Tryz.results26 f Z Z ⟨none,0,Z,d⟩
 ·refine wp_skip (h2 _ _ (zS λK h=>zP f Z (pFA kW Z) λa f=>zL f d gR m0 Z λa w f d=>zP f Z (bA Tryz.underlying23 Z) λa f=>aH F λun d5 F=>aKk (m:=(List.replicate ((r.People.length:Nat):Int).toNat (0:Int)).length) (rows:=(List.replicate ((r.People.length:Nat):Int).toNat (0:Int)).map aF) f d Z Z eV Z Z (xC d5) Z Z (by simp [List.map_replicate,Value.cells]) (by simp) λd1 a w f d=>sp 1 f Z λa f=>zT h (zS λK h=>zP f Z (pFA kW Z) λa f=>zL f d gR m1 Z λa w f d=>zP f Z (bA Tryz.underlying23 Z) λa f=>?_)))
  refine aH F λgv b2 F=>aKk (m:=(List.replicate ((r.People.length:Nat):Int).toNat (0:Int)).length) (rows:=(List.replicate ((r.People.length:Nat):Int).toNat (0:Int)).map aF) f d Z Z eV Z Z (xC b2) Z Z (by simp [List.map_replicate,Value.cells]) (by simp) λbg a w f d=>sp 1 f Z λa f=>zT h (wp_seq_k λK8 h8=>zS λK h=>sp 1 f Z λa f=>zT h (wp_block (aH F λbd dp F=>?_)))
  let S10:((List Int) × Int)→Act→World→Prop:=(λ(zz:(List Int) × Int) a w=>∃ (ay:Option Addr) (af:Nat),Has 138 a [(1,pq p),(5,.slice ay zz.1.length af),(6,.slice (sa bg) ((List.replicate ((r.People.length:Nat):Int).toNat (0:Int)).length) (((r.People.length:Nat):Int).toNat)),(7,i6 zz.2)]∧Ctx G (.row (sa bg) (((r.People.length:Nat):Int).toNat) ((List.replicate ((r.People.length:Nat):Int).toNat (0:Int)).map aF) 3 1::.row ay af (zz.1.map aF) 3 1::.box p [.slice M r.People.length O,.slice I r.Stations.length H] 65::Lf) w)
  have cy:∀ (zz:(List Int) × Int) a w,bd=.go zz→S10 zz a w→K8 a w:=by
   rintro ⟨b,a4⟩ a w rfl ⟨ay,af,f,d⟩
   refine have F:=bI F;h8 _ _ (wp_seq_k λK11 gn=>zS λK h=>sp 1 f Z λa f=>zT h (wp_block (aH F λbb dk F=>?_)))
   let S13:((List Int) × (List Int) × Bool)→Act→World→Prop:=(λ(zz:(List Int) × (List Int) × Bool) a w=>∃ (ap:Option Addr) (ak:Nat) (au:Option Addr) (ax:Nat),Has 138 a [(1,pq p),(5,.slice ap zz.1.length ak),(6,.slice au zz.2.1.length ax),(8,.bool zz.2.2)]∧Ctx G (.row au ax (zz.2.1.map aF) 3 1::.row ap ak (zz.1.map aF) 3 1::.box p [.slice M r.People.length O,.slice I r.Stations.length H] 65::Lf) w)
   have dm:∀ (zz:(List Int) × (List Int) × Bool) a w,bb=.go zz→S13 zz a w→K11 a w:=by
    rintro ⟨y,a3,bv⟩ a w rfl ⟨ap,ak,au,ax,f,d⟩
    refine have F:=bI F;gn _ _ (zS λK h=>sp 3 f Z λa f=>zT h (wp_ret ?_))
    obtain rfl:=sj F
    exact have d:=(d.drop k2).drop k0;zO2 Tryz.results26 f Z Z ⟨ap,ak,Z,d⟩
   have gx:∀ r,bb=.out r→r=ar:=by
    rintro r rfl
    exact sj F
   refine cF N (cE (S:=S13) (x:=bb) ?_ N (b,(List.replicate ((r.People.length:Nat):Int).toNat (0:Int)),true) _ _ ⟨ay,af,(sa bg),((r.People.length:Nat):Int).toNat,f.kp Z,d⟩ dk)
   clear F f d
   rintro ⟨y,a3,bv⟩ ck a w KB13 ⟨ap,ak,au,ax,f,d⟩ F am cs
   unfold iP at F
   refine wp_seq_k λK15 gc=>zS λK h=>sp 1 f Z λa f=>zT h (zI f Z F ?_ ?_) <;> intro F
   ·refine wp_skip (gc _ _ (sR λK17 d8=>wp_block (zS λK h=>sp 1 f Z λa f=>zT h (zS λK h=>sp 1 f Z λa f=>zT h (sR λK20 gb=>wp_block (aH F λbs cv F=>?_))))))
    let S21:((List Int) × (List Int) × Bool × Int)→Act→World→Prop:=(λ(zz:(List Int) × (List Int) × Bool × Int) a w=>∃ (av:Option Addr) (U:Nat) (ag:Option Addr) (X:Nat),Has 138 a [(1,pq p),(5,.slice av zz.1.length U),(6,.slice ag zz.2.1.length X),(8,.bool zz.2.2.1),(9,i6 zz.2.2.2)]∧Ctx G (.row ag X (zz.2.1.map aF) 3 1::.row av U (zz.1.map aF) 3 1::.box p [.slice M r.People.length O,.slice I r.Stations.length H] 65::Lf) w)
    have cm:∀ (zz:(List Int) × (List Int) × Bool × Int) a w,bs=.go zz→S21 zz a w→K20 a w:=by
     rintro ⟨B,D,aa,J⟩ a w rfl ⟨av,U,ag,X,f,d⟩
     exact have F:=bI F;gb _ _ (d8 _ _ (cs (B,D,aa) _ _ (sj F).symm ⟨av,U,ag,X,f.kp Z,d⟩))
    have ia:∀ r,bs=.out r→r=ck:=by
     rintro r rfl
     exact sj F
    refine cF N (cE (S:=S21) (x:=bs) ?_ N (y,a3,false,0) _ _ ⟨ap,ak,au,ax,f.kp Z,d⟩ cv)
    clear F f d
    rintro ⟨B,D,aa,J⟩ ba a w KB21 ⟨av,U,ag,X,f,d⟩ F an c6
    unfold fI at F
    refine wp_seq_k λK22 d6=>zS λK h=>sp 1 f Z λa f=>zP f Z (pFA kW Z) λa f=>zL f d gR m2 Z λa w f d=>zP f Z (bA Tryz.underlying23 Z) λa f=>sp 1 f Z λa f=>zT h (zI f Z F ?_ ?_) <;> intro F
    ·refine wp_skip (d6 _ _ (wp_seq_k λK24 d0=>?_))
     have az:∀ (R:List Int) (t:List Int) (ab:Bool) (a9:Option Addr) (a6:Nat) (a1:Option Addr) (a8:Nat) a w,Has 138 a [(1,pq p),(5,.slice a9 R.length a6),(6,.slice a1 t.length a8),(8,.bool ab),(9,i6 J)]→Ctx G (.row a1 a8 (t.map aF) 3 1::.row a9 a6 (R.map aF) 3 1::.box p [.slice M r.People.length O,.slice I r.Stations.length H] 65::Lf) w→kK N J R t ab=some ba→K24 a w:=by
      repeat first | clear F | clear d | clear f
      intro R t ab a9 a6 a1 a8 a w f d F
      unfold kK at F
      exact d0 _ _ (bK (sp 3 f Z λa f=>aN (c6 (R,t,ab,W (J + 1)) _ _ (sj F).symm ⟨a9,a6,a1,a8,f.kp Z,d⟩)))
     refine wp_block (wp_seq_k λK25 gr=>wp_seq_k λK26 ga=>aH F λa2 c9 F=>have aj:=f;?_)
     obtain ⟨g,rfl,qa,qr⟩:=gW d m1 c9
     refine have f:=aj;aH F λdv bc F=>cQ d aU (by kernel_rfl) (qp_ 2 f Z λa f=>qU f Z (pIA Tryz.underlying22 cS Z Z qa) λa f=>qV f Z (bB aZ Z (cA (sz:=1) (i:=J.toNat) (j:=0) m1 qr Z)) λa f=>qp_ 2 f Z λa f=>aB5 12 (λa=>Has 138 a [(1,pq p),(5,.slice (sa g) B.length U),(6,.slice ag D.length X),(8,.bool aa),(9,i6 J),(44,.slice (sa g) B.length U),(45,i6 J),(46,.pointer (some ⟨g,J.toNat * 1,none⟩)),(47,i6 a2),(48,.bool (a2 != (-1))),(49,.bool (a2 != (-1))),(61,.bool dv)]) ?_ ?_)
     ·cases hb:(a2 != (-1))
      ·rw [hb] at f
       refine have F:=eG hb bc;aH F λix cr F=>have aj:=f;?_
       obtain ⟨i0,rfl,c8,ci⟩:=gW d m0 cr
       refine have f:=aj;aH F λiu df F=>?_
       obtain ⟨ii,o,hd,c0,qp,gy⟩:=n.atm df
       refine qp_ 2 f Z λa f=>qU f Z (pIA Tryz.underlying22 cS Z Z c8) λa f=>qV f Z (bB aZ Z (cA (sz:=1) (i:=J.toNat) (j:=0) m0 ci Z)) λa f=>qU f Z (pFA kW Z) λa f=>qV f Z (bB gR Z (bN m2 Z)) λa f=>qp_ 1 f Z λa f=>qU f Z (pIA Tryz.underlying23 lN Z Z c0) λa f=>qV f Z (bB eL Z (aV (j:=0) qp Z)) λa f=>qU f Z (bA Tryz.underlying22 Z) λa f=>qp_ 2 f Z λa f=>?_
       obtain rfl:=sj F
       exact sZ (f.kp Z)
      ·rw [hb] at f
       have F:=cO hb bc
       obtain rfl:=sj F
       exact qk_ 11 f Z λa f=>qp_ 1 f Z λa f=>sZ (f.kp Z)
     refine λa f=>λw d=>ga _ _ (zI f Z F ?_ ?_) <;> intro F
     ·exact wp_exit (aP (cX (az B D aa (sa g) U ag X _ _  (f.kp Z) d F)))
     ·refine wp_skip (gr _ _ (zS λK h=>sp 1 f Z λa f=>zT h (wp_seq_k λK28 gf=>aH F λiq cz F=>?_)))
      obtain ⟨ir,iy,g6,cx,cc,c5⟩:=n.atm cz
      refine aH F λip ds F=>have aj:=f;?_
      obtain ⟨s,rfl,dc,cg⟩:=gW d m0 ds
      refine have f:=aj;aH F λY cq F=>?_
      obtain ⟨ig,i2,dg,c3⟩:=c5.atm cq
      refine cQ d aU (by kernel_rfl) (qU f Z (pFA kW Z) λa f=>qV f Z (bB gR Z (bN m2 Z)) λa f=>qp_ 1 f Z λa f=>qU f Z (pIA Tryz.underlying23 lN Z Z cx) λa f=>qV f Z (bB eL Z (aV (j:=0) cc Z)) λa f=>qp_ 2 f Z λa f=>qU f Z (pIA Tryz.underlying22 cS Z Z dc) λa f=>qV f Z (bB aZ Z (cA (sz:=1) (i:=J.toNat) (j:=0) m0 cg Z)) λa f=>qU f Z (pIA Tryz.underlying22 cS Z Z dg) λa f=>qV f Z (bB aZ Z (aV (j:=0) c3 Z)) λa f=>qp_ 1 f Z λa f=>λw d=>gf _ _ ?_)
      refine zS λK h=>sp 4 f Z λa f=>aH F λad du F=>?_
      obtain ⟨dn,c7⟩:=cK d m0 du
      refine zP f Z (pIA Tryz.underlying22 cS Z Z dn) λa f=>zE f d Z (bB aZ Z (cA (sz:=1) (i:=J.toNat) (j:=0) m0 c7 Z)) λa w f d=>sp 1 f Z λa f=>aH F λi3 bk F=>?_
      obtain ⟨cn,g7⟩:=cK d m0 bk
      refine zP f Z (pIA Tryz.underlying22 cS Z Z cn) λa f=>wA (sz:=1) (vs:=[i6 (W (ad + 1))]) (o':=0) (z:=W (ad + 1)) (xs:=D) f d Z Z Z Z cS Z (λx=>(bQ x).1) (fX bk) (λ_ _=>Z) Z u0 λw d=>zT h (wp_seq_k λK30 dy=>zS λK h=>zN f d aBm m2 Z λa w f d=>sp 2 f Z λa f=>aH F λgd dt F=>zQ (v:=.bool gd) f d (eN 77) Z (λw d=>lO r J Y n V d dt) λa w f d=>sp 1 f Z λa f=>zT h (zI f Z F ?_ ?_)) <;> intro F
      ·exact wp_exit (aP (cX (have f:=f.castAt 6 (v':=.slice (sa s) ((D.set J.toNat (W (ad + 1))).length) X) Z (congrArg (λk=>Value.slice (sa s) k X) (by simp));az B (D.set J.toNat (W (ad + 1))) true (sa g) U (sa s) X _ _  (f.kp Z) d F)))
      ·refine wp_skip (dy _ _ (zS λK h=>sp 3 f Z λa f=>aH F λiz bt F=>?_))
       obtain ⟨dj,ib⟩:=cK d m1 bt
       refine zP f Z (pIA Tryz.underlying22 cS Z Z dj) λa f=>wA (sz:=1) (vs:=[i6 Y]) (o':=0) (z:=Y) (xs:=B) f d Z Z Z Z cS Z (λx=>(bQ x).1) (fX bt) (λ_ _=>Z) Z u1 λw d=>zT h (wp_seq_k λK33 d2=>wp_seq_k λK34 gp=>aH F λd3 cf F=>aH F λg8 b5 F=>?_)
       obtain ⟨ik,i1,g3,cd,c1,g1⟩:=V.atm b5
       refine cQ d aU (by kernel_rfl) (qp_ 2 f Z λa f=>qV f Z (eC (v:=i6 d3) (vs:=[.slice (sa g) B.length U,i6 Y]) (caps:=[]) (eN 78) Z Z Z Z (λw d=>by obtain ⟨G1,g4,cp,d,dd⟩:=lend d k1;have hq:=yJ (B.set J.toNat Y) Y cp d cf;simp only [List.length_set] at hq;exact (hq).mono λe w h=>⟨h.1,((dd _ _ h.2).unpick k1)⟩)) λa f=>qU f Z (pFA kV Z) λa f=>qV f Z (bB uP Z (bN m2 Z)) λa f=>qp_ 1 f Z λa f=>qU f Z (pIA Tryz.underlying63 wC Z Z cd) λa f=>qU f Z (pFA aCq Z) λa f=>qV f Z (bB aZ Z (aV (j:=0) c1 Z)) λa f=>qp_ 1 f Z λa f=>λw d=>gp _ _ (zI f Z F ?_ ?_)) <;> intro F
       ·exact wp_exit (aP (cX (have f:=f.castAt 5 (v':=.slice (sa g) ((B.set J.toNat Y).length) U) Z (congrArg (λk=>Value.slice (sa g) k U) (by simp));have f:=f.castAt 6 (v':=.slice (sa s) ((D.set J.toNat (W (ad + 1))).length) X) Z (congrArg (λk=>Value.slice (sa s) k X) (by simp));az (B.set J.toNat Y) (D.set J.toNat (W (ad + 1))) true (sa g) U (sa s) X _ _  (f.kp Z) d F)))
       ·refine wp_skip (d2 _ _ (zS λK h=>sp 2 f Z λa f=>zT h (wp_seq_k λK36 d7=>zS λK h=>sp 1 f Z λa f=>zT h (wp_block (aH F λbq di F=>?_)))))
        let S38:(Int × Int)→Act→World→Prop:=(λ(zz:Int × Int) a w=>Has 138 a [(1,pq p),(5,.slice (sa g) B.length U),(6,.slice (sa s) D.length X),(8,.bool true),(9,i6 J),(10,i6 Y),(11,i6 zz.1),(12,i6 zz.2)]∧Ctx G (.row (sa s) X ((D.set J.toNat (W (ad + 1))).map aF) 3 1::.row (sa g) U ((B.set J.toNat Y).map aF) 3 1::.box p [.slice M r.People.length O,.slice I r.Stations.length H] 65::Lf) w)
        have c4:∀ (zz:Int × Int) a w,bq=.go zz→S38 zz a w→K36 a w:=by
         rintro ⟨u,q⟩ a w rfl ⟨f,d⟩
         refine have F:=bI F;d7 _ _ (bK (sp 2 f Z λa f=>aH F λg0 a5 F=>?_))
         obtain ⟨b7,g2⟩:=cK d m1 a5
         exact zP f Z (pIA Tryz.underlying22 cS Z Z (At.len b7 (by simp only [List.length_set]))) λa f=>wA (sz:=1) (vs:=[i6 (-1)]) (o':=0) (z:=(-1)) (xs:=(B.set J.toNat Y)) f d Z Z Z Z cS Z (λx=>(bQ x).1) (fX a5) (λ_ _=>Z) Z u1 λw d=>aN (have f:=f.castAt 5 (v':=.slice (sa g) (((B.set J.toNat Y).set u.toNat (-1)).length) U) Z (congrArg (λk=>Value.slice (sa g) k U) (by simp));have f:=f.castAt 6 (v':=.slice (sa s) ((D.set J.toNat (W (ad + 1))).length) X) Z (congrArg (λk=>Value.slice (sa s) k X) (by simp));az ((B.set J.toNat Y).set u.toNat (-1)) (D.set J.toNat (W (ad + 1))) true (sa g) U (sa s) X _ _  (f.kp Z) d F)
        have gu:∀ r,bq=.out r→r=ba:=by
         rintro r rfl
         exact sj F
        refine cF N (cE (S:=S38) (x:=bq) ?_ N (J,0) _ _ ⟨f.kp Z,d⟩ di)
        clear F f d
        rintro ⟨u,q⟩ c2 a w KB38 ⟨f,d⟩ F ai dr
        unfold kT at F
        refine wp_seq_k λK39 dz=>zS λK h=>sp 1 f Z λa f=>zP f Z (pFA kW Z) λa f=>zL f d gR m2 Z λa w f d=>zP f Z (bA Tryz.underlying23 Z) λa f=>sp 1 f Z λa f=>zT h (zI f Z F ?_ ?_) <;> intro F
        ·refine wp_skip (dz _ _ (wp_seq_k λK41 gq=>?_))
         have bp:∀ (ac:Int) a w,Has 138 a [(1,pq p),(5,.slice (sa g) B.length U),(6,.slice (sa s) D.length X),(8,.bool true),(9,i6 J),(10,i6 Y),(11,i6 ac),(12,i6 q)]→Ctx G (.row (sa s) X ((D.set J.toNat (W (ad + 1))).map aF) 3 1::.row (sa g) U ((B.set J.toNat Y).map aF) 3 1::.box p [.slice M r.People.length O,.slice I r.Stations.length H] 65::Lf) w→pZ N q ac=some c2→K41 a w:=by
          repeat first | clear F | clear d | clear f
          intro ac a w f d F
          unfold pZ at F
          exact gq _ _ (bK (sp 3 f Z λa f=>aN (dr (ac,W (q + 1)) _ _ (sj F).symm ⟨f.kp Z,d⟩)))
         refine wp_block (wp_seq_k λK42 d4=>aH F λa0 bu F=>?_)
         obtain ⟨bz,b6⟩:=cK d m1 bu
         refine aH F λgk bf F=>cQ d aU (by kernel_rfl) (qp_ 2 f Z λa f=>qU f Z (pIA Tryz.underlying22 cS Z Z (At.len bz (by simp only [List.length_set]))) λa f=>qV f Z (bB aZ Z (cA (sz:=1) (i:=q.toNat) (j:=0) m1 b6 Z)) λa f=>qp_ 3 f Z λa f=>aB5 18 (λa=>Has 138 a [(1,pq p),(5,.slice (sa g) B.length U),(6,.slice (sa s) D.length X),(8,.bool true),(9,i6 J),(10,i6 Y),(11,i6 u),(12,i6 q),(108,.slice (sa g) B.length U),(109,i6 q),(110,.pointer (some ⟨g,q.toNat * 1,none⟩)),(111,i6 a0),(112,i6 Y),(113,.bool (a0 == Y)),(114,.bool (a0 == Y)),(132,.bool gk)]) ?_ ?_)
         ·cases hb:(a0 == Y)
          ·rw [hb] at f
           have F:=eG hb bf
           obtain rfl:=sj F
           exact qk_ 17 f Z λa f=>qp_ 1 f Z λa f=>sZ (f.kp Z)
          ·rw [hb] at f
           refine have F:=cO hb bf;aH F λbi b0 F=>?_
           obtain ⟨iv,it,bm,b1,dq,b4⟩:=V.atm b0
           refine aH F λd9 cj F=>aH F λbj b8 F=>?_
           obtain ⟨ij,ic,br,b3,cu,bx⟩:=V.atm b8
           refine aH F λdx db F=>qU f Z (pFA kV Z) λa f=>qV f Z (bB uP Z (bN m2 Z)) λa f=>qp_ 1 f Z λa f=>qU f Z (pIA Tryz.underlying63 wC Z Z b1) λa f=>qU f Z (pFA wT Z) λa f=>qV f Z (bB eL Z (aV (j:=1) dq Z)) λa f=>qp_ 1 f Z λa f=>qV f Z (eC (v:=i6 d9) (vs:=[.slice bm.1 bi.Order.length bm.2,i6 q]) (caps:=[]) (eN 83) Z Z Z Z (λw d=>gY bi.Order q b4 d cj)) λa f=>qU f Z (pFA kV Z) λa f=>qV f Z (bB uP Z (bN m2 Z)) λa f=>qp_ 1 f Z λa f=>qU f Z (pIA Tryz.underlying63 wC Z Z b3) λa f=>qU f Z (pFA wT Z) λa f=>?_
           refine qV f Z (bB eL Z (aV (j:=1) cu Z)) λa f=>qp_ 1 f Z λa f=>qV f Z (eC (v:=i6 dx) (vs:=[.slice br.1 bj.Order.length br.2,i6 u]) (caps:=[]) (eN 83) Z Z Z Z (λw d=>gY bj.Order u bx d db)) λa f=>qp_ 2 f Z λa f=>?_
           obtain rfl:=sj F
           exact sZ (f.kp Z)
         refine λa f=>λw d=>d4 _ _ (zI f Z F ?_ ?_) <;> intro F
         ·exact bK (sp 2 f Z λa f=>aN (bp q _ _  (f.kp Z) d F))
         ·exact wp_skip (bp u _ _  (f.kp Z) d F)
        ·exact wp_exit (aP (aP (have ai:=cB F ai;cX (c4 _ _ _ ai ⟨f.kp Z,d⟩))))
    ·exact wp_exit (aP (aP (have an:=cB F an;cX (cm _ _ _ an ⟨av,U,ag,X,f.kp Z,d⟩))))
   ·exact wp_exit (aP (aP (have am:=cB F am;cX (dm _ _ _ am ⟨ap,ak,au,ax,f.kp Z,d⟩))))
  have g9:∀ r,bd=.out r→r=ar:=by
   rintro r rfl
   exact sj F
  refine cF N (cE (S:=S10) (x:=bd) ?_ N ((List.replicate ((r.People.length:Nat):Int).toNat (0:Int)),0) _ _ ⟨(sa d1),((r.People.length:Nat):Int).toNat,f.kp Z,d⟩ dp)
  clear F f d
  rintro ⟨b,a4⟩ gz a w KB10 ⟨ay,af,f,d⟩ F aq da
  unfold iM at F
  refine wp_seq_k λK43 gi=>zS λK h=>sp 1 f Z λa f=>zP f Z (pFA kW Z) λa f=>zL f d gR m2 Z λa w f d=>zP f Z (bA Tryz.underlying23 Z) λa f=>sp 1 f Z λa f=>zT h (zI f Z F ?_ ?_) <;> intro F
  ·refine wp_skip (gi _ _ (wp_seq_k λK45 gg=>wp_block (bK (sp 2 f Z λa f=>aH F λg5 a7 F=>have aj:=f;?_))))
   obtain ⟨bn,rfl,b9,gs⟩:=gW d m1 a7
   exact have f:=aj;zP f Z (pIA Tryz.underlying22 cS Z Z b9) λa f=>wA (sz:=1) (vs:=[i6 (-1)]) (o':=0) (z:=(-1)) (xs:=b) f d Z Z Z Z cS Z (λx=>(bQ x).1) (fX a7) (λ_ _=>Z) Z u1 λw d=>aN (gg _ _ (bK (sp 3 f Z λa f=>aN (have f:=f.castAt 5 (v':=.slice (sa bn) ((b.set a4.toNat (-1)).length) af) Z (congrArg (λk=>Value.slice (sa bn) k af) (by simp));da ((b.set a4.toNat (-1)),W (a4 + 1)) _ _ (sj F).symm ⟨(sa bn),af,f.kp Z,d⟩))))
  ·exact wp_exit (aP (aP (have aq:=cB F aq;cX (cy _ _ _ aq ⟨ay,af,f.kp Z,d⟩))))

def oU (N:Nat) (r:aB):Option ((List aA) × Int) :=
 Option.bind (oQ N r) (aGl (λD=>cond (D != 0)
 (some (([]:List aA),D))
 (none))
 (λB=>cond (B.2 != 0)
 (some (([]:List aA),B.2))
 (Option.bind (qA N (⟨r,B.1⟩:bJ)) λH=>
 some (H.2,0))))
theorem aFv {M I:Option Addr} {O H:Nat} (r:aB) (D:RdT aT G 1 M O r.People) (B:RdT bD G 2 I H r.Stations) (d:Ctx G (Lf) w) {S:(List aA) × Int} (F:oU N r=some S):Calls Tryz.prog 28 #[.agg #[.slice M r.People.length O,.slice I r.Stations.length H]] w (λe w=>∃ (V:Option Addr) (Y:Nat),e=.returned (.tuple #[.slice V S.1.length Y,i6 S.2])∧Ctx G (.row V Y (S.1.map aM) 29 2::Lf) w):=by
 refine bY Tryz.func28 Z Tryz.ntmps28 Z λa f=>zS λK h=>zB f d Z λo a w f d=>sp 2 f Z λa f=>zT h (wp_seq_k λK2 h2=>bK (zN f d qC m0 Z λa w f d=>aH F λX U F=>?_))
 cases X with
 | inl X=>
  refine have F:=aNv F;zC f (eN 70) Z (lK r D B d U) ?_
  rintro _ w ⟨rfl,d⟩
  refine ⟨_,Z,λa f=>sp 5 f Z λa f=>aN (h2 _ _ (wp_seq_k λK3 h3=>zS λK h=>sp 2 f Z λa f=>zT h (zI f Z F ?_ ?_)))⟩ <;> intro F
  ·refine zS λK h=>sp 3 f Z λa f=>zT h (wp_ret (aL ?_))
   obtain rfl:=sj F
   exact have d:=d.nilRow 29 2;have d:=d.drop k1;zO2 Tryz.results28 f Z Z ⟨none,0,Z,d⟩
  ·exact aG5 F
 | inr i=>
  refine have F:=aMx F;have g:=U;zC f (eN 70) Z (lK r D B d g) ?_
  rintro _ w ⟨p,rfl,d⟩
  refine ⟨_,Z,λa f=>sp 5 f Z λa f=>aN ?_⟩
  obtain ⟨G,J,R,d,-⟩:=aNc d k0
  refine have R:=aNr R;h2 _ _ (wp_seq_k λK6 h6=>zS λK h=>sp 2 f Z λa f=>zT h (zI f Z F ?_ ?_)) <;> intro F
  ·refine zS λK h=>sp 3 f Z λa f=>zT h (wp_ret (aL ?_))
   obtain rfl:=sj F
   exact have d:=d.down J;have d:=d.nilRow 29 2;have d:=d.drop k1;zO2 Tryz.results28 f Z Z ⟨none,0,Z,d⟩
  ·refine wp_skip (h6 _ _ (zS λK h=>sp 1 f Z λa f=>aH F λq b F=>zC f (eN 84) Z (xQ (⟨r,i.1⟩:bJ) (D.mono J) (B.mono J) R d b) ?_))
   rintro _ w ⟨n,m,k,j,rfl,d⟩
   refine ⟨_,Z,λa f=>sp 5 f Z λa f=>zT h (zS λK h=>sp 3 f Z λa f=>zT h (wp_ret ?_))⟩
   obtain rfl:=sj F
   exact have d:=d.down J;have d:=(d.drop k2).drop k0;zO2 Tryz.results28 f Z Z ⟨k,j,Z,d⟩

def lI (N:Nat) (l:List aA) (J:Int) (I:Int) (B:Bool) (D:Int):Option (bC (Bool × Int) (bC (Int) (bC (Int) (Bool)))) :=
 cond (decide (D < ((l.length:Nat):Int)))
 (Option.bind (aQ l D) λH=>
 some (.cont ((B || ((H.Person == J) && (H.Station == I))),W (D + 1))))
 (some (.brk (B,D)))
def nB (N:Nat) (J:Int) (H:aD) (D:Bool) (B:Int):Option (bC (Bool × Int) (bC (Int) (bC (Int) (Bool)))) :=
 cond (decide (B < ((H.Order.length:Nat):Int)))
 (Option.bind (aQ H.Order B) λI=>
 some (.cont ((D || (I == J)),W (B + 1))))
 (some (.brk (D,B)))
def nG (N:Nat) (r:aB) (B:List Int) (l:List aA) (M:Int) (O:List Int) (D:Int):Option (bC (Int) (bC (Int) (Bool))) :=
 cond (decide (D < ((O.length:Nat):Int)))
 (Option.bind (aQ O D) λJ=>
 Option.bind (aQ B M) λS=>
 cond (J == S)
 (some (.brk D))
 (Option.bind (aQ r.Stations J) λU=>
 Option.bind (aS (λI=>nB N M U I.1 I.2) N (false,0)) λV=>
 exK V (λI=>Option.bind (aS (λH=>lI N l M J H.1 H.2) N ((!I.1),0)) λR=>
 exK R (λH=>cond (!H.1)
 (some (.ret (.ret false)))
 (some (.cont (W (D + 1))))) some) some))
 (some (.brk D))
def nF (N:Nat) (r:aB) (B:List Int) (l:List aA) (D:Int):Option (bC (Int) (Bool)) :=
 cond (decide (D < ((r.People.length:Nat):Int)))
 (Option.bind (aQ r.People D) λJ=>
 Option.bind (aS (λH=>nG N r B l D J H) N 0) λI=>
 exK I (λH=>some (.cont (W (D + 1)))) some)
 (some (.brk D))
def nC (N:Nat) (l:List aA) (x:Int) (H:aA) (B:Int):Option (bC (Int) (bC (Int) (Bool))) :=
 cond (decide (B < x))
 (Option.bind (aQ l B) λD=>
 cond (D.Person == H.Person && D.Station == H.Station)
 (some (.ret (.ret false)))
 (some (.cont (W (B + 1)))))
 (some (.brk B))
def oT (N:Nat) (l:List aA) (x:Int):Option (bC (Int) (Bool)) :=
 cond (decide (x < ((l.length:Nat):Int)))
 (Option.bind (aQ l x) λH=>
 Option.bind (aS (λB=>nC N l x H B) N 0) λD=>
 exK D (λB=>some (.cont (W (x + 1)))) some)
 (some (.brk x))
def uO (N:Nat) (r:aB) (B:List Int) (l:List aA):Option (Bool) :=
 Option.bind (iD N r) λJ=>
 Option.bind (pY N l) λM=>
 Option.bind (qL N J M) λH=>
 cond (((H.2 != 0) || (!H.1)) || (((B.length:Nat):Int) != ((r.People.length:Nat):Int)))
 (some false)
 (Option.bind (aS (λs8=>oT N l s8) N 0) λx8=>
 exK x8 (λs8=>Option.bind (aS (λD=>nF N r B l D) N 0) λI=>
 exK I (λD=>some true) some) some)
theorem aIm {I O B V:Option Addr} {J M D X:Nat} (r:aB) (H:List Int) (l:List aA) (t:RdT aT G 1 I J r.People) (k:RdT bD G 2 O M r.Stations) (aa:Rd G 1 B D (H.map aF)) (ai:Rd G 2 V X (l.map aM)) (d:Ctx G (Lf) w) {ag:Bool} (F:uO N r H l=some ag):Cz G 29 #[.agg #[.slice I r.People.length J,.slice O r.Stations.length M],.slice B H.length D,.slice V l.length X] w (.bool ag) (Lf):=by
 refine bY Tryz.func29 Z Tryz.ntmps29 Z λa f=>zS λK h=>zB f d Z λY a w f d=>sp 1 f Z λa f=>zT h (wp_seq_k λK2 h2=>zS λK h=>zN f d qC m0 Z λa w f d=>aH F λc9 bg F=>zC f (eN 19) Z (rJ r t k d bg) ?_)
 rintro _ w ⟨ga,d9,d0,dk,rfl,d⟩
 refine ⟨_,Z,λa f=>sp 1 f Z λa f=>aH F λc5 cp F=>zC f (eN 24) Z (zK l ai d cp) ?_⟩
 rintro _ w ⟨gg,d1,rfl,d⟩
 refine ⟨_,Z,λa f=>aH F λq a4 F=>zQ (v:=.tuple #[.bool q.1,i6 q.2]) f d (eN 23) Z (λw d=>by obtain ⟨G1,dn,a9,d,b4⟩:=lE pS d k1 k1;obtain ⟨G2,bu,bc,d,b9⟩:=lE aEc d k1 k1;obtain ⟨G3,ap,bb,d,a6⟩:=lend d k0;exact (aCp c9 c5 ((a9.mono bu).mono ap) (bc.mono ap) bb d a4).mono λe w h=>⟨h.1,(gV (b4 _ _ (gV (b9 _ _ ((a6 _ _ h.2).unpick k0)) k1 k1)) k1 k1)⟩) λa w f d=>sp 5 f Z λa f=>zT h (zS λK h=>sp 3 f Z λa f=>cV 3 (λa=>Has 127 a [(1,.slice B H.length D),(2,.slice V l.length X),(3,pq Y),(35,.bool ((q.2 != 0) || (!q.1)))]) d ?_ ?_)⟩
 ·cases hb:(q.2 != 0) <;> (rw [hb] at f;exact sp 3 f Z λa f=>aN ⟨f.kp Z,d⟩)
 intro a w ⟨f,d⟩
 refine sp 1 f Z λa f=>cV 7 (λa=>Has 127 a [(1,.slice B H.length D),(2,.slice V l.length X),(3,pq Y),(43,.bool (((q.2 != 0) || (!q.1)) || (((H.length:Nat):Int) != ((r.People.length:Nat):Int))))]) d ?_ ?_
 ·cases hb:((q.2 != 0) || (!q.1))
  ·rw [hb] at f
   exact sp 1 f Z λa f=>zP f Z (bA Tryz.underlying22 Z) λa f=>zP f Z (pFA iG Z) λa f=>zL f d gR m5 Z λa w f d=>zP f Z (bA Tryz.underlying23 Z) λa f=>sp 2 f Z λa f=>aN ⟨f.kp Z,d⟩
  ·rw [hb] at f
   exact sp 7 f Z λa f=>aN ⟨f.kp Z,d⟩
 intro a w ⟨f,d⟩
 refine zT h (zI f Z F ?_ ?_) <;> intro F
 ·refine zS λK h=>sp 1 f Z λa f=>zT h (wp_ret (aL ?_))
  obtain rfl:=sj F
  exact have d:=(((((d.drop k5).drop k4).drop k3).drop k2).drop k1).drop k0;zO1 Tryz.results29 f Z ⟨Z,d⟩
 ·refine wp_skip (h2 _ _ (wp_seq_k λK6 h6=>zS λK h=>sp 1 f Z λa f=>zP f Z (bA Tryz.underlying30 Z) λa f=>sp 1 f Z λa f=>zT h (wp_block (aH F λx8 cv F=>?_))))
  let S8:Int→Act→World→Prop:=(λ(zz:Int) a w=>Has 127 a [(1,.slice B H.length D),(2,.slice V l.length X),(3,pq Y),(44,.slice V l.length X),(45,i6 ((l.length:Nat):Int)),(46,i6 zz)]∧Ctx G (.box Y [.slice I r.People.length J,.slice O r.Stations.length M] 26::Lf) w)
  have dc:∀ (zz:Int) a w,x8=.go zz→S8 zz a w→K6 a w:=by
   rintro x a w rfl ⟨f,d⟩
   refine have F:=bI F;h6 _ _ (wp_seq_k λK9 h9=>zS λK h=>zP f Z (pFA iG Z) λa f=>zL f d gR m0 Z λa w f d=>zP f Z (bA Tryz.underlying23 Z) λa f=>sp 1 f Z λa f=>zT h (wp_block (aH F λax cq F=>?_)))
   let S11:Int→Act→World→Prop:=(λ(zz:Int) a w=>Has 127 a [(1,.slice B H.length D),(2,.slice V l.length X),(3,pq Y),(64,.slice I r.People.length J),(65,i6 ((r.People.length:Nat):Int)),(66,i6 zz)]∧Ctx G (.box Y [.slice I r.People.length J,.slice O r.Stations.length M] 26::Lf) w)
   have cn:∀ (zz:Int) a w,ax=.go zz→S11 zz a w→K9 a w:=by
    rintro R a w rfl ⟨f,d⟩
    refine have F:=bI F;h9 _ _ (zS λK h=>sp 1 f Z λa f=>zT h (wp_ret ?_))
    obtain rfl:=sj F
    exact have d:=d.drop k0;zO1 Tryz.results29 f Z ⟨Z,d⟩
   have bj:∀ r,ax=.out r→r=ag:=by
    rintro r rfl
    exact sj F
   refine cF N (cE (S:=S11) (x:=ax) ?_ N 0 _ _ ⟨f.kp Z,d⟩ cq)
   clear F f d
   rintro R cd a w KB11 ⟨f,d⟩ F g ck
   refine zS λK h=>sp 1 f Z λa f=>zT h (wp_seq_k λK14 dj=>zI f Z F ?_ ?_) <;> intro F
   ·refine wp_skip (dj _ _ (wp_seq_k λK15 c3=>wp_block (zS λK h=>sp 1 f Z λa f=>aH F λi b0 F=>?_)))
    obtain ⟨dx,o,hd,qa,qp,qr⟩:=t.atm b0
    refine zP f Z (pIA Tryz.underlying23 lN Z Z qa) λa f=>zE f d Z (bB eL Z (aV (j:=0) qp Z)) λa w f d=>sp 2 f Z λa f=>zT h (zS λK h=>sp 1 f Z λa f=>zP f Z (bA Tryz.underlying22 Z) λa f=>sp 1 f Z λa f=>zT h (sR λK18 c1=>wp_block (aH F λaq bp F=>?_)))
    let S19:Int→Act→World→Prop:=(λ(zz:Int) a w=>Has 127 a [(1,.slice B H.length D),(2,.slice V l.length X),(3,pq Y),(12,i6 R),(64,.slice I r.People.length J),(65,i6 ((r.People.length:Nat):Int)),(66,i6 R),(71,.slice hd.1 i.length hd.2),(72,i6 ((i.length:Nat):Int)),(73,i6 zz)]∧Ctx G (.box Y [.slice I r.People.length J,.slice O r.Stations.length M] 26::Lf) w)
    have av:∀ (zz:Int) a w,aq=.go zz→S19 zz a w→K18 a w:=by
     rintro ab a w rfl ⟨f,d⟩
     exact have F:=bI F;c1 _ _ (c3 _ _ (bK (sp 2 f Z λa f=>aN (ck (W (R + 1)) _ _ (sj F).symm ⟨f.kp Z,d⟩))))
    have cg:∀ r,aq=.out r→r=cd:=by
     rintro r rfl
     exact sj F
    refine cF N (cE (S:=S19) (x:=aq) ?_ N 0 _ _ ⟨f.kp Z,d⟩ bp)
    clear F f d
    rintro ab ar a w KB19 ⟨f,d⟩ F U bv
    refine zS λK h=>sp 1 f Z λa f=>zT h (wp_seq_k λK21 cx=>zI f Z F ?_ ?_) <;> intro F
    ·refine wp_skip (cx _ _ (wp_seq_k λK22 c2=>wp_block (zS λK h=>aH F λu bf F=>?_)))
     obtain ⟨d6,gb,bx,a3⟩:=qr.atm bf
     refine zP f Z (pIA Tryz.underlying22 cS Z Z bx) λa f=>zE f d Z (bB aZ Z (aV (j:=0) a3 Z)) λa w f d=>sp 1 f Z λa f=>zT h (wp_seq_k λK24 cu=>zS λK h=>sp 3 f Z λa f=>aH F λd7 b5 F=>?_)
     obtain ⟨dy,gf,bn,bt⟩:=aa.atm b5
     refine zP f Z (pIA Tryz.underlying22 cS Z Z bn) λa f=>zE f d Z (bB aZ Z (aV (j:=0) bt Z)) λa w f d=>sp 1 f Z λa f=>zT h (zI f Z F ?_ ?_) <;> intro F
     ·exact wp_exit (aP (aLb Z (aP (aP (have U:=cB F U;cX (av _ _ _ U ⟨f.kp Z,d⟩))))))
     ·refine wp_skip (cu _ _ (zS λK h=>sp 1 f Z λa f=>zT h (wp_seq_k λK27 ct=>zS λK h=>zP f Z (pFA fH Z) λa f=>zL f d pB m0 Z λa w f d=>sp 1 f Z λa f=>aH F λak bm F=>?_)))
      obtain ⟨d4,gc,af,bk,br,a5⟩:=k.atm bm
      refine zP f Z (pIA Tryz.underlying24 tV Z Z bk) λa f=>zP f Z (pFA wP Z) λa f=>zE f d Z (bB eL Z (aV (j:=1) br Z)) λa w f d=>zP f Z (bA Tryz.underlying22 Z) λa f=>sp 1 f Z λa f=>zT h (wp_block (aH F λau cb F=>?_))
      let S29:(Bool × Int)→Act→World→Prop:=(λ(zz:Bool × Int) a w=>Has 127 a [(1,.slice B H.length D),(2,.slice V l.length X),(3,pq Y),(12,i6 R),(15,i6 u),(16,.bool zz.1),(64,.slice I r.People.length J),(65,i6 ((r.People.length:Nat):Int)),(66,i6 R),(71,.slice hd.1 i.length hd.2),(72,i6 ((i.length:Nat):Int)),(73,i6 ab),(88,.slice af.1 ak.Order.length af.2),(89,i6 ((ak.Order.length:Nat):Int)),(90,i6 zz.2)]∧Ctx G (.box Y [.slice I r.People.length J,.slice O r.Stations.length M] 26::Lf) w)
      have a7:∀ (zz:Bool × Int) a w,au=.go zz→S29 zz a w→K27 a w:=by
       rintro ⟨ad,ay⟩ a w rfl ⟨f,d⟩
       refine have F:=bI F;ct _ _ (zS λK h=>sp 3 f Z λa f=>zT h (wp_seq_k λK31 cs=>zS λK h=>sp 1 f Z λa f=>zP f Z (bA Tryz.underlying30 Z) λa f=>sp 1 f Z λa f=>zT h (wp_block (aH F λaz ci F=>?_))))
       let S33:(Bool × Int)→Act→World→Prop:=(λ(zz:Bool × Int) a w=>Has 127 a [(1,.slice B H.length D),(2,.slice V l.length X),(3,pq Y),(12,i6 R),(15,i6 u),(19,.bool zz.1),(64,.slice I r.People.length J),(65,i6 ((r.People.length:Nat):Int)),(66,i6 R),(71,.slice hd.1 i.length hd.2),(72,i6 ((i.length:Nat):Int)),(73,i6 ab),(103,.slice V l.length X),(104,i6 ((l.length:Nat):Int)),(105,i6 zz.2)]∧Ctx G (.box Y [.slice I r.People.length J,.slice O r.Stations.length M] 26::Lf) w)
       have ba:∀ (zz:Bool × Int) a w,az=.go zz→S33 zz a w→K31 a w:=by
        rintro ⟨p,aj⟩ a w rfl ⟨f,d⟩
        refine have F:=bI F;cs _ _ (zS λK h=>sp 2 f Z λa f=>zT h (zI f Z F ?_ ?_)) <;> intro F
        ·refine zS λK h=>sp 1 f Z λa f=>zT h (wp_ret (bG (aL (aL (have U:=cB F U;have F:=cg _ U;bG (aL (bG (aL (aL ?_)))))))))
         refine have g:=finQ F g;have F:=bj _ g;bG (aL ?_)
         obtain rfl:=F
         exact have d:=d.drop k0;zO1 Tryz.results29 f Z ⟨Z,d⟩
        ·exact wp_skip (c2 _ _ (bK (sp 2 f Z λa f=>aN (bv (W (ab + 1)) _ _ (sj F).symm ⟨f.kp Z,d⟩))))
       have dr:∀ r,az=.out r→r=ar:=by
        rintro r rfl
        exact sj F
       refine cF N (cE (S:=S33) (x:=az) ?_ N ((!ad),0) _ _ ⟨f.kp Z,d⟩ ci)
       clear F f d
       rintro ⟨p,aj⟩ dp a w KB33 ⟨f,d⟩ F z cc
       refine zS λK h=>sp 1 f Z λa f=>zT h (wp_seq_k λK37 db=>zI f Z F ?_ ?_) <;> intro F
       ·refine wp_skip (db _ _ (wp_seq_k λK38 dg=>wp_block (zS λK h=>aH F λs cj F=>?_)))
        obtain ⟨dv,d5,b6,cf⟩:=ai.atm cj
        refine zP f Z (pIA Tryz.underlying30 pP Z Z b6) λa f=>zE f d Z (iY (vs:=[i6 s.Person,i6 s.Station]) rL Z Z (cY cf (n:=2) (o':=0) Z)) λa w f d=>zA f d aF4 Z λdz a w f d=>zW f d pP u0 Z λw d=>zT h (bK (sp 2 f Z λa f=>cV 11 (λa=>Has 127 a [(1,.slice B H.length D),(2,.slice V l.length X),(3,pq Y),(12,i6 R),(15,i6 u),(19,.bool p),(64,.slice I r.People.length J),(65,i6 ((r.People.length:Nat):Int)),(66,i6 R),(71,.slice hd.1 i.length hd.2),(72,i6 ((i.length:Nat):Int)),(73,i6 ab),(103,.slice V l.length X),(104,i6 ((l.length:Nat):Int)),(105,i6 aj),(121,.bool (p || ((s.Person == R) && (s.Station == u))))]) d ?_ ?_))
        ·cases hb:p
         ·rw [hb] at f
          try rw [hb] at d
          refine zP f Z (pFA aEg Z) λa f=>zL f d aZ m0 Z λa w f d=>sp 3 f Z λa f=>cV 5 (λa=>Has 127 a [(1,.slice B H.length D),(2,.slice V l.length X),(3,pq Y),(12,i6 R),(15,i6 u),(19,.bool false),(64,.slice I r.People.length J),(65,i6 ((r.People.length:Nat):Int)),(66,i6 R),(71,.slice hd.1 i.length hd.2),(72,i6 ((i.length:Nat):Int)),(73,i6 ab),(103,.slice V l.length X),(104,i6 ((l.length:Nat):Int)),(105,i6 aj),(110,.bool false),(120,.bool ((s.Person == R) && (s.Station == u)))]) d ?_ ?_
          ·cases hb:(s.Person == R)
           ·rw [hb] at f
            exact sp 5 f Z λa f=>aN ⟨f.kp Z,d⟩
           ·rw [hb] at f
            exact zP f Z (pFA xY Z) λa f=>zL f d aZ m0 Z λa w f d=>sp 3 f Z λa f=>aN ⟨f.kp Z,d⟩
          intro a w ⟨f,d⟩
          exact sp 1 f Z λa f=>aN ⟨f.kp Z,d⟩
         ·rw [hb] at f
          try rw [hb] at d
          exact sp 11 f Z λa f=>aN ⟨f.kp Z,d⟩
        intro a w ⟨f,d⟩
        exact sp 1 f Z λa f=>aN (dg _ _ (bK (sp 2 f Z λa f=>aN (have d:=d.drop k0;cc ((p || ((s.Person == R) && (s.Station == u))),W (aj + 1)) _ _ (sj F).symm ⟨f.kp Z,d⟩))))
       ·exact wp_exit (aP (aP (have z:=cB F z;cX (ba _ _ _ z ⟨f.kp Z,d⟩))))
      have dm:∀ r,au=.out r→r=ar:=by
       rintro r rfl
       exact sj F
      refine cF N (cE (S:=S29) (x:=au) ?_ N (false,0) _ _ ⟨f.kp Z,d⟩ cb)
      clear F f d
      rintro ⟨ad,ay⟩ ds a w KB29 ⟨f,d⟩ F y bs
      refine zS λK h=>sp 1 f Z λa f=>zT h (wp_seq_k λK41 df=>zI f Z F ?_ ?_) <;> intro F
      ·refine wp_skip (df _ _ (wp_seq_k λK42 c0=>wp_block (zS λK h=>aH F λa0 bd F=>?_)))
       obtain ⟨d8,du,b7,bi⟩:=a5.atm bd
       refine zP f Z (pIA Tryz.underlying22 cS Z Z b7) λa f=>zE f d Z (bB aZ Z (aV (j:=0) bi Z)) λa w f d=>sp 1 f Z λa f=>zT h (bK (sp 2 f Z λa f=>cV 4 (λa=>Has 127 a [(1,.slice B H.length D),(2,.slice V l.length X),(3,pq Y),(12,i6 R),(15,i6 u),(16,.bool ad),(64,.slice I r.People.length J),(65,i6 ((r.People.length:Nat):Int)),(66,i6 R),(71,.slice hd.1 i.length hd.2),(72,i6 ((i.length:Nat):Int)),(73,i6 ab),(88,.slice af.1 ak.Order.length af.2),(89,i6 ((ak.Order.length:Nat):Int)),(90,i6 ay),(99,.bool (ad || (a0 == R)))]) d ?_ ?_))
       ·cases hb:ad <;> (rw [hb] at f;(try rw [hb] at d);exact sp 4 f Z λa f=>aN ⟨f.kp Z,d⟩)
       intro a w ⟨f,d⟩
       exact sp 1 f Z λa f=>aN (c0 _ _ (bK (sp 2 f Z λa f=>aN (bs ((ad || (a0 == R)),W (ay + 1)) _ _ (sj F).symm ⟨f.kp Z,d⟩))))
      ·exact wp_exit (aP (aP (have y:=cB F y;cX (a7 _ _ _ y ⟨f.kp Z,d⟩))))
    ·exact wp_exit (aP (aP (have U:=cB F U;cX (av _ _ _ U ⟨f.kp Z,d⟩))))
   ·exact wp_exit (aP (aP (have g:=cB F g;cX (cn _ _ _ g ⟨f.kp Z,d⟩))))
  have c8:∀ r,x8=.out r→r=ag:=by
   rintro r rfl
   exact sj F
  refine have d:=((((d.drop k4).drop k3).drop k2).drop k1).drop k0;cF N (cE (S:=S8) (x:=x8) ?_ N 0 _ _ ⟨f.kp Z,d⟩ cv)
  clear F f d
  rintro x di a w KB8 ⟨f,d⟩ F m c4
  refine zS λK h=>sp 1 f Z λa f=>zT h (wp_seq_k λK45 c7=>zI f Z F ?_ ?_) <;> intro F
  ·refine wp_skip (c7 _ _ (wp_seq_k λK46 dd=>wp_block (zS λK h=>sp 1 f Z λa f=>aH F λac cr F=>?_)))
   obtain ⟨d3,gd,ca,cm⟩:=ai.atm cr
   refine zP f Z (pIA Tryz.underlying30 pP Z Z ca) λa f=>zE f d Z (iY (vs:=[i6 ac.Person,i6 ac.Station]) rL Z Z (cY cm (n:=2) (o':=0) Z)) λa w f d=>zA f d aF4 Z λam a w f d=>sp 1 f Z λa f=>zW f d pP u0 Z λw d=>zT h (zS λK h=>sp 2 f Z λa f=>zT h (sR λK49 cz=>wp_block (aH F λan bz F=>?_)))
   let S50:Int→Act→World→Prop:=(λ(zz:Int) a w=>Has 127 a [(1,.slice B H.length D),(2,.slice V l.length X),(3,pq Y),(10,pq am),(44,.slice V l.length X),(45,i6 ((l.length:Nat):Int)),(46,i6 x),(51,i6 x),(52,i6 zz)]∧Ctx G (.box am [i6 ac.Person,i6 ac.Station] 29::.box Y [.slice I r.People.length J,.slice O r.Stations.length M] 26::Lf) w)
   have b2:∀ (zz:Int) a w,an=.go zz→S50 zz a w→K49 a w:=by
    rintro a1 a w rfl ⟨f,d⟩
    exact have F:=bI F;cz _ _ (dd _ _ (bK (sp 2 f Z λa f=>aN (have d:=d.drop k0;c4 (W (x + 1)) _ _ (sj F).symm ⟨f.kp Z,d⟩))))
   have b3:∀ r,an=.out r→r=di:=by
    rintro r rfl
    exact sj F
   refine cF N (cE (S:=S50) (x:=an) ?_ N 0 _ _ ⟨f.kp Z,d⟩ bz)
   clear F f d
   rintro a1 dt a w KB50 ⟨f,d⟩ F b bq
   refine zS λK h=>sp 1 f Z λa f=>zT h (wp_seq_k λK52 cy=>zI f Z F ?_ ?_) <;> intro F
   ·refine wp_skip (cy _ _ (wp_seq_k λK53 c6=>wp_block (zS λK h=>sp 2 f Z λa f=>zT h (wp_seq_k λK55 da=>aH F λa2 b1 F=>?_))))
    obtain ⟨dq,d2,a8,b8⟩:=ai.atm b1
    refine cQ d aU (by kernel_rfl) (qp_ 2 f Z λa f=>qU f Z (pIA Tryz.underlying30 pP Z Z a8) λa f=>qV f Z (iY (vs:=[i6 a2.Person,i6 a2.Station]) rL Z Z (cY b8 (n:=2) (o':=0) Z)) λa f=>qV f Z (iY (vs:=[i6 ac.Person,i6 ac.Station]) rL Z Z (bT (n:=2) m0 Z)) λa f=>qU f Z (pEqA aK2 Z Z (aHy _ _ _ _)) λa f=>λw d=>da _ _ (zI f Z F ?_ ?_)) <;> intro F
    ·refine zS λK h=>sp 1 f Z λa f=>zT h (wp_ret (bG (aL (aL (have b:=cB F b;have F:=b3 _ b;bG (aL (bG (aL (aL ?_)))))))))
     refine have m:=finQ F m;have F:=c8 _ m;bG (aL ?_)
     obtain rfl:=F
     exact have d:=(d.drop k1).drop k0;zO1 Tryz.results29 f Z ⟨Z,d⟩
    ·exact wp_skip (c6 _ _ (bK (sp 2 f Z λa f=>aN (bq (W (a1 + 1)) _ _ (sj F).symm ⟨f.kp Z,d⟩))))
   ·exact wp_exit (aP (aP (have b:=cB F b;cX (b2 _ _ _ b ⟨f.kp Z,d⟩))))
  ·exact wp_exit (aP (aP (have m:=cB F m;cX (dc _ _ _ m ⟨f.kp Z,d⟩))))

def lD (N:Nat) (a_:List (List Int)) (b_:List (List Int)) (B:Int):Option (bC (Int) (Bool)) :=
 cond (decide (B < ((a_.length:Nat):Int)))
 (Option.bind (aQ a_ B) λH=>
 Option.bind (aQ b_ B) λD=>
 Option.bind (dW N H D) λr=>
 cond (!r)
 (some (.ret false))
 (some (.cont (W (B + 1)))))
 (some (.brk B))
def sC (N:Nat) (a_:List (List Int)) (b_:List (List Int)):Option (Bool) :=
 cond (((a_.length:Nat):Int) != ((b_.length:Nat):Int))
 (some false)
 (Option.bind (aS (λs7=>lD N a_ b_ s7) N 0) λx7=>
 exK x7 (λs7=>some true) some)
theorem aB3 {I D:Option Addr} {H J:Nat} (a_ b_:List (List Int)) (g:RdT aT G 1 I H a_) (m:RdT aT G 1 D J b_) (d:Ctx G (Lf) w) {O:Bool} (F:sC N a_ b_=some O):Cz G 85 #[.slice I a_.length H,.slice D b_.length J] w (.bool O) (Lf):=by
 refine bY Tryz.func85 Z Tryz.ntmps85 Z λa f=>zS λK h=>sp 1 f Z λa f=>zT h (wp_seq_k λK2 h2=>zS λK h=>sp 1 f Z λa f=>zP f Z (bA Tryz.underlying23 Z) λa f=>sp 1 f Z λa f=>zP f Z (bA Tryz.underlying23 Z) λa f=>sp 1 f Z λa f=>zT h (zI f Z F ?_ ?_)) <;> intro F
 ·refine zS λK h=>sp 1 f Z λa f=>zT h (wp_ret (aL ?_))
  obtain rfl:=sj F
  exact zO1 Tryz.results85 f Z ⟨Z,d⟩
 ·refine wp_skip (h2 _ _ (wp_seq_k λK5 h5=>zS λK h=>sp 1 f Z λa f=>zT h (wp_block (aH F λx7 t F=>?_))))
  let S7:Int→Act→World→Prop:=(λ(zz:Int) a w=>Has 27 a [(0,.slice I a_.length H),(1,.slice D b_.length J),(5,i6 zz)]∧Ctx G (Lf) w)
  have n:∀ (zz:Int) a w,x7=.go zz→S7 zz a w→K5 a w:=by
   rintro V a w rfl ⟨f,d⟩
   refine have F:=bI F;h5 _ _ (zS λK h=>sp 1 f Z λa f=>zT h (wp_ret ?_))
   obtain rfl:=sj F
   exact zO1 Tryz.results85 f Z ⟨Z,d⟩
  have q:∀ r,x7=.out r→r=O:=by
   rintro r rfl
   exact sj F
  refine cF N (cE (S:=S7) (x:=x7) ?_ N 0 _ _ ⟨f.kp Z,d⟩ t)
  clear F f d
  rintro V z a w KB7 ⟨f,d⟩ F B u
  unfold lD at F
  refine wp_seq_k λK9 h9=>zS λK h=>sp 2 f Z λa f=>zP f Z (bA Tryz.underlying23 Z) λa f=>sp 1 f Z λa f=>zT h (zI f Z F ?_ ?_) <;> intro F
  ·refine wp_skip (h9 _ _ (wp_seq_k λK11 p=>wp_block (wp_seq_k λK12 s=>aH F λR i F=>?_)))
   obtain ⟨aa,o,hd,qa,qp,qr⟩:=g.atm i
   obtain ⟨U,X,F⟩:=cU F
   obtain ⟨ab,y,M,b,Y,k⟩:=m.atm X
   refine aH F λr hr F=>cQ d aU (by kernel_rfl) (qp_ 2 f Z λa f=>qU f Z (pIA Tryz.underlying23 lN Z Z qa) λa f=>qV f Z (bB eL Z (aV (j:=0) qp Z)) λa f=>qp_ 2 f Z λa f=>qU f Z (pIA Tryz.underlying23 lN Z Z b) λa f=>qV f Z (bB eL Z (aV (j:=0) Y Z)) λa f=>qV f Z (eC (v:=.bool r) (vs:=[.slice hd.1 R.length hd.2,.slice M.1 U.length M.2]) (caps:=[]) (eN 27) Z Z Z Z (λw d=>jL R U qr k d hr)) λa f=>qp_ 1 f Z λa f=>λw d=>s _ _ (zI f Z F ?_ ?_)) <;> intro F
   ·refine zS λK h=>sp 1 f Z λa f=>zT h (wp_ret (bG (aL (aL (have B:=cB F B;have F:=q _ B;bG (aL ?_))))))
    obtain rfl:=F
    exact zO1 Tryz.results85 f Z ⟨Z,d⟩
   ·exact wp_skip (p _ _ (bK (sp 3 f Z λa f=>aN (u (W (V + 1)) _ _ (sj F).symm ⟨f.kp Z,d⟩))))
  ·exact wp_exit (aP (aP (have B:=cB F B;cX (n _ _ _ B ⟨f.kp Z,d⟩))))

def wO (N:Nat) (a_:aB) (b_:aB) (x:Int):Option (bC (Int) (Bool)) :=
 cond (decide (x < ((a_.Stations.length:Nat):Int)))
 (Option.bind (aQ a_.Stations x) λM=>
 Option.bind (aQ b_.Stations x) λI=>
 Option.bind (cond (M.Places != I.Places) (some true) (Option.bind (aQ a_.Stations x) λH=>
 Option.bind (aQ b_.Stations x) λJ=>
 Option.bind (dW N H.Order J.Order) λD=>
 some (!D))) λB=>
 cond B
 (some (.ret false))
 (some (.cont (W (x + 1)))))
 (some (.brk x))
def yS (N:Nat) (a_:aB) (b_:aB):Option (Bool) :=
 Option.bind (sC N a_.People b_.People) λr=>
 cond ((!r) || (((a_.Stations.length:Nat):Int) != ((b_.Stations.length:Nat):Int)))
 (some false)
 (Option.bind (aS (λs7=>wO N a_ b_ s7) N 0) λx7=>
 exK x7 (λs7=>some true) some)
theorem aIg {O I M H:Option Addr} {R B J D:Nat} (a_ b_:aB) (Y:RdT aT G 1 O R a_.People) (V:RdT bD G 2 I B a_.Stations) (b:RdT aT G 1 M J b_.People) (U:RdT bD G 2 H D b_.Stations) (d:Ctx G (Lf) w) {n:Bool} (F:yS N a_ b_=some n):Cz G 30 #[.agg #[.slice O a_.People.length R,.slice I a_.Stations.length B],.agg #[.slice M b_.People.length J,.slice H b_.Stations.length D]] w (.bool n) (Lf):=by
 refine bY Tryz.func30 Z Tryz.ntmps30 Z λa f=>zS λK h=>zB f d Z λi a w f d=>zB f d Z λg a w f d=>sp 1 f Z λa f=>zT h (wp_seq_k λK2 h2=>zS λK h=>zP f Z (pFA iG Z) λa f=>zL f d gR m1 Z λa w f d=>zP f Z (pFA iG Z) λa f=>zL f d gR m0 Z λa w f d=>aH F λr hr F=>zQ (v:=.bool r) f d (eN 85) Z (λw d=>aB3 a_.People b_.People Y b d hr) λa w f d=>?_)
 refine sp 2 f Z λa f=>cV 8 (λa=>Has 57 a [(2,pq i),(3,pq g),(20,.bool ((!r) || (((a_.Stations.length:Nat):Int) != ((b_.Stations.length:Nat):Int))))]) d ?_ ?_
 ·cases hb:(!r)
  ·rw [hb] at f
   exact zP f Z (pFA fH Z) λa f=>zL f d pB m1 Z λa w f d=>zP f Z (bA Tryz.underlying24 Z) λa f=>zP f Z (pFA fH Z) λa f=>zL f d pB m0 Z λa w f d=>zP f Z (bA Tryz.underlying24 Z) λa f=>sp 2 f Z λa f=>aN ⟨f.kp Z,d⟩
  ·rw [hb] at f
   exact sp 8 f Z λa f=>aN ⟨f.kp Z,d⟩
 intro a w ⟨f,d⟩
 refine zT h (zI f Z F ?_ ?_) <;> intro F
 ·refine zS λK h=>sp 1 f Z λa f=>zT h (wp_ret (aL ?_))
  obtain rfl:=sj F
  exact have d:=(d.drop k1).drop k0;zO1 Tryz.results30 f Z ⟨Z,d⟩
 ·refine wp_skip (h2 _ _ (wp_seq_k λK5 h5=>zS λK h=>zP f Z (pFA fH Z) λa f=>zL f d pB m1 Z λa w f d=>zP f Z (bA Tryz.underlying24 Z) λa f=>sp 1 f Z λa f=>zT h (wp_block (aH F λx7 ay F=>?_))))
  let S7:Int→Act→World→Prop:=(λ(zz:Int) a w=>Has 57 a [(2,pq i),(3,pq g),(23,i6 ((a_.Stations.length:Nat):Int)),(24,i6 zz)]∧Ctx G (.box g [.slice M b_.People.length J,.slice H b_.Stations.length D] 26::.box i [.slice O a_.People.length R,.slice I a_.Stations.length B] 26::Lf) w)
  have av:∀ (zz:Int) a w,x7=.go zz→S7 zz a w→K5 a w:=by
   rintro x a w rfl ⟨f,d⟩
   refine have F:=bI F;h5 _ _ (zS λK h=>sp 1 f Z λa f=>zT h (wp_ret ?_))
   obtain rfl:=sj F
   exact have d:=(d.drop k1).drop k0;zO1 Tryz.results30 f Z ⟨Z,d⟩
  have a1:∀ r,x7=.out r→r=n:=by
   rintro r rfl
   exact sj F
  refine cF N (cE (S:=S7) (x:=x7) ?_ N 0 _ _ ⟨f.kp Z,d⟩ ay)
  clear F f d
  rintro x a6 a w KB7 ⟨f,d⟩ F X a3
  refine zS λK h=>sp 1 f Z λa f=>zT h (wp_seq_k λK10 a2=>zI f Z F ?_ ?_) <;> intro F
  ·refine wp_skip (a2 _ _ (wp_seq_k λK11 a0=>wp_block (zS λK h=>sp 2 f Z λa f=>zT h (wp_seq_k λK13 az=>aH F λk af F=>?_))))
   obtain ⟨z,o,hd,qa,qp,qr⟩:=V.atm af
   obtain ⟨m,ai,F⟩:=cU F
   obtain ⟨t,u,a5,ad,ac,a4⟩:=U.atm ai
   refine aH F λau s F=>cQ d aU (by kernel_rfl) (qU f Z (pFA fH Z) λa f=>qV f Z (bB pB Z (bN m1 Z)) λa f=>qp_ 1 f Z λa f=>qU f Z (pIA Tryz.underlying24 tV Z Z qa) λa f=>qU f Z (pFA wL Z) λa f=>qV f Z (bB aZ Z (aV (j:=0) qp Z)) λa f=>qU f Z (pFA fH Z) λa f=>qV f Z (bB pB Z (bN m0 Z)) λa f=>qp_ 1 f Z λa f=>qU f Z (pIA Tryz.underlying24 tV Z Z ad) λa f=>qU f Z (pFA wL Z) λa f=>qV f Z (bB aZ Z (aV (j:=0) ac Z)) λa f=>?_)
   refine qp_ 2 f Z λa f=>aB5 15 (λa=>Has 57 a [(2,pq i),(3,pq g),(23,i6 ((a_.Stations.length:Nat):Int)),(24,i6 x),(5,i6 x),(27,.pointer (some ⟨i,1,none⟩)),(28,.slice I a_.Stations.length B),(29,i6 x),(30,.pointer (some ⟨z,o,none⟩)),(31,.pointer (some ⟨z,o + 0,none⟩)),(32,i6 k.Places),(33,.pointer (some ⟨g,1,none⟩)),(34,.slice H b_.Stations.length D),(35,i6 x),(36,.pointer (some ⟨t,u,none⟩)),(37,.pointer (some ⟨t,u + 0,none⟩)),(38,i6 m.Places),(39,.bool (k.Places != m.Places)),(40,.bool (k.Places != m.Places)),(55,.bool au)]) ?_ ?_
   ·cases hb:(k.Places != m.Places)
    ·rw [hb] at f
     refine have F:=eG hb s;aH F λaa ag F=>?_
     obtain ⟨a9,ba,p,an,ar,aj⟩:=V.atm ag
     obtain ⟨y,am,F⟩:=cU F
     obtain ⟨a7,a8,q,ak,ap,ab⟩:=U.atm am
     refine aH F λax aq F=>qU f Z (pFA fH Z) λa f=>qV f Z (bB pB Z (bN m1 Z)) λa f=>qp_ 1 f Z λa f=>qU f Z (pIA Tryz.underlying24 tV Z Z an) λa f=>qU f Z (pFA wP Z) λa f=>qV f Z (bB eL Z (aV (j:=1) ar Z)) λa f=>qU f Z (pFA fH Z) λa f=>qV f Z (bB pB Z (bN m0 Z)) λa f=>qp_ 1 f Z λa f=>qU f Z (pIA Tryz.underlying24 tV Z Z ak) λa f=>qU f Z (pFA wP Z) λa f=>qV f Z (bB eL Z (aV (j:=1) ap Z)) λa f=>qV f Z (eC (v:=.bool ax) (vs:=[.slice p.1 aa.Order.length p.2,.slice q.1 y.Order.length q.2]) (caps:=[]) (eN 27) Z Z Z Z (λw d=>jL aa.Order y.Order aj ab d aq)) λa f=>?_
     refine qp_ 2 f Z λa f=>?_
     obtain rfl:=sj F
     exact sZ (f.kp Z)
    ·rw [hb] at f
     have F:=cO hb s
     obtain rfl:=sj F
     exact qk_ 14 f Z λa f=>qp_ 1 f Z λa f=>sZ (f.kp Z)
   refine λa f=>λw d=>az _ _ (zI f Z F ?_ ?_) <;> intro F
   ·refine zS λK h=>sp 1 f Z λa f=>zT h (wp_ret (bG (aL (aL (have X:=cB F X;have F:=a1 _ X;bG (aL ?_))))))
    obtain rfl:=F
    exact have d:=(d.drop k1).drop k0;zO1 Tryz.results30 f Z ⟨Z,d⟩
   ·exact wp_skip (a0 _ _ (bK (sp 2 f Z λa f=>aN (a3 (W (x + 1)) _ _ (sj F).symm ⟨f.kp Z,d⟩))))
  ·exact wp_exit (aP (aP (have X:=cB F X;cX (av _ _ _ X ⟨f.kp Z,d⟩))))

def hO (N:Nat) (a_:List aA) (b_:List aA) (B:Int):Option (bC (Int) (Bool)) :=
 cond (decide (B < ((a_.length:Nat):Int)))
 (Option.bind (aQ a_ B) λH=>
 Option.bind (aQ b_ B) λD=>
 cond (!(H.Person == D.Person && H.Station == D.Station))
 (some (.ret false))
 (some (.cont (W (B + 1)))))
 (some (.brk B))
def kC (N:Nat) (a_:List aA) (b_:List aA):Option (Bool) :=
 cond (((a_.length:Nat):Int) != ((b_.length:Nat):Int))
 (some false)
 (Option.bind (aS (λs7=>hO N a_ b_ s7) N 0) λx7=>
 exK x7 (λs7=>some true) some)
theorem aAi {I D:Option Addr} {H J:Nat} (a_ b_:List aA) (b:Rd G 2 I H (a_.map aM)) (i:Rd G 2 D J (b_.map aM)) (d:Ctx G (Lf) w) {M:Bool} (F:kC N a_ b_=some M):Cz G 31 #[.slice I a_.length H,.slice D b_.length J] w (.bool M) (Lf):=by
 refine bY Tryz.func31 Z Tryz.ntmps31 Z λa f=>zS λK h=>sp 1 f Z λa f=>zT h (wp_seq_k λK2 h2=>zS λK h=>sp 1 f Z λa f=>zP f Z (bA Tryz.underlying30 Z) λa f=>sp 1 f Z λa f=>zP f Z (bA Tryz.underlying30 Z) λa f=>sp 1 f Z λa f=>zT h (zI f Z F ?_ ?_)) <;> intro F
 ·refine zS λK h=>sp 1 f Z λa f=>zT h (wp_ret (aL ?_))
  obtain rfl:=sj F
  exact zO1 Tryz.results31 f Z ⟨Z,d⟩
 ·refine wp_skip (h2 _ _ (wp_seq_k λK5 h5=>zS λK h=>sp 1 f Z λa f=>zT h (wp_block (aH F λx7 q F=>?_))))
  let S7:Int→Act→World→Prop:=(λ(zz:Int) a w=>Has 26 a [(0,.slice I a_.length H),(1,.slice D b_.length J),(5,i6 zz)]∧Ctx G (Lf) w)
  have j:∀ (zz:Int) a w,x7=.go zz→S7 zz a w→K5 a w:=by
   rintro U a w rfl ⟨f,d⟩
   refine have F:=bI F;h5 _ _ (zS λK h=>sp 1 f Z λa f=>zT h (wp_ret ?_))
   obtain rfl:=sj F
   exact zO1 Tryz.results31 f Z ⟨Z,d⟩
  have m:∀ r,x7=.out r→r=M:=by
   rintro r rfl
   exact sj F
  refine cF N (cE (S:=S7) (x:=x7) ?_ N 0 _ _ ⟨f.kp Z,d⟩ q)
  clear F f d
  rintro U u a w KB7 ⟨f,d⟩ F B s
  unfold hO at F
  refine wp_seq_k λK9 h9=>zS λK h=>sp 2 f Z λa f=>zP f Z (bA Tryz.underlying30 Z) λa f=>sp 1 f Z λa f=>zT h (zI f Z F ?_ ?_) <;> intro F
  ·refine wp_skip (h9 _ _ (wp_seq_k λK11 k=>wp_block (wp_seq_k λK12 p=>aH F λO g F=>?_)))
   obtain ⟨v,o,qa,qp⟩:=b.atm g
   obtain ⟨R,V,F⟩:=cU F
   obtain ⟨y,t,Y,X⟩:=i.atm V
   refine cQ d aU (by kernel_rfl) (qp_ 2 f Z λa f=>qU f Z (pIA Tryz.underlying30 pP Z Z qa) λa f=>qV f Z (iY (vs:=[i6 O.Person,i6 O.Station]) rL Z Z (cY qp (n:=2) (o':=0) Z)) λa f=>qp_ 2 f Z λa f=>qU f Z (pIA Tryz.underlying30 pP Z Z Y) λa f=>qV f Z (iY (vs:=[i6 R.Person,i6 R.Station]) rL Z Z (cY X (n:=2) (o':=0) Z)) λa f=>qU f Z (aMc aK2 Z Z (aHy _ _ _ _)) λa f=>λw d=>p _ _ (zI f Z F ?_ ?_)) <;> intro F
   ·refine zS λK h=>sp 1 f Z λa f=>zT h (wp_ret (bG (aL (aL (have B:=cB F B;have F:=m _ B;bG (aL ?_))))))
    obtain rfl:=F
    exact zO1 Tryz.results31 f Z ⟨Z,d⟩
   ·exact wp_skip (k _ _ (bK (sp 3 f Z λa f=>aN (s (W (U + 1)) _ _ (sj F).symm ⟨f.kp Z,d⟩))))
  ·exact wp_exit (aP (aP (have B:=cB F B;cX (j _ _ _ B ⟨f.kp Z,d⟩))))

def fN (N:Nat) (r:aB) (B:Int):Option (bC (Int) (Bool)) :=
 cond (decide (B < ((r.Stations.length:Nat):Int)))
 (Option.bind (aQ r.Stations B) λH=>
 cond (decide (15 < ((H.Order.length:Nat):Int)))
 (Option.bind (gC N) λD=>
 some (.ret D))
 (some (.cont (W (B + 1)))))
 (some (.brk B))
def gB (N:Nat) (r:aB) (x:Int):Option (bC (Int) (Bool)) :=
 cond (decide (x < ((r.People.length:Nat):Int)))
 (Option.bind (aQ r.People x) λD=>
 cond (decide (15 < ((D.length:Nat):Int)))
 (Option.bind (gC N) λB=>
 some (.ret B))
 (some (.cont (W (x + 1)))))
 (some (.brk x))
def lT (N:Nat) (r:aB) (B:List Int) (l:List aA):Option (Bool) :=
 cond ((((decide (15 < ((r.People.length:Nat):Int))) || (decide (15 < ((r.Stations.length:Nat):Int)))) || (decide (20 < ((B.length:Nat):Int)))) || (decide (150 < ((l.length:Nat):Int))))
 (Option.bind (gC N) λs=>
 some s)
 (Option.bind (aS (λs7=>gB N r s7) N 0) λx7=>
 exK x7 (λs7=>Option.bind (aS (λU=>fN N r U) N 0) λaa=>
 exK aa (λU=>Option.bind (pQ N r) λH=>
 Option.bind (gO N B) λX=>
 Option.bind (nO N l) λV=>
 Option.bind (nK N H) λx=>
 Option.bind (iD N r) λp=>
 Option.bind (qK N p) λz=>
 cond (x != z)
 (some false)
 (Option.bind (oR N H X) λO=>
 Option.bind (iD N r) λy=>
 Option.bind (oP N y B) λS=>
 cond ((!(O.1.Person == S.1.Person && O.1.Station == S.1.Station)) || (O.2 != S.2))
 (some false)
 (Option.bind (sJ N H V) λM=>
 Option.bind (iD N r) λj=>
 Option.bind (pY N l) λY=>
 Option.bind (qL N j Y) λR=>
 cond ((M.1 != R.1) || (M.2 != R.2))
 (some false)
 (Option.bind (qN N H) λJ=>
 Option.bind (iD N r) λk=>
 Option.bind (qW N k) λI=>
 Option.bind (dW N J.1 I.1) λo=>
 cond ((!o) || (J.2 != I.2))
 (some false)
 (Option.bind (oU N H) λD=>
 Option.bind (cond ((D.2 != I.2) || ((D.2 != 0) && (decide (0 < ((D.1.length:Nat):Int))))) (some true) (Option.bind (cond (D.2 == 0) (Option.bind (uO N r I.1 D.1) λm=>
 some (!m)) (some false)) λq=>
 some q)) λv=>
 cond v
 (some false)
 (Option.bind (yS N H r) λg=>
 Option.bind (cond g (Option.bind (dW N X B) λb=>
 some b) (some false)) λt=>
 Option.bind (cond t (Option.bind (kC N V l) λn=>
 some n) (some false)) λab=>
 Option.bind (cond ab (Option.bind (gC N) λi=>
 some i) (some false)) λu=>
 some u)))))) some) some)
theorem sO {Y R D s:Option Addr} {g O H t:Nat} (r:aB) (B:List Int) (l:List aA) (b:RdT aT G 1 Y g r.People) (U:RdT bD G 2 R O r.Stations) (z:Rd G 1 D H (B.map aF)) (bf:Rd G 2 s t (l.map aM)) (d:Ctx G (Lf) w) {a5:Bool} (F:lT N r B l=some a5):Cz G 7 #[.agg #[.slice Y r.People.length g,.slice R r.Stations.length O],.slice D B.length H,.slice s l.length t] w (.bool a5) (Lf):=by
 refine bY Tryz.func7 Z Tryz.ntmps7 Z λa f=>zS λK h=>zB f d Z λq a w f d=>sp 1 f Z λa f=>zT h (wp_seq_k λK2 h2=>zS λK h=>zP f Z (pFA iG Z) λa f=>zL f d gR m0 Z λa w f d=>zP f Z (bA Tryz.underlying23 Z) λa f=>sp 2 f Z λa f=>cV 5 (λa=>Has 188 a [(1,.slice D B.length H),(2,.slice s l.length t),(3,pq q),(32,.bool ((decide (15 < ((r.People.length:Nat):Int))) || (decide (15 < ((r.Stations.length:Nat):Int)))))]) d ?_ ?_)
 ·cases hb:(decide (15 < ((r.People.length:Nat):Int)))
  ·rw [hb] at f
   exact zP f Z (pFA fH Z) λa f=>zL f d pB m0 Z λa w f d=>zP f Z (bA Tryz.underlying24 Z) λa f=>sp 2 f Z λa f=>aN ⟨f.kp Z,d⟩
  ·rw [hb] at f
   exact sp 5 f Z λa f=>aN ⟨f.kp Z,d⟩
 intro a w ⟨f,d⟩
 refine sp 1 f Z λa f=>cV 4 (λa=>Has 188 a [(1,.slice D B.length H),(2,.slice s l.length t),(3,pq q),(37,.bool (((decide (15 < ((r.People.length:Nat):Int))) || (decide (15 < ((r.Stations.length:Nat):Int)))) || (decide (20 < ((B.length:Nat):Int)))))]) d ?_ ?_
 ·cases hb:((decide (15 < ((r.People.length:Nat):Int))) || (decide (15 < ((r.Stations.length:Nat):Int))))
  ·rw [hb] at f
   exact sp 1 f Z λa f=>zP f Z (bA Tryz.underlying22 Z) λa f=>sp 2 f Z λa f=>aN ⟨f.kp Z,d⟩
  ·rw [hb] at f
   exact sp 4 f Z λa f=>aN ⟨f.kp Z,d⟩
 intro a w ⟨f,d⟩
 refine sp 1 f Z λa f=>cV 4 (λa=>Has 188 a [(1,.slice D B.length H),(2,.slice s l.length t),(3,pq q),(42,.bool ((((decide (15 < ((r.People.length:Nat):Int))) || (decide (15 < ((r.Stations.length:Nat):Int)))) || (decide (20 < ((B.length:Nat):Int)))) || (decide (150 < ((l.length:Nat):Int)))))]) d ?_ ?_
 ·cases hb:(((decide (15 < ((r.People.length:Nat):Int))) || (decide (15 < ((r.Stations.length:Nat):Int)))) || (decide (20 < ((B.length:Nat):Int))))
  ·rw [hb] at f
   exact sp 1 f Z λa f=>zP f Z (bA Tryz.underlying30 Z) λa f=>sp 2 f Z λa f=>aN ⟨f.kp Z,d⟩
  ·rw [hb] at f
   exact sp 4 f Z λa f=>aN ⟨f.kp Z,d⟩
 intro a w ⟨f,d⟩
 refine zT h (zI f Z F ?_ ?_) <;> intro F
 ·refine zS λK h=>aH F λd7 cv F=>zQ (v:=.bool d7) f d (eN 14) Z (λw d=>jH d cv) λa w f d=>sp 1 f Z λa f=>zT h (wp_ret (aL ?_))
  obtain rfl:=sj F
  exact have d:=d.drop k0;zO1 Tryz.results7 f Z ⟨Z,d⟩
 ·refine wp_skip (h2 _ _ (wp_seq_k λK5 h5=>zS λK h=>zP f Z (pFA iG Z) λa f=>zL f d gR m0 Z λa w f d=>zP f Z (bA Tryz.underlying23 Z) λa f=>sp 1 f Z λa f=>zT h (wp_block (aH F λx7 d9 F=>?_))))
  let S7:Int→Act→World→Prop:=(λ(zz:Int) a w=>Has 188 a [(1,.slice D B.length H),(2,.slice s l.length t),(3,pq q),(45,.slice Y r.People.length g),(46,i6 ((r.People.length:Nat):Int)),(47,i6 zz)]∧Ctx G (.box q [.slice Y r.People.length g,.slice R r.Stations.length O] 26::Lf) w)
  have dg:∀ (zz:Int) a w,x7=.go zz→S7 zz a w→K5 a w:=by
   rintro x a w rfl ⟨f,d⟩
   refine have F:=bI F;h5 _ _ (wp_seq_k λK8 h8=>zS λK h=>zP f Z (pFA fH Z) λa f=>zL f d pB m0 Z λa w f d=>zP f Z (bA Tryz.underlying24 Z) λa f=>sp 1 f Z λa f=>zT h (wp_block (aH F λbi c5 F=>?_)))
   let S10:Int→Act→World→Prop:=(λ(zz:Int) a w=>Has 188 a [(1,.slice D B.length H),(2,.slice s l.length t),(3,pq q),(57,.slice R r.Stations.length O),(58,i6 ((r.Stations.length:Nat):Int)),(59,i6 zz)]∧Ctx G (.box q [.slice Y r.People.length g,.slice R r.Stations.length O] 26::Lf) w)
   have cy:∀ (zz:Int) a w,bi=.go zz→S10 zz a w→K8 a w:=by
    rintro cb a w rfl ⟨f,d⟩
    refine have F:=bI F;h8 _ _ (zS λK h=>zN f d qC m0 Z λa w f d=>aH F λm db F=>zC f (eN 15) Z (aDe r b U d db) ?_)
    rintro _ w ⟨a2,aq,a1,y,rfl,d⟩
    refine ⟨_,Z,λa f=>sp 1 f Z λa f=>aH F λac cm F=>zC f (eN 16) Z (rQ B z d cm) ?_⟩
    rintro _ w ⟨an,ak,rfl,d⟩
    refine ⟨_,Z,λa f=>sp 1 f Z λa f=>aH F λaa cq F=>zC f (eN 17) Z (aAd l bf d cq) ?_⟩
    rintro _ w ⟨ag,af,rfl,d⟩
    refine ⟨_,Z,λa f=>zA f d aId Z λaj a w f d=>zW f d aJc u0 Z λw d=>sp 2 f Z λa f=>zT h (wp_seq_k λK12 dm=>wp_seq_k λK13 dq=>aH F λa6 c3 F=>aH F λam cp F=>aH F λa9 c0 F=>have d:=d.nilRow 0 0;have d:=d.nilRow 0 0;have d:=d.nilRow 0 0;have d:=d.nilRow 0 0;?_)⟩
    refine jV (λθ=>[f0 1 (.slice D B.length H),f0 2 (.slice s l.length t),f0 3 (pq q),f0 11 (pq aj),f0 12 (.slice an ac.length ak),f0 13 (.slice ag aa.length af),f1 0 75 (.agg #[.slice a2 m.People.length aq.1,.slice a1 m.Stations.length y.1]),f1 1 76 (i6 a6),f1 2 77 (.agg #[.slice Y r.People.length g,.slice R r.Stations.length O]),f1 3 78 (.agg #[.slice ((θ 24).p) am.People.length ((θ 24).c),.slice ((θ 25).p) am.Stations.length ((θ 25).c)]),f1 4 79 (i6 a9),f1 5 80 (.bool (a6 != a9))]) (λE θ=>(bif E 3 then bX iZ (aO (θ 25).h am.Stations) else .row none 0 [] 0 0)::(bif E 3 then .row ((θ 25).p) ((θ 25).c) ((aO (θ 25).h am.Stations).map (Kd.v iZ)) 125 2 else .row none 0 [] 0 0)::(bif E 3 then bX aT (aO (θ 24).h am.People) else .row none 0 [] 0 0)::(bif E 3 then .row ((θ 24).p) ((θ 24).c) ((aO (θ 24).h am.People).map (Kd.v aT)) 22 1 else .row none 0 [] 0 0)::.box aj [.slice a2 m.People.length aq.1,.slice a1 m.Stations.length y.1] 26::.row ag af (aa.map aM) 29 2::.row an ak (ac.map aF) 3 1::.row a2 aq.1 ((aO aq.2 m.People).map (Kd.v aT)) 22 1::bX aT (aO aq.2 m.People)::.row a1 y.1 ((aO y.2 m.Stations).map (Kd.v bD)) 41 2::bX bD (aO y.2 m.Stations)::.box q [.slice Y r.People.length g,.slice R r.Stations.length O] 26::Lf) [] (λa w=>∃ (bg:Hds) (b9:Option Addr) (cc:Nat) (a0:Hds) (cj:Option Addr) (cf:Nat),Has 188 a [(1,.slice D B.length H),(2,.slice s l.length t),(3,pq q),(11,pq aj),(12,.slice an ac.length ak),(13,.slice ag aa.length af),(80,.bool (a6 != a9))]∧Ctx G (bX iZ (aO bg am.Stations)::.row b9 cc ((aO bg am.Stations).map (Kd.v iZ)) 125 2::bX aT (aO a0 am.People)::.row cj cf ((aO a0 am.People).map (Kd.v aT)) 22 1::.box aj [.slice a2 m.People.length aq.1,.slice a1 m.Stations.length y.1] 26::.row ag af (aa.map aM) 29 2::.row an ak (ac.map aF) 3 1::.row a2 aq.1 ((aO aq.2 m.People).map (Kd.v aT)) 22 1::bX aT (aO aq.2 m.People)::.row a1 y.1 ((aO y.2 m.Stations).map (Kd.v bD)) 41 2::bX bD (aO y.2 m.Stations)::.box q [.slice Y r.People.length g,.slice R r.Stations.length O] 26::Lf) w) aU (by kernel_rfl) (by kernel_rfl) (iW.of f ⟨Z,Z,Z,Z,Z,Z,trivial,trivial,trivial,trivial,trivial,trivial,trivial⟩) d ⟨?_,?_,?_,?_,?_,?_,trivial⟩ ?_ ?_
    ·exact λE θ a w hD hi hp he d=>have f:=he.h0.mT he 3 Z;zN f d qC m4 Z λa w f d=>zD θ he hi f 6 Z Z Z d
    ·exact λE θ a w hD hi hp he d=>have e0:=hp.o 0 Z;have f:=he.h0.mP he 6 Z e0;zQ (v:=i6 a6) f d (eN 11) Z (λw d=>by obtain ⟨G1,i,J,d,M⟩:=lE pS d k7 k7;obtain ⟨G2,I,V,d,X⟩:=lE wH d k7 k7;exact (aAl m (J.mono I) V d c3).mono λe w h=>⟨h.1,(gV (M _ _ (gV (X _ _ h.2) k7 k7)) k7 k7)⟩) λa w f d=>zD θ he hi f 7 Z Z Z d
    ·exact λE θ a w hD hi hp he d=>have f:=he.h0.mT he 2 Z;zN f d qC m11 Z λa w f d=>zD θ he hi f 8 Z Z Z d
    ·refine λE θ a w hD hi hp he d=>have e2:=hp.o 2 Z;?_
     try dsimp only at d
     rw [hi] at d
     refine have f:=he.h0.mP he 8 Z e2;zC f (eN 19) Z (rJ r b U d cp) ?_
     rintro _ w ⟨du,a8,gc,a7,rfl,d⟩
     refine ⟨_,Z,λa f=>aN (eS (λds u d3=>have d:=(((((((d.drop k7).drop k6).drop k5).drop k4).pick k0).pick k1).pick k2).pick k3;?_))⟩
     refine ⟨(qR (qR θ 24 ⟨0,du,a8.1,a8.2⟩) 25 ⟨0,gc,a7.1,a7.2⟩),he.put hi d3 f Z [] trivial ⟨qq,qq,qq,qq,qq,qq,qq,qq,qq,qq,qq,qq,trivial⟩,?_⟩
     try dsimp only
     rw [bE E 3]
     exact d
    ·refine λE θ a w hD hi hp he d=>have e3:=hp.o 3 Z;?_
     try dsimp only at d
     rw [e3] at d
     refine have f:=he.h0.mP he 9 Z e3;zQ (v:=i6 a9) f d (eN 18) Z (λw d=>by obtain ⟨G1,i,J,d,M⟩:=lE pS d k3 k2;obtain ⟨G2,I,V,d,X⟩:=lE aEc d k1 k0;exact (vI am (J.mono I) V d c0).mono λe w h=>⟨h.1,(gV (M _ _ (gV (X _ _ h.2) k1 k0)) k3 k2)⟩) λa w f d=>zD θ he hi f 10 Z Z Z ?_
     try dsimp only
     rw [eD 4 e3]
     exact d
    ·exact λE θ a w hD hi hp he d=>have e1:=hp.o 1 Z;have e4:=hp.o 4 Z;have f:=(he.h0.mP he 7 Z e1).mP he 10 Z e4;sp 1 f Z λa f=>zD θ he hi f 11 Z Z Z d
    ·refine λE θ a w bb he d=>have f:=he.h0;have e3:=bb 3 Z;have e5:=bb 5 Z;have f:=f.more he 11 Z (onP e5);have f:=f.more he 5 Z (onT);have f:=f.more he 4 Z (onT);have f:=f.more he 3 Z (onT);have f:=f.more he 2 Z (onT);have f:=f.more he 1 Z (onT);have f:=f.more he 0 Z (onT);?_
     try dsimp only at d
     rw [e3] at d
     exact ⟨(θ 25).h,(θ 25).p,(θ 25).c,(θ 24).h,(θ 24).p,(θ 24).c,f.kp Z,d⟩
    rintro a w ⟨bg,b9,cc,a0,cj,cf,f,d⟩
    refine have d:=(((d.drop k3).drop k2).drop k1).drop k0;dq _ _ (zI f Z F ?_ ?_) <;> intro F
    ·refine zS λK h=>sp 1 f Z λa f=>zT h (wp_ret (aL ?_))
     obtain rfl:=sj F
     exact have d:=(((((((d.drop k7).drop k6).drop k5).drop k4).drop k3).drop k2).drop k1).drop k0;zO1 Tryz.results7 f Z ⟨Z,d⟩
    ·refine wp_skip (dm _ _ (zS λK h=>zN f d qC m0 Z λa w f d=>sp 1 f Z λa f=>aH F λar dc F=>zQ (v:=.tuple #[.agg #[i6 ar.1.Person,i6 ar.1.Station],i6 ar.2]) f d (eN 20) Z (λw d=>by obtain ⟨G1,i,J,d,M⟩:=lE pS d k3 k3;obtain ⟨G2,I,V,d,X⟩:=lE wH d k3 k3;obtain ⟨G3,ai,ax,d,av⟩:=lend d k2;exact (aCf m ac ((J.mono I).mono ai) (V.mono ai) ax d dc).mono λe w h=>⟨h.1,(gV (M _ _ (gV (X _ _ ((av _ _ h.2).unpick k2)) k3 k3)) k3 k3)⟩) λa w f d=>sp 3 f Z λa f=>zA f d aF4 Z λg6 a w f d=>zW f d pP u0 Z λw d=>sp 1 f Z λa f=>zT h (wp_seq_k λK16 dj=>bK ?_)))
     refine zN f d qC m8 Z λa w f d=>aH F λd1 c9 F=>zC f (eN 19) Z (rJ r b U d c9) ?_
     rintro _ w ⟨g0,gg,gu,gi,rfl,d⟩
     refine ⟨_,Z,λa f=>sp 1 f Z λa f=>aH F λau cu F=>zQ (v:=.tuple #[.agg #[i6 au.1.Person,i6 au.1.Station],i6 au.2]) f d (eN 21) Z (λw d=>by obtain ⟨G1,i,J,d,M⟩:=lE pS d k0 k0;obtain ⟨G2,I,V,d,X⟩:=lE aEc d k0 k0;exact (aGc d1 B (J.mono I) V ((z.mono i).mono I) d cu).mono λe w h=>⟨h.1,(gV (M _ _ (gV (X _ _ h.2) k0 k0)) k0 k0)⟩) λa w f d=>sp 3 f Z λa f=>zA f d aSe Z λg2 a w f d=>zW f d aA5 u0 Z λw d=>sp 1 f Z λa f=>aN (have d:=(((d.drop k4).drop k3).drop k2).drop k1;dj _ _ (wp_seq_k λK17 d0=>wp_seq_k λK18 dv=>bK ?_))⟩
     refine zN f d rL m1 Z λa w f d=>zN f d aHg m0 Z λa w f d=>zP f Z (aMc ge_69 Z Z (aTa _ _ _ _)) λa f=>sp 1 f Z λa f=>cV 4 (λa=>Has 188 a [(1,.slice D B.length H),(2,.slice s l.length t),(3,pq q),(11,pq aj),(12,.slice an ac.length ak),(13,.slice ag aa.length af),(101,.bool ((!(ar.1.Person == au.1.Person && ar.1.Station == au.1.Station)) || (ar.2 != au.2)))]) d ?_ ?_
     ·cases hb:(!(ar.1.Person == au.1.Person && ar.1.Station == au.1.Station)) <;> (rw [hb] at f;exact sp 4 f Z λa f=>aN ⟨f.kp Z,d⟩)
     intro a w ⟨f,d⟩
     refine aN (have d:=(d.drop k1).drop k0;dv _ _ (zI f Z F ?_ ?_)) <;> intro F
     ·refine zS λK h=>sp 1 f Z λa f=>zT h (wp_ret (aL ?_))
      obtain rfl:=sj F
      exact have d:=(((((((d.drop k7).drop k6).drop k5).drop k4).drop k3).drop k2).drop k1).drop k0;zO1 Tryz.results7 f Z ⟨Z,d⟩
     ·refine wp_skip (d0 _ _ (zS λK h=>zN f d qC m0 Z λa w f d=>sp 1 f Z λa f=>aH F λaz b4 F=>zQ (v:=.tuple #[.bool az.1,i6 az.2]) f d (eN 22) Z (λw d=>by obtain ⟨G1,i,J,d,M⟩:=lE pS d k3 k3;obtain ⟨G2,I,V,d,X⟩:=lE wH d k3 k3;obtain ⟨G3,ai,ax,d,av⟩:=lend d k1;exact (aDm m aa ((J.mono I).mono ai) (V.mono ai) ax d b4).mono λe w h=>⟨h.1,(gV (M _ _ (gV (X _ _ ((av _ _ h.2).unpick k1)) k3 k3)) k3 k3)⟩) λa w f d=>sp 5 f Z λa f=>zT h (wp_seq_k λK21 dr=>bK (zN f d qC m7 Z λa w f d=>aH F λcx bu F=>zC f (eN 19) Z (rJ r b U d bu) ?_))))
      rintro _ w ⟨gy,gk,gq,gj,rfl,d⟩
      refine ⟨_,Z,λa f=>sp 1 f Z λa f=>aH F λcz b0 F=>zC f (eN 24) Z (zK l bf d b0) ?_⟩
      rintro _ w ⟨gx,ia,rfl,d⟩
      refine ⟨_,Z,λa f=>aH F λay bv F=>zQ (v:=.tuple #[.bool ay.1,i6 ay.2]) f d (eN 23) Z (λw d=>by obtain ⟨G1,i,J,d,M⟩:=lE pS d k1 k1;obtain ⟨G2,I,V,d,X⟩:=lE aEc d k1 k1;obtain ⟨G3,ai,ax,d,av⟩:=lend d k0;exact (aCp cx cz ((J.mono I).mono ai) (V.mono ai) ax d bv).mono λe w h=>⟨h.1,(gV (M _ _ (gV (X _ _ ((av _ _ h.2).unpick k0)) k1 k1)) k1 k1)⟩) λa w f d=>sp 5 f Z λa f=>aN (have d:=((((d.drop k4).drop k3).drop k2).drop k1).drop k0;dr _ _ (wp_seq_k λK22 dy=>zS λK h=>sp 2 f Z λa f=>zP f Z (pNeB Tryz.underlying4 Z Z) λa f=>sp 1 f Z λa f=>cV 4 (λa=>Has 188 a [(1,.slice D B.length H),(2,.slice s l.length t),(3,pq q),(11,pq aj),(12,.slice an ac.length ak),(13,.slice ag aa.length af),(123,.bool ((az.1 != ay.1) || (az.2 != ay.2)))]) d ?_ ?_))⟩
      ·cases hb:(az.1 != ay.1) <;> (rw [hb] at f;exact sp 4 f Z λa f=>aN ⟨f.kp Z,d⟩)
      intro a w ⟨f,d⟩
      refine zT h (zI f Z F ?_ ?_) <;> intro F
      ·refine zS λK h=>sp 1 f Z λa f=>zT h (wp_ret (aL ?_))
       obtain rfl:=sj F
       exact have d:=(((((((d.drop k7).drop k6).drop k5).drop k4).drop k3).drop k2).drop k1).drop k0;zO1 Tryz.results7 f Z ⟨Z,d⟩
      ·refine wp_skip (dy _ _ (zS λK h=>zN f d qC m0 Z λa w f d=>aH F λbj bt F=>?_))
       obtain ⟨G1,i,J,d,M⟩:=lE pS d k3 k3
       obtain ⟨G2,I,V,d,X⟩:=lE wH d k3 k3
       refine zC f (eN 25) Z (aCu m (J.mono I) V d bt) ?_
       rintro _ w ⟨gr,g4,rfl,d⟩
       refine ⟨_,Z,λa f=>have d:=X _ _ d;have d:=M _ _ d;sp 5 f Z λa f=>zT h (wp_seq_k λK26 d4=>bK (zN f d qC m8 Z λa w f d=>aH F λda br F=>zC f (eN 19) Z (rJ r b U d br) ?_))⟩
       rintro _ w ⟨gz,gf,gs,gd,rfl,d⟩
       refine ⟨_,Z,λa f=>aH F λab b6 F=>?_⟩
       obtain ⟨G1,i,J,d,M⟩:=lE pS d k0 k0
       obtain ⟨G2,I,V,d,X⟩:=lE aEc d k0 k0
       refine zC f (eN 26) Z (aGg da (J.mono I) V d b6) ?_
       rintro _ w ⟨a3,bp,rfl,d⟩
       refine ⟨_,Z,λa f=>have d:=X _ _ d;have d:=M _ _ d;sp 5 f Z λa f=>aN (have d:=(((d.drop k3).drop k2).drop k1).drop k0;d4 _ _ (wp_seq_k λK27 dn=>wp_seq_k λK28 d5=>bK (sp 2 f Z λa f=>aH F λa4 b5 F=>zQ (v:=.bool a4) f d (eN 27) Z (λw d=>by obtain ⟨G1,i,J,d,M⟩:=lend d k5;obtain ⟨G2,I,V,d,X⟩:=lend d k0;exact (jL bj.1 ab.1 (J.mono I) V d b5).mono λe w h=>⟨h.1,((M _ _ ((X _ _ h.2).unpick k0)).unpick k5)⟩) λa w f d=>sp 2 f Z λa f=>?_)))⟩
       refine cV 4 (λa=>Has 188 a [(1,.slice D B.length H),(2,.slice s l.length t),(3,pq q),(11,pq aj),(12,.slice an ac.length ak),(13,.slice ag aa.length af),(21,.slice a3 ab.1.length bp),(17,i6 ab.2),(143,.bool ((!a4) || (bj.2 != ab.2)))]) d ?_ ?_
       ·cases hb:(!a4) <;> (rw [hb] at f;exact sp 4 f Z λa f=>aN ⟨f.kp Z,d⟩)
       intro a w ⟨f,d⟩
       refine aN (have d:=d.drop k5;d5 _ _ (zI f Z F ?_ ?_)) <;> intro F
       ·refine wp_seq_k λK29 gb=>bK (sp 1 f Z λa f=>aN (have d:=((((((((d.drop k8).drop k7).drop k6).drop k5).drop k4).drop k3).drop k2).drop k1).drop k0;gb _ _ (wp_ret (aL ?_))))
        obtain rfl:=sj F
        exact zO1 Tryz.results7 f Z ⟨Z,d⟩
       ·refine wp_skip (dn _ _ (zS λK h=>zN f d qC m5 Z λa w f d=>aH F λk b8 F=>?_))
        obtain ⟨G1,i,J,d,M⟩:=lE pS d k1 k1
        obtain ⟨G2,I,V,d,X⟩:=lE wH d k1 k1
        refine zC f (eN 28) Z (aFv m (J.mono I) V d b8) ?_
        rintro _ w ⟨bm,cg,rfl,d⟩
        refine ⟨_,Z,λa f=>have d:=X _ _ d;have d:=M _ _ d;sp 5 f Z λa f=>zT h (wp_seq_k λK31 dk=>wp_seq_k λK32 dp=>bK (sp 4 f Z λa f=>cV 8 (λa=>Has 188 a [(1,.slice D B.length H),(2,.slice s l.length t),(3,pq q),(11,pq aj),(12,.slice an ac.length ak),(13,.slice ag aa.length af),(21,.slice a3 ab.1.length bp),(22,.slice bm k.1.length cg),(15,i6 k.2),(160,.bool ((k.2 != ab.2) || ((k.2 != 0) && (decide (0 < ((k.1.length:Nat):Int))))))]) d ?_ ?_))⟩
        ·cases hb:(k.2 != ab.2)
         ·rw [hb] at f
          refine sp 3 f Z λa f=>cV 4 (λa=>Has 188 a [(1,.slice D B.length H),(2,.slice s l.length t),(3,pq q),(11,pq aj),(12,.slice an ac.length ak),(13,.slice ag aa.length af),(21,.slice a3 ab.1.length bp),(22,.slice bm k.1.length cg),(15,i6 k.2),(152,.bool false),(159,.bool ((k.2 != 0) && (decide (0 < ((k.1.length:Nat):Int)))))]) d ?_ ?_
          ·cases hb:(k.2 != 0)
           ·rw [hb] at f
            exact sp 4 f Z λa f=>aN ⟨f.kp Z,d⟩
           ·rw [hb] at f
            exact sp 1 f Z λa f=>zP f Z (bA Tryz.underlying30 Z) λa f=>sp 2 f Z λa f=>aN ⟨f.kp Z,d⟩
          intro a w ⟨f,d⟩
          exact sp 1 f Z λa f=>aN ⟨f.kp Z,d⟩
         ·rw [hb] at f
          exact sp 8 f Z λa f=>aN ⟨f.kp Z,d⟩
        intro a w ⟨f,d⟩
        refine sp 1 f Z λa f=>aH F λd8 bk F=>cV 10 (λa=>Has 188 a [(1,.slice D B.length H),(2,.slice s l.length t),(3,pq q),(11,pq aj),(12,.slice an ac.length ak),(13,.slice ag aa.length af),(171,.bool d8)]) d ?_ ?_
        ·cases hb:((k.2 != ab.2) || ((k.2 != 0) && (decide (0 < ((k.1.length:Nat):Int)))))
         ·rw [hb] at f
          refine have F:=eG hb bk;sp 3 f Z λa f=>aH F λdf bc F=>cV 6 (λa=>Has 188 a [(1,.slice D B.length H),(2,.slice s l.length t),(3,pq q),(11,pq aj),(12,.slice an ac.length ak),(13,.slice ag aa.length af),(161,.bool false),(170,.bool df)]) d ?_ ?_
          ·cases hb:(k.2 == 0)
           ·rw [hb] at f
            have F:=eG hb bc
            obtain rfl:=sj F
            exact sp 6 f Z λa f=>aN ⟨f.kp Z,d⟩
           ·rw [hb] at f
            refine have F:=cO hb bc;zN f d qC m9 Z λa w f d=>sp 2 f Z λa f=>aH F λdd bs F=>zQ (v:=.bool dd) f d (eN 29) Z (λw d=>by obtain ⟨G1,i,J,d,M⟩:=lend d k5;obtain ⟨G2,I,V,d,X⟩:=lend d k4;exact (aIm r ab.1 k.1 ((b.mono i).mono I) ((U.mono i).mono I) (J.mono I) V d bs).mono λe w h=>⟨h.1,((M _ _ ((X _ _ h.2).unpick k4)).unpick k5)⟩) λa w f d=>sp 2 f Z λa f=>?_
            obtain rfl:=sj F
            exact aN ⟨f.kp Z,d⟩
          intro a w ⟨f,d⟩
          refine sp 1 f Z λa f=>?_
          obtain rfl:=sj F
          exact aN ⟨f.kp Z,d⟩
         ·rw [hb] at f
          have F:=cO hb bk
          obtain rfl:=sj F
          exact sp 10 f Z λa f=>aN ⟨f.kp Z,d⟩
        intro a w ⟨f,d⟩
        refine aN (have d:=(d.drop k5).drop k4;dp _ _ (zI f Z F ?_ ?_)) <;> intro F
        ·refine zS λK h=>sp 1 f Z λa f=>zT h (wp_ret (aL ?_))
         obtain rfl:=sj F
         exact have d:=(((((((d.drop k7).drop k6).drop k5).drop k4).drop k3).drop k2).drop k1).drop k0;zO1 Tryz.results7 f Z ⟨Z,d⟩
        ·refine wp_skip (dk _ _ (zS λK h=>zN f d qC m4 Z λa w f d=>zN f d qC m7 Z λa w f d=>aH F λbd bx F=>zQ (v:=.bool bd) f d (eN 30) Z (λw d=>by obtain ⟨G1,i,J,d,M⟩:=lE pS d k0 k0;obtain ⟨G2,I,V,d,X⟩:=lE wH d k0 k0;exact (aIg m r (J.mono I) V ((b.mono i).mono I) ((U.mono i).mono I) d bx).mono λe w h=>⟨h.1,(gV (M _ _ (gV (X _ _ h.2) k0 k0)) k0 k0)⟩) λa w f d=>sp 1 f Z λa f=>aH F λci bq F=>cV 4 (λa=>Has 188 a [(2,.slice s l.length t),(13,.slice ag aa.length af),(179,.bool ci)]) d ?_ ?_))
         ·cases hb:bd
          ·rw [hb] at f
           try rw [hb] at d
           have F:=eG hb bq
           obtain rfl:=sj F
           exact sp 4 f Z λa f=>aN ⟨f.kp Z,d⟩
          ·rw [hb] at f
           try rw [hb] at d
           refine have F:=cO hb bq;sp 2 f Z λa f=>aH F λc6 b7 F=>zQ (v:=.bool c6) f d (eN 27) Z (λw d=>by obtain ⟨G1,i,J,d,M⟩:=lend d k6;exact (jL ac B J (z.mono i) d b7).mono λe w h=>⟨h.1,((M _ _ h.2).unpick k6)⟩) λa w f d=>sp 1 f Z λa f=>?_
           obtain rfl:=sj F
           exact aN ⟨f.kp Z,d⟩
         intro a w ⟨f,d⟩
         refine sp 1 f Z λa f=>aH F λcd ba F=>cV 4 (λa=>Has 188 a [(184,.bool cd)]) d ?_ ?_
         ·cases hb:ci
          ·rw [hb] at f
           try rw [hb] at d
           have F:=eG hb ba
           obtain rfl:=sj F
           exact sp 4 f Z λa f=>aN ⟨f.kp Z,d⟩
          ·rw [hb] at f
           try rw [hb] at d
           refine have F:=cO hb ba;sp 2 f Z λa f=>aH F λcr bz F=>zQ (v:=.bool cr) f d (eN 31) Z (λw d=>by obtain ⟨G1,i,J,d,M⟩:=lend d k5;exact (aAi aa l J (bf.mono i) d bz).mono λe w h=>⟨h.1,((M _ _ h.2).unpick k5)⟩) λa w f d=>sp 1 f Z λa f=>?_
           obtain rfl:=sj F
           exact aN ⟨f.kp Z,d⟩
         intro a w ⟨f,d⟩
         refine sp 1 f Z λa f=>aH F λdi bn F=>cV 2 (λa=>Has 188 a [(187,.bool di)]) d ?_ ?_
         ·cases hb:cd
          ·rw [hb] at f
           try rw [hb] at d
           have F:=eG hb bn
           obtain rfl:=sj F
           exact sp 2 f Z λa f=>aN ⟨f.kp Z,d⟩
          ·rw [hb] at f
           try rw [hb] at d
           refine have F:=cO hb bn;aH F λcn b1 F=>zQ (v:=.bool cn) f d (eN 14) Z (λw d=>jH d b1) λa w f d=>sp 1 f Z λa f=>?_
           obtain rfl:=sj F
           exact aN ⟨f.kp Z,d⟩
         intro a w ⟨f,d⟩
         refine sp 1 f Z λa f=>zT h (wp_ret ?_)
         obtain rfl:=sj F
         exact have d:=(((((((d.drop k7).drop k6).drop k5).drop k4).drop k3).drop k2).drop k1).drop k0;zO1 Tryz.results7 f Z ⟨Z,d⟩
   have c8:∀ r,bi=.out r→r=a5:=by
    rintro r rfl
    exact sj F
   refine cF N (cE (S:=S10) (x:=bi) ?_ N 0 _ _ ⟨f.kp Z,d⟩ c5)
   clear F f d
   rintro cb gp a w KB10 ⟨f,d⟩ F ad c4
   refine zS λK h=>sp 1 f Z λa f=>zT h (wp_seq_k λK36 dz=>zI f Z F ?_ ?_) <;> intro F
   ·refine wp_skip (dz _ _ (wp_seq_k λK37 ga=>wp_block (zS λK h=>aH F λca c2 F=>?_)))
    obtain ⟨g5,o,hd,qa,qp,qr⟩:=U.atm c2
    refine zP f Z (pIA Tryz.underlying24 tV Z Z qa) λa f=>zE f d Z (iY (vs:=[i6 ca.Places,.slice hd.1 ca.Order.length hd.2]) aF1 Z Z (cY qp (n:=2) (o':=0) Z)) λa w f d=>zA f d aMu Z λg1 a w f d=>zW f d tV u0 Z λw d=>zT h (zS λK h=>zP f Z (pFA wP Z) λa f=>zL f d eL m0 Z λa w f d=>zP f Z (bA Tryz.underlying22 Z) λa f=>sp 1 f Z λa f=>zT h (zI f Z F ?_ ?_)) <;> intro F
    ·refine zS λK h=>aH F λc7 b3 F=>zQ (v:=.bool c7) f d (eN 14) Z (λw d=>jH d b3) λa w f d=>sp 1 f Z λa f=>zT h (wp_ret (bG (aL (aL (have ad:=cB F ad;have F:=c8 _ ad;bG (aL ?_))))))
     obtain rfl:=F
     exact have d:=(d.drop k1).drop k0;zO1 Tryz.results7 f Z ⟨Z,d⟩
    ·exact wp_skip (ga _ _ (bK (sp 2 f Z λa f=>aN (have d:=d.drop k0;c4 (W (cb + 1)) _ _ (sj F).symm ⟨f.kp Z,d⟩))))
   ·exact wp_exit (aP (aP (have ad:=cB F ad;cX (cy _ _ _ ad ⟨f.kp Z,d⟩))))
  have dx:∀ r,x7=.out r→r=a5:=by
   rintro r rfl
   exact sj F
  refine cF N (cE (S:=S7) (x:=x7) ?_ N 0 _ _ ⟨f.kp Z,d⟩ d9)
  clear F f d
  rintro x g7 a w KB7 ⟨f,d⟩ F ap d2
  refine zS λK h=>sp 1 f Z λa f=>zT h (wp_seq_k λK42 dt=>zI f Z F ?_ ?_) <;> intro F
  ·refine wp_skip (dt _ _ (wp_seq_k λK43 d6=>wp_block (zS λK h=>aH F λg8 ct F=>?_)))
   obtain ⟨g3,g9,gv,c1,ck,gn⟩:=b.atm ct
   refine zP f Z (pIA Tryz.underlying23 lN Z Z c1) λa f=>zE f d Z (bB eL Z (aV (j:=0) ck Z)) λa w f d=>sp 1 f Z λa f=>zT h (zS λK h=>sp 1 f Z λa f=>zP f Z (bA Tryz.underlying22 Z) λa f=>sp 1 f Z λa f=>zT h (zI f Z F ?_ ?_)) <;> intro F
   ·refine zS λK h=>aH F λcs b2 F=>zQ (v:=.bool cs) f d (eN 14) Z (λw d=>jH d b2) λa w f d=>sp 1 f Z λa f=>zT h (wp_ret (bG (aL (aL (have ap:=cB F ap;have F:=dx _ ap;bG (aL ?_))))))
    obtain rfl:=F
    exact have d:=d.drop k0;zO1 Tryz.results7 f Z ⟨Z,d⟩
   ·exact wp_skip (d6 _ _ (bK (sp 2 f Z λa f=>aN (d2 (W (x + 1)) _ _ (sj F).symm ⟨f.kp Z,d⟩))))
  ·exact wp_exit (aP (aP (have ap:=cB F ap;cX (dg _ _ _ ap ⟨f.kp Z,d⟩))))

def pF (N:Nat) (l:List aG):Option ((List aG)) :=
 Option.bind (room (l).length) λun=>
 some l
theorem aBi {I:Option Addr} {J:Nat} (l:List aG) (R:Rd G 6 I J (l.map aX)) (d:Ctx G (Lf) w) {B:(List aG)} (F:pF N l=some B):Calls Tryz.prog 32 #[.slice I l.length J] w (λe w=>∃ (H:Option Addr) (D:Nat),e=.returned (.slice H B.length D)∧Ctx G (.row H D (B.map aX) 45 6::Lf) w):=by
 refine bY Tryz.func32 Z Tryz.ntmps32 Z λa f=>zS λK h=>sp 1 f Z λa f=>zT h (zS λK h=>sp 1 f Z λa f=>zT h (zS λK h=>sp 2 f Z λa f=>have d:=d.nilRow 45 6;aH F λun S F=>mV (xs:=([]:List aG)) (ys:=l) f d Z Z aLk Z Z Z Z Z iH (aDn d R) (λ_ _=>u0) (by simpa using cZ S) λO M a w f d=>sp 1 f Z λa f=>zT h ?_))
 refine wp_ret ?_
 obtain rfl:=sj F
 exact zO1 Tryz.results32 f Z ⟨O,M,Z,d⟩

def nZ (N:Nat) (l:List aG) (out:List bV) (x:Int):Option (bC ((List bV) × Int) ((List bV))) :=
 cond (decide (x < ((l.length:Nat):Int)))
 (Option.bind (aQ l x) λB=>
 Option.bind (room ((out++[(⟨B.Way,B.Work,B.Open,B.Close⟩:bV)])).length) λun=>
 some (.cont ((out++[(⟨B.Way,B.Work,B.Open,B.Close⟩:bV)]),W (x + 1))))
 (some (.brk (out,x)))
def sV (N:Nat) (l:List aG):Option ((List bV)) :=
 Option.bind (aS (λs5=>nZ N l s5.1 s5.2) N (([]:List bV),0)) λx5=>
 exK x5 (λs5=>some s5.1) some
theorem xM {M:Option Addr} {O:Nat} (l:List aG) (i:Rd G 6 M O (l.map aX)) (d:Ctx G (Lf) w) {J:(List bV)} (F:sV N l=some J):Calls Tryz.prog 35 #[.slice M l.length O] w (λe w=>∃ (R:Option Addr) (U:Nat),e=.returned (.slice R J.length U)∧Ctx G (.row R U (J.map hU) 154 6::Lf) w):=by
 refine bY Tryz.func35 Z Tryz.ntmps35 Z λa f=>zS λK h=>sp 1 f Z λa f=>zT h (zS λK h=>sp 1 f Z λa f=>zT h (wp_seq_k λK3 h3=>zS λK h=>sp 1 f Z λa f=>zP f Z (bA Tryz.underlying31 Z) λa f=>sp 1 f Z λa f=>zT h (wp_block ?_)))
 obtain ⟨x5,b,F⟩:=cU F
 let S5:((List bV) × Int)→Act→World→Prop:=(λ(zz:(List bV) × Int) a w=>∃ (H:Option Addr) (D:Nat),Has 18 a [(3,.slice H zz.1.length D),(6,.slice M l.length O),(7,i6 ((l.length:Nat):Int)),(8,i6 zz.2)]∧Ctx G (.row H D (zz.1.map hU) 154 6::Lf) w)
 have Y:∀ (zz:(List bV) × Int) a w,x5=.go zz→S5 zz a w→K3 a w:=by
  rintro ⟨out,x⟩ a w rfl ⟨H,D,f,d⟩
  refine have F:=bI F;h3 _ _ (zS λK h=>sp 2 f Z λa f=>zT h (wp_ret ?_))
  obtain rfl:=sj F
  exact zO1 Tryz.results35 f Z ⟨H,D,Z,d⟩
 have m:∀ r,x5=.out r→r=J:=by
  rintro r rfl
  exact sj F
 refine have d:=d.nilRow 154 6;cF N (cE (S:=S5) (x:=x5) ?_ N (([]:List bV),0) _ _ ⟨none,0,f.kp Z,d⟩ b)
 clear F f d
 rintro ⟨out,x⟩ q a w KB5 ⟨H,D,f,d⟩ F I X
 refine zS λK h=>sp 1 f Z λa f=>zT h (wp_seq_k λK8 h8=>zI f Z F ?_ ?_) <;> intro F
 ·refine wp_skip (h8 _ _ (wp_seq_k λK9 h9=>wp_block (zS λK h=>aH F λB V F=>?_)))
  obtain ⟨s,o,qa,qp⟩:=i.atm V
  refine zP f Z (pIA Tryz.underlying31 tT Z Z qa) λa f=>zE f d Z (iY (vs:=[i6 B.Way.Lo,i6 B.Way.Hi,i6 B.Work.Lo,i6 B.Work.Hi,i6 B.Open,i6 B.Close]) aF5 Z Z (cY qp (n:=6) (o':=0) Z)) λa w f d=>zA f d aPu Z λt a w f d=>zW f d tT u0 Z λw d=>zT h (bK (sp 1 f Z λa f=>zN f d aF5 m0 Z λa w f d=>gN (rows:=([(⟨B.Way,B.Work,B.Open,B.Close⟩:bV)]:List bV).map hU) (vs:=[(0,.agg #[i6 B.Way.Lo,i6 B.Way.Hi,i6 B.Work.Lo,i6 B.Work.Hi,i6 B.Open,i6 B.Close])]) f d Z Z aSq Z ⟨Z,Z,Z,trivial⟩ Z Z λp a w f d=>aH F λun g F=>mV (xs:=out) (ys:=([(⟨B.Way,B.Work,B.Open,B.Close⟩:bV)]:List bV)) f d Z Z aSq Z Z Z Z Z aDd (gL d m0) (λ_ _=>u2) (by simpa using cZ g) λk j a w f d=>sp 1 f Z λa f=>aN (h9 _ _ ?_)))
  exact bK (sp 2 f Z λa f=>aN (have d:=(d.drop k1).drop k0;X ((out++[(⟨B.Way,B.Work,B.Open,B.Close⟩:bV)]),W (x + 1)) _ _ (sj F).symm ⟨k,j,f.kp Z,d⟩))
 ·exact wp_exit (aP (aP (have I:=cB F I;cX (Y _ _ _ I ⟨H,D,f.kp Z,d⟩))))

end Go.Nilo
