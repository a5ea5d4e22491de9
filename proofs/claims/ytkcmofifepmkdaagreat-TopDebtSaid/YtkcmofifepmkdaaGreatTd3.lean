/-
 What functions of the Go text compute, as plain functions, and that they do, part 3 of 5. Conditions: what each theorem names.
-/
import Derived.Test.YtkcmofifepmkdaaGreatTd2
import Derived.Test.YtkcmofifepmkdaaGreatProg
set_option linter.unusedVariables false
set_option linter.unusedSimpArgs false
set_option maxRecDepth 100000
set_option maxHeartbeats 4000000
namespace Go.Nilo
open Go.Proofs


def dS (N:Nat) (total:Int) (D:Int × (List aE)) (B:List aE):Option (dA (Int × (List aE)) (Int × (List aE))) :=
 some (.cont (W (total + D.1),B))
def eV (N:Nat) (J:Int) (I:Int) (B:Int) (up:Bool) (most:Int) (total:Int) (H:List aE):Option (dA (Int × (List aE)) (Int × (List aE))) :=
 cond (decide (total < most))
 (Option.bind (dW N (⟨(⟨H,J⟩:cH),I⟩:aP) (⟨B,(!up)⟩:aB)) fun r=>
 Option.bind (eD N (⟨(⟨H,J⟩:cH),I⟩:aP) (⟨B,(!up)⟩:aB)) fun U=>
 Option.bind (eD N (⟨(⟨H,J⟩:cH),I⟩:aP) (⟨B,up⟩:aB)) fun R=>
 Option.bind (iL N (⟨(⟨H,J⟩:cH),I⟩:aP) U B) fun S=>
 cond ((!((S R).isSome)) || (decide (0 < r.1)))
 (some (.brk (total,H)))
 (Option.bind (fG N H J I U R S (min r.2 (W (most - total)))) fun D=>
 cond up
 (Option.bind (cM D.2 B) fun X=>
 Option.bind (cM D.2 B) fun M=>
 dS N total D (D.2.set B.toNat (⟨M.from_,M.to_,M.span,W (X.now + D.1)⟩:aE)))
 (Option.bind (cM D.2 B) fun V=>
 Option.bind (cM D.2 B) fun O=>
 dS N total D (D.2.set B.toNat (⟨O.from_,O.to_,O.span,W (V.now - D.1)⟩:aE)))))
 (some (.brk (total,H)))
def fJ (N:Nat) (d:List aE) (H:Int) (B:Int) (D:Int) (up:Bool) (most:Int):Option (Int × (List aE)) :=
 Option.bind (bN (fun s6=>eV N H B D up most s6.1 s6.2) N (0,d)) fun x6=>
 exK x6 (fun s6=>Option.bind (qD s6.2 d) fun _=>
 some (s6.1,s6.2)) some
theorem qN {N:Nat} {G:bA} {Lf:List Ent} {w:World} (d:List aE) (X:Int) (Y:Int) (B:Int) (up:Bool) (most:Int) {b_:Nat} {p:Option Addr} {J:Nat}  (hc:Ctx G (.box b_ [.slice p d.length J,i6 X,i6 Y] 78::.row p J (d.map aH) 112 5::Lf) w) {ag:Int × (List aE)} (hF:fJ N d X Y B up most=some ag):Calls Tryz.prog 36 #[pq b_,i6 B,.bool up,i6 most] w (fun e w=>e=.returned (i6 ag.1)∧ag.2.length=d.length∧Ctx G (.box b_ [.slice p d.length J,i6 X,i6 Y] 78::.row p J (ag.2.map aH) 112 5::Lf) w):=by
 unfold fJ at hF
 refine cC Tryz.func36 rfl Tryz.ntmps36 rfl fun a hf=>zS fun K h=>zB hf hc rfl fun M a w hf hc=>zB hf hc rfl fun O a w hf hc=>sp 1 hf rfl fun a hf=>zT h ?_
 refine zS fun K h=>zP hf rfl (pMF (us:=[pq M,pq O]) rfl rfl) fun a hf=>zP hf rfl (bJ (cells:=[.func (.func 65) #[] #[pq M,pq O]]) aLv rfl rfl) fun a hf=>zA hf hc aM0 rfl fun b a w hf hc=>zW hf hc aM9 u0 rfl fun w hc=>zT h ?_
 refine zS fun K h=>zL hf hc aX m1 rfl fun a w hf hc=>sp 2 hf rfl fun a hf=>zP hf rfl (bJ (cells:=[i6 B,.bool (!up)]) vM rfl rfl) fun a hf=>zA hf hc aAw rfl fun Z a w hf hc=>zW hf hc xK u0 rfl fun w hc=>zT h ?_
 refine zS fun K h=>sp 1 hf rfl fun a hf=>zT h ?_
 refine wp_seq_k fun K5 h5=>wp_block ?_
 obtain ⟨x6,ba,hF⟩:=aC hF
 let S6:(Int × (List aE))→Act→World→Prop:=(fun (zz:Int × (List aE)) a w=>Has 100 a [(2,.bool up),(3,i6 most),(4,pq M),(5,pq O),(9,pq b),(10,pq Z),(11,i6 zz.1)]∧Ctx G (.box Z [i6 B,.bool (!up)] 158::.box b [.func (.func 65) #[] #[pq M,pq O]] 163::.box O [i6 B] 3::.box M [pq b_] 71::.box b_ [.slice p zz.2.length J,i6 X,i6 Y] 78::.row p J (zz.2.map aH) 112 5::Lf) w)
 have ay:∀ (zz:Int × (List aE)) a w,x6=.go zz→S6 zz a w→K5 a w:=by
  rintro ⟨total,s⟩ a w rfl ⟨hf,hc⟩
  replace hF:=cJ hF
  refine h5 _ _ ?_
  refine zS fun K h=>sp 2 hf rfl fun a hf=>zT h ?_
  refine wp_ret ?_
  obtain ⟨_,an,hF⟩:=rM hF
  obtain rfl:=sj hF
  replace hc:=(((hc.drop k3).drop k2).drop k1).drop k0
  replace hc:Ctx G (.box b_ [.slice p d.length J,i6 X,i6 Y] 78::.row p J (s.map aH) 112 5::Lf) w:=by
   first | exact hc | (simp only [List.length_set] at hc; exact hc) | (try rw [an] at hc; exact hc) | (simp only [List.length_set] at hc an; try rw [an] at hc; exact hc)
  exact zO1 Tryz.results36 hf rfl ⟨rfl,an,hc⟩
 have bk:∀ r,x6=.out r→r=ag:=by
  rintro r rfl
  exact sj hF
 refine dQ N (dP (S:=S6) (x:=x6) ?_ N (0,d) _ _ ⟨hf.kp rfl,hc⟩ ba)
 clear hF hf hc
 rintro ⟨total,s⟩ bf a w KB6 ⟨hf,hc⟩ hF ab bd
 unfold eV at hF
 refine wp_seq_k fun K8 h8=>zS fun K h=>sp 3 hf rfl fun a hf=>zT h ?_
 refine zI hf rfl hF ?_ ?_ <;> clear hF <;> intro hF
 ·refine wp_skip ?_
  refine h8 _ _ ?_
  refine lR fun K10 bg=>wp_block ?_
  refine zS fun K h=>zL hf hc nT m3 rfl fun a w hf hc=>zN hf hc kQ m0 rfl fun a w hf hc=>?_
  obtain ⟨r,hr,hF⟩:=aC hF
  refine zQ (v:=.tuple #[i6 r.1,i6 r.2]) hf hc aG5 rfl (fun w hc=>by obtain ⟨G1,aj,t,hc,q⟩:=lend hc k5; exact (iV (⟨(⟨s,X⟩:cH),Y⟩:aP) (⟨B,(!up)⟩:aB) t (hc.pick k4) hr).mono fun e w h=>⟨h.1,((q _ _ (h.2.unpick k4)).unpick k5)⟩) fun a w hf hc=>sp 5 hf rfl fun a hf=>zT h ?_
  refine wp_seq_k fun K12 bc=>?_
  obtain ⟨ap,a4,hF⟩:=aC hF
  obtain ⟨I,a3,hF⟩:=aC hF
  refine cQ hc aT (by kernel_rfl) ?_
  refine qE hf rfl rfl rfl (cV nT rfl (bQ m3 rfl)) fun a hf=>qE hf rfl rfl rfl (kK (vs:=[i6 B,.bool (!up)]) kQ rfl rfl (cE (n:=2) m0 rfl)) fun a hf=>qE hf rfl rfl rfl (eC (v:=i6 ap) (vs:=[pq b_,.agg #[i6 B,.bool (!up)]]) (caps:=[]) aCt rfl rfl rfl rfl (fun w hc=>by obtain ⟨G1,aj,t,hc,q⟩:=lend hc k5; exact (gG (⟨(⟨s,X⟩:cH),Y⟩:aP) (⟨B,(!up)⟩:aB) t (hc.pick k4) a4).mono fun e w h=>⟨h.1,((q _ _ (h.2.unpick k4)).unpick k5)⟩)) fun a hf=>qE hf rfl rfl rfl (cV nT rfl (bQ m3 rfl)) fun a hf=>qE hf rfl rfl rfl (cV aX rfl (bQ m2 rfl)) fun a hf=>qE hf rfl rfl rfl (Pu.ev (pM rfl)) fun a hf=>qE hf rfl rfl rfl (Pu.ev (bJ (cells:=[i6 B,.bool up]) vM rfl rfl)) fun a hf=>qE hf rfl rfl rfl (eC (v:=i6 I) (vs:=[pq b_,.agg #[i6 B,.bool up]]) (caps:=[]) aCt rfl rfl rfl rfl (fun w hc=>by obtain ⟨G1,aj,t,hc,q⟩:=lend hc k5; exact (gG (⟨(⟨s,X⟩:cH),Y⟩:aP) (⟨B,up⟩:aB) t (hc.pick k4) a3).mono fun e w h=>⟨h.1,((q _ _ (h.2.unpick k4)).unpick k5)⟩)) fun a hf=>qE hf rfl rfl rfl (Pu.ev (pA rfl)) fun a hf=>qE hf rfl rfl rfl (Pu.ev (pA rfl)) fun a hf=>?_
  intro w hc
  refine bc _ _ ?_
  refine zS fun K h=>zL hf hc nT m3 rfl fun a w hf hc=>sp 1 hf rfl fun a hf=>zN hf hc aMn m1 rfl fun a w hf hc=>?_
  obtain ⟨H,a2,hF⟩:=aC hF
  obtain ⟨G1,aj,t,hc,q⟩:=lend hc k5
  refine zC hf aOb rfl (uE (⟨(⟨s,X⟩:cH),Y⟩:aP) ap B t (((hc.pick k2).pick k3).pick k4) a2) ?_
  rintro _ w ⟨aa,rfl,hc⟩
  refine ⟨_,rfl,fun a hf=>?_⟩
  replace hc:=q _ _ hc
  refine sp 1 hf rfl fun a hf=>zT h ?_
  refine wp_seq_k fun K14 a9=>zS fun K h=>sp 2 hf rfl fun a hf=>zE hf hc rfl (aCg (enc:=(fun xq:aA=>.agg #[i6 xq.cost,i6 xq.many,i6 xq.by_.way,.bool xq.by_.back])) (z0:=(⟨0,0,(⟨0,false⟩:aB)⟩:aA)) (m:=H) m1 Tryz.underlying165 Tryz.underlying3 nB rfl rfl) fun a w hf hc=>sp 3 hf rfl fun a hf=>zA hf hc nB rfl fun af a w hf hc=>zW hf hc uG u0 rfl fun w hc=>sp 1 hf rfl fun a hf=>zT h ?_
  refine zS fun K h=>sp 3 hf rfl fun a hf=>fL 3 (fun a=>Has 100 a [(2,.bool up),(3,i6 most),(4,pq M),(5,pq O),(9,pq b),(10,pq Z),(11,i6 total),(12,i6 r.1),(13,i6 r.2),(14,i6 ap),(15,i6 I),(16,.map (some aa)),(18,.bool ((H I).isSome)),(53,.bool ((H I).isSome)),(54,.bool (!((H I).isSome))),(55,.bool (!((H I).isSome))),(58,.bool ((!((H I).isSome)) || (decide (0 < r.1))))]) hc ?_ ?_
  ·cases hb:(!((H I).isSome))
   ·rw [hb] at hf
    refine sp 3 hf rfl fun a hf=>aQ ⟨hf.kp rfl,hc⟩
   ·rw [hb] at hf
    refine stS hf rfl rfl rfl fun a hf=>stS hf rfl rfl rfl fun a hf=>sp 1 hf rfl fun a hf=>aQ ⟨hf.kp rfl,hc⟩
  intro a w ⟨hf,hc⟩
  refine zT h ?_
  refine zI hf rfl hF ?_ ?_ <;> clear hF <;> intro hF
  ·refine wp_exit ?_
   refine bI ?_
   refine aOg rfl ?_
   refine bI ?_
   refine bI ?_
   replace hc:=(((((((hc.drop k2).drop k0).pick k0).pick k1).pick k2).pick k3).pick k5).pick k5
   have he:=sj hF
   rw [← he] at ab
   refine fB ?_
   exact ay _ _ _ ab ⟨hf.kp rfl,hc⟩
  ·refine wp_skip ?_
   refine a9 _ _ ?_
   refine zS fun K h=>zL hf hc nT m4 rfl fun a w hf hc=>sp 7 hf rfl fun a hf=>zP hf rfl (aFi rfl rfl) fun a hf=>?_
   obtain ⟨D,a6,hF⟩:=aC hF
   refine zC hf aOs rfl (qO s X Y ap I H (min r.2 (W (most - total))) (((hc.pick k2).pick k2).pick k3) a6) ?_
   rintro _ w ⟨rfl,hl,hc⟩
   refine ⟨_,rfl,fun a hf=>?_⟩
   try rw [← hl] at hf
   try rw [← hl] at hc
   refine sp 1 hf rfl fun a hf=>zT h ?_
   refine wp_seq_k fun K18 bb=>?_
   have ar:∀ (ac:List aE) a w,Has 100 a [(2,.bool up),(3,i6 most),(4,pq M),(5,pq O),(9,pq b),(10,pq Z),(11,i6 total),(19,i6 D.1)]→Ctx G (.box b_ [.slice p ac.length J,i6 X,i6 Y] 78::.row p J (ac.map aH) 112 5::.im aa (fun j=>(H j).map (fun xq:aA=>.agg #[i6 xq.cost,i6 xq.many,i6 xq.by_.way,.bool xq.by_.back])) none::.box M [pq b_] 71::.box O [i6 B] 3::.box Z [i6 B,.bool (!up)] 158::.box b [.func (.func 65) #[] #[pq M,pq O]] 163::Lf) w→dS N total D ac=some bf→K18 a w:=by
    repeat (clear hF)
    repeat (clear hc)
    repeat (clear hf)
    intro ac a w hf hc hF
    unfold dS at hF
    refine bb _ _ ?_
    refine cX ?_
    refine sp 4 hf rfl fun a hf=>aQ ?_
    refine bg _ _ ?_
    replace hc:=((((((hc.drop k2).pick k1).pick k1).pick k2).pick k3).pick k5).pick k5
    exact bd (W (total + D.1),ac) _ _ (sj hF).symm ⟨hf.kp rfl,hc⟩
   refine zS fun K h=>sp 1 hf rfl fun a hf=>zT h ?_
   refine zI hf rfl hF ?_ ?_ <;> clear hF <;> intro hF
   ·obtain ⟨u,a5,hF⟩:=aC hF
    have au:=hf
    obtain ⟨g,rfl,qa,qr⟩:=iJ hc m1 a5
    have hf:=au
    obtain ⟨V,ai,hF⟩:=aC hF
    obtain ⟨az,bi⟩:=jX hc m1 ai
    refine cU (fun θ=>[⟨none,none,2,.bool up⟩,⟨none,none,3,i6 most⟩,⟨none,none,4,pq M⟩,⟨none,none,5,pq O⟩,⟨none,none,9,pq b⟩,⟨none,none,10,pq Z⟩,⟨none,none,11,i6 total⟩,⟨none,none,19,i6 D.1⟩,⟨some 0,none,70,pq b_⟩,⟨some 1,none,71,pq b_⟩,⟨some 2,none,72,pq b_⟩,⟨some 3,none,73,pq b_⟩,⟨some 4,none,74,.slice (some ⟨g,0,none⟩) D.2.length J⟩,⟨some 5,none,75,i6 B⟩,⟨some 6,none,76,.pointer (some ⟨g,B.toNat * 5,none⟩)⟩,⟨some 7,none,77,.pointer (some ⟨g,B.toNat * 5 + 4,none⟩)⟩,⟨some 8,none,78,i6 u.now⟩,⟨some 9,none,79,i6 D.1⟩,⟨some 10,none,80,i6 (W (u.now + D.1))⟩,⟨some 11,none,81,.pointer (some ⟨g,B.toNat * 5,none⟩)⟩,⟨some 12,none,82,.pointer (some ⟨g,B.toNat * 5 + 4,none⟩)⟩]) (fun E θ=>.box b_ [.slice (some ⟨g,0,none⟩) D.2.length J,i6 X,i6 Y] 78::(bif E 13 then .row (some ⟨g,0,none⟩) J ((D.2.set B.toNat (⟨V.from_,V.to_,V.span,W (u.now + D.1)⟩:aE)).map aH) 112 5 else .row (some ⟨g,0,none⟩) J (D.2.map aH) 112 5)::.im aa (fun j=>(H j).map (fun xq:aA=>.agg #[i6 xq.cost,i6 xq.many,i6 xq.by_.way,.bool xq.by_.back])) none::.box af [i6 (((H I).getD (⟨0,0,(⟨0,false⟩:aB)⟩:aA)).cost),i6 (((H I).getD (⟨0,0,(⟨0,false⟩:aB)⟩:aA)).many),i6 ((((H I).getD (⟨0,0,(⟨0,false⟩:aB)⟩:aA)).by_).way),.bool ((((H I).getD (⟨0,0,(⟨0,false⟩:aB)⟩:aA)).by_).back)] 168::.box M [pq b_] 71::.box O [i6 B] 3::.box Z [i6 B,.bool (!up)] 158::.box b [.func (.func 65) #[] #[pq M,pq O]] 163::Lf) [(13,6),(13,8),(12,11),(13,12)] (fun a w=>Has 100 a [(2,.bool up),(3,i6 most),(4,pq M),(5,pq O),(9,pq b),(10,pq Z),(11,i6 total),(19,i6 D.1)]∧Ctx G (.box b_ [.slice (some ⟨g,0,none⟩) D.2.length J,i6 X,i6 Y] 78::.row (some ⟨g,0,none⟩) J ((D.2.set B.toNat (⟨V.from_,V.to_,V.span,W (u.now + D.1)⟩:aE)).map aH) 112 5::.im aa (fun j=>(H j).map (fun xq:aA=>.agg #[i6 xq.cost,i6 xq.many,i6 xq.by_.way,.bool xq.by_.back])) none::.box af [i6 (((H I).getD (⟨0,0,(⟨0,false⟩:aB)⟩:aA)).cost),i6 (((H I).getD (⟨0,0,(⟨0,false⟩:aB)⟩:aA)).many),i6 ((((H I).getD (⟨0,0,(⟨0,false⟩:aB)⟩:aA)).by_).way),.bool ((((H I).getD (⟨0,0,(⟨0,false⟩:aB)⟩:aA)).by_).back)] 168::.box M [pq b_] 71::.box O [i6 B] 3::.box Z [i6 B,.bool (!up)] 158::.box b [.func (.func 65) #[] #[pq M,pq O]] 163::Lf) w) aT (by kernel_rfl) (by kernel_rfl) (dL.of hf ⟨rfl,rfl,rfl,rfl,rfl,rfl,rfl,rfl,trivial,trivial,trivial,trivial,trivial,trivial,trivial,trivial,trivial,trivial,trivial,trivial,trivial,trivial⟩) hc ⟨?_,?_,?_,?_,?_,?_,?_,?_,?_,?_,?_,?_,?_,?_,trivial⟩ ?_ ?_
    ·intro E θ a w hD hi hp he hc
     have hf:=he.h0.mT he 2 rfl
     refine zL hf hc nT m4 rfl fun a w hf hc=>zD θ he hi hf 8 rfl rfl rfl hc
    ·intro E θ a w hD hi hp he hc
     have e0:=hp.o 0 rfl
     have hf:=he.h0.mP he 8 rfl e0
     refine sp 1 hf rfl fun a hf=>zD θ he hi hf 9 rfl rfl rfl hc
    ·intro E θ a w hD hi hp he hc
     have e1:=hp.o 1 rfl
     have hf:=he.h0.mP he 9 rfl e1
     refine zP hf rfl (pFA gA rfl) fun a hf=>zD θ he hi hf 10 rfl rfl rfl hc
    ·intro E θ a w hD hi hp he hc
     have e2:=hp.o 2 rfl
     have hf:=he.h0.mP he 10 rfl e2
     refine zP hf rfl (pFA jI rfl) fun a hf=>zD θ he hi hf 11 rfl rfl rfl hc
    ·intro E θ a w hD hi hp he hc
     have e3:=hp.o 3 rfl
     have hf:=he.h0.mP he 11 rfl e3
     refine zL hf hc qK m0 rfl fun a w hf hc=>zD θ he hi hf 12 rfl rfl rfl hc
    ·intro E θ a w hD hi hp he hc
     have hf:=he.h0.mT he 3 rfl
     refine zL hf hc aX m5 rfl fun a w hf hc=>zD θ he hi hf 13 rfl rfl rfl hc
    ·intro E θ a w hD hi hp he hc
     have e4:=hp.o 4 rfl
     have e5:=hp.o 5 rfl
     have R:=hD.f 0 rfl hi
     try dsimp only at hc
     rw [R] at hc
     have hf:=(he.h0.mP he 12 rfl e4).mP he 13 rfl e5
     refine zP hf rfl (pIA Tryz.underlying74 kB rfl rfl qa) fun a hf=>zD θ he hi hf 14 rfl rfl rfl ?_
     try dsimp only
     rw [aS 6 R rfl]
     exact hc
    ·intro E θ a w hD hi hp he hc
     have e6:=hp.o 6 rfl
     have hf:=he.h0.mP he 14 rfl e6
     refine zP hf rfl (pFA jZ rfl) fun a hf=>zD θ he hi hf 15 rfl rfl rfl hc
    ·intro E θ a w hD hi hp he hc
     have e7:=hp.o 7 rfl
     have R:=hD.f 1 rfl hi
     try dsimp only at hc
     rw [R] at hc
     have hf:=he.h0.mP he 15 rfl e7
     refine zE hf hc rfl (cV aX rfl (eI (sz:=5) (i:=B.toNat) (j:=4) m1 qr rfl)) fun a w hf hc=>zD θ he hi hf 16 rfl rfl rfl ?_
     try dsimp only
     rw [aS 8 R rfl]
     exact hc
    ·intro E θ a w hD hi hp he hc
     have hf:=he.h0.mT he 7 rfl
     refine sp 1 hf rfl fun a hf=>zD θ he hi hf 17 rfl rfl rfl hc
    ·intro E θ a w hD hi hp he hc
     have e8:=hp.o 8 rfl
     have e9:=hp.o 9 rfl
     have hf:=(he.h0.mP he 16 rfl e8).mP he 17 rfl e9
     refine sp 1 hf rfl fun a hf=>zD θ he hi hf 18 rfl rfl rfl hc
    ·intro E θ a w hD hi hp he hc
     have e4:=hp.o 4 rfl
     have e5:=hp.o 5 rfl
     have ad:=hD.f 2 rfl hi
     have R:=hD.f 3 rfl ad
     try dsimp only at hc
     rw [R] at hc
     have hf:=(he.h0.mP he 12 rfl e4).mP he 13 rfl e5
     refine zP hf rfl (pIA Tryz.underlying74 kB rfl rfl az) fun a hf=>zD θ he hi hf 19 rfl rfl rfl ?_
     try dsimp only
     rw [aS 11 R rfl]
     exact hc
    ·intro E θ a w hD hi hp he hc
     have av:=hp.o 11 rfl
     have hf:=he.h0.mP he 19 rfl av
     refine zP hf rfl (pFA jZ rfl) fun a hf=>zD θ he hi hf 20 rfl rfl rfl hc
    ·intro E θ a w hD hi hp he hc
     have aq:=hp.o 10 rfl
     have ad:=hp.o 12 rfl
     try dsimp only at hc
     rw [hi] at hc
     have hf:=(he.h0.mP he 18 rfl aq).mP he 20 rfl ad
     refine aGj (sz:=5) (vs:=[i6 (W (u.now + D.1))]) (o':=4) (z:=(⟨V.from_,V.to_,V.span,W (u.now + D.1)⟩:aE)) (xs:=D.2) hf hc rfl rfl rfl rfl fD rfl (fun x=>(eU x).1) (qX ai) (fun e' ax=>by cases (ax.symm.trans (kS ai).2); rfl) rfl u1 fun w hc=>zG θ he hi hf rfl ?_
     try dsimp only
     rw [aN E 13]
     exact hc
    ·intro E θ a w am he hc
     have hf:=he.h0
     have R:=am 13 rfl
     replace hf:=hf.more he 7 rfl (onT)
     replace hf:=hf.more he 6 rfl (onT)
     replace hf:=hf.more he 5 rfl (onT)
     replace hf:=hf.more he 4 rfl (onT)
     replace hf:=hf.more he 3 rfl (onT)
     replace hf:=hf.more he 2 rfl (onT)
     replace hf:=hf.more he 1 rfl (onT)
     replace hf:=hf.more he 0 rfl (onT)
     try dsimp only at hc
     rw [R] at hc
     exact ⟨hf.kp rfl,hc⟩
    rintro a w ⟨hf,hc⟩
    replace hc:Ctx G (.box b_ [.slice (some ⟨g,0,none⟩) ((D.2.set B.toNat (⟨V.from_,V.to_,V.span,W (u.now + D.1)⟩:aE)).length) J,i6 X,i6 Y] 78::.row (some ⟨g,0,none⟩) J ((D.2.set B.toNat (⟨V.from_,V.to_,V.span,W (u.now + D.1)⟩:aE)).map aH) 112 5::.im aa (fun j=>(H j).map (fun xq:aA=>.agg #[i6 xq.cost,i6 xq.many,i6 xq.by_.way,.bool xq.by_.back])) none::.box af [i6 (((H I).getD (⟨0,0,(⟨0,false⟩:aB)⟩:aA)).cost),i6 (((H I).getD (⟨0,0,(⟨0,false⟩:aB)⟩:aA)).many),i6 ((((H I).getD (⟨0,0,(⟨0,false⟩:aB)⟩:aA)).by_).way),.bool ((((H I).getD (⟨0,0,(⟨0,false⟩:aB)⟩:aA)).by_).back)] 168::.box M [pq b_] 71::.box O [i6 B] 3::.box Z [i6 B,.bool (!up)] 158::.box b [.func (.func 65) #[] #[pq M,pq O]] 163::Lf) w:=by simp only [List.length_set] at hc ⊢; exact hc
    replace hc:=hc.drop k3
    exact ar (D.2.set B.toNat (⟨V.from_,V.to_,V.span,W (u.now + D.1)⟩:aE)) _ _  (hf.kp rfl) hc hF
   ·obtain ⟨y,a1,hF⟩:=aC hF
    have au:=hf
    obtain ⟨k,rfl,a7,a0⟩:=iJ hc m1 a1
    have hf:=au
    obtain ⟨U,ak,hF⟩:=aC hF
    obtain ⟨a8,bj⟩:=jX hc m1 ak
    refine cU (fun θ=>[⟨none,none,2,.bool up⟩,⟨none,none,3,i6 most⟩,⟨none,none,4,pq M⟩,⟨none,none,5,pq O⟩,⟨none,none,9,pq b⟩,⟨none,none,10,pq Z⟩,⟨none,none,11,i6 total⟩,⟨none,none,19,i6 D.1⟩,⟨some 0,none,83,pq b_⟩,⟨some 1,none,84,pq b_⟩,⟨some 2,none,85,pq b_⟩,⟨some 3,none,86,pq b_⟩,⟨some 4,none,87,.slice (some ⟨k,0,none⟩) D.2.length J⟩,⟨some 5,none,88,i6 B⟩,⟨some 6,none,89,.pointer (some ⟨k,B.toNat * 5,none⟩)⟩,⟨some 7,none,90,.pointer (some ⟨k,B.toNat * 5 + 4,none⟩)⟩,⟨some 8,none,91,i6 y.now⟩,⟨some 9,none,92,i6 D.1⟩,⟨some 10,none,93,i6 (W (y.now - D.1))⟩,⟨some 11,none,94,.pointer (some ⟨k,B.toNat * 5,none⟩)⟩,⟨some 12,none,95,.pointer (some ⟨k,B.toNat * 5 + 4,none⟩)⟩]) (fun E θ=>.box b_ [.slice (some ⟨k,0,none⟩) D.2.length J,i6 X,i6 Y] 78::(bif E 13 then .row (some ⟨k,0,none⟩) J ((D.2.set B.toNat (⟨U.from_,U.to_,U.span,W (y.now - D.1)⟩:aE)).map aH) 112 5 else .row (some ⟨k,0,none⟩) J (D.2.map aH) 112 5)::.im aa (fun j=>(H j).map (fun xq:aA=>.agg #[i6 xq.cost,i6 xq.many,i6 xq.by_.way,.bool xq.by_.back])) none::.box af [i6 (((H I).getD (⟨0,0,(⟨0,false⟩:aB)⟩:aA)).cost),i6 (((H I).getD (⟨0,0,(⟨0,false⟩:aB)⟩:aA)).many),i6 ((((H I).getD (⟨0,0,(⟨0,false⟩:aB)⟩:aA)).by_).way),.bool ((((H I).getD (⟨0,0,(⟨0,false⟩:aB)⟩:aA)).by_).back)] 168::.box M [pq b_] 71::.box O [i6 B] 3::.box Z [i6 B,.bool (!up)] 158::.box b [.func (.func 65) #[] #[pq M,pq O]] 163::Lf) [(13,6),(13,8),(12,11),(13,12)] (fun a w=>Has 100 a [(2,.bool up),(3,i6 most),(4,pq M),(5,pq O),(9,pq b),(10,pq Z),(11,i6 total),(19,i6 D.1)]∧Ctx G (.box b_ [.slice (some ⟨k,0,none⟩) D.2.length J,i6 X,i6 Y] 78::.row (some ⟨k,0,none⟩) J ((D.2.set B.toNat (⟨U.from_,U.to_,U.span,W (y.now - D.1)⟩:aE)).map aH) 112 5::.im aa (fun j=>(H j).map (fun xq:aA=>.agg #[i6 xq.cost,i6 xq.many,i6 xq.by_.way,.bool xq.by_.back])) none::.box af [i6 (((H I).getD (⟨0,0,(⟨0,false⟩:aB)⟩:aA)).cost),i6 (((H I).getD (⟨0,0,(⟨0,false⟩:aB)⟩:aA)).many),i6 ((((H I).getD (⟨0,0,(⟨0,false⟩:aB)⟩:aA)).by_).way),.bool ((((H I).getD (⟨0,0,(⟨0,false⟩:aB)⟩:aA)).by_).back)] 168::.box M [pq b_] 71::.box O [i6 B] 3::.box Z [i6 B,.bool (!up)] 158::.box b [.func (.func 65) #[] #[pq M,pq O]] 163::Lf) w) aT (by kernel_rfl) (by kernel_rfl) (dL.of hf ⟨rfl,rfl,rfl,rfl,rfl,rfl,rfl,rfl,trivial,trivial,trivial,trivial,trivial,trivial,trivial,trivial,trivial,trivial,trivial,trivial,trivial,trivial⟩) hc ⟨?_,?_,?_,?_,?_,?_,?_,?_,?_,?_,?_,?_,?_,?_,trivial⟩ ?_ ?_
    ·intro E θ a w hD hi hp he hc
     have hf:=he.h0.mT he 2 rfl
     refine zL hf hc nT m4 rfl fun a w hf hc=>zD θ he hi hf 8 rfl rfl rfl hc
    ·intro E θ a w hD hi hp he hc
     have e0:=hp.o 0 rfl
     have hf:=he.h0.mP he 8 rfl e0
     refine sp 1 hf rfl fun a hf=>zD θ he hi hf 9 rfl rfl rfl hc
    ·intro E θ a w hD hi hp he hc
     have e1:=hp.o 1 rfl
     have hf:=he.h0.mP he 9 rfl e1
     refine zP hf rfl (pFA gA rfl) fun a hf=>zD θ he hi hf 10 rfl rfl rfl hc
    ·intro E θ a w hD hi hp he hc
     have e2:=hp.o 2 rfl
     have hf:=he.h0.mP he 10 rfl e2
     refine zP hf rfl (pFA jI rfl) fun a hf=>zD θ he hi hf 11 rfl rfl rfl hc
    ·intro E θ a w hD hi hp he hc
     have e3:=hp.o 3 rfl
     have hf:=he.h0.mP he 11 rfl e3
     refine zL hf hc qK m0 rfl fun a w hf hc=>zD θ he hi hf 12 rfl rfl rfl hc
    ·intro E θ a w hD hi hp he hc
     have hf:=he.h0.mT he 3 rfl
     refine zL hf hc aX m5 rfl fun a w hf hc=>zD θ he hi hf 13 rfl rfl rfl hc
    ·intro E θ a w hD hi hp he hc
     have e4:=hp.o 4 rfl
     have e5:=hp.o 5 rfl
     have R:=hD.f 0 rfl hi
     try dsimp only at hc
     rw [R] at hc
     have hf:=(he.h0.mP he 12 rfl e4).mP he 13 rfl e5
     refine zP hf rfl (pIA Tryz.underlying74 kB rfl rfl a7) fun a hf=>zD θ he hi hf 14 rfl rfl rfl ?_
     try dsimp only
     rw [aS 6 R rfl]
     exact hc
    ·intro E θ a w hD hi hp he hc
     have e6:=hp.o 6 rfl
     have hf:=he.h0.mP he 14 rfl e6
     refine zP hf rfl (pFA jZ rfl) fun a hf=>zD θ he hi hf 15 rfl rfl rfl hc
    ·intro E θ a w hD hi hp he hc
     have e7:=hp.o 7 rfl
     have R:=hD.f 1 rfl hi
     try dsimp only at hc
     rw [R] at hc
     have hf:=he.h0.mP he 15 rfl e7
     refine zE hf hc rfl (cV aX rfl (eI (sz:=5) (i:=B.toNat) (j:=4) m1 a0 rfl)) fun a w hf hc=>zD θ he hi hf 16 rfl rfl rfl ?_
     try dsimp only
     rw [aS 8 R rfl]
     exact hc
    ·intro E θ a w hD hi hp he hc
     have hf:=he.h0.mT he 7 rfl
     refine sp 1 hf rfl fun a hf=>zD θ he hi hf 17 rfl rfl rfl hc
    ·intro E θ a w hD hi hp he hc
     have e8:=hp.o 8 rfl
     have e9:=hp.o 9 rfl
     have hf:=(he.h0.mP he 16 rfl e8).mP he 17 rfl e9
     refine sp 1 hf rfl fun a hf=>zD θ he hi hf 18 rfl rfl rfl hc
    ·intro E θ a w hD hi hp he hc
     have e4:=hp.o 4 rfl
     have e5:=hp.o 5 rfl
     have ad:=hD.f 2 rfl hi
     have R:=hD.f 3 rfl ad
     try dsimp only at hc
     rw [R] at hc
     have hf:=(he.h0.mP he 12 rfl e4).mP he 13 rfl e5
     refine zP hf rfl (pIA Tryz.underlying74 kB rfl rfl a8) fun a hf=>zD θ he hi hf 19 rfl rfl rfl ?_
     try dsimp only
     rw [aS 11 R rfl]
     exact hc
    ·intro E θ a w hD hi hp he hc
     have av:=hp.o 11 rfl
     have hf:=he.h0.mP he 19 rfl av
     refine zP hf rfl (pFA jZ rfl) fun a hf=>zD θ he hi hf 20 rfl rfl rfl hc
    ·intro E θ a w hD hi hp he hc
     have aq:=hp.o 10 rfl
     have ad:=hp.o 12 rfl
     try dsimp only at hc
     rw [hi] at hc
     have hf:=(he.h0.mP he 18 rfl aq).mP he 20 rfl ad
     refine aGj (sz:=5) (vs:=[i6 (W (y.now - D.1))]) (o':=4) (z:=(⟨U.from_,U.to_,U.span,W (y.now - D.1)⟩:aE)) (xs:=D.2) hf hc rfl rfl rfl rfl fD rfl (fun x=>(eU x).1) (qX ak) (fun e' ax=>by cases (ax.symm.trans (kS ak).2); rfl) rfl u1 fun w hc=>zG θ he hi hf rfl ?_
     try dsimp only
     rw [aN E 13]
     exact hc
    ·intro E θ a w am he hc
     have hf:=he.h0
     have R:=am 13 rfl
     replace hf:=hf.more he 7 rfl (onT)
     replace hf:=hf.more he 6 rfl (onT)
     replace hf:=hf.more he 5 rfl (onT)
     replace hf:=hf.more he 4 rfl (onT)
     replace hf:=hf.more he 3 rfl (onT)
     replace hf:=hf.more he 2 rfl (onT)
     replace hf:=hf.more he 1 rfl (onT)
     replace hf:=hf.more he 0 rfl (onT)
     try dsimp only at hc
     rw [R] at hc
     exact ⟨hf.kp rfl,hc⟩
    rintro a w ⟨hf,hc⟩
    replace hc:Ctx G (.box b_ [.slice (some ⟨k,0,none⟩) ((D.2.set B.toNat (⟨U.from_,U.to_,U.span,W (y.now - D.1)⟩:aE)).length) J,i6 X,i6 Y] 78::.row (some ⟨k,0,none⟩) J ((D.2.set B.toNat (⟨U.from_,U.to_,U.span,W (y.now - D.1)⟩:aE)).map aH) 112 5::.im aa (fun j=>(H j).map (fun xq:aA=>.agg #[i6 xq.cost,i6 xq.many,i6 xq.by_.way,.bool xq.by_.back])) none::.box af [i6 (((H I).getD (⟨0,0,(⟨0,false⟩:aB)⟩:aA)).cost),i6 (((H I).getD (⟨0,0,(⟨0,false⟩:aB)⟩:aA)).many),i6 ((((H I).getD (⟨0,0,(⟨0,false⟩:aB)⟩:aA)).by_).way),.bool ((((H I).getD (⟨0,0,(⟨0,false⟩:aB)⟩:aA)).by_).back)] 168::.box M [pq b_] 71::.box O [i6 B] 3::.box Z [i6 B,.bool (!up)] 158::.box b [.func (.func 65) #[] #[pq M,pq O]] 163::Lf) w:=by simp only [List.length_set] at hc ⊢; exact hc
    replace hc:=hc.drop k3
    exact ar (D.2.set B.toNat (⟨U.from_,U.to_,U.span,W (y.now - D.1)⟩:aE)) _ _  (hf.kp rfl) hc hF
 ·refine wp_exit ?_
  refine bI ?_
  refine bI ?_
  have he:=sj hF
  rw [← he] at ab
  refine fB ?_
  exact ay _ _ _ ab ⟨hf.kp rfl,hc⟩

def jG (N:Nat) (d:aP) (B:Int):Option (aF) :=
 Option.bind (hU N d) fun r=>
 Option.bind (hU N d) fun D=>
 Option.bind (fJ N r.ways.all r.ways.outside r.reaches B false 100000000) fun H=>
 Option.bind (fJ N D.ways.all D.ways.outside D.reaches B true 100000000) fun I=>
 Option.bind (cM H.2 B) fun M=>
 Option.bind (cM I.2 B) fun J=>
 some (⟨M.now,J.now⟩:aF)
theorem xI {N:Nat} {G:bA} {Lf:List Ent} {w:World} (d:aP) (H:Int) {b_:Nat} {D:Option Addr} {B:Nat} (I:Rd G 5 D B (d.ways.all.map aH)) (hc:Ctx G (.box b_ [.slice D d.ways.all.length B,i6 d.ways.outside,i6 d.reaches] 78::Lf) w) {m:aF} (hF:jG N d H=some m):Calls Tryz.prog 19 #[pq b_,i6 H] w (fun e w=>e=.returned (.agg #[i6 m.Lo,i6 m.Hi])∧Ctx G (.box b_ [.slice D d.ways.all.length B,i6 d.ways.outside,i6 d.reaches] 78::Lf) w):=by
 unfold jG at hF
 refine cC Tryz.func19 rfl Tryz.ntmps19 rfl fun a hf=>zS fun K h=>zA hf hc rE rfl fun Z a w hf hc=>zT h ?_
 refine zS fun K h=>sp 1 hf rfl fun a hf=>?_
 obtain ⟨r,hr,hF⟩:=aC hF
 refine zC hf aOu rfl (pL d I (hc.pick k1) hr) ?_
 rintro _ w ⟨M,ap,X,rfl,hc⟩
 refine ⟨_,rfl,fun a hf=>?_⟩
 refine sp 1 hf rfl fun a hf=>?_
 obtain ⟨J,v,hF⟩:=aC hF
 refine zC hf aOu rfl (pL d I (hc.pick k2) v) ?_
 rintro _ w ⟨R,an,V,rfl,hc⟩
 refine ⟨_,rfl,fun a hf=>?_⟩
 refine sp 2 hf rfl fun a hf=>zT h ?_
 refine zS fun K h=>sp 2 hf rfl fun a hf=>?_
 obtain ⟨b,u,hF⟩:=aC hF
 refine zC hf aN9 rfl (qN r.ways.all r.ways.outside r.reaches H false 100000000 ((hc.pick k3).pick k4) u) ?_
 rintro _ w ⟨rfl,hl,hc⟩
 refine ⟨_,rfl,fun a hf=>?_⟩
 try rw [← hl] at hf
 try rw [← hl] at hc
 refine zT h ?_
 refine zS fun K h=>sp 2 hf rfl fun a hf=>?_
 obtain ⟨Y,t,hF⟩:=aC hF
 refine zC hf aN9 rfl (qN J.ways.all J.ways.outside J.reaches H true 100000000 ((hc.pick k2).pick k3) t) ?_
 rintro _ w ⟨rfl,k,hc⟩
 refine ⟨_,rfl,fun a hf=>?_⟩
 try rw [← k] at hf
 try rw [← k] at hc
 refine zT h ?_
 refine wp_seq_k fun K5 h5=>?_
 obtain ⟨U,x,hF⟩:=aC hF
 have p:=hf
 obtain ⟨g,rfl,qa,qr⟩:=iJ hc m3 x
 have hf:=p
 obtain ⟨S,s,hF⟩:=aC hF
 have p:=hf
 obtain ⟨O,rfl,q,y⟩:=iJ hc m1 s
 have hf:=p
 refine cU (fun θ=>[⟨none,none,1,i6 H⟩,⟨none,none,4,pq Z⟩,⟨none,none,5,pq M⟩,⟨none,none,6,pq R⟩,⟨some 0,none,17,pq M⟩,⟨some 1,none,18,pq M⟩,⟨some 2,none,19,pq M⟩,⟨some 3,none,20,pq M⟩,⟨some 4,none,21,.slice (some ⟨g,0,none⟩) b.2.length X⟩,⟨some 5,none,22,i6 H⟩,⟨some 6,none,23,.pointer (some ⟨g,H.toNat * 5,none⟩)⟩,⟨some 7,none,24,.pointer (some ⟨g,H.toNat * 5 + 4,none⟩)⟩,⟨some 8,none,25,i6 U.now⟩,⟨some 9,none,26,pq R⟩,⟨some 10,none,27,pq R⟩,⟨some 11,none,28,pq R⟩,⟨some 12,none,29,pq R⟩,⟨some 13,none,30,.slice (some ⟨O,0,none⟩) Y.2.length V⟩,⟨some 14,none,31,i6 H⟩,⟨some 15,none,32,.pointer (some ⟨O,H.toNat * 5,none⟩)⟩,⟨some 16,none,33,.pointer (some ⟨O,H.toNat * 5 + 4,none⟩)⟩,⟨some 17,none,34,i6 S.now⟩,⟨some 18,none,35,.agg #[i6 U.now,i6 S.now]⟩]) (fun E θ=>.box R [.slice (some ⟨O,0,none⟩) Y.2.length V,i6 J.ways.outside,i6 J.reaches] 78::.row (some ⟨O,0,none⟩) V (Y.2.map aH) 112 5::.box M [.slice (some ⟨g,0,none⟩) b.2.length X,i6 r.ways.outside,i6 r.reaches] 78::.row (some ⟨g,0,none⟩) X (b.2.map aH) 112 5::.box b_ [.slice D d.ways.all.length B,i6 d.ways.outside,i6 d.reaches] 78::(bif E 19 then .box Z [i6 U.now,i6 S.now] 29 else .box Z [i6 0,i6 0] 29)::Lf) [] (fun a w=>Has 36 a [(4,pq Z)]∧Ctx G (.box R [.slice (some ⟨O,0,none⟩) Y.2.length V,i6 J.ways.outside,i6 J.reaches] 78::.row (some ⟨O,0,none⟩) V (Y.2.map aH) 112 5::.box M [.slice (some ⟨g,0,none⟩) b.2.length X,i6 r.ways.outside,i6 r.reaches] 78::.row (some ⟨g,0,none⟩) X (b.2.map aH) 112 5::.box b_ [.slice D d.ways.all.length B,i6 d.ways.outside,i6 d.reaches] 78::.box Z [i6 U.now,i6 S.now] 29::Lf) w) aT (by kernel_rfl) (by kernel_rfl) (dL.of hf ⟨rfl,rfl,rfl,rfl,trivial,trivial,trivial,trivial,trivial,trivial,trivial,trivial,trivial,trivial,trivial,trivial,trivial,trivial,trivial,trivial,trivial,trivial,trivial,trivial⟩) hc ⟨?_,?_,?_,?_,?_,?_,?_,?_,?_,?_,?_,?_,?_,?_,?_,?_,?_,?_,?_,?_,trivial⟩ ?_ ?_
 ·intro E θ a w hD hi hp he hc
  have hf:=he.h0.mT he 2 rfl
  refine sp 1 hf rfl fun a hf=>zD θ he hi hf 4 rfl rfl rfl hc
 ·intro E θ a w hD hi hp he hc
  have e0:=hp.o 0 rfl
  have hf:=he.h0.mP he 4 rfl e0
  refine sp 1 hf rfl fun a hf=>zD θ he hi hf 5 rfl rfl rfl hc
 ·intro E θ a w hD hi hp he hc
  have e1:=hp.o 1 rfl
  have hf:=he.h0.mP he 5 rfl e1
  refine zP hf rfl (pFA gA rfl) fun a hf=>zD θ he hi hf 6 rfl rfl rfl hc
 ·intro E θ a w hD hi hp he hc
  have e2:=hp.o 2 rfl
  have hf:=he.h0.mP he 6 rfl e2
  refine zP hf rfl (pFA jI rfl) fun a hf=>zD θ he hi hf 7 rfl rfl rfl hc
 ·intro E θ a w hD hi hp he hc
  have e3:=hp.o 3 rfl
  have hf:=he.h0.mP he 7 rfl e3
  refine zL hf hc qK m2 rfl fun a w hf hc=>zD θ he hi hf 8 rfl rfl rfl hc
 ·intro E θ a w hD hi hp he hc
  have hf:=he.h0.mT he 0 rfl
  refine sp 1 hf rfl fun a hf=>zD θ he hi hf 9 rfl rfl rfl hc
 ·intro E θ a w hD hi hp he hc
  have e4:=hp.o 4 rfl
  have e5:=hp.o 5 rfl
  have hf:=(he.h0.mP he 8 rfl e4).mP he 9 rfl e5
  refine zP hf rfl (pIA Tryz.underlying74 kB rfl rfl qa) fun a hf=>zD θ he hi hf 10 rfl rfl rfl hc
 ·intro E θ a w hD hi hp he hc
  have e6:=hp.o 6 rfl
  have hf:=he.h0.mP he 10 rfl e6
  refine zP hf rfl (pFA jZ rfl) fun a hf=>zD θ he hi hf 11 rfl rfl rfl hc
 ·intro E θ a w hD hi hp he hc
  have e7:=hp.o 7 rfl
  have hf:=he.h0.mP he 11 rfl e7
  refine zE hf hc rfl (cV aX rfl (eI (sz:=5) (i:=H.toNat) (j:=4) m3 qr rfl)) fun a w hf hc=>zD θ he hi hf 12 rfl rfl rfl hc
 ·intro E θ a w hD hi hp he hc
  have hf:=he.h0.mT he 3 rfl
  refine sp 1 hf rfl fun a hf=>zD θ he hi hf 13 rfl rfl rfl hc
 ·intro E θ a w hD hi hp he hc
  have e9:=hp.o 9 rfl
  have hf:=he.h0.mP he 13 rfl e9
  refine sp 1 hf rfl fun a hf=>zD θ he hi hf 14 rfl rfl rfl hc
 ·intro E θ a w hD hi hp he hc
  have ai:=hp.o 10 rfl
  have hf:=he.h0.mP he 14 rfl ai
  refine zP hf rfl (pFA gA rfl) fun a hf=>zD θ he hi hf 15 rfl rfl rfl hc
 ·intro E θ a w hD hi hp he hc
  have ak:=hp.o 11 rfl
  have hf:=he.h0.mP he 15 rfl ak
  refine zP hf rfl (pFA jI rfl) fun a hf=>zD θ he hi hf 16 rfl rfl rfl hc
 ·intro E θ a w hD hi hp he hc
  have ad:=hp.o 12 rfl
  have hf:=he.h0.mP he 16 rfl ad
  refine zL hf hc qK m0 rfl fun a w hf hc=>zD θ he hi hf 17 rfl rfl rfl hc
 ·intro E θ a w hD hi hp he hc
  have hf:=he.h0.mT he 0 rfl
  refine sp 1 hf rfl fun a hf=>zD θ he hi hf 18 rfl rfl rfl hc
 ·intro E θ a w hD hi hp he hc
  have af:=hp.o 13 rfl
  have ac:=hp.o 14 rfl
  have hf:=(he.h0.mP he 17 rfl af).mP he 18 rfl ac
  refine zP hf rfl (pIA Tryz.underlying74 kB rfl rfl q) fun a hf=>zD θ he hi hf 19 rfl rfl rfl hc
 ·intro E θ a w hD hi hp he hc
  have ag:=hp.o 15 rfl
  have hf:=he.h0.mP he 19 rfl ag
  refine zP hf rfl (pFA jZ rfl) fun a hf=>zD θ he hi hf 20 rfl rfl rfl hc
 ·intro E θ a w hD hi hp he hc
  have ab:=hp.o 16 rfl
  have hf:=he.h0.mP he 20 rfl ab
  refine zE hf hc rfl (cV aX rfl (eI (sz:=5) (i:=H.toNat) (j:=4) m1 y rfl)) fun a w hf hc=>zD θ he hi hf 21 rfl rfl rfl hc
 ·intro E θ a w hD hi hp he hc
  have e8:=hp.o 8 rfl
  have am:=hp.o 17 rfl
  have hf:=(he.h0.mP he 12 rfl e8).mP he 21 rfl am
  refine zP hf rfl (bJ (cells:=[i6 U.now,i6 S.now]) oO rfl rfl) fun a hf=>zD θ he hi hf 22 rfl rfl rfl hc
 ·intro E θ a w hD hi hp he hc
  have aa:=hp.o 18 rfl
  try dsimp only at hc
  rw [hi] at hc
  have hf:=(he.h0.mT he 1 rfl).mP he 22 rfl aa
  refine zW hf hc fS u5 rfl fun w hc=>zG θ he hi hf rfl ?_
  try dsimp only
  rw [aN E 19]
  exact hc
 ·intro E θ a w z he hc
  have hf:=he.h0
  have aj:=z 19 rfl
  replace hf:=hf.more he 1 rfl (onT)
  try dsimp only at hc
  rw [aj] at hc
  exact ⟨hf.kp rfl,hc⟩
 rintro a w ⟨hf,hc⟩
 refine h5 _ _ ?_
 refine wp_ret ?_
 obtain rfl:=sj hF
 replace hc:=(((hc.drop k3).drop k2).drop k1).drop k0
 exact nK (by simp) rfl Tryz.results19 hf hc (dX (vs:=[i6 U.now,i6 S.now]) eY rfl rfl (cE (n:=2) m1 rfl)) ⟨rfl,(hc.drop k1)⟩

def jJ (N:Nat) (x:Int) (B:List aF) (D:List aF):Option (dA ((List aF) × (List aF) × Int) ((List aF) × (List aF) × Int)) :=
 some (.cont (B,D,W (x + 1)))
def fV (N:Nat) (I:aP × Int) (B:List aF) (D:List aF) (x:Int):Option (dA ((List aF) × (List aF) × Int) ((List aF) × (List aF) × Int)) :=
 cond (decide (x < ((I.1.ways.all.length:Nat):Int)))
 (Option.bind (jG N I.1 x) fun H=>
 cond (decide (x < I.1.reaches))
 (Option.bind (nQ ((B++[H])).length) fun un=>
 jJ N x (B++[H]) D)
 (Option.bind (nQ ((D++[H])).length) fun J=>
 jJ N x B (D++[H])))
 (some (.brk (B,D,x)))
def nA (N:Nat) (n:bC):Option ((List aF) × (List aF) × Int) :=
 Option.bind (mR N n) (aAb (fun r=>cond (r != 0)
 (some (([]:List aF),([]:List aF),r))
 (none))
 (fun D=>cond (D.2 != 0)
 (some (([]:List aF),([]:List aF),D.2))
 (Option.bind (bN (fun B=>fV N D B.1 B.2.1 B.2.2) N (([]:List aF),([]:List aF),0)) fun H=>
 exK H (fun B=>some (B.1,B.2.1,0)) some)))
theorem aA3 {N:Nat} {G:bA} {Lf:List Ent} {w:World} (n:bC) {R:Option Addr} {V:Nat} {O:Option Addr} {J:Nat} (U:Rd G 2 R V (n.Gains.map aJ)) (M:Rd G 4 O J (n.Reaches.map bH)) (hc:Ctx G (Lf) w) {b:(List aF) × (List aF) × Int} (hF:nA N n=some b):Calls Tryz.prog 8 #[.agg #[.slice R n.Gains.length V,.slice O n.Reaches.length J]] w (fun e w=>∃ (aa:Option Addr) (ab:Nat) (ad:Option Addr) (ac:Nat),e=.returned (.tuple #[.slice aa b.1.length ab,.slice ad b.2.1.length ac,i6 b.2.2])∧Ctx G (.row aa ab (b.1.map aJ) 29 2::.row ad ac (b.2.1.map aJ) 29 2::Lf) w):=by
 unfold nA at hF
 refine cC Tryz.func8 rfl Tryz.ntmps8 rfl fun a hf=>zS fun K h=>zB hf hc rfl fun a4 a w hf hc=>sp 3 hf rfl fun a hf=>zT h ?_
 refine zS fun K h=>zN hf hc aBg m0 rfl fun a w hf hc=>?_
 obtain ⟨r,hr,hF⟩:=aC hF
 cases r with
 | inl r=>
  replace hF:=aE0 hF
  refine zC hf aOq rfl (tD n U M hc hr) ?_
  rintro _ w ⟨rfl,hc⟩
  refine ⟨_,rfl,fun a hf=>?_⟩
  refine sp 5 hf rfl fun a hf=>zT h ?_
  refine wp_seq_k fun K3 h3=>zS fun K h=>sp 2 hf rfl fun a hf=>zT h ?_
  refine zI hf rfl hF ?_ ?_ <;> clear hF <;> intro hF
  ·refine zS fun K h=>sp 4 hf rfl fun a hf=>zT h ?_
   refine wp_ret ?_
   refine aU ?_
   obtain rfl:=sj hF
   replace hc:=hc.nilRow 29 2
   replace hc:=hc.nilRow 29 2
   replace hc:=((hc.drop k2).pick k0).pick k1
   exact zO3 Tryz.results8 hf rfl rfl rfl ⟨none,0,none,0,rfl,hc⟩
  ·refine wp_skip ?_
   refine h3 _ _ ?_
   refine wp_seq_k fun K6 h6=>wp_seq_k fun K7 h7=>aI9 hF
 | inr I=>
  replace hF:=aFl hF
  have an:=hr
  refine zC hf aOq rfl (tD n U M hc an) ?_
  rintro _ w ⟨s,q,m,rfl,hc⟩
  refine ⟨_,rfl,fun a hf=>?_⟩
  refine sp 5 hf rfl fun a hf=>zT h ?_
  refine wp_seq_k fun K8 h8=>zS fun K h=>sp 2 hf rfl fun a hf=>zT h ?_
  refine zI hf rfl hF ?_ ?_ <;> clear hF <;> intro hF
  ·refine zS fun K h=>sp 4 hf rfl fun a hf=>zT h ?_
   refine wp_ret ?_
   refine aU ?_
   obtain rfl:=sj hF
   replace hc:=hc.nilRow 29 2
   replace hc:=hc.nilRow 29 2
   replace hc:=((((hc.drop k4).drop k3).drop k2).pick k0).pick k1
   exact zO3 Tryz.results8 hf rfl rfl rfl ⟨none,0,none,0,rfl,hc⟩
  ·refine wp_skip ?_
   refine h8 _ _ ?_
   refine wp_seq_k fun K11 a0=>zS fun K h=>sp 2 hf rfl fun a hf=>zP hf rfl (pFA gA rfl) fun a hf=>zP hf rfl (pFA jI rfl) fun a hf=>zL hf hc qK m1 rfl fun a w hf hc=>zP hf rfl (cP Tryz.underlying74 rfl) fun a hf=>sp 1 hf rfl fun a hf=>zT h ?_
   refine wp_block ?_
   obtain ⟨u,ai,hF⟩:=aC hF
   let S13:((List aF) × (List aF) × Int)→Act→World→Prop:=(fun (zz:(List aF) × (List aF) × Int) a w=>∃ (Z:Option Addr) (i:Nat) (d:Option Addr) (g:Nat),Has 45 a [(2,.slice Z zz.1.length i),(3,.slice d zz.2.1.length g),(5,pq s),(21,i6 ((I.1.ways.all.length:Nat):Int)),(22,i6 zz.2.2)]∧Ctx G (.row d g (zz.2.1.map aJ) 29 2::.row Z i (zz.1.map aJ) 29 2::.row q m (I.1.ways.all.map aH) 112 5::.box s [.slice q I.1.ways.all.length m,i6 I.1.ways.outside,i6 I.1.reaches] 78::Lf) w)
   have aj:∀ (zz:(List aF) × (List aF) × Int) a w,u=.go zz→S13 zz a w→K11 a w:=by
    rintro ⟨X,Y,x⟩ a w rfl ⟨Z,i,d,g,hf,hc⟩
    replace hF:=cJ hF
    refine a0 _ _ ?_
    refine zS fun K h=>sp 5 hf rfl fun a hf=>zT h ?_
    refine wp_ret ?_
    obtain rfl:=sj hF
    replace hc:=(((hc.drop k3).drop k2).pick k0).pick k1
    exact zO3 Tryz.results8 hf rfl rfl rfl ⟨Z,i,d,g,rfl,hc⟩
   have a1:∀ r,u=.out r→r=b:=by
    rintro r rfl
    exact sj hF
   replace hc:=hc.nilRow 29 2
   replace hc:=hc.nilRow 29 2
   replace hc:=hc.drop k4
   refine dQ N (dP (S:=S13) (x:=u) ?_ N (([]:List aF),([]:List aF),0) _ _ ⟨none,0,none,0,hf.kp rfl,hc⟩ ai)
   clear hF hf hc
   rintro ⟨X,Y,x⟩ ag a w KB13 ⟨Z,i,d,g,hf,hc⟩ hF j am
   unfold fV at hF
   refine zS fun K h=>sp 1 hf rfl fun a hf=>zT h ?_
   refine wp_seq_k fun K16 ax=>zI hf rfl hF ?_ ?_ <;> clear hF <;> intro hF
   ·refine wp_skip ?_
    refine ax _ _ ?_
    refine wp_seq_k fun K17 az=>?_
    have y:∀ (D:List aF) (B:List aF) (o:Option Addr) (p:Nat) (k:Option Addr) (t:Nat) a w,Has 45 a [(2,.slice o D.length p),(3,.slice k B.length t),(5,pq s),(21,i6 ((I.1.ways.all.length:Nat):Int)),(22,i6 x)]→Ctx G (.row k t (B.map aJ) 29 2::.row o p (D.map aJ) 29 2::.row q m (I.1.ways.all.map aH) 112 5::.box s [.slice q I.1.ways.all.length m,i6 I.1.ways.outside,i6 I.1.reaches] 78::Lf) w→jJ N x D B=some ag→K17 a w:=by
     repeat (clear hF)
     repeat (clear hc)
     repeat (clear hf)
     intro D B o p k t a w hf hc hF
     unfold jJ at hF
     refine az _ _ ?_
     refine cX ?_
     refine sp 2 hf rfl fun a hf=>aQ ?_
     exact am (D,B,W (x + 1)) _ _ (sj hF).symm ⟨o,p,k,t,hf.kp rfl,hc⟩
    refine wp_block ?_
    refine zS fun K h=>sp 2 hf rfl fun a hf=>zT h ?_
    refine zS fun K h=>sp 2 hf rfl fun a hf=>?_
    obtain ⟨H,ak,hF⟩:=aC hF
    refine zQ (v:=.agg #[i6 H.Lo,i6 H.Hi]) hf hc en_19 rfl (fun w hc=>by obtain ⟨G1,a2,ap,hc,af⟩:=lend hc k2; exact (xI I.1 x ap (hc.pick k2) ak).mono fun e w h=>⟨h.1,((af _ _ (h.2.unpick k2)).unpick k2)⟩) fun a w hf hc=>zA hf hc rE rfl fun a6 a w hf hc=>zW hf hc fS u0 rfl fun w hc=>zT h ?_
    refine zS fun K h=>sp 3 hf rfl fun a hf=>zP hf rfl (pFA aBz rfl) fun a hf=>zL hf hc aX m4 rfl fun a w hf hc=>sp 1 hf rfl fun a hf=>zT h ?_
    refine zI hf rfl hF ?_ ?_ <;> clear hF <;> intro hF
    ·refine cX ?_
     refine sp 1 hf rfl fun a hf=>zN hf hc eY m0 rfl fun a w hf hc=>oJ (rows:=([H]:List aF).map aJ) (vs:=[(0,.agg #[i6 H.Lo,i6 H.Hi])]) hf hc rfl rfl yK rfl ⟨rfl,rfl,rfl,trivial⟩ rfl rfl fun a5 a w hf hc=>?_
     obtain ⟨un,au,hF⟩:=aC hF
     refine lO (xs:=X) (ys:=([H]:List aF)) hf hc rfl rfl yK rfl rfl rfl rfl rfl iO (fM hc m0) (fun _ _=>u3) (by simpa using dB au) fun ar av a w hf hc=>sp 1 hf rfl fun a hf=>aQ ?_
     replace hc:=(hc.drop k1).drop k0
     exact y (X++[H]) Y ar av d g _ _  (hf.kp rfl) hc hF
    ·refine cX ?_
     refine sp 1 hf rfl fun a hf=>zN hf hc eY m0 rfl fun a w hf hc=>oJ (rows:=([H]:List aF).map aJ) (vs:=[(0,.agg #[i6 H.Lo,i6 H.Hi])]) hf hc rfl rfl yK rfl ⟨rfl,rfl,rfl,trivial⟩ rfl rfl fun a7 a w hf hc=>?_
     obtain ⟨a3,z,hF⟩:=aC hF
     refine lO (xs:=Y) (ys:=([H]:List aF)) hf hc rfl rfl yK rfl rfl rfl rfl rfl iO (fM hc m0) (fun _ _=>u2) (by simpa using dB z) fun ay aq a w hf hc=>sp 1 hf rfl fun a hf=>aQ ?_
     replace hc:=(hc.drop k1).drop k0
     exact y X (Y++[H]) Z i ay aq _ _  (hf.kp rfl) hc hF
   ·refine wp_exit ?_
    refine bI ?_
    refine bI ?_
    have he:=sj hF
    rw [← he] at j
    refine fB ?_
    exact aj _ _ _ j ⟨Z,i,d,g,hf.kp rfl,hc⟩

def lJ (N:Nat) (x:aF):Option (aF) :=
 some (⟨max 0 x.Lo,max 0 x.Hi⟩:aF)
theorem oG {N:Nat} {G:bA} {Lf:List Ent} {w:World} (x:aF)   (hc:Ctx G (Lf) w) {B:aF} (hF:lJ N x=some B):Calls Tryz.prog 9 #[.agg #[i6 x.Lo,i6 x.Hi]] w (fun e w=>e=.returned (.agg #[i6 B.Lo,i6 B.Hi])∧Ctx G (Lf) w):=by
 unfold lJ at hF
 refine cC Tryz.func9 rfl Tryz.ntmps9 rfl fun a hf=>zS fun K h=>zB hf hc rfl fun H a w hf hc=>zA hf hc rE rfl fun D a w hf hc=>zT h ?_
 refine zS fun K h=>zP hf rfl (pFA iH rfl) fun a hf=>zL hf hc aX m1 rfl fun a w hf hc=>zP hf rfl (aAk rfl rfl) fun a hf=>zP hf rfl (pFA fQ rfl) fun a hf=>zL hf hc aX m1 rfl fun a w hf hc=>zP hf rfl (aAk rfl rfl) fun a hf=>zP hf rfl (bJ (cells:=[i6 (max 0 x.Lo),i6 (max 0 x.Hi)]) oO rfl rfl) fun a hf=>zW hf hc fS u0 rfl fun w hc=>zT h ?_
 refine wp_ret ?_
 obtain rfl:=sj hF
 replace hc:=hc.drop k1
 exact nK (by simp) rfl Tryz.results9 hf hc (dX (vs:=[i6 (max 0 x.Lo),i6 (max 0 x.Hi)]) eY rfl rfl (cE (n:=2) m0 rfl)) ⟨rfl,(hc.drop k0)⟩

def aW (n:Int) (D:Int) (B:Int):Bool :=
 ((decide (D≤n)) && (decide (n≤B)))
theorem iA {G:bA} {Lf:List Ent} {w:World} (n:Int) (B:Int) (D:Int)   (hc:Ctx G (Lf) w) {H:Bool} (hF:aW n B D=H):Calls Tryz.prog 24 #[i6 n,i6 B,i6 D] w (fun e w=>e=.returned (.bool H)∧Ctx G (Lf) w):=by
 unfold aW at hF
 refine cC Tryz.func24 rfl Tryz.ntmps24 rfl fun a hf=>zS fun K h=>sp 1 hf rfl fun a hf=>zT h ?_
 refine zS fun K h=>sp 4 hf rfl fun a hf=>fL 4 (fun a=>Has 15 a [(0,i6 n),(1,i6 B),(2,i6 D),(6,.bool false),(7,i6 n),(8,i6 B),(9,.bool (decide (B≤n))),(10,.bool (decide (B≤n))),(14,.bool ((decide (B≤n)) && (decide (n≤D))))]) hc ?_ ?_
 ·cases hb:(decide (B≤n))
  ·rw [hb] at hf
   refine stS hf rfl rfl rfl fun a hf=>stS hf rfl rfl rfl fun a hf=>stS hf rfl rfl rfl fun a hf=>sp 1 hf rfl fun a hf=>aQ ⟨hf.kp rfl,hc⟩
  ·rw [hb] at hf
   refine sp 4 hf rfl fun a hf=>aQ ⟨hf.kp rfl,hc⟩
 intro a w ⟨hf,hc⟩
 refine sp 1 hf rfl fun a hf=>zT h ?_
 refine wp_ret ?_
 obtain rfl:=hF
 exact zO1 Tryz.results24 hf rfl ⟨rfl,hc⟩

def bP (n:Int):Bool :=
 (aW n 0 1000000000)
theorem iZ {G:bA} {Lf:List Ent} {w:World} (n:Int)   (hc:Ctx G (Lf) w) {B:Bool} (hF:bP n=B):Calls Tryz.prog 25 #[i6 n] w (fun e w=>e=.returned (.bool B)∧Ctx G (Lf) w):=by
 unfold bP at hF
 refine cC Tryz.func25 rfl Tryz.ntmps25 rfl fun a hf=>zS fun K h=>sp 1 hf rfl fun a hf=>zT h ?_
 refine zS fun K h=>sp 1 hf rfl fun a hf=>zQ (v:=.bool (aW n 0 1000000000)) hf hc wH rfl (fun w hc=>iA n 0 1000000000 hc rfl) fun a w hf hc=>sp 1 hf rfl fun a hf=>zT h ?_
 refine wp_ret ?_
 obtain rfl:=hF
 exact zO1 Tryz.results25 hf rfl ⟨rfl,hc⟩

def jN (p_:bL):Bool :=
 ((bP p_.Index) && (bP p_.Due))
theorem vH {G:bA} {Lf:List Ent} {w:World} (p_:bL)   (hc:Ctx G (Lf) w) {D:Bool} (hF:jN p_=D):Calls Tryz.prog 71 #[.agg #[i6 p_.Index,i6 p_.Due]] w (fun e w=>e=.returned (.bool D)∧Ctx G (Lf) w):=by
 unfold jN at hF
 refine cC Tryz.func71 rfl Tryz.ntmps71 rfl fun a hf=>zS fun K h=>zB hf hc rfl fun B a w hf hc=>sp 1 hf rfl fun a hf=>zT h ?_
 refine zS fun K h=>zP hf rfl (pFA vV rfl) fun a hf=>zL hf hc aX m0 rfl fun a w hf hc=>zQ (v:=.bool (bP p_.Index)) hf hc aBf rfl (fun w hc=>iZ p_.Index hc rfl) fun a w hf hc=>sp 1 hf rfl fun a hf=>fL 4 (fun a=>Has 11 a [(1,pq B),(2,.bool false),(3,pq B),(4,i6 p_.Index),(5,.bool (bP p_.Index)),(6,.bool (bP p_.Index)),(10,.bool ((bP p_.Index) && (bP p_.Due)))]) hc ?_ ?_
 ·cases hb:(bP p_.Index)
  ·rw [hb] at hf
   refine stS hf rfl rfl rfl fun a hf=>stS hf rfl rfl rfl fun a hf=>stS hf rfl rfl rfl fun a hf=>sp 1 hf rfl fun a hf=>aQ ⟨hf.kp rfl,hc⟩
  ·rw [hb] at hf
   refine zP hf rfl (pFA tU rfl) fun a hf=>zL hf hc aX m0 rfl fun a w hf hc=>zQ (v:=.bool (bP p_.Due)) hf hc aBf rfl (fun w hc=>iZ p_.Due hc rfl) fun a w hf hc=>sp 1 hf rfl fun a hf=>aQ ⟨hf.kp rfl,hc⟩
 intro a w ⟨hf,hc⟩
 refine sp 1 hf rfl fun a hf=>zT h ?_
 refine wp_ret ?_
 obtain rfl:=hF
 replace hc:=hc.drop k0
 exact zO1 Tryz.results71 hf rfl ⟨rfl,hc⟩

def dO (x:bL):Bool :=
 (!(jN (⟨x.Index,x.Due⟩:bL)))
theorem rQ {G:bA} {Lf:List Ent} {w:World} (x:bL) {b_:Nat}  (hc:Ctx G (.box b_ [.func (.func 71) #[] #[]] 172::Lf) w) {B:Bool} (hF:dO x=B):Calls Tryz.prog 103 #[.agg #[i6 x.Index,i6 x.Due],pq b_] w (fun e w=>e=.returned (.bool B)∧Ctx G (.box b_ [.func (.func 71) #[] #[]] 172::Lf) w):=by
 unfold dO at hF
 refine cC Tryz.func103 rfl Tryz.ntmps103 rfl fun a hf=>zS fun K h=>zB hf hc rfl fun D a w hf hc=>sp 1 hf rfl fun a hf=>zT h ?_
 refine zS fun K h=>zL hf hc aP5 m1 rfl fun a w hf hc=>zN hf hc aD8 m0 rfl fun a w hf hc=>zQ (v:=.bool (jN (⟨x.Index,x.Due⟩:bL))) hf hc en_71 rfl (fun w hc=>vH (⟨x.Index,x.Due⟩:bL) hc rfl) fun a w hf hc=>sp 2 hf rfl fun a hf=>zT h ?_
 refine wp_ret ?_
 obtain rfl:=hF
 replace hc:=hc.drop k0
 exact zO1 Tryz.results103 hf rfl ⟨rfl,hc⟩

def eE (N:Nat) (s_:List bL) (x:Int):Option (dA (Int) (Int)) :=
 cond (decide (x < ((s_.length:Nat):Int)))
 (Option.bind (cM s_ x) fun B=>
 cond (dO B)
 (some (.ret x))
 (some (.cont (W (x + 1)))))
 (some (.brk x))
def dC (N:Nat) (s_:List bL):Option (Int) :=
 Option.bind (bN (fun s4=>eE N s_ s4) N 0) fun x4=>
 exK x4 (fun s4=>some (-1)) some
theorem lY {N:Nat} {G:bA} {Lf:List Ent} {w:World} (s_:List bL) {H:Option Addr} {D:Nat} {b_:Nat} (O:Rd G 2 H D (s_.map bK)) (hc:Ctx G (.box b_ [.func (.func 71) #[] #[]] 172::Lf) w) {J:Int} (hF:dC N s_=some J):Calls Tryz.prog 74 #[.slice H s_.length D,.func (.func 103) #[] #[pq b_]] w (fun e w=>e=.returned (i6 J)∧Ctx G (.box b_ [.func (.func 71) #[] #[]] 172::Lf) w):=by
 unfold dC at hF
 refine cC Tryz.func74 rfl Tryz.ntmps74 rfl fun a hf=>zS fun K h=>sp 1 hf rfl fun a hf=>zT h ?_
 refine wp_seq_k fun K2 h2=>zS fun K h=>sp 1 hf rfl fun a hf=>zP hf rfl (cP Tryz.underlying25 rfl) fun a hf=>sp 1 hf rfl fun a hf=>zT h ?_
 refine wp_block ?_
 obtain ⟨x4,U,hF⟩:=aC hF
 let S4:Int→Act→World→Prop:=(fun (zz:Int) a w=>Has 19 a [(0,.slice H s_.length D),(1,.func (.func 103) #[] #[pq b_]),(7,i6 ((s_.length:Nat):Int)),(8,i6 zz)]∧Ctx G (.box b_ [.func (.func 71) #[] #[]] 172::Lf) w)
 have X:∀ (zz:Int) a w,x4=.go zz→S4 zz a w→K2 a w:=by
  rintro x a w rfl ⟨hf,hc⟩
  replace hF:=cJ hF
  refine h2 _ _ ?_
  refine zS fun K h=>sp 1 hf rfl fun a hf=>zT h ?_
  refine wp_ret ?_
  obtain rfl:=sj hF
  exact zO1 Tryz.results74 hf rfl ⟨rfl,hc⟩
 have R:∀ r,x4=.out r→r=J:=by
  rintro r rfl
  exact sj hF
 refine dQ N (dP (S:=S4) (x:=x4) ?_ N 0 _ _ ⟨hf.kp rfl,hc⟩ U)
 clear hF hf hc
 rintro x Y a w KB4 ⟨hf,hc⟩ hF B V
 unfold eE at hF
 refine zS fun K h=>sp 1 hf rfl fun a hf=>zT h ?_
 refine wp_seq_k fun K7 h7=>zI hf rfl hF ?_ ?_ <;> clear hF <;> intro hF
 ·refine wp_skip ?_
  refine h7 _ _ ?_
  refine wp_seq_k fun K8 h8=>wp_block ?_
  refine zS fun K h=>sp 2 hf rfl fun a hf=>zT h ?_
  refine zS fun K h=>sp 3 hf rfl fun a hf=>?_
  obtain ⟨I,M,hF⟩:=aC hF
  obtain ⟨Z,o,qa,qp⟩:=O.atm M
  refine zP hf rfl (pIA Tryz.underlying25 uZ rfl rfl qa) fun a hf=>zE hf hc rfl (kK (vs:=[i6 I.Index,i6 I.Due]) aD8 rfl rfl (dF qp (n:=2) (o':=0) rfl)) fun a w hf hc=>zQ (v:=.bool (dO I)) hf hc aP4 rfl (fun w hc=>(rQ I (hc.pick k0) rfl).mono fun e w h=>⟨h.1,(h.2.unpick k0)⟩) fun a w hf hc=>zT h ?_
  refine zI hf rfl hF ?_ ?_ <;> clear hF <;> intro hF
  ·refine zS fun K h=>sp 2 hf rfl fun a hf=>zT h ?_
   refine wp_ret ?_
   refine cI ?_
   refine aU ?_
   refine aU ?_
   have he:=sj hF
   rw [← he] at B
   replace hF:=R _ B
   refine cI ?_
   refine aU ?_
   obtain rfl:=hF
   exact zO1 Tryz.results74 hf rfl ⟨rfl,hc⟩
  ·refine wp_skip ?_
   refine h8 _ _ ?_
   refine cX ?_
   refine sp 2 hf rfl fun a hf=>aQ ?_
   exact V (W (x + 1)) _ _ (sj hF).symm ⟨hf.kp rfl,hc⟩
 ·refine wp_exit ?_
  refine bI ?_
  refine bI ?_
  have he:=sj hF
  rw [← he] at B
  refine fB ?_
  exact X _ _ _ B ⟨hf.kp rfl,hc⟩

def cW (N:Nat) (s_:List bL):Option (Bool) :=
 Option.bind (dC N s_) fun r=>
 some (decide (0≤r))
theorem kU {N:Nat} {G:bA} {Lf:List Ent} {w:World} (s_:List bL) {D:Option Addr} {B:Nat} {b_:Nat} (I:Rd G 2 D B (s_.map bK)) (hc:Ctx G (.box b_ [.func (.func 71) #[] #[]] 172::Lf) w) {H:Bool} (hF:cW N s_=some H):Calls Tryz.prog 102 #[.slice D s_.length B,.func (.func 103) #[] #[pq b_]] w (fun e w=>e=.returned (.bool H)∧Ctx G (.box b_ [.func (.func 71) #[] #[]] 172::Lf) w):=by
 unfold cW at hF
 refine cC Tryz.func102 rfl Tryz.ntmps102 rfl fun a hf=>zS fun K h=>sp 1 hf rfl fun a hf=>zT h ?_
 refine zS fun K h=>sp 2 hf rfl fun a hf=>?_
 obtain ⟨r,hr,hF⟩:=aC hF
 refine zQ (v:=i6 r) hf hc aOj rfl (fun w hc=>(lY s_ I (hc.pick k0) hr).mono fun e w h=>⟨h.1,(h.2.unpick k0)⟩) fun a w hf hc=>sp 2 hf rfl fun a hf=>zT h ?_
 refine wp_ret ?_
 obtain rfl:=sj hF
 exact zO1 Tryz.results102 hf rfl ⟨rfl,hc⟩

def gP (N:Nat) (l:List bL):Option (Bool) :=
 Option.bind (cW N l) fun r=>
 some (!r)
theorem sO {N:Nat} {G:bA} {Lf:List Ent} {w:World} (l:List bL) {H:Option Addr} {D:Nat} (I:Rd G 2 H D (l.map bK)) (hc:Ctx G (Lf) w) {B:Bool} (hF:gP N l=some B):Calls Tryz.prog 70 #[.slice H l.length D,.func (.func 71) #[] #[]] w (fun e w=>e=.returned (.bool B)∧Ctx G (Lf) w):=by
 unfold gP at hF
 refine cC Tryz.func70 rfl Tryz.ntmps70 rfl fun a hf=>zS fun K h=>zB hf hc rfl fun J a w hf hc=>sp 1 hf rfl fun a hf=>zT h ?_
 refine zS fun K h=>sp 1 hf rfl fun a hf=>zP hf rfl (pMF (us:=[pq J]) rfl rfl) fun a hf=>?_
 obtain ⟨r,hr,hF⟩:=aC hF
 refine zQ (v:=.bool r) hf hc aQ0 rfl (fun w hc=>(kU l I (hc.pick k0) hr).mono fun e w h=>⟨h.1,(h.2.unpick k0)⟩) fun a w hf hc=>sp 2 hf rfl fun a hf=>zT h ?_
 refine wp_ret ?_
 obtain rfl:=sj hF
 replace hc:=hc.drop k0
 exact zO1 Tryz.results70 hf rfl ⟨rfl,hc⟩

def iX (N:Nat) (b_:bB) (sub:List bL) (x:Int):Option (dA (Int) (Int)) :=
 cond (decide (x < ((sub.length:Nat):Int)))
 (Option.bind (cM b_.Table x) fun B=>
 Option.bind (cM b_.Table (W (x + 1))) fun D=>
 cond ((decide (D.Index≤B.Index)) || (decide (D.Due < B.Due)))
 (some (.ret 9))
 (some (.cont (W (x + 1)))))
 (some (.brk x))
def lH (N:Nat) (b_:bB):Option (Int) :=
 cond (!(aW ((b_.Table.length:Nat):Int) 2 12))
 (some 3)
 (Option.bind (gP N b_.Table) fun r=>
 cond ((!r) || (!(bP b_.Credit)))
 (some 100)
 (Option.bind (vS b_.Table 1 ((b_.Table.length:Nat):Int)) fun sub=>
 Option.bind (bN (fun s9=>iX N b_ sub s9) N 0) fun x9=>
 exK x9 (fun s9=>some 0) some))
theorem xH {N:Nat} {G:bA} {Lf:List Ent} {w:World} (b_:bB) {D:Option Addr} {B:Nat} (H:Rd G 2 D B (b_.Table.map bK)) (hc:Ctx G (Lf) w) {j:Int} (hF:lH N b_=some j):Calls Tryz.prog 37 #[.agg #[.slice D b_.Table.length B,i6 b_.Credit]] w (fun e w=>e=.returned (i6 j)∧Ctx G (Lf) w):=by
 unfold lH at hF
 refine cC Tryz.func37 rfl Tryz.ntmps37 rfl fun a hf=>zS fun K h=>zB hf hc rfl fun M a w hf hc=>sp 1 hf rfl fun a hf=>zT h ?_
 refine wp_seq_k fun K2 h2=>wp_block ?_
 refine zS fun K h=>zP hf rfl (pFA oD rfl) fun a hf=>zL hf hc wJ m0 rfl fun a w hf hc=>zP hf rfl (cP Tryz.underlying25 rfl) fun a hf=>zQ (v:=.bool (aW ((b_.Table.length:Nat):Int) 2 12)) hf hc wH rfl (fun w hc=>iA ((b_.Table.length:Nat):Int) 2 12 hc rfl) fun a w hf hc=>sp 2 hf rfl fun a hf=>zT h ?_
 refine zI hf rfl hF ?_ ?_ <;> clear hF <;> intro hF
 ·refine zS fun K h=>sp 1 hf rfl fun a hf=>zT h ?_
  refine wp_ret ?_
  refine cI ?_
  refine aU ?_
  obtain rfl:=sj hF
  replace hc:=hc.drop k0
  exact zO1 Tryz.results37 hf rfl ⟨rfl,hc⟩
 ·refine zS fun K h=>zP hf rfl (pFA oD rfl) fun a hf=>zL hf hc wJ m0 rfl fun a w hf hc=>?_
  obtain ⟨r,hr,hF⟩:=aC hF
  refine zQ (v:=.bool r) hf hc en_70 rfl (fun w hc=>sO b_.Table H hc hr) fun a w hf hc=>sp 2 hf rfl fun a hf=>fL 5 (fun a=>Has 54 a [(1,pq M),(13,pq M),(14,.slice D b_.Table.length B),(15,.bool r),(16,.bool (!r)),(17,.bool (!r)),(22,.bool ((!r) || (!(bP b_.Credit))))]) hc ?_ ?_
  ·cases hb:(!r)
   ·rw [hb] at hf
    refine zP hf rfl (pFA aIu rfl) fun a hf=>zL hf hc aX m0 rfl fun a w hf hc=>zQ (v:=.bool (bP b_.Credit)) hf hc aBf rfl (fun w hc=>iZ b_.Credit hc rfl) fun a w hf hc=>sp 2 hf rfl fun a hf=>aQ ⟨hf.kp rfl,hc⟩
   ·rw [hb] at hf
    refine stS hf rfl rfl rfl fun a hf=>stS hf rfl rfl rfl fun a hf=>stS hf rfl rfl rfl fun a hf=>stS hf rfl rfl rfl fun a hf=>sp 1 hf rfl fun a hf=>aQ ⟨hf.kp rfl,hc⟩
  intro a w ⟨hf,hc⟩
  refine sp 1 hf rfl fun a hf=>zT h ?_
  refine zI hf rfl hF ?_ ?_ <;> clear hF <;> intro hF
  ·refine zS fun K h=>sp 1 hf rfl fun a hf=>zT h ?_
   refine wp_ret ?_
   refine cI ?_
   refine aU ?_
   obtain rfl:=sj hF
   replace hc:=hc.drop k0
   exact zO1 Tryz.results37 hf rfl ⟨rfl,hc⟩
  ·refine wp_skip ?_
   refine h2 _ _ ?_
   refine wp_seq_k fun K7 h7=>zS fun K h=>zP hf rfl (pFA oD rfl) fun a hf=>zL hf hc wJ m0 rfl fun a w hf hc=>?_
   obtain ⟨sub,g,hF⟩:=aC hF
   have qs:=Rd.sub H g
   refine zP hf rfl (pSl Tryz.underlying25 uZ rfl rfl (by simpa using H.1) rfl rfl g) fun a hf=>zP hf rfl (cP Tryz.underlying25 rfl) fun a hf=>sp 1 hf rfl fun a hf=>zT h ?_
   refine wp_block ?_
   obtain ⟨x9,ac,hF⟩:=aC hF
   let S9:Int→Act→World→Prop:=(fun (zz:Int) a w=>Has 54 a [(1,pq M),(26,i6 ((sub.length:Nat):Int)),(27,i6 zz)]∧Ctx G (.box M [.slice D b_.Table.length B,i6 b_.Credit] 27::Lf) w)
   have af:∀ (zz:Int) a w,x9=.go zz→S9 zz a w→K7 a w:=by
    rintro x a w rfl ⟨hf,hc⟩
    replace hF:=cJ hF
    refine h7 _ _ ?_
    refine zS fun K h=>sp 1 hf rfl fun a hf=>zT h ?_
    refine wp_ret ?_
    obtain rfl:=sj hF
    replace hc:=hc.drop k0
    exact zO1 Tryz.results37 hf rfl ⟨rfl,hc⟩
   have s:∀ r,x9=.out r→r=j:=by
    rintro r rfl
    exact sj hF
   refine dQ N (dP (S:=S9) (x:=x9) ?_ N 0 _ _ ⟨hf.kp rfl,hc⟩ ac)
   clear hF hf hc
   rintro x am a w KB9 ⟨hf,hc⟩ hF O aj
   unfold iX at hF
   refine zS fun K h=>sp 1 hf rfl fun a hf=>zT h ?_
   refine wp_seq_k fun K12 ab=>zI hf rfl hF ?_ ?_ <;> clear hF <;> intro hF
   ·refine wp_skip ?_
    refine ab _ _ ?_
    refine wp_seq_k fun K13 t=>wp_block ?_
    refine zS fun K h=>sp 2 hf rfl fun a hf=>zT h ?_
    refine wp_seq_k fun K15 z=>?_
    obtain ⟨J,q,hF⟩:=aC hF
    obtain ⟨y,o,qa,qp⟩:=H.atm q
    obtain ⟨I,m,hF⟩:=aC hF
    obtain ⟨ag,ak,k,p⟩:=H.atm m
    replace hc:=hc.nilRow 0 0
    replace hc:=hc.nilRow 0 0
    refine cU (fun θ=>[⟨none,none,1,pq M⟩,⟨none,none,3,i6 x⟩,⟨none,none,26,i6 ((sub.length:Nat):Int)⟩,⟨none,none,27,i6 x⟩,⟨some 0,none,30,pq M⟩,⟨some 1,none,31,.slice D b_.Table.length B⟩,⟨some 2,none,32,i6 x⟩,⟨some 3,none,33,.pointer (some ⟨y,o,none⟩)⟩,⟨some 4,none,34,.agg #[i6 J.Index,i6 J.Due]⟩,⟨some 5,none,35,pq M⟩,⟨some 6,none,36,.slice D b_.Table.length B⟩,⟨some 7,none,37,i6 x⟩,⟨some 8,none,38,i6 (W (x + 1))⟩,⟨some 9,none,39,.pointer (some ⟨ag,ak,none⟩)⟩,⟨some 10,none,40,.agg #[i6 I.Index,i6 I.Due]⟩,⟨some 11,none,4,.pointer (some ⟨(θ 88).b,0,none⟩)⟩,⟨some 12,none,5,.pointer (some ⟨(θ 96).b,0,none⟩)⟩]) (fun E θ=>(bif E 14 then .box (θ 96).b [i6 I.Index,i6 I.Due] 69 else bif E 12 then .box (θ 96).b [i6 0,i6 0] 69 else .row none 0 [] 0 0)::(bif E 13 then .box (θ 88).b [i6 J.Index,i6 J.Due] 69 else bif E 11 then .box (θ 88).b [i6 0,i6 0] 69 else .row none 0 [] 0 0)::.box M [.slice D b_.Table.length B,i6 b_.Credit] 27::Lf) [(13,11),(14,12)] (fun a w=>∃ (Y:Nat) (X:Nat),Has 54 a [(1,pq M),(26,i6 ((sub.length:Nat):Int)),(27,i6 x),(4,pq Y),(5,pq X)]∧Ctx G (.box X [i6 I.Index,i6 I.Due] 69::.box Y [i6 J.Index,i6 J.Due] 69::.box M [.slice D b_.Table.length B,i6 b_.Credit] 27::Lf) w) aT (by kernel_rfl) (by kernel_rfl) (dL.of hf ⟨rfl,rfl,rfl,rfl,trivial,trivial,trivial,trivial,trivial,trivial,trivial,trivial,trivial,trivial,trivial,trivial,trivial,trivial⟩) hc ⟨?_,?_,?_,?_,?_,?_,?_,?_,?_,?_,?_,?_,?_,?_,?_,trivial⟩ ?_ ?_
    ·intro E θ a w hD hi hp he hc
     have hf:=he.h0.mT he 0 rfl
     refine zP hf rfl (pFA oD rfl) fun a hf=>zD θ he hi hf 4 rfl rfl rfl hc
    ·intro E θ a w hD hi hp he hc
     have e0:=hp.o 0 rfl
     have hf:=he.h0.mP he 4 rfl e0
     refine zL hf hc wJ m2 rfl fun a w hf hc=>zD θ he hi hf 5 rfl rfl rfl hc
    ·intro E θ a w hD hi hp he hc
     have hf:=he.h0.mT he 1 rfl
     refine sp 1 hf rfl fun a hf=>zD θ he hi hf 6 rfl rfl rfl hc
    ·intro E θ a w hD hi hp he hc
     have e1:=hp.o 1 rfl
     have e2:=hp.o 2 rfl
     have hf:=(he.h0.mP he 5 rfl e1).mP he 6 rfl e2
     refine zP hf rfl (pIA Tryz.underlying25 uZ rfl rfl qa) fun a hf=>zD θ he hi hf 7 rfl rfl rfl hc
    ·intro E θ a w hD hi hp he hc
     have e3:=hp.o 3 rfl
     have hf:=he.h0.mP he 7 rfl e3
     refine zE hf hc rfl (kK (vs:=[i6 J.Index,i6 J.Due]) aD8 rfl rfl (dF qp (n:=2) (o':=0) rfl)) fun a w hf hc=>zD θ he hi hf 8 rfl rfl rfl hc
    ·intro E θ a w hD hi hp he hc
     have hf:=he.h0.mT he 0 rfl
     refine zP hf rfl (pFA oD rfl) fun a hf=>zD θ he hi hf 9 rfl rfl rfl hc
    ·intro E θ a w hD hi hp he hc
     have e5:=hp.o 5 rfl
     have hf:=he.h0.mP he 9 rfl e5
     refine zL hf hc wJ m2 rfl fun a w hf hc=>zD θ he hi hf 10 rfl rfl rfl hc
    ·intro E θ a w hD hi hp he hc
     have hf:=he.h0.mT he 1 rfl
     refine sp 1 hf rfl fun a hf=>zD θ he hi hf 11 rfl rfl rfl hc
    ·intro E θ a w hD hi hp he hc
     have e7:=hp.o 7 rfl
     have hf:=he.h0.mP he 11 rfl e7
     refine sp 1 hf rfl fun a hf=>zD θ he hi hf 12 rfl rfl rfl hc
    ·intro E θ a w hD hi hp he hc
     have e6:=hp.o 6 rfl
     have e8:=hp.o 8 rfl
     have hf:=(he.h0.mP he 10 rfl e6).mP he 12 rfl e8
     refine zP hf rfl (pIA Tryz.underlying25 uZ rfl rfl k) fun a hf=>zD θ he hi hf 13 rfl rfl rfl hc
    ·intro E θ a w hD hi hp he hc
     have e9:=hp.o 9 rfl
     have hf:=he.h0.mP he 13 rfl e9
     refine zE hf hc rfl (kK (vs:=[i6 I.Index,i6 I.Due]) aD8 rfl rfl (dF p (n:=2) (o':=0) rfl)) fun a w hf hc=>zD θ he hi hf 14 rfl rfl rfl hc
    ·intro E θ a w hD hi hp he hc
     have d:=hD.f 0 rfl hi
     try dsimp only at hc
     rw [hi,d] at hc
     have hf:=he.h0
     refine zA hf hc aJ2 rfl fun ad a w hf hc=>aQ ?_
     refine bV ?_
     intro ds u i
     replace hc:=((hc.drop k2).pick k0).pick k1
     refine ⟨(hZ θ 88 ⟨ad,none,0,(fun _=>(none,0))⟩),he.put hi i hf rfl [] trivial ⟨qq,qq,qq,qq,qq,qq,qq,qq,qq,qq,qq,qq,qq,qq,qq,qq,qq,trivial⟩,?_⟩
     try dsimp only
     rw [aN E 11,aS 11 d rfl]
     exact hc
    ·intro E θ a w hD hi hp he hc
     have Z:=hD.f 1 rfl hi
     try dsimp only at hc
     rw [hi,Z] at hc
     have hf:=he.h0
     refine zA hf hc aJ2 rfl fun ai a w hf hc=>aQ ?_
     refine bV ?_
     intro ds u i
     replace hc:=hc.drop k1
     refine ⟨(hZ θ 96 ⟨ai,none,0,(fun _=>(none,0))⟩),he.put hi i hf rfl [] trivial ⟨qq,qq,qq,qq,qq,qq,qq,qq,qq,qq,qq,qq,qq,qq,qq,qq,qq,trivial⟩,?_⟩
     try dsimp only
     rw [aN E 12,aS 12 Z rfl]
     exact hc
    ·intro E θ a w hD hi hp he hc
     have e4:=hp.o 4 rfl
     have R:=hp.o 11 rfl
     try dsimp only at hc
     rw [R,hi] at hc
     have hf:=(he.h0.mP he 8 rfl e4).mP he 15 rfl R
     refine zW hf hc uZ u1 rfl fun w hc=>zG θ he hi hf rfl ?_
     try dsimp only
     rw [cB 13 R,aN E 13]
     exact hc
    ·intro E θ a w hD hi hp he hc
     have aa:=hp.o 10 rfl
     have U:=hp.o 12 rfl
     try dsimp only at hc
     rw [U,hi] at hc
     have hf:=(he.h0.mP he 14 rfl aa).mP he 16 rfl U
     refine zW hf hc uZ u0 rfl fun w hc=>zG θ he hi hf rfl ?_
     try dsimp only
     rw [cB 14 U,aN E 14]
     exact hc
    ·intro E θ a w V he hc
     have hf:=he.h0
     have R:=V 11 rfl
     have U:=V 12 rfl
     have d:=V 13 rfl
     have Z:=V 14 rfl
     replace hf:=hf.more he 16 rfl (onP U)
     replace hf:=hf.more he 15 rfl (onP R)
     replace hf:=hf.more he 3 rfl (onT)
     replace hf:=hf.more he 2 rfl (onT)
     replace hf:=hf.more he 0 rfl (onT)
     try dsimp only at hc
     rw [R,U,d,Z] at hc
     exact ⟨(θ 88).b,(θ 96).b,hf.kp rfl,hc⟩
    rintro a w ⟨Y,X,hf,hc⟩
    refine z _ _ ?_
    refine zS fun K h=>zP hf rfl (pFA vV rfl) fun a hf=>zL hf hc aX m0 rfl fun a w hf hc=>zP hf rfl (pFA vV rfl) fun a hf=>zL hf hc aX m1 rfl fun a w hf hc=>sp 2 hf rfl fun a hf=>fL 6 (fun a=>Has 54 a [(1,pq M),(26,i6 ((sub.length:Nat):Int)),(27,i6 x),(4,pq Y),(5,pq X),(41,pq X),(42,i6 I.Index),(43,pq Y),(44,i6 J.Index),(45,.bool (decide (I.Index≤J.Index))),(46,.bool (decide (I.Index≤J.Index))),(52,.bool ((decide (I.Index≤J.Index)) || (decide (I.Due < J.Due))))]) hc ?_ ?_
    ·cases hb:(decide (I.Index≤J.Index))
     ·rw [hb] at hf
      refine zP hf rfl (pFA tU rfl) fun a hf=>zL hf hc aX m0 rfl fun a w hf hc=>zP hf rfl (pFA tU rfl) fun a hf=>zL hf hc aX m1 rfl fun a w hf hc=>sp 2 hf rfl fun a hf=>aQ ⟨hf.kp rfl,hc⟩
     ·rw [hb] at hf
      refine stS hf rfl rfl rfl fun a hf=>stS hf rfl rfl rfl fun a hf=>stS hf rfl rfl rfl fun a hf=>stS hf rfl rfl rfl fun a hf=>stS hf rfl rfl rfl fun a hf=>sp 1 hf rfl fun a hf=>aQ ⟨hf.kp rfl,hc⟩
    intro a w ⟨hf,hc⟩
    refine zT h ?_
    refine zI hf rfl hF ?_ ?_ <;> clear hF <;> intro hF
    ·refine zS fun K h=>sp 1 hf rfl fun a hf=>zT h ?_
     refine wp_ret ?_
     refine cI ?_
     refine aU ?_
     refine aU ?_
     have he:=sj hF
     rw [← he] at O
     replace hF:=s _ O
     refine cI ?_
     refine aU ?_
     obtain rfl:=hF
     replace hc:=((hc.drop k2).drop k1).drop k0
     exact zO1 Tryz.results37 hf rfl ⟨rfl,hc⟩
    ·refine wp_skip ?_
     refine t _ _ ?_
     refine cX ?_
     refine sp 2 hf rfl fun a hf=>aQ ?_
     replace hc:=(hc.drop k1).drop k0
     exact aj (W (x + 1)) _ _ (sj hF).symm ⟨hf.kp rfl,hc⟩
   ·refine wp_exit ?_
    refine bI ?_
    refine bI ?_
    have he:=sj hF
    rw [← he] at O
    refine fB ?_
    exact af _ _ _ O ⟨hf.kp rfl,hc⟩

def gE (s_:aF):Bool :=
 ((aW s_.Lo 0 s_.Hi) && (bP s_.Hi))
theorem wK {G:bA} {Lf:List Ent} {w:World} (s_:aF)   (hc:Ctx G (Lf) w) {D:Bool} (hF:gE s_=D):Calls Tryz.prog 40 #[.agg #[i6 s_.Lo,i6 s_.Hi]] w (fun e w=>e=.returned (.bool D)∧Ctx G (Lf) w):=by
 unfold gE at hF
 refine cC Tryz.func40 rfl Tryz.ntmps40 rfl fun a hf=>zS fun K h=>zB hf hc rfl fun B a w hf hc=>sp 1 hf rfl fun a hf=>zT h ?_
 refine zS fun K h=>zP hf rfl (pFA iH rfl) fun a hf=>zL hf hc aX m0 rfl fun a w hf hc=>zP hf rfl (pFA fQ rfl) fun a hf=>zL hf hc aX m0 rfl fun a w hf hc=>zQ (v:=.bool (aW s_.Lo 0 s_.Hi)) hf hc wH rfl (fun w hc=>iA s_.Lo 0 s_.Hi hc rfl) fun a w hf hc=>sp 1 hf rfl fun a hf=>fL 4 (fun a=>Has 13 a [(1,pq B),(2,.bool false),(3,pq B),(4,i6 s_.Lo),(5,.pointer (some ⟨B,1,none⟩)),(6,i6 s_.Hi),(7,.bool (aW s_.Lo 0 s_.Hi)),(8,.bool (aW s_.Lo 0 s_.Hi)),(12,.bool ((aW s_.Lo 0 s_.Hi) && (bP s_.Hi)))]) hc ?_ ?_
 ·cases hb:(aW s_.Lo 0 s_.Hi)
  ·rw [hb] at hf
   refine stS hf rfl rfl rfl fun a hf=>stS hf rfl rfl rfl fun a hf=>stS hf rfl rfl rfl fun a hf=>sp 1 hf rfl fun a hf=>aQ ⟨hf.kp rfl,hc⟩
  ·rw [hb] at hf
   refine zP hf rfl (pFA fQ rfl) fun a hf=>zL hf hc aX m0 rfl fun a w hf hc=>zQ (v:=.bool (bP s_.Hi)) hf hc aBf rfl (fun w hc=>iZ s_.Hi hc rfl) fun a w hf hc=>sp 1 hf rfl fun a hf=>aQ ⟨hf.kp rfl,hc⟩
 intro a w ⟨hf,hc⟩
 refine sp 1 hf rfl fun a hf=>zT h ?_
 refine wp_ret ?_
 obtain rfl:=hF
 replace hc:=hc.drop k0
 exact zO1 Tryz.results40 hf rfl ⟨rfl,hc⟩

def oQ (y:aI):Bool :=
 ((gE y.Index) && (gE y.Delivered))
theorem aBc {G:bA} {Lf:List Ent} {w:World} (y:aI)   (hc:Ctx G (Lf) w) {D:Bool} (hF:oQ y=D):Calls Tryz.prog 39 #[.agg #[i6 y.Index.Lo,i6 y.Index.Hi,i6 y.Delivered.Lo,i6 y.Delivered.Hi,.bool y.Spill]] w (fun e w=>e=.returned (.bool D)∧Ctx G (Lf) w):=by
 unfold oQ at hF
 refine cC Tryz.func39 rfl Tryz.ntmps39 rfl fun a hf=>zS fun K h=>zB hf hc rfl fun B a w hf hc=>sp 1 hf rfl fun a hf=>zT h ?_
 refine zS fun K h=>zP hf rfl (pFA zU rfl) fun a hf=>zN hf hc eY m0 rfl fun a w hf hc=>zQ (v:=.bool (gE y.Index)) hf hc aN3 rfl (fun w hc=>wK y.Index hc rfl) fun a w hf hc=>sp 1 hf rfl fun a hf=>fL 4 (fun a=>Has 11 a [(1,pq B),(2,.bool false),(3,pq B),(4,.agg #[i6 y.Index.Lo,i6 y.Index.Hi]),(5,.bool (gE y.Index)),(6,.bool (gE y.Index)),(10,.bool ((gE y.Index) && (gE y.Delivered)))]) hc ?_ ?_
 ·cases hb:(gE y.Index)
  ·rw [hb] at hf
   refine stS hf rfl rfl rfl fun a hf=>stS hf rfl rfl rfl fun a hf=>stS hf rfl rfl rfl fun a hf=>sp 1 hf rfl fun a hf=>aQ ⟨hf.kp rfl,hc⟩
  ·rw [hb] at hf
   refine zP hf rfl (pFA zK rfl) fun a hf=>zN hf hc eY m0 rfl fun a w hf hc=>zQ (v:=.bool (gE y.Delivered)) hf hc aN3 rfl (fun w hc=>wK y.Delivered hc rfl) fun a w hf hc=>sp 1 hf rfl fun a hf=>aQ ⟨hf.kp rfl,hc⟩
 intro a w ⟨hf,hc⟩
 refine sp 1 hf rfl fun a hf=>zT h ?_
 refine wp_ret ?_
 obtain rfl:=hF
 replace hc:=hc.drop k0
 exact zO1 Tryz.results39 hf rfl ⟨rfl,hc⟩

def dY (x:aI):Bool :=
 (!(oQ (⟨x.Index,x.Delivered,x.Spill⟩:aI)))
theorem sJ {G:bA} {Lf:List Ent} {w:World} (x:aI) {b_:Nat}  (hc:Ctx G (.box b_ [.func (.func 39) #[] #[]] 116::Lf) w) {B:Bool} (hF:dY x=B):Calls Tryz.prog 73 #[.agg #[i6 x.Index.Lo,i6 x.Index.Hi,i6 x.Delivered.Lo,i6 x.Delivered.Hi,.bool x.Spill],pq b_] w (fun e w=>e=.returned (.bool B)∧Ctx G (.box b_ [.func (.func 39) #[] #[]] 116::Lf) w):=by
 unfold dY at hF
 refine cC Tryz.func73 rfl Tryz.ntmps73 rfl fun a hf=>zS fun K h=>zB hf hc rfl fun D a w hf hc=>sp 1 hf rfl fun a hf=>zT h ?_
 refine zS fun K h=>zL hf hc aPc m1 rfl fun a w hf hc=>zN hf hc aJn m0 rfl fun a w hf hc=>zQ (v:=.bool (oQ (⟨x.Index,x.Delivered,x.Spill⟩:aI))) hf hc en_39 rfl (fun w hc=>aBc (⟨x.Index,x.Delivered,x.Spill⟩:aI) hc rfl) fun a w hf hc=>sp 2 hf rfl fun a hf=>zT h ?_
 refine wp_ret ?_
 obtain rfl:=hF
 replace hc:=hc.drop k0
 exact zO1 Tryz.results73 hf rfl ⟨rfl,hc⟩

def eL (N:Nat) (s_:List aI) (x:Int):Option (dA (Int) (Int)) :=
 cond (decide (x < ((s_.length:Nat):Int)))
 (Option.bind (cM s_ x) fun B=>
 cond (dY B)
 (some (.ret x))
 (some (.cont (W (x + 1)))))
 (some (.brk x))
def dM (N:Nat) (s_:List aI):Option (Int) :=
 Option.bind (bN (fun s4=>eL N s_ s4) N 0) fun x4=>
 exK x4 (fun s4=>some (-1)) some
theorem mG {N:Nat} {G:bA} {Lf:List Ent} {w:World} (s_:List aI) {I:Option Addr} {H:Nat} {b_:Nat} (O:Rd G 5 I H (s_.map aZ)) (hc:Ctx G (.box b_ [.func (.func 39) #[] #[]] 116::Lf) w) {J:Int} (hF:dM N s_=some J):Calls Tryz.prog 104 #[.slice I s_.length H,.func (.func 73) #[] #[pq b_]] w (fun e w=>e=.returned (i6 J)∧Ctx G (.box b_ [.func (.func 39) #[] #[]] 116::Lf) w):=by
 unfold dM at hF
 refine cC Tryz.func104 rfl Tryz.ntmps104 rfl fun a hf=>zS fun K h=>sp 1 hf rfl fun a hf=>zT h ?_
 refine wp_seq_k fun K2 h2=>zS fun K h=>sp 1 hf rfl fun a hf=>zP hf rfl (cP Tryz.underlying30 rfl) fun a hf=>sp 1 hf rfl fun a hf=>zT h ?_
 refine wp_block ?_
 obtain ⟨x4,U,hF⟩:=aC hF
 let S4:Int→Act→World→Prop:=(fun (zz:Int) a w=>Has 19 a [(0,.slice I s_.length H),(1,.func (.func 73) #[] #[pq b_]),(7,i6 ((s_.length:Nat):Int)),(8,i6 zz)]∧Ctx G (.box b_ [.func (.func 39) #[] #[]] 116::Lf) w)
 have X:∀ (zz:Int) a w,x4=.go zz→S4 zz a w→K2 a w:=by
  rintro x a w rfl ⟨hf,hc⟩
  replace hF:=cJ hF
  refine h2 _ _ ?_
  refine zS fun K h=>sp 1 hf rfl fun a hf=>zT h ?_
  refine wp_ret ?_
  obtain rfl:=sj hF
  exact zO1 Tryz.results104 hf rfl ⟨rfl,hc⟩
 have R:∀ r,x4=.out r→r=J:=by
  rintro r rfl
  exact sj hF
 refine dQ N (dP (S:=S4) (x:=x4) ?_ N 0 _ _ ⟨hf.kp rfl,hc⟩ U)
 clear hF hf hc
 rintro x Y a w KB4 ⟨hf,hc⟩ hF B V
 unfold eL at hF
 refine zS fun K h=>sp 1 hf rfl fun a hf=>zT h ?_
 refine wp_seq_k fun K7 h7=>zI hf rfl hF ?_ ?_ <;> clear hF <;> intro hF
 ·refine wp_skip ?_
  refine h7 _ _ ?_
  refine wp_seq_k fun K8 h8=>wp_block ?_
  refine zS fun K h=>sp 2 hf rfl fun a hf=>zT h ?_
  refine zS fun K h=>sp 3 hf rfl fun a hf=>?_
  obtain ⟨D,M,hF⟩:=aC hF
  obtain ⟨Z,o,qa,qp⟩:=O.atm M
  refine zP hf rfl (pIA Tryz.underlying30 aHk rfl rfl qa) fun a hf=>zE hf hc rfl (kK (vs:=[i6 D.Index.Lo,i6 D.Index.Hi,i6 D.Delivered.Lo,i6 D.Delivered.Hi,.bool D.Spill]) aJn rfl rfl (dF qp (n:=5) (o':=0) rfl)) fun a w hf hc=>zQ (v:=.bool (dY D)) hf hc en_73 rfl (fun w hc=>(sJ D (hc.pick k0) rfl).mono fun e w h=>⟨h.1,(h.2.unpick k0)⟩) fun a w hf hc=>zT h ?_
  refine zI hf rfl hF ?_ ?_ <;> clear hF <;> intro hF
  ·refine zS fun K h=>sp 2 hf rfl fun a hf=>zT h ?_
   refine wp_ret ?_
   refine cI ?_
   refine aU ?_
   refine aU ?_
   have he:=sj hF
   rw [← he] at B
   replace hF:=R _ B
   refine cI ?_
   refine aU ?_
   obtain rfl:=hF
   exact zO1 Tryz.results104 hf rfl ⟨rfl,hc⟩
  ·refine wp_skip ?_
   refine h8 _ _ ?_
   refine cX ?_
   refine sp 2 hf rfl fun a hf=>aQ ?_
   exact V (W (x + 1)) _ _ (sj hF).symm ⟨hf.kp rfl,hc⟩
 ·refine wp_exit ?_
  refine bI ?_
  refine bI ?_
  have he:=sj hF
  rw [← he] at B
  refine fB ?_
  exact X _ _ _ B ⟨hf.kp rfl,hc⟩

def cY (N:Nat) (s_:List aI):Option (Bool) :=
 Option.bind (dM N s_) fun r=>
 some (decide (0≤r))
theorem lL {N:Nat} {G:bA} {Lf:List Ent} {w:World} (s_:List aI) {D:Option Addr} {B:Nat} {b_:Nat} (I:Rd G 5 D B (s_.map aZ)) (hc:Ctx G (.box b_ [.func (.func 39) #[] #[]] 116::Lf) w) {H:Bool} (hF:cY N s_=some H):Calls Tryz.prog 72 #[.slice D s_.length B,.func (.func 73) #[] #[pq b_]] w (fun e w=>e=.returned (.bool H)∧Ctx G (.box b_ [.func (.func 39) #[] #[]] 116::Lf) w):=by
 unfold cY at hF
 refine cC Tryz.func72 rfl Tryz.ntmps72 rfl fun a hf=>zS fun K h=>sp 1 hf rfl fun a hf=>zT h ?_
 refine zS fun K h=>sp 2 hf rfl fun a hf=>?_
 obtain ⟨r,hr,hF⟩:=aC hF
 refine zQ (v:=i6 r) hf hc aPz rfl (fun w hc=>(mG s_ I (hc.pick k0) hr).mono fun e w h=>⟨h.1,(h.2.unpick k0)⟩) fun a w hf hc=>sp 2 hf rfl fun a hf=>zT h ?_
 refine wp_ret ?_
 obtain rfl:=sj hF
 exact zO1 Tryz.results72 hf rfl ⟨rfl,hc⟩

def gS (N:Nat) (l:List aI):Option (Bool) :=
 Option.bind (cY N l) fun r=>
 some (!r)
theorem tI {N:Nat} {G:bA} {Lf:List Ent} {w:World} (l:List aI) {H:Option Addr} {D:Nat} (I:Rd G 5 H D (l.map aZ)) (hc:Ctx G (Lf) w) {B:Bool} (hF:gS N l=some B):Calls Tryz.prog 38 #[.slice H l.length D,.func (.func 39) #[] #[]] w (fun e w=>e=.returned (.bool B)∧Ctx G (Lf) w):=by
 unfold gS at hF
 refine cC Tryz.func38 rfl Tryz.ntmps38 rfl fun a hf=>zS fun K h=>zB hf hc rfl fun J a w hf hc=>sp 1 hf rfl fun a hf=>zT h ?_
 refine zS fun K h=>sp 1 hf rfl fun a hf=>zP hf rfl (pMF (us:=[pq J]) rfl rfl) fun a hf=>?_
 obtain ⟨r,hr,hF⟩:=aC hF
 refine zQ (v:=.bool r) hf hc en_72 rfl (fun w hc=>(lL l I (hc.pick k0) hr).mono fun e w h=>⟨h.1,(h.2.unpick k0)⟩) fun a w hf hc=>sp 2 hf rfl fun a hf=>zT h ?_
 refine wp_ret ?_
 obtain rfl:=sj hF
 replace hc:=hc.drop k0
 exact zO1 Tryz.results38 hf rfl ⟨rfl,hc⟩

def pE (N:Nat) (b_:bB) (start:aF) (years:List aI):Option (Int) :=
 Option.bind (lH N b_) fun r=>
 cond (r != 0)
 (some r)
 (cond ((!(aW start.Lo (-1000000000) start.Hi)) || (decide (1000000000 < start.Hi)))
 (some 4)
 (cond (decide (40 < ((years.length:Nat):Int)))
 (some 3)
 (Option.bind (gS N years) fun B=>
 cond (!B)
 (some 100)
 (some 0))))
theorem xD {N:Nat} {G:bA} {Lf:List Ent} {w:World} (b_:bB) (start:aF) (years:List aI) {D:Option Addr} {B:Nat} {H:Option Addr} {I:Nat} (J:Rd G 2 D B (b_.Table.map bK)) (M:Rd G 5 H I (years.map aZ)) (hc:Ctx G (Lf) w) {R:Int} (hF:pE N b_ start years=some R):Calls Tryz.prog 20 #[.agg #[.slice D b_.Table.length B,i6 b_.Credit],.agg #[i6 start.Lo,i6 start.Hi],.slice H years.length I] w (fun e w=>e=.returned (i6 R)∧Ctx G (Lf) w):=by
 unfold pE at hF
 refine cC Tryz.func20 rfl Tryz.ntmps20 rfl fun a hf=>zS fun K h=>zB hf hc rfl fun V a w hf hc=>zB hf hc rfl fun O a w hf hc=>sp 1 hf rfl fun a hf=>zT h ?_
 refine zS fun K h=>zN hf hc wA m1 rfl fun a w hf hc=>?_
 obtain ⟨r,hr,hF⟩:=aC hF
 refine zQ (v:=i6 r) hf hc en_37 rfl (fun w hc=>xH b_ J hc hr) fun a w hf hc=>sp 1 hf rfl fun a hf=>zT h ?_
 refine wp_seq_k fun K3 h3=>wp_block ?_
 refine zS fun K h=>sp 3 hf rfl fun a hf=>zT h ?_
 refine zI hf rfl hF ?_ ?_ <;> clear hF <;> intro hF
 ·refine zS fun K h=>sp 2 hf rfl fun a hf=>zT h ?_
  refine wp_ret ?_
  refine cI ?_
  refine aU ?_
  obtain rfl:=sj hF
  replace hc:=(hc.drop k1).drop k0
  exact zO1 Tryz.results20 hf rfl ⟨rfl,hc⟩
 ·refine zS fun K h=>zP hf rfl (pFA iH rfl) fun a hf=>zL hf hc aX m0 rfl fun a w hf hc=>zP hf rfl (pFA fQ rfl) fun a hf=>zL hf hc aX m0 rfl fun a w hf hc=>zQ (v:=.bool (aW start.Lo (-1000000000) start.Hi)) hf hc wH rfl (fun w hc=>iA start.Lo (-1000000000) start.Hi hc rfl) fun a w hf hc=>sp 2 hf rfl fun a hf=>fL 4 (fun a=>Has 34 a [(2,.slice H years.length I),(4,pq O),(15,pq O),(16,i6 start.Lo),(17,.pointer (some ⟨O,1,none⟩)),(18,i6 start.Hi),(19,.bool (aW start.Lo (-1000000000) start.Hi)),(20,.bool (!(aW start.Lo (-1000000000) start.Hi))),(21,.bool (!(aW start.Lo (-1000000000) start.Hi))),(25,.bool ((!(aW start.Lo (-1000000000) start.Hi)) || (decide (1000000000 < start.Hi))))]) hc ?_ ?_
  ·cases hb:(!(aW start.Lo (-1000000000) start.Hi))
   ·rw [hb] at hf
    refine zP hf rfl (pFA fQ rfl) fun a hf=>zL hf hc aX m0 rfl fun a w hf hc=>sp 2 hf rfl fun a hf=>aQ ⟨hf.kp rfl,hc⟩
   ·rw [hb] at hf
    refine stS hf rfl rfl rfl fun a hf=>stS hf rfl rfl rfl fun a hf=>stS hf rfl rfl rfl fun a hf=>sp 1 hf rfl fun a hf=>aQ ⟨hf.kp rfl,hc⟩
  intro a w ⟨hf,hc⟩
  refine sp 1 hf rfl fun a hf=>zT h ?_
  refine zI hf rfl hF ?_ ?_ <;> clear hF <;> intro hF
  ·refine zS fun K h=>sp 1 hf rfl fun a hf=>zT h ?_
   refine wp_ret ?_
   refine cI ?_
   refine aU ?_
   obtain rfl:=sj hF
   replace hc:=(hc.drop k1).drop k0
   exact zO1 Tryz.results20 hf rfl ⟨rfl,hc⟩
  ·refine zS fun K h=>sp 1 hf rfl fun a hf=>zP hf rfl (cP Tryz.underlying30 rfl) fun a hf=>sp 2 hf rfl fun a hf=>zT h ?_
   refine zI hf rfl hF ?_ ?_ <;> clear hF <;> intro hF
   ·refine zS fun K h=>sp 1 hf rfl fun a hf=>zT h ?_
    refine wp_ret ?_
    refine cI ?_
    refine aU ?_
    obtain rfl:=sj hF
    replace hc:=(hc.drop k1).drop k0
    exact zO1 Tryz.results20 hf rfl ⟨rfl,hc⟩
   ·refine zS fun K h=>sp 1 hf rfl fun a hf=>?_
    obtain ⟨U,S,hF⟩:=aC hF
    refine zQ (v:=.bool U) hf hc en_38 rfl (fun w hc=>tI years M hc S) fun a w hf hc=>sp 2 hf rfl fun a hf=>zT h ?_
    refine zI hf rfl hF ?_ ?_ <;> clear hF <;> intro hF
    ·refine zS fun K h=>sp 1 hf rfl fun a hf=>zT h ?_
     refine wp_ret ?_
     refine cI ?_
     refine aU ?_
     obtain rfl:=sj hF
     replace hc:=(hc.drop k1).drop k0
     exact zO1 Tryz.results20 hf rfl ⟨rfl,hc⟩
    ·refine wp_skip ?_
     refine h3 _ _ ?_
     refine zS fun K h=>sp 1 hf rfl fun a hf=>zT h ?_
     refine wp_ret ?_
     obtain rfl:=sj hF
     replace hc:=(hc.drop k1).drop k0
     exact zO1 Tryz.results20 hf rfl ⟨rfl,hc⟩

def gV (N:Nat) (b_:bB) (B:Int):Option ((Int→Option Int) × Int × Int) :=
 some ((fun _=>none:Int→Option Int),b_.Credit,B)
theorem nR {N:Nat} {G:bA} {Lf:List Ent} {w:World} (b_:bB) (I:Int) {D:Option Addr} {B:Nat} (J:Rd G 2 D B (b_.Table.map bK)) (hc:Ctx G (Lf) w) {H:(Int→Option Int) × Int × Int} (hF:gV N b_ I=some H):Calls Tryz.prog 21 #[.agg #[.slice D b_.Table.length B,i6 b_.Credit],i6 I] w (fun e w=>∃ (O:Nat) (R:Nat) (M:Nat) (V:Nat),e=.returned (.func (.func 41) #[] #[pq O,pq M,pq V])∧Ctx G (.im R (fun j=>(H.1 j).map (Value.int .i64)) none::.box O [.map (some R)] 117::.box M [.slice D b_.Table.length B,i6 H.2.1] 27::.box V [i6 H.2.2] 3::Lf) w):=by
 unfold gV at hF
 refine cC Tryz.func21 rfl Tryz.ntmps21 rfl fun a hf=>zS fun K h=>zB hf hc rfl fun X a w hf hc=>zB hf hc rfl fun S a w hf hc=>sp 1 hf rfl fun a hf=>zT h ?_
 refine zS fun K h=>stMM hf hc rfl rfl fun mb a w hf hc=>?_
 replace hc:Ctx _ (.im mb (fun j=>((fun _=>none:Int→Option Int) j).map (Value.int .i64)) none::_) w:=hc
 refine aHw (cs:=[.map none]) hf hc rfl rfl aQd rfl fun U a w hf hc=>aKa (vs:=[.map (some mb)]) hf hc rfl rfl rfl rfl aO8 rfl rfl u0 fun w hc=>zT h ?_
 refine zS fun K h=>zP hf rfl (pMF (us:=[pq U,pq X,pq S]) rfl rfl) fun a hf=>sp 1 hf rfl fun a hf=>zT h ?_
 refine wp_ret ?_
 obtain rfl:=sj hF
 replace hc:=(((hc.pick k2).pick k3).pick k2).pick k3
 exact zO1 Tryz.results21 hf rfl ⟨U,mb,X,S,rfl,hc⟩

def aFh  : Unit :=
 ()
theorem aF5 {G:bA} {Lf:List Ent} {w:World}    (hc:Ctx G (Lf) w) {B:Unit} (hF:aFh=B):Calls Tryz.prog 22 #[] w (fun e w=>e=.returned (.agg #[.func (.func 43) #[] #[],.func (.func 44) #[] #[]])∧Ctx G (Lf) w):=by
 unfold aFh at hF
 refine cC Tryz.func22 rfl Tryz.ntmps22 rfl fun a hf=>zS fun K h=>zA hf hc aJz rfl fun D a w hf hc=>zT h ?_
 refine zS fun K h=>zP hf rfl (bJ (cells:=[.func (.func 43) #[] #[],.func (.func 44) #[] #[]]) aOa rfl rfl) fun a hf=>zW hf hc aJg u0 rfl fun w hc=>zT h ?_
 refine wp_ret ?_
 obtain rfl:=hF
 exact nK (by simp) rfl Tryz.results22 hf hc (dX (vs:=[.func (.func 43) #[] #[],.func (.func 44) #[] #[]]) aOy rfl rfl (cE (n:=2) m0 rfl)) ⟨rfl,(hc.drop k0)⟩

def aD5  : Unit :=
 ()
theorem aEp {G:bA} {Lf:List Ent} {w:World}    (hc:Ctx G (Lf) w) {B:Unit} (hF:aD5=B):Calls Tryz.prog 23 #[] w (fun e w=>e=.returned (.agg #[.func (.func 45) #[] #[],.func (.func 46) #[] #[]])∧Ctx G (Lf) w):=by
 unfold aD5 at hF
 refine cC Tryz.func23 rfl Tryz.ntmps23 rfl fun a hf=>zS fun K h=>zA hf hc aJz rfl fun D a w hf hc=>zT h ?_
 refine zS fun K h=>zP hf rfl (bJ (cells:=[.func (.func 45) #[] #[],.func (.func 46) #[] #[]]) aOa rfl rfl) fun a hf=>zW hf hc aJg u0 rfl fun w hc=>zT h ?_
 refine wp_ret ?_
 obtain rfl:=hF
 exact nK (by simp) rfl Tryz.results23 hf hc (dX (vs:=[.func (.func 45) #[] #[],.func (.func 46) #[] #[]]) aOy rfl rfl (cE (n:=2) m0 rfl)) ⟨rfl,(hc.drop k0)⟩

def lB (s_:aF):Int :=
 s_.Lo
theorem aD7 {G:bA} {Lf:List Ent} {w:World} (s_:aF)   (hc:Ctx G (Lf) w) {B:Int} (hF:lB s_=B):Calls Tryz.prog 43 #[.agg #[i6 s_.Lo,i6 s_.Hi]] w (fun e w=>e=.returned (i6 B)∧Ctx G (Lf) w):=by
 unfold lB at hF
 refine cC Tryz.func43 rfl Tryz.ntmps43 rfl fun a hf=>zS fun K h=>zB hf hc rfl fun D a w hf hc=>sp 1 hf rfl fun a hf=>zT h ?_
 refine zS fun K h=>zP hf rfl (pFA iH rfl) fun a hf=>zL hf hc aX m0 rfl fun a w hf hc=>sp 1 hf rfl fun a hf=>zT h ?_
 refine wp_ret ?_
 obtain rfl:=hF
 replace hc:=hc.drop k0
 exact zO1 Tryz.results43 hf rfl ⟨rfl,hc⟩

def kY (s_:aF):Int :=
 s_.Hi
theorem aC8 {G:bA} {Lf:List Ent} {w:World} (s_:aF)   (hc:Ctx G (Lf) w) {B:Int} (hF:kY s_=B):Calls Tryz.prog 44 #[.agg #[i6 s_.Lo,i6 s_.Hi]] w (fun e w=>e=.returned (i6 B)∧Ctx G (Lf) w):=by
 unfold kY at hF
 refine cC Tryz.func44 rfl Tryz.ntmps44 rfl fun a hf=>zS fun K h=>zB hf hc rfl fun D a w hf hc=>sp 1 hf rfl fun a hf=>zT h ?_
 refine zS fun K h=>zP hf rfl (pFA fQ rfl) fun a hf=>zL hf hc aX m0 rfl fun a w hf hc=>sp 1 hf rfl fun a hf=>zT h ?_
 refine wp_ret ?_
 obtain rfl:=hF
 replace hc:=hc.drop k0
 exact zO1 Tryz.results44 hf rfl ⟨rfl,hc⟩

def mH (p_:bL) (x:Int):Bool :=
 (decide (x < p_.Index))
theorem wP {G:bA} {Lf:List Ent} {w:World} (p_:bL) (x:Int) {b_:Nat}  (hc:Ctx G (.box b_ [i6 x] 3::Lf) w) {B:Bool} (hF:mH p_ x=B):Calls Tryz.prog 75 #[.agg #[i6 p_.Index,i6 p_.Due],pq b_] w (fun e w=>e=.returned (.bool B)∧Ctx G (.box b_ [i6 x] 3::Lf) w):=by
 unfold mH at hF
 refine cC Tryz.func75 rfl Tryz.ntmps75 rfl fun a hf=>zS fun K h=>zB hf hc rfl fun D a w hf hc=>sp 1 hf rfl fun a hf=>zT h ?_
 refine zS fun K h=>zP hf rfl (pFA vV rfl) fun a hf=>zL hf hc aX m0 rfl fun a w hf hc=>zL hf hc aX m1 rfl fun a w hf hc=>sp 2 hf rfl fun a hf=>zT h ?_
 refine wp_ret ?_
 obtain rfl:=hF
 replace hc:=hc.drop k0
 exact zO1 Tryz.results75 hf rfl ⟨rfl,hc⟩

def dU (N:Nat) (s_:List bL) (f_:Int) (x:Int):Option (dA (Int) (Int)) :=
 cond (decide (x < ((s_.length:Nat):Int)))
 (Option.bind (cM s_ x) fun B=>
 cond (mH B f_)
 (some (.ret x))
 (some (.cont (W (x + 1)))))
 (some (.brk x))
def cG (N:Nat) (s_:List bL) (f_:Int):Option (Int) :=
 Option.bind (bN (fun s4=>dU N s_ f_ s4) N 0) fun x4=>
 exK x4 (fun s4=>some (-1)) some
theorem lD {N:Nat} {G:bA} {Lf:List Ent} {w:World} (s_:List bL) (f_:Int) {H:Option Addr} {D:Nat} {b_:Nat} (O:Rd G 2 H D (s_.map bK)) (hc:Ctx G (.box b_ [i6 f_] 3::Lf) w) {J:Int} (hF:cG N s_ f_=some J):Calls Tryz.prog 74 #[.slice H s_.length D,.func (.func 75) #[] #[pq b_]] w (fun e w=>e=.returned (i6 J)∧Ctx G (.box b_ [i6 f_] 3::Lf) w):=by
 unfold cG at hF
 refine cC Tryz.func74 rfl Tryz.ntmps74 rfl fun a hf=>zS fun K h=>sp 1 hf rfl fun a hf=>zT h ?_
 refine wp_seq_k fun K2 h2=>zS fun K h=>sp 1 hf rfl fun a hf=>zP hf rfl (cP Tryz.underlying25 rfl) fun a hf=>sp 1 hf rfl fun a hf=>zT h ?_
 refine wp_block ?_
 obtain ⟨x4,U,hF⟩:=aC hF
 let S4:Int→Act→World→Prop:=(fun (zz:Int) a w=>Has 19 a [(0,.slice H s_.length D),(1,.func (.func 75) #[] #[pq b_]),(7,i6 ((s_.length:Nat):Int)),(8,i6 zz)]∧Ctx G (.box b_ [i6 f_] 3::Lf) w)
 have X:∀ (zz:Int) a w,x4=.go zz→S4 zz a w→K2 a w:=by
  rintro x a w rfl ⟨hf,hc⟩
  replace hF:=cJ hF
  refine h2 _ _ ?_
  refine zS fun K h=>sp 1 hf rfl fun a hf=>zT h ?_
  refine wp_ret ?_
  obtain rfl:=sj hF
  exact zO1 Tryz.results74 hf rfl ⟨rfl,hc⟩
 have R:∀ r,x4=.out r→r=J:=by
  rintro r rfl
  exact sj hF
 refine dQ N (dP (S:=S4) (x:=x4) ?_ N 0 _ _ ⟨hf.kp rfl,hc⟩ U)
 clear hF hf hc
 rintro x Y a w KB4 ⟨hf,hc⟩ hF B V
 unfold dU at hF
 refine zS fun K h=>sp 1 hf rfl fun a hf=>zT h ?_
 refine wp_seq_k fun K7 h7=>zI hf rfl hF ?_ ?_ <;> clear hF <;> intro hF
 ·refine wp_skip ?_
  refine h7 _ _ ?_
  refine wp_seq_k fun K8 h8=>wp_block ?_
  refine zS fun K h=>sp 2 hf rfl fun a hf=>zT h ?_
  refine zS fun K h=>sp 3 hf rfl fun a hf=>?_
  obtain ⟨I,M,hF⟩:=aC hF
  obtain ⟨Z,o,qa,qp⟩:=O.atm M
  refine zP hf rfl (pIA Tryz.underlying25 uZ rfl rfl qa) fun a hf=>zE hf hc rfl (kK (vs:=[i6 I.Index,i6 I.Due]) aD8 rfl rfl (dF qp (n:=2) (o':=0) rfl)) fun a w hf hc=>zQ (v:=.bool (mH I f_)) hf hc en_75 rfl (fun w hc=>(wP I f_ (hc.pick k0) rfl).mono fun e w h=>⟨h.1,(h.2.unpick k0)⟩) fun a w hf hc=>zT h ?_
  refine zI hf rfl hF ?_ ?_ <;> clear hF <;> intro hF
  ·refine zS fun K h=>sp 2 hf rfl fun a hf=>zT h ?_
   refine wp_ret ?_
   refine cI ?_
   refine aU ?_
   refine aU ?_
   have he:=sj hF
   rw [← he] at B
   replace hF:=R _ B
   refine cI ?_
   refine aU ?_
   obtain rfl:=hF
   exact zO1 Tryz.results74 hf rfl ⟨rfl,hc⟩
  ·refine wp_skip ?_
   refine h8 _ _ ?_
   refine cX ?_
   refine sp 2 hf rfl fun a hf=>aQ ?_
   exact V (W (x + 1)) _ _ (sj hF).symm ⟨hf.kp rfl,hc⟩
 ·refine wp_exit ?_
  refine bI ?_
  refine bI ?_
  have he:=sj hF
  rw [← he] at B
  refine fB ?_
  exact X _ _ _ B ⟨hf.kp rfl,hc⟩

def lS (N:Nat) (b_:bB) (D:Int):Option (Int) :=
 Option.bind (cG N b_.Table D) fun r=>
 cond (r == 0)
 (Option.bind (cM b_.Table 0) fun J=>
 some J.Due)
 (cond (r == (-1))
 (Option.bind (cM b_.Table (W (((b_.Table.length:Nat):Int) - 1))) fun I=>
 some I.Due)
 (Option.bind (cM b_.Table (W (r - 1))) fun B=>
 Option.bind (cM b_.Table r) fun H=>
 Option.bind (nz (W (H.Index - B.Index))) fun un=>
 some (W (B.Due + (W ((W ((W (H.Due - B.Due)) * (W (D - B.Index)))).tdiv (W (H.Index - B.Index))))))))
theorem yF {N:Nat} {G:bA} {Lf:List Ent} {w:World} (b_:bB) (I:Int) {D:Option Addr} {B:Nat} (H:Rd G 2 D B (b_.Table.map bK)) (hc:Ctx G (Lf) w) {i:Int} (hF:lS N b_ I=some i):Calls Tryz.prog 42 #[.agg #[.slice D b_.Table.length B,i6 b_.Credit],i6 I] w (fun e w=>e=.returned (i6 i)∧Ctx G (Lf) w):=by
 unfold lS at hF
 refine cC Tryz.func42 rfl Tryz.ntmps42 rfl fun a hf=>zS fun K h=>zB hf hc rfl fun V a w hf hc=>zB hf hc rfl fun U a w hf hc=>sp 1 hf rfl fun a hf=>zT h ?_
 refine zS fun K h=>zP hf rfl (pFA oD rfl) fun a hf=>zL hf hc wJ m1 rfl fun a w hf hc=>zP hf rfl (pMF (us:=[pq U]) rfl rfl) fun a hf=>?_
 obtain ⟨r,hr,hF⟩:=aC hF
 refine zQ (v:=i6 r) hf hc aOj rfl (fun w hc=>(lD b_.Table I H (hc.pick k0) hr).mono fun e w h=>⟨h.1,(h.2.unpick k0)⟩) fun a w hf hc=>sp 1 hf rfl fun a hf=>zT h ?_
 refine wp_seq_k fun K3 h3=>zS fun K h=>sp 1 hf rfl fun a hf=>zT h ?_
 refine wp_block ?_
 refine zS fun K h=>sp 2 hf rfl fun a hf=>zT h ?_
 refine zI hf rfl hF ?_ ?_ <;> clear hF <;> intro hF
 ·refine zS fun K h=>zP hf rfl (pFA oD rfl) fun a hf=>zL hf hc wJ m1 rfl fun a w hf hc=>?_
  obtain ⟨ap,x,hF⟩:=aC hF
  obtain ⟨ar,o,qa,qp⟩:=H.atm x
  refine zP hf rfl (pIA Tryz.underlying25 uZ rfl rfl qa) fun a hf=>zP hf rfl (pFA tU rfl) fun a hf=>zE hf hc rfl (cV aX rfl (kX (j:=1) qp rfl)) fun a w hf hc=>sp 1 hf rfl fun a hf=>zT h ?_
  refine wp_ret ?_
  refine cI ?_
  refine aU ?_
  obtain rfl:=sj hF
  replace hc:=(hc.drop k1).drop k0
  exact zO1 Tryz.results42 hf rfl ⟨rfl,hc⟩
 ·refine zS fun K h=>sp 2 hf rfl fun a hf=>zT h ?_
  refine zI hf rfl hF ?_ ?_ <;> clear hF <;> intro hF
  ·refine zS fun K h=>zP hf rfl (pFA oD rfl) fun a hf=>zL hf hc wJ m1 rfl fun a w hf hc=>zP hf rfl (pFA oD rfl) fun a hf=>zL hf hc wJ m1 rfl fun a w hf hc=>zP hf rfl (cP Tryz.underlying25 rfl) fun a hf=>sp 1 hf rfl fun a hf=>?_
   obtain ⟨an,m,hF⟩:=aC hF
   obtain ⟨aq,au,k,q⟩:=H.atm m
   refine zP hf rfl (pIA Tryz.underlying25 uZ rfl rfl k) fun a hf=>zP hf rfl (pFA tU rfl) fun a hf=>zE hf hc rfl (cV aX rfl (kX (j:=1) q rfl)) fun a w hf hc=>sp 1 hf rfl fun a hf=>zT h ?_
   refine wp_ret ?_
   refine cI ?_
   refine aU ?_
   obtain rfl:=sj hF
   replace hc:=(hc.drop k1).drop k0
   exact zO1 Tryz.results42 hf rfl ⟨rfl,hc⟩
  ·refine wp_skip ?_
   refine h3 _ _ ?_
   refine wp_seq_k fun K9 h9=>?_
   obtain ⟨M,p,hF⟩:=aC hF
   obtain ⟨ak,aj,aa,y⟩:=H.atm p
   obtain ⟨J,s,hF⟩:=aC hF
   obtain ⟨ai,ab,t,z⟩:=H.atm s
   replace hc:=hc.nilRow 0 0
   replace hc:=hc.nilRow 0 0
   refine cU (fun θ=>[⟨none,none,2,pq V⟩,⟨none,none,3,pq U⟩,⟨none,none,5,i6 r⟩,⟨some 0,none,31,pq V⟩,⟨some 1,none,32,.slice D b_.Table.length B⟩,⟨some 2,none,33,i6 r⟩,⟨some 3,none,34,i6 (W (r - 1))⟩,⟨some 4,none,35,.pointer (some ⟨ak,aj,none⟩)⟩,⟨some 5,none,36,.agg #[i6 M.Index,i6 M.Due]⟩,⟨some 6,none,37,pq V⟩,⟨some 7,none,38,.slice D b_.Table.length B⟩,⟨some 8,none,39,i6 r⟩,⟨some 9,none,40,.pointer (some ⟨ai,ab,none⟩)⟩,⟨some 10,none,41,.agg #[i6 J.Index,i6 J.Due]⟩,⟨some 11,none,6,.pointer (some ⟨(θ 88).b,0,none⟩)⟩,⟨some 12,none,7,.pointer (some ⟨(θ 96).b,0,none⟩)⟩]) (fun E θ=>(bif E 14 then .box (θ 96).b [i6 J.Index,i6 J.Due] 69 else bif E 12 then .box (θ 96).b [i6 0,i6 0] 69 else .row none 0 [] 0 0)::(bif E 13 then .box (θ 88).b [i6 M.Index,i6 M.Due] 69 else bif E 11 then .box (θ 88).b [i6 0,i6 0] 69 else .row none 0 [] 0 0)::.box U [i6 I] 3::.box V [.slice D b_.Table.length B,i6 b_.Credit] 27::Lf) [(13,11),(14,12)] (fun a w=>∃ (d:Nat) (X:Nat),Has 61 a [(3,pq U),(6,pq d),(7,pq X)]∧Ctx G (.box X [i6 J.Index,i6 J.Due] 69::.box d [i6 M.Index,i6 M.Due] 69::.box U [i6 I] 3::.box V [.slice D b_.Table.length B,i6 b_.Credit] 27::Lf) w) aT (by kernel_rfl) (by kernel_rfl) (dL.of hf ⟨rfl,rfl,rfl,trivial,trivial,trivial,trivial,trivial,trivial,trivial,trivial,trivial,trivial,trivial,trivial,trivial,trivial⟩) hc ⟨?_,?_,?_,?_,?_,?_,?_,?_,?_,?_,?_,?_,?_,?_,?_,trivial⟩ ?_ ?_
   ·intro E θ a w hD hi hp he hc
    have hf:=he.h0.mT he 0 rfl
    refine zP hf rfl (pFA oD rfl) fun a hf=>zD θ he hi hf 3 rfl rfl rfl hc
   ·intro E θ a w hD hi hp he hc
    have e0:=hp.o 0 rfl
    have hf:=he.h0.mP he 3 rfl e0
    refine zL hf hc wJ m3 rfl fun a w hf hc=>zD θ he hi hf 4 rfl rfl rfl hc
   ·intro E θ a w hD hi hp he hc
    have hf:=he.h0.mT he 2 rfl
    refine sp 1 hf rfl fun a hf=>zD θ he hi hf 5 rfl rfl rfl hc
   ·intro E θ a w hD hi hp he hc
    have e2:=hp.o 2 rfl
    have hf:=he.h0.mP he 5 rfl e2
    refine sp 1 hf rfl fun a hf=>zD θ he hi hf 6 rfl rfl rfl hc
   ·intro E θ a w hD hi hp he hc
    have e1:=hp.o 1 rfl
    have e3:=hp.o 3 rfl
    have hf:=(he.h0.mP he 4 rfl e1).mP he 6 rfl e3
    refine zP hf rfl (pIA Tryz.underlying25 uZ rfl rfl aa) fun a hf=>zD θ he hi hf 7 rfl rfl rfl hc
   ·intro E θ a w hD hi hp he hc
    have e4:=hp.o 4 rfl
    have hf:=he.h0.mP he 7 rfl e4
    refine zE hf hc rfl (kK (vs:=[i6 M.Index,i6 M.Due]) aD8 rfl rfl (dF y (n:=2) (o':=0) rfl)) fun a w hf hc=>zD θ he hi hf 8 rfl rfl rfl hc
   ·intro E θ a w hD hi hp he hc
    have hf:=he.h0.mT he 0 rfl
    refine zP hf rfl (pFA oD rfl) fun a hf=>zD θ he hi hf 9 rfl rfl rfl hc
   ·intro E θ a w hD hi hp he hc
    have e6:=hp.o 6 rfl
    have hf:=he.h0.mP he 9 rfl e6
    refine zL hf hc wJ m3 rfl fun a w hf hc=>zD θ he hi hf 10 rfl rfl rfl hc
   ·intro E θ a w hD hi hp he hc
    have hf:=he.h0.mT he 2 rfl
    refine sp 1 hf rfl fun a hf=>zD θ he hi hf 11 rfl rfl rfl hc
   ·intro E θ a w hD hi hp he hc
    have e7:=hp.o 7 rfl
    have e8:=hp.o 8 rfl
    have hf:=(he.h0.mP he 10 rfl e7).mP he 11 rfl e8
    refine zP hf rfl (pIA Tryz.underlying25 uZ rfl rfl t) fun a hf=>zD θ he hi hf 12 rfl rfl rfl hc
   ·intro E θ a w hD hi hp he hc
    have e9:=hp.o 9 rfl
    have hf:=he.h0.mP he 12 rfl e9
    refine zE hf hc rfl (kK (vs:=[i6 J.Index,i6 J.Due]) aD8 rfl rfl (dF z (n:=2) (o':=0) rfl)) fun a w hf hc=>zD θ he hi hf 13 rfl rfl rfl hc
   ·intro E θ a w hD hi hp he hc
    have Z:=hD.f 0 rfl hi
    try dsimp only at hc
    rw [hi,Z] at hc
    have hf:=he.h0
    refine zA hf hc aJ2 rfl fun ad a w hf hc=>aQ ?_
    refine bV ?_
    intro ds u g
    replace hc:=((hc.drop k2).pick k0).pick k1
    refine ⟨(hZ θ 88 ⟨ad,none,0,(fun _=>(none,0))⟩),he.put hi g hf rfl [] trivial ⟨qq,qq,qq,qq,qq,qq,qq,qq,qq,qq,qq,qq,qq,qq,qq,qq,trivial⟩,?_⟩
    try dsimp only
    rw [aN E 11,aS 11 Z rfl]
    exact hc
   ·intro E θ a w hD hi hp he hc
    have Y:=hD.f 1 rfl hi
    try dsimp only at hc
    rw [hi,Y] at hc
    have hf:=he.h0
    refine zA hf hc aJ2 rfl fun am a w hf hc=>aQ ?_
    refine bV ?_
    intro ds u g
    replace hc:=hc.drop k1
    refine ⟨(hZ θ 96 ⟨am,none,0,(fun _=>(none,0))⟩),he.put hi g hf rfl [] trivial ⟨qq,qq,qq,qq,qq,qq,qq,qq,qq,qq,qq,qq,qq,qq,qq,qq,trivial⟩,?_⟩
    try dsimp only
    rw [aN E 12,aS 12 Y rfl]
    exact hc
   ·intro E θ a w hD hi hp he hc
    have e5:=hp.o 5 rfl
    have O:=hp.o 11 rfl
    try dsimp only at hc
    rw [O,hi] at hc
    have hf:=(he.h0.mP he 8 rfl e5).mP he 14 rfl O
    refine zW hf hc uZ u1 rfl fun w hc=>zG θ he hi hf rfl ?_
    try dsimp only
    rw [cB 13 O,aN E 13]
    exact hc
   ·intro E θ a w hD hi hp he hc
    have ag:=hp.o 10 rfl
    have R:=hp.o 12 rfl
    try dsimp only at hc
    rw [R,hi] at hc
    have hf:=(he.h0.mP he 13 rfl ag).mP he 15 rfl R
    refine zW hf hc uZ u0 rfl fun w hc=>zG θ he hi hf rfl ?_
    try dsimp only
    rw [cB 14 R,aN E 14]
    exact hc
   ·intro E θ a w S he hc
    have hf:=he.h0
    have O:=S 11 rfl
    have R:=S 12 rfl
    have Z:=S 13 rfl
    have Y:=S 14 rfl
    replace hf:=hf.more he 15 rfl (onP R)
    replace hf:=hf.more he 14 rfl (onP O)
    replace hf:=hf.more he 1 rfl (onT)
    try dsimp only at hc
    rw [O,R,Z,Y] at hc
    exact ⟨(θ 88).b,(θ 96).b,hf.kp rfl,hc⟩
   rintro a w ⟨d,X,hf,hc⟩
   refine h9 _ _ ?_
   refine wp_seq_k fun K10 ac=>?_
   obtain ⟨un,af,hF⟩:=aC hF
   refine cQ hc aT (by kernel_rfl) ?_
   refine qE hf rfl rfl rfl (Pu.ev (pFA tU rfl)) fun a hf=>qE hf rfl rfl rfl (cV aX rfl (bQ m1 rfl)) fun a hf=>qE hf rfl rfl rfl (Pu.ev (pFA tU rfl)) fun a hf=>qE hf rfl rfl rfl (cV aX rfl (bQ m0 rfl)) fun a hf=>qE hf rfl rfl rfl (Pu.ev (pFA tU rfl)) fun a hf=>qE hf rfl rfl rfl (cV aX rfl (bQ m1 rfl)) fun a hf=>qE hf rfl rfl rfl (Pu.ev (aFz rfl rfl)) fun a hf=>qE hf rfl rfl rfl (cV aX rfl (bQ m2 rfl)) fun a hf=>qE hf rfl rfl rfl (Pu.ev (pFA vV rfl)) fun a hf=>qE hf rfl rfl rfl (cV aX rfl (bQ m1 rfl)) fun a hf=>qE hf rfl rfl rfl (Pu.ev (aFz rfl rfl)) fun a hf=>qE hf rfl rfl rfl (Pu.ev (pMul rfl rfl)) fun a hf=>qE hf rfl rfl rfl (Pu.ev (pFA vV rfl)) fun a hf=>?_
   refine qE hf rfl rfl rfl (cV aX rfl (bQ m0 rfl)) fun a hf=>qE hf rfl rfl rfl (Pu.ev (pFA vV rfl)) fun a hf=>qE hf rfl rfl rfl (cV aX rfl (bQ m1 rfl)) fun a hf=>qE hf rfl rfl rfl (Pu.ev (aFz rfl rfl)) fun a hf=>qE hf rfl rfl rfl (Pu.ev (aJ9 rfl rfl (tV af))) fun a hf=>qE hf rfl rfl rfl (Pu.ev (aLt rfl rfl)) fun a hf=>qE hf rfl rfl rfl (Pu.ev (pA rfl)) fun a hf=>?_
   intro w hc
   refine ac _ _ ?_
   refine wp_ret ?_
   obtain rfl:=sj hF
   replace hc:=(((hc.drop k3).drop k2).drop k1).drop k0
   exact zO1 Tryz.results42 hf rfl ⟨rfl,hc⟩

def gU (N:Nat) (mp:Int→Option Int) (B:Int):Option (Int × (Int→Option Int) × Int) :=
 some (B,mp,B)
def fN (N:Nat) (t_:aR) (spill:Bool) (D:bB) (H:Int) (B:Int) (mp:Int→Option Int):Option (Int × (Int→Option Int) × Int) :=
 cond spill
 (gU N mp 0)
 (gU N mp (max (W (0 - D.Credit)) (W ((W (H + B)) - t_.Delivered))))
def fU (N:Nat) (t_:aR) (spill:Bool) (x:Int→Option Int) (B:bB) (D:Int):Option (Int × (Int→Option Int) × Int) :=
 cond (!((x t_.Index).isSome))
 (Option.bind (lS N B t_.Index) fun r=>
 fN N t_ spill B D r (gQ x t_.Index r))
 (fN N t_ spill B D ((x t_.Index).getD 0) x)
theorem mK {N:Nat} {G:bA} {Lf:List Ent} {w:World} (t_:aR) (spill:Bool) (x:Int→Option Int) (H:bB) (R:Int) {b_:Nat} {mb:Nat} {J:Nat} {B:Option Addr} {D:Nat} {I:Nat} (M:Rd G 2 B D (H.Table.map bK)) (hc:Ctx G (.box b_ [.map (some mb)] 117::.im mb (fun j=>(x j).map (Value.int .i64)) none::.box J [.slice B H.Table.length D,i6 H.Credit] 27::.box I [i6 R] 3::Lf) w) {O:Int × (Int→Option Int) × Int} (hF:fU N t_ spill x H R=some O):Calls Tryz.prog 41 #[.agg #[i6 t_.Index,i6 t_.Delivered],.bool spill,pq b_,pq J,pq I] w (fun e w=>e=.returned (i6 O.1)∧Ctx G (.box b_ [.map (some mb)] 117::.im mb (fun j=>(O.2.1 j).map (Value.int .i64)) none::.box J [.slice B H.Table.length D,i6 H.Credit] 27::.box I [i6 O.2.2] 3::Lf) w):=by
 unfold fU at hF
 refine cC Tryz.func41 rfl Tryz.ntmps41 rfl fun a hf=>zS fun K h=>zB hf hc rfl fun Y a w hf hc=>sp 1 hf rfl fun a hf=>zT h ?_
 refine zS fun K h=>zL hf hc aLe m1 rfl fun a w hf hc=>zP hf rfl (pFA yC rfl) fun a hf=>zL hf hc aX m0 rfl fun a w hf hc=>zE hf hc rfl (aCg (enc:=(Value.int .i64)) (z0:=0) (m:=x) m2 Tryz.underlying117 Tryz.underlying3 zr_3 rfl rfl) fun a w hf hc=>sp 5 hf rfl fun a hf=>zT h ?_
 refine wp_seq_k fun K3 h3=>?_
 have V:∀ (U:Int) (mp:Int→Option Int) a w,Has 39 a [(1,.bool spill),(3,pq J),(4,pq I),(5,pq Y),(8,i6 U)]→Ctx G (.box Y [i6 t_.Index,i6 t_.Delivered] 53::.box b_ [.map (some mb)] 117::.im mb (fun j=>(mp j).map (Value.int .i64)) none::.box J [.slice B H.Table.length D,i6 H.Credit] 27::.box I [i6 R] 3::Lf) w→fN N t_ spill H R U mp=some O→K3 a w:=by
  repeat (clear hF)
  repeat (clear hc)
  repeat (clear hf)
  intro U mp a w hf hc hF
  unfold fN at hF
  refine h3 _ _ ?_
  refine zS fun K h=>zP hf rfl (pFA aIu rfl) fun a hf=>zL hf hc aX m3 rfl fun a w hf hc=>sp 1 hf rfl fun a hf=>zL hf hc aX m4 rfl fun a w hf hc=>sp 2 hf rfl fun a hf=>zP hf rfl (pFA aB4 rfl) fun a hf=>zL hf hc aX m0 rfl fun a w hf hc=>sp 1 hf rfl fun a hf=>zP hf rfl (aAk rfl rfl) fun a hf=>zW hf hc fD u4 rfl fun w hc=>zT h ?_
  refine wp_seq_k fun K5 h5=>?_
  have X:∀ (S:Int) a w,Has 39 a [(4,pq I)]→Ctx G (.box b_ [.map (some mb)] 117::.im mb (fun j=>(mp j).map (Value.int .i64)) none::.box J [.slice B H.Table.length D,i6 H.Credit] 27::.box I [i6 S] 3::Lf) w→gU N mp S=some O→K5 a w:=by
   repeat (clear hF)
   repeat (clear hc)
   repeat (clear hf)
   intro S a w hf hc hF
   unfold gU at hF
   refine h5 _ _ ?_
   refine zS fun K h=>zL hf hc aX m3 rfl fun a w hf hc=>sp 1 hf rfl fun a hf=>zT h ?_
   refine wp_ret ?_
   obtain rfl:=sj hF
   exact zO1 Tryz.results41 hf rfl ⟨rfl,hc⟩
  refine zS fun K h=>sp 1 hf rfl fun a hf=>zT h ?_
  refine zI hf rfl hF ?_ ?_ <;> clear hF <;> intro hF
  ·refine cX ?_
   refine zW hf hc fD u4 rfl fun w hc=>aQ ?_
   replace hc:=hc.drop k0
   exact X 0 _ _  (hf.kp rfl) hc hF
  ·refine wp_skip ?_
   replace hc:=hc.drop k0
   exact X (max (W (0 - H.Credit)) (W ((W (R + U)) - t_.Delivered))) _ _  (hf.kp rfl) hc hF
 refine zS fun K h=>sp 2 hf rfl fun a hf=>zT h ?_
 refine zI hf rfl hF ?_ ?_ <;> clear hF <;> intro hF
 ·refine zS fun K h=>zN hf hc wA m3 rfl fun a w hf hc=>zP hf rfl (pFA yC rfl) fun a hf=>zL hf hc aX m0 rfl fun a w hf hc=>?_
  obtain ⟨r,hr,hF⟩:=aC hF
  refine zQ (v:=i6 r) hf hc en_42 rfl (fun w hc=>yF H t_.Index M hc hr) fun a w hf hc=>sp 1 hf rfl fun a hf=>zT h ?_
  refine cX ?_
  refine zL hf hc aLe m1 rfl fun a w hf hc=>zP hf rfl (pFA yC rfl) fun a hf=>zL hf hc aX m0 rfl fun a w hf hc=>sp 1 hf rfl fun a hf=>stMU (enc:=(Value.int .i64)) (m:=x) (v:=r) hf hc rfl Tryz.underlying117 Tryz.underlying3 rfl rfl rfl u2 fun w hc=>aQ ?_
  exact V r (gQ x t_.Index r) _ _  (hf.kp rfl) hc hF
 ·refine wp_skip ?_
  exact V ((x t_.Index).getD 0) x _ _  (hf.kp rfl) hc hF

def jP (s_:aF):Int :=
 s_.Hi
theorem aBr {G:bA} {Lf:List Ent} {w:World} (s_:aF)   (hc:Ctx G (Lf) w) {B:Int} (hF:jP s_=B):Calls Tryz.prog 45 #[.agg #[i6 s_.Lo,i6 s_.Hi]] w (fun e w=>e=.returned (i6 B)∧Ctx G (Lf) w):=by
 unfold jP at hF
 refine cC Tryz.func45 rfl Tryz.ntmps45 rfl fun a hf=>zS fun K h=>zB hf hc rfl fun D a w hf hc=>sp 1 hf rfl fun a hf=>zT h ?_
 refine zS fun K h=>zP hf rfl (pFA fQ rfl) fun a hf=>zL hf hc aX m0 rfl fun a w hf hc=>sp 1 hf rfl fun a hf=>zT h ?_
 refine wp_ret ?_
 obtain rfl:=hF
 replace hc:=hc.drop k0
 exact zO1 Tryz.results45 hf rfl ⟨rfl,hc⟩

def jO (s_:aF):Int :=
 s_.Lo
theorem aBx {G:bA} {Lf:List Ent} {w:World} (s_:aF)   (hc:Ctx G (Lf) w) {B:Int} (hF:jO s_=B):Calls Tryz.prog 46 #[.agg #[i6 s_.Lo,i6 s_.Hi]] w (fun e w=>e=.returned (i6 B)∧Ctx G (Lf) w):=by
 unfold jO at hF
 refine cC Tryz.func46 rfl Tryz.ntmps46 rfl fun a hf=>zS fun K h=>zB hf hc rfl fun D a w hf hc=>sp 1 hf rfl fun a hf=>zT h ?_
 refine zS fun K h=>zP hf rfl (pFA iH rfl) fun a hf=>zL hf hc aX m0 rfl fun a w hf hc=>sp 1 hf rfl fun a hf=>zT h ?_
 refine wp_ret ?_
 obtain rfl:=hF
 replace hc:=hc.drop k0
 exact zO1 Tryz.results46 hf rfl ⟨rfl,hc⟩

def mW (N:Nat) (b_:bB) (years:List aI) (R:(Int→Option Int) × Int × Int) (O:(Int→Option Int) × Int × Int) (out:List aF) (x:Int) (J:Int) (M:Int) (mp:Int→Option Int) (I:Int→Option Int):Option (dA ((List aF) × Int × Int × Int × (Int→Option Int) × (Int→Option Int)) ((List aF) × Int)) :=
 cond (decide (x < ((years.length:Nat):Int)))
 (Option.bind (cM years x) fun B=>
 Option.bind (fU N (⟨(lB B.Index),(kY B.Delivered)⟩:aR) B.Spill I (⟨b_.Table,R.2.1⟩:bB) J) fun D=>
 Option.bind (fU N (⟨(jP B.Index),(jO B.Delivered)⟩:aR) B.Spill mp (⟨b_.Table,O.2.1⟩:bB) M) fun H=>
 Option.bind (nQ ((out++[(⟨D.1,H.1⟩:aF)])).length) fun un=>
 some (.cont ((out++[(⟨D.1,H.1⟩:aF)]),W (x + 1),D.2.2,H.2.2,H.2.1,D.2.1)))
 (some (.brk (out,x,J,M,mp,I)))
def mC (N:Nat) (b_:bB) (start:aF) (years:List aI):Option ((List aF) × Int) :=
 Option.bind (pE N b_ start years) fun r=>
 cond (r != 0)
 (some (([]:List aF),r))
 (Option.bind (gV N b_ start.Lo) fun H=>
 Option.bind (gV N b_ start.Hi) fun D=>
 Option.bind (bN (fun B=>mW N b_ years H D B.1 B.2.1 B.2.2.1 B.2.2.2.1 B.2.2.2.2.1 B.2.2.2.2.2) N (([]:List aF),0,H.2.2,D.2.2,D.1,H.1)) fun I=>
 exK I (fun B=>some (B.1,0)) some)
theorem wU {N:Nat} {G:bA} {Lf:List Ent} {w:World} (b_:bB) (start:aF) (years:List aI) {D:Option Addr} {B:Nat} {J:Option Addr} {I:Nat} (g:Rd G 2 D B (b_.Table.map bK)) (ac:Rd G 5 J I (years.map aZ)) (hc:Ctx G (Lf) w) {ad:(List aF) × Int} (hF:mC N b_ start years=some ad):Calls Tryz.prog 10 #[.agg #[.slice D b_.Table.length B,i6 b_.Credit],.agg #[i6 start.Lo,i6 start.Hi],.slice J years.length I] w (fun e w=>∃ (ax:Option Addr) (ay:Nat),e=.returned (.tuple #[.slice ax ad.1.length ay,i6 ad.2])∧Ctx G (.row ax ay (ad.1.map aJ) 29 2::Lf) w):=by
 unfold mC at hF
 refine cC Tryz.func10 rfl Tryz.ntmps10 rfl fun a hf=>zS fun K h=>zB hf hc rfl fun am a w hf hc=>zB hf hc rfl fun ag a w hf hc=>sp 2 hf rfl fun a hf=>zT h ?_
 refine wp_seq_k fun K2 h2=>zS fun K h=>zN hf hc wA m1 rfl fun a w hf hc=>zN hf hc eY m0 rfl fun a w hf hc=>sp 1 hf rfl fun a hf=>?_
 obtain ⟨r,hr,hF⟩:=aC hF
 refine zQ (v:=i6 r) hf hc aNy rfl (fun w hc=>xD b_ start years g ac hc hr) fun a w hf hc=>sp 1 hf rfl fun a hf=>zT h ?_
 refine zS fun K h=>sp 2 hf rfl fun a hf=>zT h ?_
 refine zI hf rfl hF ?_ ?_ <;> clear hF <;> intro hF
 ·refine zS fun K h=>sp 3 hf rfl fun a hf=>zT h ?_
  refine wp_ret ?_
  refine aU ?_
  obtain rfl:=sj hF
  replace hc:=hc.nilRow 29 2
  replace hc:=(hc.drop k2).drop k1
  exact zO2 Tryz.results10 hf rfl rfl ⟨none,0,rfl,hc⟩
 ·refine wp_skip ?_
  refine h2 _ _ ?_
  refine zS fun K h=>sp 1 hf rfl fun a hf=>zT h ?_
  refine wp_seq_k fun K7 h7=>?_
  obtain ⟨q,a4,hF⟩:=aC hF
  obtain ⟨y,a3,hF⟩:=aC hF
  replace hc:=hc.nilRow 0 0
  replace hc:=hc.nilRow 0 0
  replace hc:=hc.nilRow 0 0
  replace hc:=hc.nilRow 0 0
  replace hc:=hc.nilRow 0 0
  replace hc:=hc.nilRow 0 0
  replace hc:=hc.nilRow 0 0
  replace hc:=hc.nilRow 0 0
  refine cU (fun θ=>[⟨none,none,2,.slice J years.length I⟩,⟨none,none,3,pq am⟩,⟨none,none,4,pq ag⟩,⟨none,none,9,.slice none 0 0⟩,⟨some 0,none,25,.agg #[.slice D b_.Table.length B,i6 b_.Credit]⟩,⟨some 1,none,26,pq ag⟩,⟨some 2,none,27,i6 start.Lo⟩,⟨some 3,none,28,.func (.func 41) #[] #[.pointer (some ⟨(θ 24).b,0,none⟩),.pointer (some ⟨(θ 26).b,0,none⟩),.pointer (some ⟨(θ 27).b,0,none⟩)]⟩,⟨some 4,none,29,.agg #[.slice D b_.Table.length B,i6 b_.Credit]⟩,⟨some 5,none,30,.pointer (some ⟨ag,1,none⟩)⟩,⟨some 6,none,31,i6 start.Hi⟩,⟨some 7,none,32,.func (.func 41) #[] #[.pointer (some ⟨(θ 56).b,0,none⟩),.pointer (some ⟨(θ 58).b,0,none⟩),.pointer (some ⟨(θ 59).b,0,none⟩)]⟩,⟨some 8,none,10,.func (.func 41) #[] #[.pointer (some ⟨(θ 24).b,0,none⟩),.pointer (some ⟨(θ 26).b,0,none⟩),.pointer (some ⟨(θ 27).b,0,none⟩)]⟩,⟨some 9,none,11,.func (.func 41) #[] #[.pointer (some ⟨(θ 56).b,0,none⟩),.pointer (some ⟨(θ 58).b,0,none⟩),.pointer (some ⟨(θ 59).b,0,none⟩)]⟩]) (fun E θ=>(bif E 7 then .box (θ 59).b [i6 y.2.2] 3 else .row none 0 [] 0 0)::(bif E 7 then .box (θ 58).b [.slice D b_.Table.length B,i6 y.2.1] 27 else .row none 0 [] 0 0)::(bif E 7 then .box (θ 56).b [.map (some ((θ 57).b))] 117 else .row none 0 [] 0 0)::(bif E 7 then .im ((θ 57).b) (fun j=>(y.1 j).map (Value.int .i64)) none else .row none 0 [] 0 0)::(bif E 3 then .box (θ 27).b [i6 q.2.2] 3 else .row none 0 [] 0 0)::(bif E 3 then .box (θ 26).b [.slice D b_.Table.length B,i6 q.2.1] 27 else .row none 0 [] 0 0)::(bif E 3 then .box (θ 24).b [.map (some ((θ 25).b))] 117 else .row none 0 [] 0 0)::(bif E 3 then .im ((θ 25).b) (fun j=>(q.1 j).map (Value.int .i64)) none else .row none 0 [] 0 0)::.box ag [i6 start.Lo,i6 start.Hi] 29::.box am [.slice D b_.Table.length B,i6 b_.Credit] 27::Lf) [(8,3),(9,7)] (fun a w=>∃ (Y:Nat) (Z:Nat) (M:Nat) (U:Nat) (V:Nat) (O:Nat) (d:Nat) (X:Nat),Has 79 a [(2,.slice J years.length I),(9,.slice none 0 0),(10,.func (.func 41) #[] #[pq Y,pq Z,pq M]),(11,.func (.func 41) #[] #[pq U,pq V,pq O])]∧Ctx G (.box O [i6 y.2.2] 3::.box V [.slice D b_.Table.length B,i6 y.2.1] 27::.box U [.map (some d)] 117::.im d (fun j=>(y.1 j).map (Value.int .i64)) none::.box M [i6 q.2.2] 3::.box Z [.slice D b_.Table.length B,i6 q.2.1] 27::.box Y [.map (some X)] 117::.im X (fun j=>(q.1 j).map (Value.int .i64)) none::.box ag [i6 start.Lo,i6 start.Hi] 29::.box am [.slice D b_.Table.length B,i6 b_.Credit] 27::Lf) w) aT (by kernel_rfl) (by kernel_rfl) (dL.of hf ⟨rfl,rfl,rfl,rfl,trivial,trivial,trivial,trivial,trivial,trivial,trivial,trivial,trivial,trivial,trivial⟩) hc ⟨?_,?_,?_,?_,?_,?_,?_,?_,?_,?_,trivial⟩ ?_ ?_
  ·intro E θ a w hD hi hp he hc
   have hf:=he.h0.mT he 1 rfl
   refine zN hf hc wA m9 rfl fun a w hf hc=>zD θ he hi hf 4 rfl rfl rfl hc
  ·intro E θ a w hD hi hp he hc
   have hf:=he.h0.mT he 2 rfl
   refine zP hf rfl (pFA iH rfl) fun a hf=>zD θ he hi hf 5 rfl rfl rfl hc
  ·intro E θ a w hD hi hp he hc
   have e1:=hp.o 1 rfl
   have hf:=he.h0.mP he 5 rfl e1
   refine zL hf hc aX m8 rfl fun a w hf hc=>zD θ he hi hf 6 rfl rfl rfl hc
  ·intro E θ a w hD hi hp he hc
   have e0:=hp.o 0 rfl
   have e2:=hp.o 2 rfl
   have e8:=hD.f 0 rfl hi
   try dsimp only at hc
   rw [hi] at hc
   have hf:=(he.h0.mP he 4 rfl e0).mP he 6 rfl e2
   refine zC hf aLj rfl (nR b_ start.Lo g hc a4) ?_
   rintro _ w ⟨bj,bg,bm,bi,rfl,hc⟩
   refine ⟨_,rfl,fun a hf=>?_⟩
   refine aQ ?_
   refine bV ?_
   intro ds u aa
   replace hc:=(((((((((((hc.drop k11).drop k10).drop k9).drop k8).pick k0).pick k1).pick k2).pick k3).pick k7).pick k7).pick k7).pick k7
   refine ⟨(hZ (hZ (hZ (hZ θ 24 ⟨bj,none,0,(fun _=>(none,0))⟩) 25 ⟨bg,none,0,(fun _=>(none,0))⟩) 26 ⟨bm,none,0,(fun _=>(none,0))⟩) 27 ⟨bi,none,0,(fun _=>(none,0))⟩),he.put hi aa hf rfl [8] ⟨⟨e8,rfl⟩,trivial⟩ ⟨qq,qq,qq,qq,qq,qq,qq,qq,qq,qq,qq,qq,trivial,qq,trivial⟩,?_⟩
   try dsimp only
   rw [aN E 3]
   exact hc
  ·intro E θ a w hD hi hp he hc
   have hf:=he.h0.mT he 1 rfl
   refine zN hf hc wA m9 rfl fun a w hf hc=>zD θ he hi hf 8 rfl rfl rfl hc
  ·intro E θ a w hD hi hp he hc
   have hf:=he.h0.mT he 2 rfl
   refine zP hf rfl (pFA fQ rfl) fun a hf=>zD θ he hi hf 9 rfl rfl rfl hc
  ·intro E θ a w hD hi hp he hc
   have e5:=hp.o 5 rfl
   have hf:=he.h0.mP he 9 rfl e5
   refine zL hf hc aX m8 rfl fun a w hf hc=>zD θ he hi hf 10 rfl rfl rfl hc
  ·intro E θ a w hD hi hp he hc
   have e4:=hp.o 4 rfl
   have e6:=hp.o 6 rfl
   have e9:=hD.f 1 rfl hi
   try dsimp only at hc
   rw [hi] at hc
   have hf:=(he.h0.mP he 8 rfl e4).mP he 10 rfl e6
   refine zC hf aLj rfl (nR b_ start.Hi g hc a3) ?_
   rintro _ w ⟨bp,bn,bf,a7,rfl,hc⟩
   refine ⟨_,rfl,fun a hf=>?_⟩
   refine aQ ?_
   refine bV ?_
   intro ds u aa
   replace hc:=(((((((hc.drop k7).drop k6).drop k5).drop k4).pick k0).pick k1).pick k2).pick k3
   refine ⟨(hZ (hZ (hZ (hZ θ 56 ⟨bp,none,0,(fun _=>(none,0))⟩) 57 ⟨bn,none,0,(fun _=>(none,0))⟩) 58 ⟨bf,none,0,(fun _=>(none,0))⟩) 59 ⟨a7,none,0,(fun _=>(none,0))⟩),he.put hi aa hf rfl [9] ⟨⟨e9,rfl⟩,trivial⟩ ⟨qq,qq,qq,qq,qq,qq,qq,qq,qq,qq,qq,qq,qq,trivial,trivial⟩,?_⟩
   try dsimp only
   rw [aN E 7]
   exact hc
  ·intro E θ a w hD hi hp he hc
   have e3:=hp.o 3 rfl
   have hf:=he.h0.mP he 7 rfl e3
   refine sp 1 hf rfl fun a hf=>zD θ he hi hf 12 rfl rfl rfl hc
  ·intro E θ a w hD hi hp he hc
   have e7:=hp.o 7 rfl
   have hf:=he.h0.mP he 11 rfl e7
   refine sp 1 hf rfl fun a hf=>zD θ he hi hf 13 rfl rfl rfl hc
  ·intro E θ a w z he hc
   have hf:=he.h0
   have e3:=z 3 rfl
   have e7:=z 7 rfl
   have e8:=z 8 rfl
   have e9:=z 9 rfl
   replace hf:=hf.more he 13 rfl (onP e9)
   replace hf:=hf.more he 12 rfl (onP e8)
   replace hf:=hf.more he 3 rfl (onT)
   replace hf:=hf.more he 0 rfl (onT)
   try dsimp only at hc
   rw [e3,e7] at hc
   exact ⟨(θ 24).b,(θ 26).b,(θ 27).b,(θ 56).b,(θ 58).b,(θ 59).b,(θ 57).b,(θ 25).b,hf.kp rfl,hc⟩
  rintro a w ⟨Y,Z,M,U,V,O,d,X,hf,hc⟩
  replace hc:=(hc.drop k9).drop k8
  refine h7 _ _ ?_
  refine zS fun K h=>zQ (v:=.agg #[.func (.func 43) #[] #[],.func (.func 44) #[] #[]]) hf hc en_22 rfl (fun w hc=>aF5 hc rfl) fun a w hf hc=>zQ (v:=.agg #[.func (.func 45) #[] #[],.func (.func 46) #[] #[]]) hf hc en_23 rfl (fun w hc=>aEp hc rfl) fun a w hf hc=>zA hf hc aJz rfl fun m a w hf hc=>zA hf hc aJz rfl fun k a w hf hc=>zW hf hc aJg u1 rfl fun w hc=>zW hf hc aJg u0 rfl fun w hc=>zT h ?_
  refine wp_seq_k fun K9 h9=>zS fun K h=>sp 1 hf rfl fun a hf=>zP hf rfl (cP Tryz.underlying30 rfl) fun a hf=>sp 1 hf rfl fun a hf=>zT h ?_
  refine wp_block ?_
  obtain ⟨ap,a2,hF⟩:=aC hF
  let S11:((List aF) × Int × Int × Int × (Int→Option Int) × (Int→Option Int))→Act→World→Prop:=(fun (zz:(List aF) × Int × Int × Int × (Int→Option Int) × (Int→Option Int)) a w=>∃ (t:Option Addr) (p:Nat),Has 79 a [(9,.slice t zz.1.length p),(10,.func (.func 41) #[] #[pq Y,pq Z,pq M]),(11,.func (.func 41) #[] #[pq U,pq V,pq O]),(12,pq m),(13,pq k),(35,.slice J years.length I),(36,i6 ((years.length:Nat):Int)),(37,i6 zz.2.1)]∧Ctx G (.row t p (zz.1.map aJ) 29 2::.box k [.func (.func 45) #[] #[],.func (.func 46) #[] #[]] 85::.box m [.func (.func 43) #[] #[],.func (.func 44) #[] #[]] 85::.box O [i6 zz.2.2.2.1] 3::.box V [.slice D b_.Table.length B,i6 y.2.1] 27::.box U [.map (some d)] 117::.im d (fun j=>(zz.2.2.2.2.1 j).map (Value.int .i64)) none::.box M [i6 zz.2.2.1] 3::.box Z [.slice D b_.Table.length B,i6 q.2.1] 27::.box Y [.map (some X)] 117::.im X (fun j=>(zz.2.2.2.2.2 j).map (Value.int .i64)) none::Lf) w)
  have az:∀ (zz:(List aF) × Int × Int × Int × (Int→Option Int) × (Int→Option Int)) a w,ap=.go zz→S11 zz a w→K9 a w:=by
   rintro ⟨out,x,au,ai,mp,aj⟩ a w rfl ⟨t,p,hf,hc⟩
   replace hF:=cJ hF
   refine h9 _ _ ?_
   refine wp_seq_k fun K12 bd=>cX ?_
   refine sp 3 hf rfl fun a hf=>aQ ?_
   replace hc:=(((((((((hc.drop k10).drop k9).drop k8).drop k7).drop k6).drop k5).drop k4).drop k3).drop k2).drop k1
   refine bd _ _ ?_
   refine wp_ret ?_
   obtain rfl:=sj hF
   exact zO2 Tryz.results10 hf rfl rfl ⟨t,p,rfl,hc⟩
  have bs:∀ r,ap=.out r→r=ad:=by
   rintro r rfl
   exact sj hF
  replace hc:=hc.nilRow 29 2
  refine dQ N (dP (S:=S11) (x:=ap) ?_ N (([]:List aF),0,q.2.2,y.2.2,y.1,q.1) _ _ ⟨none,0,hf.kp rfl,hc⟩ a2)
  clear hF hf hc
  rintro ⟨out,x,au,ai,mp,aj⟩ bt a w KB11 ⟨t,p,hf,hc⟩ hF af a0
  unfold mW at hF
  refine zS fun K h=>sp 1 hf rfl fun a hf=>zT h ?_
  refine wp_seq_k fun K14 a8=>zI hf rfl hF ?_ ?_ <;> clear hF <;> intro hF
  ·refine wp_skip ?_
   refine a8 _ _ ?_
   refine wp_seq_k fun K15 a9=>wp_block ?_
   refine zS fun K h=>?_
   obtain ⟨H,a5,hF⟩:=aC hF
   obtain ⟨bu,o,qa,qp⟩:=ac.atm a5
   refine zP hf rfl (pIA Tryz.underlying30 aHk rfl rfl qa) fun a hf=>zE hf hc rfl (kK (vs:=[i6 H.Index.Lo,i6 H.Index.Hi,i6 H.Delivered.Lo,i6 H.Delivered.Hi,.bool H.Spill]) aJn rfl rfl (dF qp (n:=5) (o':=0) rfl)) fun a w hf hc=>zA hf hc aO0 rfl fun i a w hf hc=>zW hf hc aHk u0 rfl fun w hc=>zT h ?_
   refine wp_seq_k fun K17 bk=>?_
   obtain ⟨R,a1,hF⟩:=aC hF
   refine cU (fun θ=>[⟨none,none,9,.slice t out.length p⟩,⟨none,none,10,.func (.func 41) #[] #[pq Y,pq Z,pq M]⟩,⟨none,none,11,.func (.func 41) #[] #[pq U,pq V,pq O]⟩,⟨none,none,12,pq m⟩,⟨none,none,13,pq k⟩,⟨none,none,15,pq i⟩,⟨none,none,35,.slice J years.length I⟩,⟨none,none,36,i6 ((years.length:Nat):Int)⟩,⟨none,none,37,i6 x⟩,⟨some 0,none,41,.func (.func 41) #[] #[pq Y,pq Z,pq M]⟩,⟨some 1,none,42,pq m⟩,⟨some 2,none,43,.func (.func 43) #[] #[]⟩,⟨some 3,none,44,pq i⟩,⟨some 4,none,45,.agg #[i6 H.Index.Lo,i6 H.Index.Hi]⟩,⟨some 5,none,46,i6 (lB H.Index)⟩,⟨some 6,none,47,.pointer (some ⟨m,1,none⟩)⟩,⟨some 7,none,48,.func (.func 44) #[] #[]⟩,⟨some 8,none,49,.pointer (some ⟨i,2,none⟩)⟩,⟨some 9,none,50,.agg #[i6 H.Delivered.Lo,i6 H.Delivered.Hi]⟩,⟨some 10,none,51,i6 (kY H.Delivered)⟩,⟨some 11,none,52,.agg #[i6 (lB H.Index),i6 (kY H.Delivered)]⟩,⟨some 12,none,53,.pointer (some ⟨i,4,none⟩)⟩,⟨some 13,none,54,.bool H.Spill⟩,⟨some 14,none,55,i6 R.1⟩,⟨some 15,none,16,i6 R.1⟩]) (fun E θ=>.box i [i6 H.Index.Lo,i6 H.Index.Hi,i6 H.Delivered.Lo,i6 H.Delivered.Hi,.bool H.Spill] 51::.row t p (out.map aJ) 29 2::.box k [.func (.func 45) #[] #[],.func (.func 46) #[] #[]] 85::.box m [.func (.func 43) #[] #[],.func (.func 44) #[] #[]] 85::.box O [i6 ai] 3::.box V [.slice D b_.Table.length B,i6 y.2.1] 27::.box U [.map (some d)] 117::.im d (fun j=>(mp j).map (Value.int .i64)) none::(bif E 14 then .box M [i6 R.2.2] 3 else .box M [i6 au] 3)::.box Z [.slice D b_.Table.length B,i6 q.2.1] 27::.box Y [.map (some X)] 117::(bif E 14 then .im X (fun j=>(R.2.1 j).map (Value.int .i64)) none else .im X (fun j=>(aj j).map (Value.int .i64)) none)::Lf) [] (fun a w=>Has 79 a [(9,.slice t out.length p),(10,.func (.func 41) #[] #[pq Y,pq Z,pq M]),(11,.func (.func 41) #[] #[pq U,pq V,pq O]),(12,pq m),(13,pq k),(15,pq i),(35,.slice J years.length I),(36,i6 ((years.length:Nat):Int)),(37,i6 x),(16,i6 R.1)]∧Ctx G (.box i [i6 H.Index.Lo,i6 H.Index.Hi,i6 H.Delivered.Lo,i6 H.Delivered.Hi,.bool H.Spill] 51::.row t p (out.map aJ) 29 2::.box k [.func (.func 45) #[] #[],.func (.func 46) #[] #[]] 85::.box m [.func (.func 43) #[] #[],.func (.func 44) #[] #[]] 85::.box O [i6 ai] 3::.box V [.slice D b_.Table.length B,i6 y.2.1] 27::.box U [.map (some d)] 117::.im d (fun j=>(mp j).map (Value.int .i64)) none::.box M [i6 R.2.2] 3::.box Z [.slice D b_.Table.length B,i6 q.2.1] 27::.box Y [.map (some X)] 117::.im X (fun j=>(R.2.1 j).map (Value.int .i64)) none::Lf) w) aT (by kernel_rfl) (by kernel_rfl) (dL.of hf ⟨rfl,rfl,rfl,rfl,rfl,rfl,rfl,rfl,rfl,trivial,trivial,trivial,trivial,trivial,trivial,trivial,trivial,trivial,trivial,trivial,trivial,trivial,trivial,trivial,trivial,trivial⟩) hc ⟨?_,?_,?_,?_,?_,?_,?_,?_,?_,?_,?_,?_,?_,?_,?_,?_,trivial⟩ ?_ ?_
   ·intro E θ a w hD hi hp he hc
    have hf:=he.h0.mT he 1 rfl
    refine sp 1 hf rfl fun a hf=>zD θ he hi hf 9 rfl rfl rfl hc
   ·intro E θ a w hD hi hp he hc
    have hf:=he.h0.mT he 3 rfl
    refine zP hf rfl (pFA aI1 rfl) fun a hf=>zD θ he hi hf 10 rfl rfl rfl hc
   ·intro E θ a w hD hi hp he hc
    have e1:=hp.o 1 rfl
    have hf:=he.h0.mP he 10 rfl e1
    refine zL hf hc aEv m3 rfl fun a w hf hc=>zD θ he hi hf 11 rfl rfl rfl hc
   ·intro E θ a w hD hi hp he hc
    have hf:=he.h0.mT he 5 rfl
    refine zP hf rfl (pFA zU rfl) fun a hf=>zD θ he hi hf 12 rfl rfl rfl hc
   ·intro E θ a w hD hi hp he hc
    have e3:=hp.o 3 rfl
    have hf:=he.h0.mP he 12 rfl e3
    refine zN hf hc eY m0 rfl fun a w hf hc=>zD θ he hi hf 13 rfl rfl rfl hc
   ·intro E θ a w hD hi hp he hc
    have e2:=hp.o 2 rfl
    have e4:=hp.o 4 rfl
    have hf:=(he.h0.mP he 11 rfl e2).mP he 13 rfl e4
    refine zQ (v:=i6 (lB H.Index)) hf hc en_43 rfl (fun w hc=>aD7 H.Index hc rfl) fun a w hf hc=>zD θ he hi hf 14 rfl rfl rfl hc
   ·intro E θ a w hD hi hp he hc
    have hf:=he.h0.mT he 3 rfl
    refine zP hf rfl (pFA aJw rfl) fun a hf=>zD θ he hi hf 15 rfl rfl rfl hc
   ·intro E θ a w hD hi hp he hc
    have e6:=hp.o 6 rfl
    have hf:=he.h0.mP he 15 rfl e6
    refine zL hf hc aEv m3 rfl fun a w hf hc=>zD θ he hi hf 16 rfl rfl rfl hc
   ·intro E θ a w hD hi hp he hc
    have hf:=he.h0.mT he 5 rfl
    refine zP hf rfl (pFA zK rfl) fun a hf=>zD θ he hi hf 17 rfl rfl rfl hc
   ·intro E θ a w hD hi hp he hc
    have e8:=hp.o 8 rfl
    have hf:=he.h0.mP he 17 rfl e8
    refine zN hf hc eY m0 rfl fun a w hf hc=>zD θ he hi hf 18 rfl rfl rfl hc
   ·intro E θ a w hD hi hp he hc
    have e7:=hp.o 7 rfl
    have e9:=hp.o 9 rfl
    have hf:=(he.h0.mP he 16 rfl e7).mP he 18 rfl e9
    refine zQ (v:=i6 (kY H.Delivered)) hf hc en_44 rfl (fun w hc=>aC8 H.Delivered hc rfl) fun a w hf hc=>zD θ he hi hf 19 rfl rfl rfl hc
   ·intro E θ a w hD hi hp he hc
    have e5:=hp.o 5 rfl
    have ak:=hp.o 10 rfl
    have hf:=(he.h0.mP he 14 rfl e5).mP he 19 rfl ak
    refine zP hf rfl (bJ (cells:=[i6 (lB H.Index),i6 (kY H.Delivered)]) aJl rfl rfl) fun a hf=>zD θ he hi hf 20 rfl rfl rfl hc
   ·intro E θ a w hD hi hp he hc
    have hf:=he.h0.mT he 5 rfl
    refine zP hf rfl (pFA aFu rfl) fun a hf=>zD θ he hi hf 21 rfl rfl rfl hc
   ·intro E θ a w hD hi hp he hc
    have av:=hp.o 12 rfl
    have hf:=he.h0.mP he 21 rfl av
    refine zL hf hc vC m0 rfl fun a w hf hc=>zD θ he hi hf 22 rfl rfl rfl hc
   ·intro E θ a w hD hi hp he hc
    have e0:=hp.o 0 rfl
    have an:=hp.o 11 rfl
    have aq:=hp.o 13 rfl
    try dsimp only at hc
    rw [hi] at hc
    have hf:=((he.h0.mP he 9 rfl e0).mP he 20 rfl an).mP he 22 rfl aq
    refine zC hf aKy rfl (mK (⟨(lB H.Index),(kY H.Delivered)⟩:aR) H.Spill aj (⟨b_.Table,q.2.1⟩:bB) au g ((((hc.pick k8).pick k9).pick k11).pick k11) a1) ?_
    rintro _ w ⟨rfl,hc⟩
    refine ⟨_,rfl,fun a hf=>?_⟩
    refine aQ ?_
    refine bV ?_
    intro ds u aa
    replace hc:=(((((((((((hc.pick k1).pick k1).pick k2).pick k3).pick k11).pick k11).pick k11).pick k11).pick k11).pick k11).pick k11).pick k11
    refine ⟨θ,he.put0 hi aa hf rfl 23 rfl rfl,?_⟩
    try dsimp only
    rw [aN E 14]
    exact hc
   ·intro E θ a w hD hi hp he hc
    have ab:=hp.o 14 rfl
    have hf:=he.h0.mP he 23 rfl ab
    refine sp 1 hf rfl fun a hf=>zD θ he hi hf 24 rfl rfl rfl hc
   ·intro E θ a w z he hc
    have hf:=he.h0
    have ab:=z 14 rfl
    have ar:=z 15 rfl
    replace hf:=hf.more he 24 rfl (onP ar)
    replace hf:=hf.more he 8 rfl (onT)
    replace hf:=hf.more he 7 rfl (onT)
    replace hf:=hf.more he 6 rfl (onT)
    replace hf:=hf.more he 5 rfl (onT)
    replace hf:=hf.more he 4 rfl (onT)
    replace hf:=hf.more he 3 rfl (onT)
    replace hf:=hf.more he 2 rfl (onT)
    replace hf:=hf.more he 1 rfl (onT)
    replace hf:=hf.more he 0 rfl (onT)
    try dsimp only at hc
    rw [ab] at hc
    exact ⟨hf.kp rfl,hc⟩
   rintro a w ⟨hf,hc⟩
   refine bk _ _ ?_
   refine wp_seq_k fun K18 bc=>?_
   obtain ⟨s,a6,hF⟩:=aC hF
   refine cU (fun θ=>[⟨none,none,9,.slice t out.length p⟩,⟨none,none,10,.func (.func 41) #[] #[pq Y,pq Z,pq M]⟩,⟨none,none,11,.func (.func 41) #[] #[pq U,pq V,pq O]⟩,⟨none,none,12,pq m⟩,⟨none,none,13,pq k⟩,⟨none,none,15,pq i⟩,⟨none,none,16,i6 R.1⟩,⟨none,none,35,.slice J years.length I⟩,⟨none,none,36,i6 ((years.length:Nat):Int)⟩,⟨none,none,37,i6 x⟩,⟨some 0,none,56,.func (.func 41) #[] #[pq U,pq V,pq O]⟩,⟨some 1,none,57,pq k⟩,⟨some 2,none,58,.func (.func 45) #[] #[]⟩,⟨some 3,none,59,pq i⟩,⟨some 4,none,60,.agg #[i6 H.Index.Lo,i6 H.Index.Hi]⟩,⟨some 5,none,61,i6 (jP H.Index)⟩,⟨some 6,none,62,.pointer (some ⟨k,1,none⟩)⟩,⟨some 7,none,63,.func (.func 46) #[] #[]⟩,⟨some 8,none,64,.pointer (some ⟨i,2,none⟩)⟩,⟨some 9,none,65,.agg #[i6 H.Delivered.Lo,i6 H.Delivered.Hi]⟩,⟨some 10,none,66,i6 (jO H.Delivered)⟩,⟨some 11,none,67,.agg #[i6 (jP H.Index),i6 (jO H.Delivered)]⟩,⟨some 12,none,68,.pointer (some ⟨i,4,none⟩)⟩,⟨some 13,none,69,.bool H.Spill⟩,⟨some 14,none,70,i6 s.1⟩,⟨some 15,none,17,i6 s.1⟩]) (fun E θ=>.box i [i6 H.Index.Lo,i6 H.Index.Hi,i6 H.Delivered.Lo,i6 H.Delivered.Hi,.bool H.Spill] 51::.row t p (out.map aJ) 29 2::.box k [.func (.func 45) #[] #[],.func (.func 46) #[] #[]] 85::.box m [.func (.func 43) #[] #[],.func (.func 44) #[] #[]] 85::(bif E 14 then .box O [i6 s.2.2] 3 else .box O [i6 ai] 3)::.box V [.slice D b_.Table.length B,i6 y.2.1] 27::.box U [.map (some d)] 117::(bif E 14 then .im d (fun j=>(s.2.1 j).map (Value.int .i64)) none else .im d (fun j=>(mp j).map (Value.int .i64)) none)::.box M [i6 R.2.2] 3::.box Z [.slice D b_.Table.length B,i6 q.2.1] 27::.box Y [.map (some X)] 117::.im X (fun j=>(R.2.1 j).map (Value.int .i64)) none::Lf) [] (fun a w=>Has 79 a [(9,.slice t out.length p),(10,.func (.func 41) #[] #[pq Y,pq Z,pq M]),(11,.func (.func 41) #[] #[pq U,pq V,pq O]),(12,pq m),(13,pq k),(16,i6 R.1),(35,.slice J years.length I),(36,i6 ((years.length:Nat):Int)),(37,i6 x),(17,i6 s.1)]∧Ctx G (.box i [i6 H.Index.Lo,i6 H.Index.Hi,i6 H.Delivered.Lo,i6 H.Delivered.Hi,.bool H.Spill] 51::.row t p (out.map aJ) 29 2::.box k [.func (.func 45) #[] #[],.func (.func 46) #[] #[]] 85::.box m [.func (.func 43) #[] #[],.func (.func 44) #[] #[]] 85::.box O [i6 s.2.2] 3::.box V [.slice D b_.Table.length B,i6 y.2.1] 27::.box U [.map (some d)] 117::.im d (fun j=>(s.2.1 j).map (Value.int .i64)) none::.box M [i6 R.2.2] 3::.box Z [.slice D b_.Table.length B,i6 q.2.1] 27::.box Y [.map (some X)] 117::.im X (fun j=>(R.2.1 j).map (Value.int .i64)) none::Lf) w) aT (by kernel_rfl) (by kernel_rfl) (dL.of hf ⟨rfl,rfl,rfl,rfl,rfl,rfl,rfl,rfl,rfl,rfl,trivial,trivial,trivial,trivial,trivial,trivial,trivial,trivial,trivial,trivial,trivial,trivial,trivial,trivial,trivial,trivial,trivial⟩) hc ⟨?_,?_,?_,?_,?_,?_,?_,?_,?_,?_,?_,?_,?_,?_,?_,?_,trivial⟩ ?_ ?_
   ·intro E θ a w hD hi hp he hc
    have hf:=he.h0.mT he 2 rfl
    refine sp 1 hf rfl fun a hf=>zD θ he hi hf 10 rfl rfl rfl hc
   ·intro E θ a w hD hi hp he hc
    have hf:=he.h0.mT he 4 rfl
    refine zP hf rfl (pFA aI1 rfl) fun a hf=>zD θ he hi hf 11 rfl rfl rfl hc
   ·intro E θ a w hD hi hp he hc
    have e1:=hp.o 1 rfl
    have hf:=he.h0.mP he 11 rfl e1
    refine zL hf hc aEv m2 rfl fun a w hf hc=>zD θ he hi hf 12 rfl rfl rfl hc
   ·intro E θ a w hD hi hp he hc
    have hf:=he.h0.mT he 5 rfl
    refine zP hf rfl (pFA zU rfl) fun a hf=>zD θ he hi hf 13 rfl rfl rfl hc
   ·intro E θ a w hD hi hp he hc
    have e3:=hp.o 3 rfl
    have hf:=he.h0.mP he 13 rfl e3
    refine zN hf hc eY m0 rfl fun a w hf hc=>zD θ he hi hf 14 rfl rfl rfl hc
   ·intro E θ a w hD hi hp he hc
    have e2:=hp.o 2 rfl
    have e4:=hp.o 4 rfl
    have hf:=(he.h0.mP he 12 rfl e2).mP he 14 rfl e4
    refine zQ (v:=i6 (jP H.Index)) hf hc en_45 rfl (fun w hc=>aBr H.Index hc rfl) fun a w hf hc=>zD θ he hi hf 15 rfl rfl rfl hc
   ·intro E θ a w hD hi hp he hc
    have hf:=he.h0.mT he 4 rfl
    refine zP hf rfl (pFA aJw rfl) fun a hf=>zD θ he hi hf 16 rfl rfl rfl hc
   ·intro E θ a w hD hi hp he hc
    have e6:=hp.o 6 rfl
    have hf:=he.h0.mP he 16 rfl e6
    refine zL hf hc aEv m2 rfl fun a w hf hc=>zD θ he hi hf 17 rfl rfl rfl hc
   ·intro E θ a w hD hi hp he hc
    have hf:=he.h0.mT he 5 rfl
    refine zP hf rfl (pFA zK rfl) fun a hf=>zD θ he hi hf 18 rfl rfl rfl hc
   ·intro E θ a w hD hi hp he hc
    have e8:=hp.o 8 rfl
    have hf:=he.h0.mP he 18 rfl e8
    refine zN hf hc eY m0 rfl fun a w hf hc=>zD θ he hi hf 19 rfl rfl rfl hc
   ·intro E θ a w hD hi hp he hc
    have e7:=hp.o 7 rfl
    have e9:=hp.o 9 rfl
    have hf:=(he.h0.mP he 17 rfl e7).mP he 19 rfl e9
    refine zQ (v:=i6 (jO H.Delivered)) hf hc en_46 rfl (fun w hc=>aBx H.Delivered hc rfl) fun a w hf hc=>zD θ he hi hf 20 rfl rfl rfl hc
   ·intro E θ a w hD hi hp he hc
    have e5:=hp.o 5 rfl
    have ak:=hp.o 10 rfl
    have hf:=(he.h0.mP he 15 rfl e5).mP he 20 rfl ak
    refine zP hf rfl (bJ (cells:=[i6 (jP H.Index),i6 (jO H.Delivered)]) aJl rfl rfl) fun a hf=>zD θ he hi hf 21 rfl rfl rfl hc
   ·intro E θ a w hD hi hp he hc
    have hf:=he.h0.mT he 5 rfl
    refine zP hf rfl (pFA aFu rfl) fun a hf=>zD θ he hi hf 22 rfl rfl rfl hc
   ·intro E θ a w hD hi hp he hc
    have av:=hp.o 12 rfl
    have hf:=he.h0.mP he 22 rfl av
    refine zL hf hc vC m0 rfl fun a w hf hc=>zD θ he hi hf 23 rfl rfl rfl hc
   ·intro E θ a w hD hi hp he hc
    have e0:=hp.o 0 rfl
    have an:=hp.o 11 rfl
    have aq:=hp.o 13 rfl
    try dsimp only at hc
    rw [hi] at hc
    have hf:=((he.h0.mP he 10 rfl e0).mP he 21 rfl an).mP he 23 rfl aq
    refine zC hf aKy rfl (mK (⟨(jP H.Index),(jO H.Delivered)⟩:aR) H.Spill mp (⟨b_.Table,y.2.1⟩:bB) ai g ((((hc.pick k4).pick k5).pick k7).pick k7) a6) ?_
    rintro _ w ⟨rfl,hc⟩
    refine ⟨_,rfl,fun a hf=>?_⟩
    refine aQ ?_
    refine bV ?_
    intro ds u aa
    replace hc:=(((((((hc.pick k1).pick k1).pick k2).pick k3).pick k7).pick k7).pick k7).pick k7
    refine ⟨θ,he.put0 hi aa hf rfl 24 rfl rfl,?_⟩
    try dsimp only
    rw [aN E 14]
    exact hc
   ·intro E θ a w hD hi hp he hc
    have ab:=hp.o 14 rfl
    have hf:=he.h0.mP he 24 rfl ab
    refine sp 1 hf rfl fun a hf=>zD θ he hi hf 25 rfl rfl rfl hc
   ·intro E θ a w z he hc
    have hf:=he.h0
    have ab:=z 14 rfl
    have ar:=z 15 rfl
    replace hf:=hf.more he 25 rfl (onP ar)
    replace hf:=hf.more he 9 rfl (onT)
    replace hf:=hf.more he 8 rfl (onT)
    replace hf:=hf.more he 7 rfl (onT)
    replace hf:=hf.more he 6 rfl (onT)
    replace hf:=hf.more he 4 rfl (onT)
    replace hf:=hf.more he 3 rfl (onT)
    replace hf:=hf.more he 2 rfl (onT)
    replace hf:=hf.more he 1 rfl (onT)
    replace hf:=hf.more he 0 rfl (onT)
    try dsimp only at hc
    rw [ab] at hc
    exact ⟨hf.kp rfl,hc⟩
   rintro a w ⟨hf,hc⟩
   replace hc:=hc.drop k0
   refine bc _ _ ?_
   refine cX ?_
   refine sp 3 hf rfl fun a hf=>zP hf rfl (bJ (cells:=[i6 R.1,i6 s.1]) oO rfl rfl) fun a hf=>oJ (rows:=([(⟨R.1,s.1⟩:aF)]:List aF).map aJ) (vs:=[(0,.agg #[i6 R.1,i6 s.1])]) hf hc rfl rfl yK rfl ⟨rfl,rfl,rfl,trivial⟩ rfl rfl fun br a w hf hc=>?_
   obtain ⟨un,bb,hF⟩:=aC hF
   refine lO (xs:=out) (ys:=([(⟨R.1,s.1⟩:aF)]:List aF)) hf hc rfl rfl yK rfl rfl rfl rfl rfl iO (fM hc m0) (fun _ _=>u1) (by simpa using dB bb) fun ba bq a w hf hc=>sp 1 hf rfl fun a hf=>aQ ?_
   replace hc:=hc.drop k0
   refine a9 _ _ ?_
   refine cX ?_
   refine sp 2 hf rfl fun a hf=>aQ ?_
   exact a0 ((out++[(⟨R.1,s.1⟩:aF)]),W (x + 1),R.2.2,s.2.2,s.2.1,R.2.1) _ _ (sj hF).symm ⟨ba,bq,hf.kp rfl,hc⟩
  ·refine wp_exit ?_
   refine bI ?_
   refine bI ?_
   have he:=sj hF
   rw [← he] at af
   refine fB ?_
   exact az _ _ _ af ⟨t,p,hf.kp rfl,hc⟩

def nL (N:Nat) (b_:bB) (years:List aI) (I:List aR) (M:(Int→Option Int) × Int × Int) (out:List Int) (x:Int) (J:Int) (mp:Int→Option Int):Option (dA ((List Int) × Int × Int × (Int→Option Int)) ((List Int) × Int)) :=
 cond (decide (x < ((years.length:Nat):Int)))
 (Option.bind (cM years x) fun B=>
 Option.bind (cM I x) fun H=>
 cond ((!(aW H.Index B.Index.Lo B.Index.Hi)) || (!(aW H.Delivered B.Delivered.Lo B.Delivered.Hi)))
 (some (.ret (([]:List Int),7)))
 (Option.bind (fU N H B.Spill mp (⟨b_.Table,M.2.1⟩:bB) J) fun D=>
 Option.bind (nQ ((out++[D.1])).length) fun un=>
 some (.cont ((out++[D.1]),W (x + 1),D.2.2,D.2.1))))
 (some (.brk (out,x,J,mp)))
def qT (N:Nat) (b_:bB) (start:Int) (years:List aI) (D:List aR):Option ((List Int) × Int) :=
 Option.bind (pE N b_ (⟨start,start⟩:aF) years) fun r=>
 cond (r != 0)
 (some (([]:List Int),r))
 (cond (((D.length:Nat):Int) != ((years.length:Nat):Int))
 (some (([]:List Int),2))
 (Option.bind (gV N b_ start) fun H=>
 Option.bind (bN (fun B=>nL N b_ years D H B.1 B.2.1 B.2.2.1 B.2.2.2) N (([]:List Int),0,H.2.2,H.1)) fun I=>
 exK I (fun B=>some (B.1,0)) some))
theorem aEk {N:Nat} {G:bA} {Lf:List Ent} {w:World} (b_:bB) (start:Int) (years:List aI) (V:List aR) {I:Option Addr} {H:Nat} {R:Option Addr} {O:Nat} {U:Option Addr} {M:Nat} (J:Rd G 2 I H (b_.Table.map bK)) (b:Rd G 5 R O (years.map aZ)) (m:Rd G 2 U M (V.map bY)) (hc:Ctx G (Lf) w) {g:(List Int) × Int} (hF:qT N b_ start years V=some g):Calls Tryz.prog 11 #[.agg #[.slice I b_.Table.length H,i6 b_.Credit],i6 start,.slice R years.length O,.slice U V.length M] w (fun e w=>∃ (u:Option Addr) (y:Nat),e=.returned (.tuple #[.slice u g.1.length y,i6 g.2])∧Ctx G (.row u y (g.1.map aD) 3 1::Lf) w):=by
 unfold qT at hF
 refine cC Tryz.func11 rfl Tryz.ntmps11 rfl fun a hf=>zS fun K h=>zB hf hc rfl fun a2 a w hf hc=>sp 2 hf rfl fun a hf=>zT h ?_
 refine zS fun K h=>zN hf hc wA m0 rfl fun a w hf hc=>sp 2 hf rfl fun a hf=>zP hf rfl (bJ (cells:=[i6 start,i6 start]) oO rfl rfl) fun a hf=>sp 1 hf rfl fun a hf=>?_
 obtain ⟨r,hr,hF⟩:=aC hF
 refine zQ (v:=i6 r) hf hc aNy rfl (fun w hc=>xD b_ (⟨start,start⟩:aF) years J b hc hr) fun a w hf hc=>sp 1 hf rfl fun a hf=>zT h ?_
 refine wp_seq_k fun K3 h3=>wp_block ?_
 refine zS fun K h=>sp 3 hf rfl fun a hf=>zT h ?_
 refine zI hf rfl hF ?_ ?_ <;> clear hF <;> intro hF
 ·refine zS fun K h=>sp 3 hf rfl fun a hf=>zT h ?_
  refine wp_ret ?_
  refine cI ?_
  refine aU ?_
  obtain rfl:=sj hF
  replace hc:=hc.nilRow 3 1
  replace hc:=hc.drop k1
  exact zO2 Tryz.results11 hf rfl rfl ⟨none,0,rfl,hc⟩
 ·refine zS fun K h=>sp 1 hf rfl fun a hf=>zP hf rfl (cP Tryz.underlying31 rfl) fun a hf=>sp 1 hf rfl fun a hf=>zP hf rfl (cP Tryz.underlying30 rfl) fun a hf=>sp 2 hf rfl fun a hf=>zT h ?_
  refine zI hf rfl hF ?_ ?_ <;> clear hF <;> intro hF
  ·refine zS fun K h=>sp 2 hf rfl fun a hf=>zT h ?_
   refine wp_ret ?_
   refine cI ?_
   refine aU ?_
   obtain rfl:=sj hF
   replace hc:=hc.nilRow 3 1
   replace hc:=hc.drop k1
   exact zO2 Tryz.results11 hf rfl rfl ⟨none,0,rfl,hc⟩
  ·refine wp_skip ?_
   refine h3 _ _ ?_
   refine zS fun K h=>sp 1 hf rfl fun a hf=>zT h ?_
   refine zS fun K h=>zN hf hc wA m0 rfl fun a w hf hc=>sp 1 hf rfl fun a hf=>?_
   obtain ⟨k,am,hF⟩:=aC hF
   refine zC hf aLj rfl (nR b_ start J hc am) ?_
   rintro _ w ⟨t,aa,p,q,rfl,hc⟩
   refine ⟨_,rfl,fun a hf=>?_⟩
   refine sp 1 hf rfl fun a hf=>zT h ?_
   refine wp_seq_k fun K10 ay=>zS fun K h=>sp 1 hf rfl fun a hf=>zP hf rfl (cP Tryz.underlying30 rfl) fun a hf=>sp 1 hf rfl fun a hf=>zT h ?_
   refine wp_block ?_
   obtain ⟨s,af,hF⟩:=aC hF
   let S12:((List Int) × Int × Int × (Int→Option Int))→Act→World→Prop:=(fun (zz:(List Int) × Int × Int × (Int→Option Int)) a w=>∃ (Z:Option Addr) (Y:Nat),Has 78 a [(3,.slice U V.length M),(11,.slice Z zz.1.length Y),(12,.func (.func 41) #[] #[pq t,pq p,pq q]),(35,.slice R years.length O),(36,i6 ((years.length:Nat):Int)),(37,i6 zz.2.1)]∧Ctx G (.row Z Y (zz.1.map aD) 3 1::.im aa (fun j=>(zz.2.2.2 j).map (Value.int .i64)) none::.box t [.map (some aa)] 117::.box p [.slice I b_.Table.length H,i6 k.2.1] 27::.box q [i6 zz.2.2.1] 3::Lf) w)
   have ag:∀ (zz:(List Int) × Int × Int × (Int→Option Int)) a w,s=.go zz→S12 zz a w→K10 a w:=by
    rintro ⟨out,x,ab,mp⟩ a w rfl ⟨Z,Y,hf,hc⟩
    replace hF:=cJ hF
    refine ay _ _ ?_
    refine zS fun K h=>sp 3 hf rfl fun a hf=>zT h ?_
    refine wp_ret ?_
    obtain rfl:=sj hF
    replace hc:=(((hc.drop k4).drop k3).drop k2).drop k1
    exact zO2 Tryz.results11 hf rfl rfl ⟨Z,Y,rfl,hc⟩
   have aj:∀ r,s=.out r→r=g:=by
    rintro r rfl
    exact sj hF
   replace hc:=hc.nilRow 3 1
   replace hc:=hc.drop k5
   refine dQ N (dP (S:=S12) (x:=s) ?_ N (([]:List Int),0,k.2.2,k.1) _ _ ⟨none,0,hf.kp rfl,hc⟩ af)
   clear hF hf hc
   rintro ⟨out,x,ab,mp⟩ a0 a w KB12 ⟨Z,Y,hf,hc⟩ hF X an
   unfold nL at hF
   refine zS fun K h=>sp 1 hf rfl fun a hf=>zT h ?_
   refine wp_seq_k fun K15 aq=>zI hf rfl hF ?_ ?_ <;> clear hF <;> intro hF
   ·refine wp_skip ?_
    refine aq _ _ ?_
    refine wp_seq_k fun K16 av=>wp_block ?_
    refine zS fun K h=>sp 1 hf rfl fun a hf=>?_
    obtain ⟨B,ap,hF⟩:=aC hF
    obtain ⟨a3,o,qa,qp⟩:=b.atm ap
    refine zP hf rfl (pIA Tryz.underlying30 aHk rfl rfl qa) fun a hf=>zE hf hc rfl (kK (vs:=[i6 B.Index.Lo,i6 B.Index.Hi,i6 B.Delivered.Lo,i6 B.Delivered.Hi,.bool B.Spill]) aJn rfl rfl (dF qp (n:=5) (o':=0) rfl)) fun a w hf hc=>zA hf hc aO0 rfl fun i a w hf hc=>sp 1 hf rfl fun a hf=>zW hf hc aHk u0 rfl fun w hc=>zT h ?_
    refine zS fun K h=>sp 2 hf rfl fun a hf=>?_
    obtain ⟨D,ad,hF⟩:=aC hF
    obtain ⟨a4,a5,ac,ai⟩:=m.atm ad
    refine zP hf rfl (pIA Tryz.underlying31 aK3 rfl rfl ac) fun a hf=>zE hf hc rfl (kK (vs:=[i6 D.Index,i6 D.Delivered]) aLz rfl rfl (dF ai (n:=2) (o':=0) rfl)) fun a w hf hc=>zA hf hc aN5 rfl fun z a w hf hc=>zW hf hc aK3 u0 rfl fun w hc=>zT h ?_
    refine wp_seq_k fun K19 ax=>zS fun K h=>zP hf rfl (pFA yC rfl) fun a hf=>zL hf hc aX m0 rfl fun a w hf hc=>zP hf rfl (pFA zU rfl) fun a hf=>zP hf rfl (pFA iH rfl) fun a hf=>zL hf hc aX m1 rfl fun a w hf hc=>zP hf rfl (pFA zU rfl) fun a hf=>zP hf rfl (pFA fQ rfl) fun a hf=>zL hf hc aX m1 rfl fun a w hf hc=>zQ (v:=.bool (aW D.Index B.Index.Lo B.Index.Hi)) hf hc wH rfl (fun w hc=>iA D.Index B.Index.Lo B.Index.Hi hc rfl) fun a w hf hc=>sp 2 hf rfl fun a hf=>fL 11 (fun a=>Has 78 a [(3,.slice U V.length M),(11,.slice Z out.length Y),(12,.func (.func 41) #[] #[pq t,pq p,pq q]),(35,.slice R years.length O),(36,i6 ((years.length:Nat):Int)),(37,i6 x),(14,pq i),(15,pq z),(46,pq z),(47,i6 D.Index),(48,pq i),(49,pq i),(50,i6 B.Index.Lo),(51,pq i),(52,.pointer (some ⟨i,1,none⟩)),(53,i6 B.Index.Hi),(54,.bool (aW D.Index B.Index.Lo B.Index.Hi)),(55,.bool (!(aW D.Index B.Index.Lo B.Index.Hi))),(56,.bool (!(aW D.Index B.Index.Lo B.Index.Hi))),(67,.bool ((!(aW D.Index B.Index.Lo B.Index.Hi)) || (!(aW D.Delivered B.Delivered.Lo B.Delivered.Hi))))]) hc ?_ ?_
    ·cases hb:(!(aW D.Index B.Index.Lo B.Index.Hi))
     ·rw [hb] at hf
      refine zP hf rfl (pFA aB4 rfl) fun a hf=>zL hf hc aX m0 rfl fun a w hf hc=>zP hf rfl (pFA zK rfl) fun a hf=>zP hf rfl (pFA iH rfl) fun a hf=>zL hf hc aX m1 rfl fun a w hf hc=>zP hf rfl (pFA zK rfl) fun a hf=>zP hf rfl (pFA fQ rfl) fun a hf=>zL hf hc aX m1 rfl fun a w hf hc=>zQ (v:=.bool (aW D.Delivered B.Delivered.Lo B.Delivered.Hi)) hf hc wH rfl (fun w hc=>iA D.Delivered B.Delivered.Lo B.Delivered.Hi hc rfl) fun a w hf hc=>sp 2 hf rfl fun a hf=>aQ ⟨hf.kp rfl,hc⟩
     ·rw [hb] at hf
      refine stS hf rfl rfl rfl fun a hf=>stS hf rfl rfl rfl fun a hf=>stS hf rfl rfl rfl fun a hf=>stS hf rfl rfl rfl fun a hf=>stS hf rfl rfl rfl fun a hf=>stS hf rfl rfl rfl fun a hf=>stS hf rfl rfl rfl fun a hf=>stS hf rfl rfl rfl fun a hf=>stS hf rfl rfl rfl fun a hf=>stS hf rfl rfl rfl fun a hf=>sp 1 hf rfl fun a hf=>aQ ⟨hf.kp rfl,hc⟩
    intro a w ⟨hf,hc⟩
    refine zT h ?_
    refine zI hf rfl hF ?_ ?_ <;> clear hF <;> intro hF
    ·refine zS fun K h=>sp 2 hf rfl fun a hf=>zT h ?_
     refine wp_ret ?_
     refine aU ?_
     refine cI ?_
     refine aU ?_
     refine aU ?_
     have he:=sj hF
     rw [← he] at X
     replace hF:=aj _ X
     refine cI ?_
     refine aU ?_
     obtain rfl:=hF
     replace hc:=hc.nilRow 3 1
     replace hc:=((((((hc.drop k7).drop k6).drop k5).drop k4).drop k3).drop k2).drop k1
     exact zO2 Tryz.results11 hf rfl rfl ⟨none,0,rfl,hc⟩
    ·refine wp_skip ?_
     refine ax _ _ ?_
     refine cX ?_
     refine sp 2 hf rfl fun a hf=>zN hf hc aLz m0 rfl fun a w hf hc=>zP hf rfl (pFA aFu rfl) fun a hf=>zL hf hc vC m1 rfl fun a w hf hc=>?_
     obtain ⟨d,ak,hF⟩:=aC hF
     refine zC hf aKy rfl (mK D B.Spill mp (⟨b_.Table,k.2.1⟩:bB) ab J ((((hc.pick k6).pick k6).pick k5).pick k6) ak) ?_
     rintro _ w ⟨rfl,hc⟩
     refine ⟨_,rfl,fun a hf=>?_⟩
     refine oJ (rows:=([d.1]:List Int).map aD) (vs:=[(0,i6 d.1)]) hf hc rfl rfl lQ rfl ⟨rfl,rfl,rfl,trivial⟩ rfl rfl fun a1 a w hf hc=>?_
     obtain ⟨un,au,hF⟩:=aC hF
     refine lO (xs:=out) (ys:=([d.1]:List Int)) hf hc rfl rfl lQ rfl rfl rfl rfl rfl bG (fM hc m0) (fun _ _=>u7) (by simpa using dB au) fun ar az a w hf hc=>sp 1 hf rfl fun a hf=>aQ ?_
     refine av _ _ ?_
     refine cX ?_
     refine sp 2 hf rfl fun a hf=>aQ ?_
     replace hc:=(((((((hc.drop k6).drop k5).drop k0).pick k3).pick k3).pick k2).pick k3).pick k4
     exact an ((out++[d.1]),W (x + 1),d.2.2,d.2.1) _ _ (sj hF).symm ⟨ar,az,hf.kp rfl,hc⟩
   ·refine wp_exit ?_
    refine bI ?_
    refine bI ?_
    have he:=sj hF
    rw [← he] at X
    refine fB ?_
    exact ag _ _ _ X ⟨Z,Y,hf.kp rfl,hc⟩

def lX (n:Int) (s_:aF):Bool :=
 ((decide (s_.Lo≤n)) && (decide (n≤s_.Hi)))
theorem aG8 {G:bA} {Lf:List Ent} {w:World} (n:Int) (s_:aF)   (hc:Ctx G (Lf) w) {D:Bool} (hF:lX n s_=D):Calls Tryz.prog 12 #[i6 n,.agg #[i6 s_.Lo,i6 s_.Hi]] w (fun e w=>e=.returned (.bool D)∧Ctx G (Lf) w):=by
 unfold lX at hF
 refine cC Tryz.func12 rfl Tryz.ntmps12 rfl fun a hf=>zS fun K h=>zB hf hc rfl fun B a w hf hc=>sp 1 hf rfl fun a hf=>zT h ?_
 refine zS fun K h=>sp 1 hf rfl fun a hf=>zP hf rfl (pFA iH rfl) fun a hf=>zL hf hc aX m0 rfl fun a w hf hc=>sp 2 hf rfl fun a hf=>fL 5 (fun a=>Has 15 a [(0,i6 n),(3,pq B),(4,.bool false),(5,i6 n),(6,pq B),(7,i6 s_.Lo),(8,.bool (decide (s_.Lo≤n))),(9,.bool (decide (s_.Lo≤n))),(14,.bool ((decide (s_.Lo≤n)) && (decide (n≤s_.Hi))))]) hc ?_ ?_
 ·cases hb:(decide (s_.Lo≤n))
  ·rw [hb] at hf
   refine stS hf rfl rfl rfl fun a hf=>stS hf rfl rfl rfl fun a hf=>stS hf rfl rfl rfl fun a hf=>stS hf rfl rfl rfl fun a hf=>sp 1 hf rfl fun a hf=>aQ ⟨hf.kp rfl,hc⟩
  ·rw [hb] at hf
   refine sp 1 hf rfl fun a hf=>zP hf rfl (pFA fQ rfl) fun a hf=>zL hf hc aX m0 rfl fun a w hf hc=>sp 2 hf rfl fun a hf=>aQ ⟨hf.kp rfl,hc⟩
 intro a w ⟨hf,hc⟩
 refine sp 1 hf rfl fun a hf=>zT h ?_
 refine wp_ret ?_
 obtain rfl:=hF
 replace hc:=hc.drop k0
 exact zO1 Tryz.results12 hf rfl ⟨rfl,hc⟩

def hI (x:Int):Bool :=
 (!(bP x))
theorem xR {G:bA} {Lf:List Ent} {w:World} (x:Int) {b_:Nat}  (hc:Ctx G (.box b_ [.func (.func 25) #[] #[]] 88::Lf) w) {B:Bool} (hF:hI x=B):Calls Tryz.prog 48 #[i6 x,pq b_] w (fun e w=>e=.returned (.bool B)∧Ctx G (.box b_ [.func (.func 25) #[] #[]] 88::Lf) w):=by
 unfold hI at hF
 refine cC Tryz.func48 rfl Tryz.ntmps48 rfl fun a hf=>zS fun K h=>sp 1 hf rfl fun a hf=>zT h ?_
 refine zS fun K h=>zL hf hc aMb m0 rfl fun a w hf hc=>sp 1 hf rfl fun a hf=>zQ (v:=.bool (bP x)) hf hc aBf rfl (fun w hc=>iZ x hc rfl) fun a w hf hc=>sp 2 hf rfl fun a hf=>zT h ?_
 refine wp_ret ?_
 obtain rfl:=hF
 exact zO1 Tryz.results48 hf rfl ⟨rfl,hc⟩

def iE (N:Nat) (s_:List Int) (x:Int):Option (dA (Int) (Int)) :=
 cond (decide (x < ((s_.length:Nat):Int)))
 (Option.bind (cM s_ x) fun B=>
 cond (hI B)
 (some (.ret x))
 (some (.cont (W (x + 1)))))
 (some (.brk x))
def gC (N:Nat) (s_:List Int):Option (Int) :=
 Option.bind (bN (fun s4=>iE N s_ s4) N 0) fun x4=>
 exK x4 (fun s4=>some (-1)) some
theorem qG {N:Nat} {G:bA} {Lf:List Ent} {w:World} (s_:List Int) {H:Option Addr} {D:Nat} {b_:Nat} (O:Rd G 1 H D (s_.map aD)) (hc:Ctx G (.box b_ [.func (.func 25) #[] #[]] 88::Lf) w) {I:Int} (hF:gC N s_=some I):Calls Tryz.prog 76 #[.slice H s_.length D,.func (.func 48) #[] #[pq b_]] w (fun e w=>e=.returned (i6 I)∧Ctx G (.box b_ [.func (.func 25) #[] #[]] 88::Lf) w):=by
 unfold gC at hF
 refine cC Tryz.func76 rfl Tryz.ntmps76 rfl fun a hf=>zS fun K h=>sp 1 hf rfl fun a hf=>zT h ?_
 refine wp_seq_k fun K2 h2=>zS fun K h=>sp 1 hf rfl fun a hf=>zP hf rfl (cP Tryz.underlying39 rfl) fun a hf=>sp 1 hf rfl fun a hf=>zT h ?_
 refine wp_block ?_
 obtain ⟨x4,U,hF⟩:=aC hF
 let S4:Int→Act→World→Prop:=(fun (zz:Int) a w=>Has 19 a [(0,.slice H s_.length D),(1,.func (.func 48) #[] #[pq b_]),(7,i6 ((s_.length:Nat):Int)),(8,i6 zz)]∧Ctx G (.box b_ [.func (.func 25) #[] #[]] 88::Lf) w)
 have X:∀ (zz:Int) a w,x4=.go zz→S4 zz a w→K2 a w:=by
  rintro x a w rfl ⟨hf,hc⟩
  replace hF:=cJ hF
  refine h2 _ _ ?_
  refine zS fun K h=>sp 1 hf rfl fun a hf=>zT h ?_
  refine wp_ret ?_
  obtain rfl:=sj hF
  exact zO1 Tryz.results76 hf rfl ⟨rfl,hc⟩
 have R:∀ r,x4=.out r→r=I:=by
  rintro r rfl
  exact sj hF
 refine dQ N (dP (S:=S4) (x:=x4) ?_ N 0 _ _ ⟨hf.kp rfl,hc⟩ U)
 clear hF hf hc
 rintro x Y a w KB4 ⟨hf,hc⟩ hF B V
 unfold iE at hF
 refine zS fun K h=>sp 1 hf rfl fun a hf=>zT h ?_
 refine wp_seq_k fun K7 h7=>zI hf rfl hF ?_ ?_ <;> clear hF <;> intro hF
 ·refine wp_skip ?_
  refine h7 _ _ ?_
  refine wp_seq_k fun K8 h8=>wp_block ?_
  refine zS fun K h=>sp 2 hf rfl fun a hf=>zT h ?_
  refine zS fun K h=>sp 3 hf rfl fun a hf=>?_
  obtain ⟨J,M,hF⟩:=aC hF
  obtain ⟨Z,o,qa,qp⟩:=O.atm M
  refine zP hf rfl (pIA Tryz.underlying39 fD rfl rfl qa) fun a hf=>zE hf hc rfl (cV aX rfl (kX (j:=0) qp rfl)) fun a w hf hc=>zQ (v:=.bool (hI J)) hf hc en_48 rfl (fun w hc=>(xR J (hc.pick k0) rfl).mono fun e w h=>⟨h.1,(h.2.unpick k0)⟩) fun a w hf hc=>zT h ?_
  refine zI hf rfl hF ?_ ?_ <;> clear hF <;> intro hF
  ·refine zS fun K h=>sp 2 hf rfl fun a hf=>zT h ?_
   refine wp_ret ?_
   refine cI ?_
   refine aU ?_
   refine aU ?_
   have he:=sj hF
   rw [← he] at B
   replace hF:=R _ B
   refine cI ?_
   refine aU ?_
   obtain rfl:=hF
   exact zO1 Tryz.results76 hf rfl ⟨rfl,hc⟩
  ·refine wp_skip ?_
   refine h8 _ _ ?_
   refine cX ?_
   refine sp 2 hf rfl fun a hf=>aQ ?_
   exact V (W (x + 1)) _ _ (sj hF).symm ⟨hf.kp rfl,hc⟩
 ·refine wp_exit ?_
  refine bI ?_
  refine bI ?_
  have he:=sj hF
  rw [← he] at B
  refine fB ?_
  exact X _ _ _ B ⟨hf.kp rfl,hc⟩

def gB (N:Nat) (s_:List Int):Option (Bool) :=
 Option.bind (gC N s_) fun r=>
 some (decide (0≤r))
theorem qF {N:Nat} {G:bA} {Lf:List Ent} {w:World} (s_:List Int) {D:Option Addr} {B:Nat} {b_:Nat} (I:Rd G 1 D B (s_.map aD)) (hc:Ctx G (.box b_ [.func (.func 25) #[] #[]] 88::Lf) w) {H:Bool} (hF:gB N s_=some H):Calls Tryz.prog 47 #[.slice D s_.length B,.func (.func 48) #[] #[pq b_]] w (fun e w=>e=.returned (.bool H)∧Ctx G (.box b_ [.func (.func 25) #[] #[]] 88::Lf) w):=by
 unfold gB at hF
 refine cC Tryz.func47 rfl Tryz.ntmps47 rfl fun a hf=>zS fun K h=>sp 1 hf rfl fun a hf=>zT h ?_
 refine zS fun K h=>sp 2 hf rfl fun a hf=>?_
 obtain ⟨r,hr,hF⟩:=aC hF
 refine zQ (v:=i6 r) hf hc aOt rfl (fun w hc=>(qG s_ I (hc.pick k0) hr).mono fun e w h=>⟨h.1,(h.2.unpick k0)⟩) fun a w hf hc=>sp 2 hf rfl fun a hf=>zT h ?_
 refine wp_ret ?_
 obtain rfl:=sj hF
 exact zO1 Tryz.results47 hf rfl ⟨rfl,hc⟩

def mU (N:Nat) (l:List Int):Option (Bool) :=
 Option.bind (gB N l) fun r=>
 some (!r)
theorem yO {N:Nat} {G:bA} {Lf:List Ent} {w:World} (l:List Int) {H:Option Addr} {D:Nat} (I:Rd G 1 H D (l.map aD)) (hc:Ctx G (Lf) w) {B:Bool} (hF:mU N l=some B):Calls Tryz.prog 26 #[.slice H l.length D,.func (.func 25) #[] #[]] w (fun e w=>e=.returned (.bool B)∧Ctx G (Lf) w):=by
 unfold mU at hF
 refine cC Tryz.func26 rfl Tryz.ntmps26 rfl fun a hf=>zS fun K h=>zB hf hc rfl fun J a w hf hc=>sp 1 hf rfl fun a hf=>zT h ?_
 refine zS fun K h=>sp 1 hf rfl fun a hf=>zP hf rfl (pMF (us:=[pq J]) rfl rfl) fun a hf=>?_
 obtain ⟨r,hr,hF⟩:=aC hF
 refine zQ (v:=.bool r) hf hc en_47 rfl (fun w hc=>(qF l I (hc.pick k0) hr).mono fun e w h=>⟨h.1,(h.2.unpick k0)⟩) fun a w hf hc=>sp 2 hf rfl fun a hf=>zT h ?_
 refine wp_ret ?_
 obtain rfl:=sj hF
 replace hc:=hc.drop k0
 exact zO1 Tryz.results26 hf rfl ⟨rfl,hc⟩

def lG (N:Nat) (p_:sW) (B:Int) (out:List Int) (x:Int):Option (dA (Int × (List Int) × Int) ((List Int) × Int)) :=
 cond (decide (x < ((p_.Can.length:Nat):Int)))
 (Option.bind (cM p_.Can x) fun D=>
 cond (B == 0)
 (some (.brk (B,out,x)))
 (Option.bind (nz p_.Part) fun un=>
 Option.bind (nQ ((out++[min (min B D) (max p_.Least (W ((W ((W (B + p_.Part)) - 1)).tdiv p_.Part)))])).length) fun H=>
 some (.cont (W (B - (min (min B D) (max p_.Least (W ((W ((W (B + p_.Part)) - 1)).tdiv p_.Part))))),(out++[min (min B D) (max p_.Least (W ((W ((W (B + p_.Part)) - 1)).tdiv p_.Part)))]),W (x + 1)))))
 (some (.brk (B,out,x)))
def mY (N:Nat) (D:Int) (p_:sW):Option ((List Int) × Int) :=
 cond (!(bP D))
 (some (([]:List Int),4))
 (cond (decide (40 < ((p_.Can.length:Nat):Int)))
 (some (([]:List Int),3))
 (Option.bind (cond ((!(aW p_.Least 1 1000000000)) || (!(aW p_.Part 1 100))) (some true) (Option.bind (mU N p_.Can) fun r=>
 some (!r))) fun I=>
 cond I
 (some (([]:List Int),100))
 (Option.bind (bN (fun B=>lG N p_ B.1 B.2.1 B.2.2) N (D,([]:List Int),0)) fun H=>
 exK H (fun B=>cond (decide (0 < B.1))
 (some (([]:List Int),5))
 (some (B.2.1,0))) some)))
theorem aAz {N:Nat} {G:bA} {Lf:List Ent} {w:World} (I:Int) (p_:sW) {H:Option Addr} {D:Nat} (O:Rd G 1 H D (p_.Can.map aD)) (hc:Ctx G (Lf) w) {X:(List Int) × Int} (hF:mY N I p_=some X):Calls Tryz.prog 13 #[i6 I,.agg #[i6 p_.Least,i6 p_.Part,.slice H p_.Can.length D]] w (fun e w=>∃ (g:Option Addr) (i:Nat),e=.returned (.tuple #[.slice g X.1.length i,i6 X.2])∧Ctx G (.row g i (X.1.map aD) 3 1::Lf) w):=by
 unfold mY at hF
 refine cC Tryz.func13 rfl Tryz.ntmps13 rfl fun a hf=>zS fun K h=>zB hf hc rfl fun U a w hf hc=>sp 2 hf rfl fun a hf=>zT h ?_
 refine wp_seq_k fun K2 h2=>wp_block ?_
 refine zS fun K h=>sp 1 hf rfl fun a hf=>zQ (v:=.bool (bP I)) hf hc aBf rfl (fun w hc=>iZ I hc rfl) fun a w hf hc=>sp 2 hf rfl fun a hf=>zT h ?_
 refine zI hf rfl hF ?_ ?_ <;> clear hF <;> intro hF
 ·refine zS fun K h=>sp 2 hf rfl fun a hf=>zT h ?_
  refine wp_ret ?_
  refine cI ?_
  refine aU ?_
  obtain rfl:=sj hF
  replace hc:=hc.nilRow 3 1
  replace hc:=hc.drop k1
  exact zO2 Tryz.results13 hf rfl rfl ⟨none,0,rfl,hc⟩
 ·refine zS fun K h=>zP hf rfl (pFA zO rfl) fun a hf=>zL hf hc uA m0 rfl fun a w hf hc=>zP hf rfl (cP Tryz.underlying39 rfl) fun a hf=>sp 2 hf rfl fun a hf=>zT h ?_
  refine zI hf rfl hF ?_ ?_ <;> clear hF <;> intro hF
  ·refine zS fun K h=>sp 2 hf rfl fun a hf=>zT h ?_
   refine wp_ret ?_
   refine cI ?_
   refine aU ?_
   obtain rfl:=sj hF
   replace hc:=hc.nilRow 3 1
   replace hc:=hc.drop k1
   exact zO2 Tryz.results13 hf rfl rfl ⟨none,0,rfl,hc⟩
  ·refine zS fun K h=>zP hf rfl (pFA aGl rfl) fun a hf=>zL hf hc aX m0 rfl fun a w hf hc=>zQ (v:=.bool (aW p_.Least 1 1000000000)) hf hc wH rfl (fun w hc=>iA p_.Least 1 1000000000 hc rfl) fun a w hf hc=>sp 2 hf rfl fun a hf=>fL 5 (fun a=>Has 70 a [(0,i6 I),(3,pq U),(20,pq U),(21,i6 p_.Least),(22,.bool (aW p_.Least 1 1000000000)),(23,.bool (!(aW p_.Least 1 1000000000))),(24,.bool (!(aW p_.Least 1 1000000000))),(29,.bool ((!(aW p_.Least 1 1000000000)) || (!(aW p_.Part 1 100))))]) hc ?_ ?_
   ·cases hb:(!(aW p_.Least 1 1000000000))
    ·rw [hb] at hf
     refine zP hf rfl (pFA aF8 rfl) fun a hf=>zL hf hc aX m0 rfl fun a w hf hc=>zQ (v:=.bool (aW p_.Part 1 100)) hf hc wH rfl (fun w hc=>iA p_.Part 1 100 hc rfl) fun a w hf hc=>sp 2 hf rfl fun a hf=>aQ ⟨hf.kp rfl,hc⟩
    ·rw [hb] at hf
     refine stS hf rfl rfl rfl fun a hf=>stS hf rfl rfl rfl fun a hf=>stS hf rfl rfl rfl fun a hf=>stS hf rfl rfl rfl fun a hf=>sp 1 hf rfl fun a hf=>aQ ⟨hf.kp rfl,hc⟩
   intro a w ⟨hf,hc⟩
   refine sp 1 hf rfl fun a hf=>?_
   obtain ⟨aa,b,hF⟩:=aC hF
   refine fL 5 (fun a=>Has 70 a [(0,i6 I),(3,pq U),(20,pq U),(21,i6 p_.Least),(22,.bool (aW p_.Least 1 1000000000)),(23,.bool (!(aW p_.Least 1 1000000000))),(24,.bool (!(aW p_.Least 1 1000000000))),(29,.bool ((!(aW p_.Least 1 1000000000)) || (!(aW p_.Part 1 100)))),(30,.bool ((!(aW p_.Least 1 1000000000)) || (!(aW p_.Part 1 100)))),(35,.bool aa)]) hc ?_ ?_
   ·cases hb:((!(aW p_.Least 1 1000000000)) || (!(aW p_.Part 1 100)))
    ·rw [hb] at hf
     have hF:=nU hb b
     refine zP hf rfl (pFA zO rfl) fun a hf=>zL hf hc uA m0 rfl fun a w hf hc=>?_
     obtain ⟨r,hr,hF⟩:=aC hF
     refine zQ (v:=.bool r) hf hc en_26 rfl (fun w hc=>yO p_.Can O hc hr) fun a w hf hc=>sp 2 hf rfl fun a hf=>?_
     obtain rfl:=sj hF
     exact aQ ⟨hf.kp rfl,hc⟩
    ·rw [hb] at hf
     have hF:=gI hb b
     obtain rfl:=sj hF
     refine stS hf rfl rfl rfl fun a hf=>stS hf rfl rfl rfl fun a hf=>stS hf rfl rfl rfl fun a hf=>stS hf rfl rfl rfl fun a hf=>sp 1 hf rfl fun a hf=>aQ ⟨hf.kp rfl,hc⟩
   intro a w ⟨hf,hc⟩
   refine sp 1 hf rfl fun a hf=>zT h ?_
   refine zI hf rfl hF ?_ ?_ <;> clear hF <;> intro hF
   ·refine zS fun K h=>sp 2 hf rfl fun a hf=>zT h ?_
    refine wp_ret ?_
    refine cI ?_
    refine aU ?_
    obtain rfl:=sj hF
    replace hc:=hc.nilRow 3 1
    replace hc:=hc.drop k1
    exact zO2 Tryz.results13 hf rfl rfl ⟨none,0,rfl,hc⟩
   ·refine wp_skip ?_
    refine h2 _ _ ?_
    refine zS fun K h=>sp 1 hf rfl fun a hf=>zT h ?_
    refine wp_seq_k fun K10 t=>zS fun K h=>zP hf rfl (pFA zO rfl) fun a hf=>zL hf hc uA m0 rfl fun a w hf hc=>zP hf rfl (cP Tryz.underlying39 rfl) fun a hf=>sp 1 hf rfl fun a hf=>zT h ?_
    refine wp_block ?_
    obtain ⟨Y,n,hF⟩:=aC hF
    let S12:(Int × (List Int) × Int)→Act→World→Prop:=(fun (zz:Int × (List Int) × Int) a w=>∃ (R:Option Addr) (M:Nat),Has 70 a [(0,i6 zz.1),(3,pq U),(6,.slice R zz.2.1.length M),(37,.slice H p_.Can.length D),(38,i6 ((p_.Can.length:Nat):Int)),(39,i6 zz.2.2)]∧Ctx G (.row R M (zz.2.1.map aD) 3 1::.box U [i6 p_.Least,i6 p_.Part,.slice H p_.Can.length D] 60::Lf) w)
    have Z:∀ (zz:Int × (List Int) × Int) a w,Y=.go zz→S12 zz a w→K10 a w:=by
     rintro ⟨B,out,x⟩ a w rfl ⟨R,M,hf,hc⟩
     replace hF:=cJ hF
     refine t _ _ ?_
     refine wp_seq_k fun K13 z=>zS fun K h=>sp 2 hf rfl fun a hf=>zT h ?_
     refine zI hf rfl hF ?_ ?_ <;> clear hF <;> intro hF
     ·refine zS fun K h=>sp 2 hf rfl fun a hf=>zT h ?_
      refine wp_ret ?_
      refine aU ?_
      obtain rfl:=sj hF
      replace hc:=hc.nilRow 3 1
      replace hc:=(hc.drop k2).drop k1
      exact zO2 Tryz.results13 hf rfl rfl ⟨none,0,rfl,hc⟩
     ·refine wp_skip ?_
      refine z _ _ ?_
      refine zS fun K h=>sp 3 hf rfl fun a hf=>zT h ?_
      refine wp_ret ?_
      obtain rfl:=sj hF
      replace hc:=hc.drop k1
      exact zO2 Tryz.results13 hf rfl rfl ⟨R,M,rfl,hc⟩
    have af:∀ r,Y=.out r→r=X:=by
     rintro r rfl
     exact sj hF
    replace hc:=hc.nilRow 3 1
    refine dQ N (dP (S:=S12) (x:=Y) ?_ N (I,([]:List Int),0) _ _ ⟨none,0,hf.kp rfl,hc⟩ n)
    clear hF hf hc
    rintro ⟨B,out,x⟩ ad a w KB12 ⟨R,M,hf,hc⟩ hF J k
    unfold lG at hF
    refine zS fun K h=>sp 1 hf rfl fun a hf=>zT h ?_
    refine wp_seq_k fun K18 u=>zI hf rfl hF ?_ ?_ <;> clear hF <;> intro hF
    ·refine wp_skip ?_
     refine u _ _ ?_
     refine wp_seq_k fun K19 ab=>wp_block ?_
     refine zS fun K h=>?_
     obtain ⟨V,m,hF⟩:=aC hF
     obtain ⟨aj,o,qa,qp⟩:=O.atm m
     refine zP hf rfl (pIA Tryz.underlying39 fD rfl rfl qa) fun a hf=>zE hf hc rfl (cV aX rfl (kX (j:=0) qp rfl)) fun a w hf hc=>sp 1 hf rfl fun a hf=>zT h ?_
     refine wp_seq_k fun K21 s=>zS fun K h=>sp 2 hf rfl fun a hf=>zT h ?_
     refine zI hf rfl hF ?_ ?_ <;> clear hF <;> intro hF
     ·refine wp_exit ?_
      refine bI ?_
      refine aOg rfl ?_
      refine bI ?_
      refine bI ?_
      have he:=sj hF
      rw [← he] at J
      refine fB ?_
      exact Z _ _ _ J ⟨R,M,hf.kp rfl,hc⟩
     ·refine wp_skip ?_
      refine s _ _ ?_
      refine wp_seq_k fun K23 y=>?_
      obtain ⟨un,q,hF⟩:=aC hF
      refine cQ hc aT (by kernel_rfl) ?_
      refine qE hf rfl rfl rfl (Pu.ev (pM rfl)) fun a hf=>qE hf rfl rfl rfl (Pu.ev (pM rfl)) fun a hf=>qE hf rfl rfl rfl (Pu.ev (pFA aGl rfl)) fun a hf=>qE hf rfl rfl rfl (cV aX rfl (bQ m1 rfl)) fun a hf=>qE hf rfl rfl rfl (Pu.ev (pM rfl)) fun a hf=>qE hf rfl rfl rfl (Pu.ev (pFA aF8 rfl)) fun a hf=>qE hf rfl rfl rfl (cV aX rfl (bQ m1 rfl)) fun a hf=>qE hf rfl rfl rfl (Pu.ev (aLt rfl rfl)) fun a hf=>qE hf rfl rfl rfl (Pu.ev (aFz rfl rfl)) fun a hf=>qE hf rfl rfl rfl (Pu.ev (pFA aF8 rfl)) fun a hf=>qE hf rfl rfl rfl (cV aX rfl (bQ m1 rfl)) fun a hf=>qE hf rfl rfl rfl (Pu.ev (aJ9 rfl rfl (tV q))) fun a hf=>qE hf rfl rfl rfl (Pu.ev (aAk rfl rfl)) fun a hf=>?_
      refine qE hf rfl rfl rfl (Pu.ev (pMin3 rfl rfl rfl)) fun a hf=>qE hf rfl rfl rfl (Pu.ev (pA rfl)) fun a hf=>?_
      intro w hc
      refine y _ _ ?_
      refine zS fun K h=>sp 2 hf rfl fun a hf=>oJ (rows:=([min (min B V) (max p_.Least (W ((W ((W (B + p_.Part)) - 1)).tdiv p_.Part)))]:List Int).map aD) (vs:=[(0,i6 (min (min B V) (max p_.Least (W ((W ((W (B + p_.Part)) - 1)).tdiv p_.Part)))))]) hf hc rfl rfl lQ rfl ⟨rfl,rfl,rfl,trivial⟩ rfl rfl fun ai a w hf hc=>?_
      obtain ⟨ag,d,hF⟩:=aC hF
      refine lO (xs:=out) (ys:=([min (min B V) (max p_.Least (W ((W ((W (B + p_.Part)) - 1)).tdiv p_.Part)))]:List Int)) hf hc rfl rfl lQ rfl rfl rfl rfl rfl bG (fM hc m0) (fun _ _=>u1) (by simpa using dB d) fun p ac a w hf hc=>sp 1 hf rfl fun a hf=>zT h ?_
      refine cX ?_
      refine sp 4 hf rfl fun a hf=>aQ ?_
      refine ab _ _ ?_
      refine cX ?_
      refine sp 2 hf rfl fun a hf=>aQ ?_
      replace hc:=hc.drop k0
      exact k (W (B - (min (min B V) (max p_.Least (W ((W ((W (B + p_.Part)) - 1)).tdiv p_.Part))))),(out++[min (min B V) (max p_.Least (W ((W ((W (B + p_.Part)) - 1)).tdiv p_.Part)))]),W (x + 1)) _ _ (sj hF).symm ⟨p,ac,hf.kp rfl,hc⟩
    ·refine wp_exit ?_
     refine bI ?_
     refine bI ?_
     have he:=sj hF
     rw [← he] at J
     refine fB ?_
     exact Z _ _ _ J ⟨R,M,hf.kp rfl,hc⟩

def kZ (N:Nat) (l:List Int) (n:Int) (x:Int):Option (dA (Int × Int) (Int)) :=
 cond (decide (x < ((l.length:Nat):Int)))
 (Option.bind (cM l x) fun B=>
 some (.cont (W (n + B),W (x + 1))))
 (some (.brk (n,x)))
def sL (N:Nat) (l:List Int):Option (Int) :=
 Option.bind (bN (fun s5=>kZ N l s5.1 s5.2) N (0,0)) fun x5=>
 exK x5 (fun s5=>some s5.1) some
theorem aF7 {N:Nat} {G:bA} {Lf:List Ent} {w:World} (l:List Int) {I:Option Addr} {D:Nat} (U:Rd G 1 I D (l.map aD)) (hc:Ctx G (Lf) w) {H:Int} (hF:sL N l=some H):Calls Tryz.prog 14 #[.slice I l.length D] w (fun e w=>e=.returned (i6 H)∧Ctx G (Lf) w):=by
 unfold sL at hF
 refine cC Tryz.func14 rfl Tryz.ntmps14 rfl fun a hf=>zS fun K h=>sp 1 hf rfl fun a hf=>zT h ?_
 refine zS fun K h=>sp 1 hf rfl fun a hf=>zT h ?_
 refine wp_seq_k fun K3 h3=>zS fun K h=>sp 1 hf rfl fun a hf=>zP hf rfl (cP Tryz.underlying39 rfl) fun a hf=>sp 1 hf rfl fun a hf=>zT h ?_
 refine wp_block ?_
 obtain ⟨x5,O,hF⟩:=aC hF
 let S5:(Int × Int)→Act→World→Prop:=(fun (zz:Int × Int) a w=>Has 17 a [(3,i6 zz.1),(6,.slice I l.length D),(7,i6 ((l.length:Nat):Int)),(8,i6 zz.2)]∧Ctx G (Lf) w)
 have V:∀ (zz:Int × Int) a w,x5=.go zz→S5 zz a w→K3 a w:=by
  rintro ⟨n,x⟩ a w rfl ⟨hf,hc⟩
  replace hF:=cJ hF
  refine h3 _ _ ?_
  refine zS fun K h=>sp 2 hf rfl fun a hf=>zT h ?_
  refine wp_ret ?_
  obtain rfl:=sj hF
  exact zO1 Tryz.results14 hf rfl ⟨rfl,hc⟩
 have Z:∀ r,x5=.out r→r=H:=by
  rintro r rfl
  exact sj hF
 refine dQ N (dP (S:=S5) (x:=x5) ?_ N (0,0) _ _ ⟨hf.kp rfl,hc⟩ O)
 clear hF hf hc
 rintro ⟨n,x⟩ X a w KB5 ⟨hf,hc⟩ hF B M
 unfold kZ at hF
 refine zS fun K h=>sp 1 hf rfl fun a hf=>zT h ?_
 refine wp_seq_k fun K8 h8=>zI hf rfl hF ?_ ?_ <;> clear hF <;> intro hF
 ·refine wp_skip ?_
  refine h8 _ _ ?_
  refine wp_seq_k fun K9 h9=>wp_block ?_
  refine zS fun K h=>?_
  obtain ⟨R,J,hF⟩:=aC hF
  obtain ⟨Y,o,qa,qp⟩:=U.atm J
  refine zP hf rfl (pIA Tryz.underlying39 fD rfl rfl qa) fun a hf=>zE hf hc rfl (cV aX rfl (kX (j:=0) qp rfl)) fun a w hf hc=>sp 1 hf rfl fun a hf=>zT h ?_
  refine cX ?_
  refine sp 4 hf rfl fun a hf=>aQ ?_
  refine h9 _ _ ?_
  refine cX ?_
  refine sp 2 hf rfl fun a hf=>aQ ?_
  exact M (W (n + R),W (x + 1)) _ _ (sj hF).symm ⟨hf.kp rfl,hc⟩
 ·refine wp_exit ?_
  refine bI ?_
  refine bI ?_
  have he:=sj hF
  rw [← he] at B
  refine fB ?_
  exact V _ _ _ B ⟨hf.kp rfl,hc⟩

def wY (N:Nat) (rise:Int):Option (aO) :=
 some (⟨3,([(⟨0,1,5,100,2⟩:cD),(⟨1,2,5,50,1⟩:cD),(⟨0,2,9,rise,3⟩:cD)]:List cD)⟩:aO)
theorem aDw {N:Nat} {G:bA} {Lf:List Ent} {w:World} (rise:Int)   (hc:Ctx G (Lf) w) {B:aO} (hF:wY N rise=some B):Calls Tryz.prog 28 #[i6 rise] w (fun e w=>∃ (H:Option Addr) (I:Nat),e=.returned (.agg #[i6 B.Marks,.slice H B.Lines.length I])∧Ctx G (.row H I (B.Lines.map bR) 132 5::Lf) w):=by
 unfold wY at hF
 refine cC Tryz.func28 rfl Tryz.ntmps28 rfl fun a hf=>zS fun K h=>zA hf hc zr_94 rfl fun J a w hf hc=>zT h ?_
 refine zS fun K h=>zP hf rfl (bJ (cells:=[i6 0,i6 1,i6 5,i6 100,i6 2]) aH4 rfl rfl) fun a hf=>zP hf rfl (bJ (cells:=[i6 1,i6 2,i6 5,i6 50,i6 1]) aH4 rfl rfl) fun a hf=>sp 1 hf rfl fun a hf=>zP hf rfl (bJ (cells:=[i6 0,i6 2,i6 9,i6 rise,i6 3]) aH4 rfl rfl) fun a hf=>oJ (rows:=([(⟨0,1,5,100,2⟩:cD),(⟨1,2,5,50,1⟩:cD),(⟨0,2,9,rise,3⟩:cD)]:List cD).map bR) (vs:=[(0,.agg #[i6 0,i6 1,i6 5,i6 100,i6 2]),(1,.agg #[i6 1,i6 2,i6 5,i6 50,i6 1]),(2,.agg #[i6 0,i6 2,i6 9,i6 rise,i6 3])]) hf hc rfl rfl sl_92 rfl ⟨rfl,rfl,rfl,rfl,rfl,rfl,rfl,rfl,rfl,trivial⟩ rfl rfl fun D a w hf hc=>zP hf rfl (bJ (cells:=[i6 3,.slice (some ⟨D,0,none⟩) 3 3]) bt_94 rfl rfl) fun a hf=>zW hf hc sz_94 u1 rfl fun w hc=>zT h ?_
 refine wp_ret ?_
 obtain rfl:=sj hF
 exact nK (by simp) rfl Tryz.results28 hf hc (dX (vs:=[i6 3,.slice (some ⟨D,0,none⟩) 3 3]) aBm rfl rfl (cE (n:=2) m1 rfl)) ⟨(some ⟨D,0,none⟩),3,rfl,(hc.drop k1)⟩

def bO (n:Int) (D:Int) (B:Int):Bool :=
 ((decide (D≤n)) && (decide (n≤B)))
theorem nV {G:bA} {Lf:List Ent} {w:World} (n:Int) (B:Int) (D:Int)   (hc:Ctx G (Lf) w) {H:Bool} (hF:bO n B D=H):Calls Tryz.prog 78 #[i6 n,i6 B,i6 D] w (fun e w=>e=.returned (.bool H)∧Ctx G (Lf) w):=by
 unfold bO at hF
 refine cC Tryz.func78 rfl Tryz.ntmps78 rfl fun a hf=>zS fun K h=>sp 1 hf rfl fun a hf=>zT h ?_
 refine zS fun K h=>sp 4 hf rfl fun a hf=>fL 4 (fun a=>Has 15 a [(0,i6 n),(1,i6 B),(2,i6 D),(6,.bool false),(7,i6 n),(8,i6 B),(9,.bool (decide (B≤n))),(10,.bool (decide (B≤n))),(14,.bool ((decide (B≤n)) && (decide (n≤D))))]) hc ?_ ?_
 ·cases hb:(decide (B≤n))
  ·rw [hb] at hf
   refine stS hf rfl rfl rfl fun a hf=>stS hf rfl rfl rfl fun a hf=>stS hf rfl rfl rfl fun a hf=>sp 1 hf rfl fun a hf=>aQ ⟨hf.kp rfl,hc⟩
  ·rw [hb] at hf
   refine sp 4 hf rfl fun a hf=>aQ ⟨hf.kp rfl,hc⟩
 intro a w ⟨hf,hc⟩
 refine sp 1 hf rfl fun a hf=>zT h ?_
 refine wp_ret ?_
 obtain rfl:=hF
 exact zO1 Tryz.results78 hf rfl ⟨rfl,hc⟩

def aM (i_:Int) (x:aO):Bool :=
 (bO i_ 0 (W (x.Marks - 1)))
theorem uU {G:bA} {Lf:List Ent} {w:World} (i_:Int) (x:aO) {b_:Nat} {B:Option Addr} {D:Nat} (H:Rd G 5 B D (x.Lines.map bR)) (hc:Ctx G (.box b_ [i6 x.Marks,.slice B x.Lines.length D] 94::Lf) w) {I:Bool} (hF:aM i_ x=I):Calls Tryz.prog 105 #[i6 i_,pq b_] w (fun e w=>e=.returned (.bool I)∧Ctx G (.box b_ [i6 x.Marks,.slice B x.Lines.length D] 94::Lf) w):=by
 unfold aM at hF
 refine cC Tryz.func105 rfl Tryz.ntmps105 rfl fun a hf=>zS fun K h=>sp 1 hf rfl fun a hf=>zT h ?_
 refine zS fun K h=>sp 1 hf rfl fun a hf=>zP hf rfl (pFA pW rfl) fun a hf=>zL hf hc aX m0 rfl fun a w hf hc=>sp 1 hf rfl fun a hf=>zQ (v:=.bool (bO i_ 0 (W (x.Marks - 1)))) hf hc aCv rfl (fun w hc=>nV i_ 0 (W (x.Marks - 1)) hc rfl) fun a w hf hc=>sp 1 hf rfl fun a hf=>zT h ?_
 refine wp_ret ?_
 obtain rfl:=hF
 exact zO1 Tryz.results105 hf rfl ⟨rfl,hc⟩

def qV (l:cD) (x:aO):Bool :=
 ((((((aM l.From (⟨x.Marks,x.Lines⟩:aO)) && (aM l.To (⟨x.Marks,x.Lines⟩:aO))) && (l.From != l.To)) && (bO l.Day 0 40000)) && (bO l.Rise (-1000000) 1000000)) && (bO l.Error 0 10000))
theorem aAt {G:bA} {Lf:List Ent} {w:World} (l:cD) (x:aO) {b_:Nat} {B:Nat} {D:Option Addr} {H:Nat} (J:Rd G 5 D H (x.Lines.map bR)) (hc:Ctx G (.box b_ [.func (.func 105) #[] #[pq B]] 88::.box B [i6 x.Marks,.slice D x.Lines.length H] 94::Lf) w) {M:Bool} (hF:qV l x=M):Calls Tryz.prog 107 #[.agg #[i6 l.From,i6 l.To,i6 l.Day,i6 l.Rise,i6 l.Error],pq b_] w (fun e w=>e=.returned (.bool M)∧Ctx G (.box b_ [.func (.func 105) #[] #[pq B]] 88::.box B [i6 x.Marks,.slice D x.Lines.length H] 94::Lf) w):=by
 unfold qV at hF
 refine cC Tryz.func107 rfl Tryz.ntmps107 rfl fun a hf=>zS fun K h=>zB hf hc rfl fun I a w hf hc=>sp 1 hf rfl fun a hf=>zT h ?_
 refine zS fun K h=>zL hf hc aMb m1 rfl fun a w hf hc=>zP hf rfl (pFA aCe rfl) fun a hf=>zL hf hc aX m0 rfl fun a w hf hc=>zQ (v:=.bool (aM l.From (⟨x.Marks,x.Lines⟩:aO))) hf hc aMi rfl (fun w hc=>(uU l.From (⟨x.Marks,x.Lines⟩:aO) J (hc.pick k2) rfl).mono fun e w h=>⟨h.1,(h.2.unpick k2)⟩) fun a w hf hc=>sp 1 hf rfl fun a hf=>fL 5 (fun a=>Has 36 a [(1,pq b_),(2,pq I),(3,.bool false),(4,.func (.func 105) #[] #[pq B]),(5,pq I),(6,i6 l.From),(7,.bool (aM l.From (⟨x.Marks,x.Lines⟩:aO))),(8,.bool (aM l.From (⟨x.Marks,x.Lines⟩:aO))),(13,.bool ((aM l.From (⟨x.Marks,x.Lines⟩:aO)) && (aM l.To (⟨x.Marks,x.Lines⟩:aO))))]) hc ?_ ?_
 ·cases hb:(aM l.From (⟨x.Marks,x.Lines⟩:aO))
  ·rw [hb] at hf
   refine stS hf rfl rfl rfl fun a hf=>stS hf rfl rfl rfl fun a hf=>stS hf rfl rfl rfl fun a hf=>stS hf rfl rfl rfl fun a hf=>sp 1 hf rfl fun a hf=>aQ ⟨hf.kp rfl,hc⟩
  ·rw [hb] at hf
   refine zL hf hc aMb m1 rfl fun a w hf hc=>zP hf rfl (pFA aCy rfl) fun a hf=>zL hf hc aX m0 rfl fun a w hf hc=>zQ (v:=.bool (aM l.To (⟨x.Marks,x.Lines⟩:aO))) hf hc aMi rfl (fun w hc=>(uU l.To (⟨x.Marks,x.Lines⟩:aO) J (hc.pick k2) rfl).mono fun e w h=>⟨h.1,(h.2.unpick k2)⟩) fun a w hf hc=>sp 1 hf rfl fun a hf=>aQ ⟨hf.kp rfl,hc⟩
 intro a w ⟨hf,hc⟩
 refine sp 1 hf rfl fun a hf=>fL 6 (fun a=>Has 36 a [(1,pq b_),(2,pq I),(3,.bool false),(4,.func (.func 105) #[] #[pq B]),(5,pq I),(6,i6 l.From),(7,.bool (aM l.From (⟨x.Marks,x.Lines⟩:aO))),(8,.bool (aM l.From (⟨x.Marks,x.Lines⟩:aO))),(13,.bool ((aM l.From (⟨x.Marks,x.Lines⟩:aO)) && (aM l.To (⟨x.Marks,x.Lines⟩:aO)))),(14,.bool ((aM l.From (⟨x.Marks,x.Lines⟩:aO)) && (aM l.To (⟨x.Marks,x.Lines⟩:aO)))),(20,.bool (((aM l.From (⟨x.Marks,x.Lines⟩:aO)) && (aM l.To (⟨x.Marks,x.Lines⟩:aO))) && (l.From != l.To)))]) hc ?_ ?_
 ·cases hb:((aM l.From (⟨x.Marks,x.Lines⟩:aO)) && (aM l.To (⟨x.Marks,x.Lines⟩:aO)))
  ·rw [hb] at hf
   refine stS hf rfl rfl rfl fun a hf=>stS hf rfl rfl rfl fun a hf=>stS hf rfl rfl rfl fun a hf=>stS hf rfl rfl rfl fun a hf=>stS hf rfl rfl rfl fun a hf=>sp 1 hf rfl fun a hf=>aQ ⟨hf.kp rfl,hc⟩
  ·rw [hb] at hf
   refine zP hf rfl (pFA aCe rfl) fun a hf=>zL hf hc aX m0 rfl fun a w hf hc=>zP hf rfl (pFA aCy rfl) fun a hf=>zL hf hc aX m0 rfl fun a w hf hc=>sp 2 hf rfl fun a hf=>aQ ⟨hf.kp rfl,hc⟩
 intro a w ⟨hf,hc⟩
 refine sp 1 hf rfl fun a hf=>fL 4 (fun a=>Has 36 a [(1,pq b_),(2,pq I),(3,.bool false),(4,.func (.func 105) #[] #[pq B]),(5,pq I),(6,i6 l.From),(7,.bool (aM l.From (⟨x.Marks,x.Lines⟩:aO))),(8,.bool (aM l.From (⟨x.Marks,x.Lines⟩:aO))),(13,.bool ((aM l.From (⟨x.Marks,x.Lines⟩:aO)) && (aM l.To (⟨x.Marks,x.Lines⟩:aO)))),(14,.bool ((aM l.From (⟨x.Marks,x.Lines⟩:aO)) && (aM l.To (⟨x.Marks,x.Lines⟩:aO)))),(20,.bool (((aM l.From (⟨x.Marks,x.Lines⟩:aO)) && (aM l.To (⟨x.Marks,x.Lines⟩:aO))) && (l.From != l.To))),(21,.bool (((aM l.From (⟨x.Marks,x.Lines⟩:aO)) && (aM l.To (⟨x.Marks,x.Lines⟩:aO))) && (l.From != l.To))),(25,.bool ((((aM l.From (⟨x.Marks,x.Lines⟩:aO)) && (aM l.To (⟨x.Marks,x.Lines⟩:aO))) && (l.From != l.To)) && (bO l.Day 0 40000)))]) hc ?_ ?_
 ·cases hb:(((aM l.From (⟨x.Marks,x.Lines⟩:aO)) && (aM l.To (⟨x.Marks,x.Lines⟩:aO))) && (l.From != l.To))
  ·rw [hb] at hf
   refine stS hf rfl rfl rfl fun a hf=>stS hf rfl rfl rfl fun a hf=>stS hf rfl rfl rfl fun a hf=>sp 1 hf rfl fun a hf=>aQ ⟨hf.kp rfl,hc⟩
  ·rw [hb] at hf
   refine zP hf rfl (pFA aMr rfl) fun a hf=>zL hf hc aX m0 rfl fun a w hf hc=>zQ (v:=.bool (bO l.Day 0 40000)) hf hc aCv rfl (fun w hc=>nV l.Day 0 40000 hc rfl) fun a w hf hc=>sp 1 hf rfl fun a hf=>aQ ⟨hf.kp rfl,hc⟩
 intro a w ⟨hf,hc⟩
 refine sp 1 hf rfl fun a hf=>fL 4 (fun a=>Has 36 a [(1,pq b_),(2,pq I),(3,.bool false),(4,.func (.func 105) #[] #[pq B]),(5,pq I),(6,i6 l.From),(7,.bool (aM l.From (⟨x.Marks,x.Lines⟩:aO))),(8,.bool (aM l.From (⟨x.Marks,x.Lines⟩:aO))),(13,.bool ((aM l.From (⟨x.Marks,x.Lines⟩:aO)) && (aM l.To (⟨x.Marks,x.Lines⟩:aO)))),(14,.bool ((aM l.From (⟨x.Marks,x.Lines⟩:aO)) && (aM l.To (⟨x.Marks,x.Lines⟩:aO)))),(20,.bool (((aM l.From (⟨x.Marks,x.Lines⟩:aO)) && (aM l.To (⟨x.Marks,x.Lines⟩:aO))) && (l.From != l.To))),(21,.bool (((aM l.From (⟨x.Marks,x.Lines⟩:aO)) && (aM l.To (⟨x.Marks,x.Lines⟩:aO))) && (l.From != l.To))),(25,.bool ((((aM l.From (⟨x.Marks,x.Lines⟩:aO)) && (aM l.To (⟨x.Marks,x.Lines⟩:aO))) && (l.From != l.To)) && (bO l.Day 0 40000))),(26,.bool ((((aM l.From (⟨x.Marks,x.Lines⟩:aO)) && (aM l.To (⟨x.Marks,x.Lines⟩:aO))) && (l.From != l.To)) && (bO l.Day 0 40000))),(30,.bool (((((aM l.From (⟨x.Marks,x.Lines⟩:aO)) && (aM l.To (⟨x.Marks,x.Lines⟩:aO))) && (l.From != l.To)) && (bO l.Day 0 40000)) && (bO l.Rise (-1000000) 1000000)))]) hc ?_ ?_
 ·cases hb:((((aM l.From (⟨x.Marks,x.Lines⟩:aO)) && (aM l.To (⟨x.Marks,x.Lines⟩:aO))) && (l.From != l.To)) && (bO l.Day 0 40000))
  ·rw [hb] at hf
   refine stS hf rfl rfl rfl fun a hf=>stS hf rfl rfl rfl fun a hf=>stS hf rfl rfl rfl fun a hf=>sp 1 hf rfl fun a hf=>aQ ⟨hf.kp rfl,hc⟩
  ·rw [hb] at hf
   refine zP hf rfl (pFA aCi rfl) fun a hf=>zL hf hc aX m0 rfl fun a w hf hc=>zQ (v:=.bool (bO l.Rise (-1000000) 1000000)) hf hc aCv rfl (fun w hc=>nV l.Rise (-1000000) 1000000 hc rfl) fun a w hf hc=>sp 1 hf rfl fun a hf=>aQ ⟨hf.kp rfl,hc⟩
 intro a w ⟨hf,hc⟩
 refine sp 1 hf rfl fun a hf=>fL 4 (fun a=>Has 36 a [(1,pq b_),(2,pq I),(3,.bool false),(4,.func (.func 105) #[] #[pq B]),(5,pq I),(6,i6 l.From),(7,.bool (aM l.From (⟨x.Marks,x.Lines⟩:aO))),(8,.bool (aM l.From (⟨x.Marks,x.Lines⟩:aO))),(13,.bool ((aM l.From (⟨x.Marks,x.Lines⟩:aO)) && (aM l.To (⟨x.Marks,x.Lines⟩:aO)))),(14,.bool ((aM l.From (⟨x.Marks,x.Lines⟩:aO)) && (aM l.To (⟨x.Marks,x.Lines⟩:aO)))),(20,.bool (((aM l.From (⟨x.Marks,x.Lines⟩:aO)) && (aM l.To (⟨x.Marks,x.Lines⟩:aO))) && (l.From != l.To))),(21,.bool (((aM l.From (⟨x.Marks,x.Lines⟩:aO)) && (aM l.To (⟨x.Marks,x.Lines⟩:aO))) && (l.From != l.To))),(25,.bool ((((aM l.From (⟨x.Marks,x.Lines⟩:aO)) && (aM l.To (⟨x.Marks,x.Lines⟩:aO))) && (l.From != l.To)) && (bO l.Day 0 40000))),(26,.bool ((((aM l.From (⟨x.Marks,x.Lines⟩:aO)) && (aM l.To (⟨x.Marks,x.Lines⟩:aO))) && (l.From != l.To)) && (bO l.Day 0 40000))),(30,.bool (((((aM l.From (⟨x.Marks,x.Lines⟩:aO)) && (aM l.To (⟨x.Marks,x.Lines⟩:aO))) && (l.From != l.To)) && (bO l.Day 0 40000)) && (bO l.Rise (-1000000) 1000000))),(31,.bool (((((aM l.From (⟨x.Marks,x.Lines⟩:aO)) && (aM l.To (⟨x.Marks,x.Lines⟩:aO))) && (l.From != l.To)) && (bO l.Day 0 40000)) && (bO l.Rise (-1000000) 1000000))),(35,.bool ((((((aM l.From (⟨x.Marks,x.Lines⟩:aO)) && (aM l.To (⟨x.Marks,x.Lines⟩:aO))) && (l.From != l.To)) && (bO l.Day 0 40000)) && (bO l.Rise (-1000000) 1000000)) && (bO l.Error 0 10000)))]) hc ?_ ?_
 ·cases hb:(((((aM l.From (⟨x.Marks,x.Lines⟩:aO)) && (aM l.To (⟨x.Marks,x.Lines⟩:aO))) && (l.From != l.To)) && (bO l.Day 0 40000)) && (bO l.Rise (-1000000) 1000000))
  ·rw [hb] at hf
   refine stS hf rfl rfl rfl fun a hf=>stS hf rfl rfl rfl fun a hf=>stS hf rfl rfl rfl fun a hf=>sp 1 hf rfl fun a hf=>aQ ⟨hf.kp rfl,hc⟩
  ·rw [hb] at hf
   refine zP hf rfl (pFA aDt rfl) fun a hf=>zL hf hc aX m0 rfl fun a w hf hc=>zQ (v:=.bool (bO l.Error 0 10000)) hf hc aCv rfl (fun w hc=>nV l.Error 0 10000 hc rfl) fun a w hf hc=>sp 1 hf rfl fun a hf=>aQ ⟨hf.kp rfl,hc⟩
 intro a w ⟨hf,hc⟩
 refine sp 1 hf rfl fun a hf=>zT h ?_
 refine wp_ret ?_
 obtain rfl:=hF
 replace hc:=hc.drop k0
 exact zO1 Tryz.results107 hf rfl ⟨rfl,hc⟩

def iQ (x:cD) (B:aO):Bool :=
 (!(qV (⟨x.From,x.To,x.Day,x.Rise,x.Error⟩:cD) B))
theorem sK {G:bA} {Lf:List Ent} {w:World} (x:cD) (H:aO) {b_:Nat} {J:Nat} {M:Nat} {B:Option Addr} {D:Nat} (I:Rd G 5 B D (H.Lines.map bR)) (hc:Ctx G (.box b_ [.func (.func 107) #[] #[pq J]] 203::.box J [.func (.func 105) #[] #[pq M]] 88::.box M [i6 H.Marks,.slice B H.Lines.length D] 94::Lf) w) {O:Bool} (hF:iQ x H=O):Calls Tryz.prog 124 #[.agg #[i6 x.From,i6 x.To,i6 x.Day,i6 x.Rise,i6 x.Error],pq b_] w (fun e w=>e=.returned (.bool O)∧Ctx G (.box b_ [.func (.func 107) #[] #[pq J]] 203::.box J [.func (.func 105) #[] #[pq M]] 88::.box M [i6 H.Marks,.slice B H.Lines.length D] 94::Lf) w):=by
 unfold iQ at hF
 refine cC Tryz.func124 rfl Tryz.ntmps124 rfl fun a hf=>zS fun K h=>zB hf hc rfl fun R a w hf hc=>sp 1 hf rfl fun a hf=>zT h ?_
 refine zS fun K h=>zL hf hc aPa m1 rfl fun a w hf hc=>zN hf hc aCh m0 rfl fun a w hf hc=>zQ (v:=.bool (qV (⟨x.From,x.To,x.Day,x.Rise,x.Error⟩:cD) H)) hf hc aP1 rfl (fun w hc=>(aAt (⟨x.From,x.To,x.Day,x.Rise,x.Error⟩:cD) H I ((hc.pick k3).pick k3) rfl).mono fun e w h=>⟨h.1,((h.2.unpick k3).unpick k3)⟩) fun a w hf hc=>sp 2 hf rfl fun a hf=>zT h ?_
 refine wp_ret ?_
 obtain rfl:=hF
 replace hc:=hc.drop k0
 exact zO1 Tryz.results124 hf rfl ⟨rfl,hc⟩

def gT (N:Nat) (s_:List cD) (f_:aO) (x:Int):Option (dA (Int) (Int)) :=
 cond (decide (x < ((s_.length:Nat):Int)))
 (Option.bind (cM s_ x) fun B=>
 cond (iQ B f_)
 (some (.ret x))
 (some (.cont (W (x + 1)))))
 (some (.brk x))
def fA (N:Nat) (s_:List cD) (f_:aO):Option (Int) :=
 Option.bind (bN (fun s4=>gT N s_ f_ s4) N 0) fun x4=>
 exK x4 (fun s4=>some (-1)) some
theorem mE {N:Nat} {G:bA} {Lf:List Ent} {w:World} (s_:List cD) (f_:aO) {U:Option Addr} {R:Nat} {b_:Nat} {H:Nat} {I:Nat} {D:Option Addr} {B:Nat} (Y:Rd G 5 U R (s_.map bR)) (O:Rd G 5 D B (f_.Lines.map bR)) (hc:Ctx G (.box b_ [.func (.func 107) #[] #[pq H]] 203::.box H [.func (.func 105) #[] #[pq I]] 88::.box I [i6 f_.Marks,.slice D f_.Lines.length B] 94::Lf) w) {V:Int} (hF:fA N s_ f_=some V):Calls Tryz.prog 134 #[.slice U s_.length R,.func (.func 124) #[] #[pq b_]] w (fun e w=>e=.returned (i6 V)∧Ctx G (.box b_ [.func (.func 107) #[] #[pq H]] 203::.box H [.func (.func 105) #[] #[pq I]] 88::.box I [i6 f_.Marks,.slice D f_.Lines.length B] 94::Lf) w):=by
 unfold fA at hF
 refine cC Tryz.func134 rfl Tryz.ntmps134 rfl fun a hf=>zS fun K h=>sp 1 hf rfl fun a hf=>zT h ?_
 refine wp_seq_k fun K2 h2=>zS fun K h=>sp 1 hf rfl fun a hf=>zP hf rfl (cP Tryz.underlying92 rfl) fun a hf=>sp 1 hf rfl fun a hf=>zT h ?_
 refine wp_block ?_
 obtain ⟨x4,b,hF⟩:=aC hF
 let S4:Int→Act→World→Prop:=(fun (zz:Int) a w=>Has 19 a [(0,.slice U s_.length R),(1,.func (.func 124) #[] #[pq b_]),(7,i6 ((s_.length:Nat):Int)),(8,i6 zz)]∧Ctx G (.box b_ [.func (.func 107) #[] #[pq H]] 203::.box H [.func (.func 105) #[] #[pq I]] 88::.box I [i6 f_.Marks,.slice D f_.Lines.length B] 94::Lf) w)
 have g:∀ (zz:Int) a w,x4=.go zz→S4 zz a w→K2 a w:=by
  rintro x a w rfl ⟨hf,hc⟩
  replace hF:=cJ hF
  refine h2 _ _ ?_
  refine zS fun K h=>sp 1 hf rfl fun a hf=>zT h ?_
  refine wp_ret ?_
  obtain rfl:=sj hF
  exact zO1 Tryz.results134 hf rfl ⟨rfl,hc⟩
 have Z:∀ r,x4=.out r→r=V:=by
  rintro r rfl
  exact sj hF
 refine dQ N (dP (S:=S4) (x:=x4) ?_ N 0 _ _ ⟨hf.kp rfl,hc⟩ b)
 clear hF hf hc
 rintro x i a w KB4 ⟨hf,hc⟩ hF J d
 unfold gT at hF
 refine zS fun K h=>sp 1 hf rfl fun a hf=>zT h ?_
 refine wp_seq_k fun K7 h7=>zI hf rfl hF ?_ ?_ <;> clear hF <;> intro hF
 ·refine wp_skip ?_
  refine h7 _ _ ?_
  refine wp_seq_k fun K8 h8=>wp_block ?_
  refine zS fun K h=>sp 2 hf rfl fun a hf=>zT h ?_
  refine zS fun K h=>sp 3 hf rfl fun a hf=>?_
  obtain ⟨M,X,hF⟩:=aC hF
  obtain ⟨j,o,qa,qp⟩:=Y.atm X
  refine zP hf rfl (pIA Tryz.underlying92 aC7 rfl rfl qa) fun a hf=>zE hf hc rfl (kK (vs:=[i6 M.From,i6 M.To,i6 M.Day,i6 M.Rise,i6 M.Error]) aCh rfl rfl (dF qp (n:=5) (o':=0) rfl)) fun a w hf hc=>zQ (v:=.bool (iQ M f_)) hf hc aQv rfl (fun w hc=>(sK M f_ O (((hc.pick k2).pick k2).pick k2) rfl).mono fun e w h=>⟨h.1,(((h.2.unpick k2).unpick k2).unpick k2)⟩) fun a w hf hc=>zT h ?_
  refine zI hf rfl hF ?_ ?_ <;> clear hF <;> intro hF
  ·refine zS fun K h=>sp 2 hf rfl fun a hf=>zT h ?_
   refine wp_ret ?_
   refine cI ?_
   refine aU ?_
   refine aU ?_
   have he:=sj hF
   rw [← he] at J
   replace hF:=Z _ J
   refine cI ?_
   refine aU ?_
   obtain rfl:=hF
   exact zO1 Tryz.results134 hf rfl ⟨rfl,hc⟩
  ·refine wp_skip ?_
   refine h8 _ _ ?_
   refine cX ?_
   refine sp 2 hf rfl fun a hf=>aQ ?_
   exact d (W (x + 1)) _ _ (sj hF).symm ⟨hf.kp rfl,hc⟩
 ·refine wp_exit ?_
  refine bI ?_
  refine bI ?_
  have he:=sj hF
  rw [← he] at J
  refine fB ?_
  exact g _ _ _ J ⟨hf.kp rfl,hc⟩

def eP (N:Nat) (s_:List cD) (f_:aO):Option (Bool) :=
 Option.bind (fA N s_ f_) fun r=>
 some (decide (0≤r))
theorem lM {N:Nat} {G:bA} {Lf:List Ent} {w:World} (s_:List cD) (f_:aO) {O:Option Addr} {M:Nat} {b_:Nat} {H:Nat} {J:Nat} {D:Option Addr} {B:Nat} (S:Rd G 5 O M (s_.map bR)) (I:Rd G 5 D B (f_.Lines.map bR)) (hc:Ctx G (.box b_ [.func (.func 107) #[] #[pq H]] 203::.box H [.func (.func 105) #[] #[pq J]] 88::.box J [i6 f_.Marks,.slice D f_.Lines.length B] 94::Lf) w) {R:Bool} (hF:eP N s_ f_=some R):Calls Tryz.prog 123 #[.slice O s_.length M,.func (.func 124) #[] #[pq b_]] w (fun e w=>e=.returned (.bool R)∧Ctx G (.box b_ [.func (.func 107) #[] #[pq H]] 203::.box H [.func (.func 105) #[] #[pq J]] 88::.box J [i6 f_.Marks,.slice D f_.Lines.length B] 94::Lf) w):=by
 unfold eP at hF
 refine cC Tryz.func123 rfl Tryz.ntmps123 rfl fun a hf=>zS fun K h=>sp 1 hf rfl fun a hf=>zT h ?_
 refine zS fun K h=>sp 2 hf rfl fun a hf=>?_
 obtain ⟨r,hr,hF⟩:=aC hF
 refine zQ (v:=i6 r) hf hc aQi rfl (fun w hc=>(mE s_ f_ S I (((hc.pick k2).pick k2).pick k2) hr).mono fun e w h=>⟨h.1,(((h.2.unpick k2).unpick k2).unpick k2)⟩) fun a w hf hc=>sp 2 hf rfl fun a hf=>zT h ?_
 refine wp_ret ?_
 obtain rfl:=sj hF
 exact zO1 Tryz.results123 hf rfl ⟨rfl,hc⟩

def mJ (N:Nat) (l:List cD) (so:aO):Option (Bool) :=
 Option.bind (eP N l so) fun r=>
 some (!r)
theorem tJ {N:Nat} {G:bA} {Lf:List Ent} {w:World} (l:List cD) (so:aO) {O:Option Addr} {M:Nat} {b_:Nat} {H:Nat} {B:Option Addr} {D:Nat} (R:Rd G 5 O M (l.map bR)) (I:Rd G 5 B D (so.Lines.map bR)) (hc:Ctx G (.box b_ [.func (.func 105) #[] #[pq H]] 88::.box H [i6 so.Marks,.slice B so.Lines.length D] 94::Lf) w) {J:Bool} (hF:mJ N l so=some J):Calls Tryz.prog 106 #[.slice O l.length M,.func (.func 107) #[] #[pq b_]] w (fun e w=>e=.returned (.bool J)∧Ctx G (.box b_ [.func (.func 105) #[] #[pq H]] 88::.box H [i6 so.Marks,.slice B so.Lines.length D] 94::Lf) w):=by
 unfold mJ at hF
 refine cC Tryz.func106 rfl Tryz.ntmps106 rfl fun a hf=>zS fun K h=>zB hf hc rfl fun S a w hf hc=>sp 1 hf rfl fun a hf=>zT h ?_
 refine zS fun K h=>sp 1 hf rfl fun a hf=>zP hf rfl (pMF (us:=[pq S]) rfl rfl) fun a hf=>?_
 obtain ⟨r,hr,hF⟩:=aC hF
 refine zQ (v:=.bool r) hf hc aQz rfl (fun w hc=>(lM l so R I (((hc.pick k2).pick k2).pick k2) hr).mono fun e w h=>⟨h.1,(((h.2.unpick k2).unpick k2).unpick k2)⟩) fun a w hf hc=>sp 2 hf rfl fun a hf=>zT h ?_
 refine wp_ret ?_
 obtain rfl:=sj hF
 replace hc:=hc.drop k0
 exact zO1 Tryz.results106 hf rfl ⟨rfl,hc⟩

def uB (N:Nat) (n:aO):Option (Int) :=
 cond ((!(bO n.Marks 1 12)) || (decide (30 < ((n.Lines.length:Nat):Int))))
 (some 3)
 (Option.bind (mJ N n.Lines n) fun r=>
 cond (!r)
 (some 20)
 (some 0))
theorem xC {N:Nat} {G:bA} {Lf:List Ent} {w:World} (n:aO) {D:Option Addr} {H:Nat} (B:Rd G 5 D H (n.Lines.map bR)) (hc:Ctx G (Lf) w) {J:Int} (hF:uB N n=some J):Calls Tryz.prog 77 #[.agg #[i6 n.Marks,.slice D n.Lines.length H]] w (fun e w=>e=.returned (i6 J)∧Ctx G (Lf) w):=by
 unfold uB at hF
 refine cC Tryz.func77 rfl Tryz.ntmps77 rfl fun a hf=>zS fun K h=>zB hf hc rfl fun I a w hf hc=>sp 1 hf rfl fun a hf=>zT h ?_
 refine zS fun K h=>zP hf rfl (pMF (us:=[pq I]) rfl rfl) fun a hf=>zA hf hc zr_88 rfl fun M a w hf hc=>zW hf hc sz_88 u0 rfl fun w hc=>zT h ?_
 refine wp_seq_k fun K3 h3=>wp_block ?_
 refine zS fun K h=>zP hf rfl (pFA pW rfl) fun a hf=>zL hf hc aX m1 rfl fun a w hf hc=>zQ (v:=.bool (bO n.Marks 1 12)) hf hc aCv rfl (fun w hc=>nV n.Marks 1 12 hc rfl) fun a w hf hc=>sp 2 hf rfl fun a hf=>fL 5 (fun a=>Has 22 a [(1,pq I),(3,pq M),(6,pq I),(7,i6 n.Marks),(8,.bool (bO n.Marks 1 12)),(9,.bool (!(bO n.Marks 1 12))),(10,.bool (!(bO n.Marks 1 12))),(15,.bool ((!(bO n.Marks 1 12)) || (decide (30 < ((n.Lines.length:Nat):Int)))))]) hc ?_ ?_
 ·cases hb:(!(bO n.Marks 1 12))
  ·rw [hb] at hf
   refine zP hf rfl (pFA yE rfl) fun a hf=>zL hf hc aFj m1 rfl fun a w hf hc=>zP hf rfl (cP Tryz.underlying92 rfl) fun a hf=>sp 2 hf rfl fun a hf=>aQ ⟨hf.kp rfl,hc⟩
  ·rw [hb] at hf
   refine stS hf rfl rfl rfl fun a hf=>stS hf rfl rfl rfl fun a hf=>stS hf rfl rfl rfl fun a hf=>stS hf rfl rfl rfl fun a hf=>sp 1 hf rfl fun a hf=>aQ ⟨hf.kp rfl,hc⟩
 intro a w ⟨hf,hc⟩
 refine sp 1 hf rfl fun a hf=>zT h ?_
 refine zI hf rfl hF ?_ ?_ <;> clear hF <;> intro hF
 ·refine zS fun K h=>sp 1 hf rfl fun a hf=>zT h ?_
  refine wp_ret ?_
  refine cI ?_
  refine aU ?_
  obtain rfl:=sj hF
  replace hc:=(hc.drop k1).drop k0
  exact zO1 Tryz.results77 hf rfl ⟨rfl,hc⟩
 ·refine zS fun K h=>zP hf rfl (pFA yE rfl) fun a hf=>zL hf hc aFj m1 rfl fun a w hf hc=>zP hf rfl (pMF (us:=[pq M]) rfl rfl) fun a hf=>?_
  obtain ⟨r,hr,hF⟩:=aC hF
  refine zQ (v:=.bool r) hf hc aQh rfl (fun w hc=>(tJ n.Lines n B B ((hc.pick k1).pick k1) hr).mono fun e w h=>⟨h.1,((h.2.unpick k1).unpick k1)⟩) fun a w hf hc=>sp 2 hf rfl fun a hf=>zT h ?_
  refine zI hf rfl hF ?_ ?_ <;> clear hF <;> intro hF
  ·refine zS fun K h=>sp 1 hf rfl fun a hf=>zT h ?_
   refine wp_ret ?_
   refine cI ?_
   refine aU ?_
   obtain rfl:=sj hF
   replace hc:=(hc.drop k1).drop k0
   exact zO1 Tryz.results77 hf rfl ⟨rfl,hc⟩
  ·refine wp_skip ?_
   refine h3 _ _ ?_
   refine zS fun K h=>sp 1 hf rfl fun a hf=>zT h ?_
   refine wp_ret ?_
   obtain rfl:=sj hF
   replace hc:=(hc.drop k1).drop k0
   exact zO1 Tryz.results77 hf rfl ⟨rfl,hc⟩

def nH (N:Nat) (w_:bX) (B:Int):Option (Int) :=
 some B
theorem rF {N:Nat} {G:bA} {Lf:List Ent} {w:World} (w_:bX) (I:Int) {b_:Nat} {D:Option Addr} {B:Nat} (H:Rd G 5 D B (w_.Net.Lines.map bR)) (hc:Ctx G (.box b_ (aY [i6 w_.Net.Marks,.slice D w_.Net.Lines.length B] 169 aD w_.can (aY [] 169 aG w_.by_ [])) 130::Lf) w) {O:Int} (hF:nH N w_ I=some O):Calls Tryz.prog 126 #[pq b_,i6 I] w (fun e w=>∃ (J:Nat) (M:Nat),e=.returned (.func (.func 136) #[] #[pq J,pq M])∧Ctx G (.box J [pq b_] 119::.box M [i6 O] 3::.box b_ (aY [i6 w_.Net.Marks,.slice D w_.Net.Lines.length B] 169 aD w_.can (aY [] 169 aG w_.by_ [])) 130::Lf) w):=by
 unfold nH at hF
 refine cC Tryz.func126 rfl Tryz.ntmps126 rfl fun a hf=>zS fun K h=>zB hf hc rfl fun S a w hf hc=>zB hf hc rfl fun R a w hf hc=>sp 1 hf rfl fun a hf=>zT h ?_
 refine zS fun K h=>zP hf rfl (pMF (us:=[pq S,pq R]) rfl rfl) fun a hf=>sp 1 hf rfl fun a hf=>zT h ?_
 refine wp_ret ?_
 obtain rfl:=sj hF
 replace hc:=(hc.pick k0).pick k1
 exact zO1 Tryz.results126 hf rfl ⟨S,R,rfl,hc⟩

def iR (B:Bool):Bool :=
 cond B
 (true)
 (false)
theorem wB {G:bA} {Lf:List Ent} {w:World} (B:Bool)   (hc:Ctx G (Lf) w) {D:Bool} (hF:iR B=D):Calls Tryz.prog 138 #[.bool B] w (fun e w=>e=.returned (.agg #[(bif D then .func (.func 140) #[] #[] else .func (.func 141) #[] #[])])∧Ctx G (Lf) w):=by
 unfold iR at hF
 refine cC Tryz.func138 rfl Tryz.ntmps138 rfl fun a hf=>zS fun K h=>zA hf hc aQl rfl fun H a w hf hc=>zT h ?_
 refine wp_seq_k fun K2 h2=>zS fun K h=>sp 1 hf rfl fun a hf=>zT h ?_
 refine zI hf rfl hF ?_ ?_ <;> clear hF <;> intro hF
 ·refine zS fun K h=>zP hf rfl (bJ (cells:=[.func (.func 140) #[] #[]]) aMu rfl rfl) fun a hf=>zW hf hc aMe u0 rfl fun w hc=>zT h ?_
  refine wp_ret ?_
  refine aU ?_
  obtain rfl:=hF
  exact nK (by simp) rfl Tryz.results138 hf hc (dX (vs:=[.func (.func 140) #[] #[]]) aL3 rfl rfl (cE (n:=1) m0 rfl)) ⟨rfl,(hc.drop k0)⟩
 ·refine wp_skip ?_
  refine h2 _ _ ?_
  refine zS fun K h=>zP hf rfl (bJ (cells:=[.func (.func 141) #[] #[]]) aMu rfl rfl) fun a hf=>zW hf hc aMe u0 rfl fun w hc=>zT h ?_
  refine wp_ret ?_
  obtain rfl:=hF
  exact nK (by simp) rfl Tryz.results138 hf hc (dX (vs:=[.func (.func 141) #[] #[]]) aL3 rfl rfl (cE (n:=1) m0 rfl)) ⟨rfl,(hc.drop k0)⟩

def iT (l:cD):Int :=
 l.To
theorem tL {G:bA} {Lf:List Ent} {w:World} (l:cD)   (hc:Ctx G (Lf) w) {B:Int} (hF:iT l=B):Calls Tryz.prog 140 #[.agg #[i6 l.From,i6 l.To,i6 l.Day,i6 l.Rise,i6 l.Error]] w (fun e w=>e=.returned (i6 B)∧Ctx G (Lf) w):=by
 unfold iT at hF
 refine cC Tryz.func140 rfl Tryz.ntmps140 rfl fun a hf=>zS fun K h=>zB hf hc rfl fun D a w hf hc=>sp 1 hf rfl fun a hf=>zT h ?_
 refine zS fun K h=>zP hf rfl (pFA aCy rfl) fun a hf=>zL hf hc aX m0 rfl fun a w hf hc=>sp 1 hf rfl fun a hf=>zT h ?_
 refine wp_ret ?_
 obtain rfl:=hF
 replace hc:=hc.drop k0
 exact zO1 Tryz.results140 hf rfl ⟨rfl,hc⟩

def iW (l:cD):Int :=
 l.From
theorem tT {G:bA} {Lf:List Ent} {w:World} (l:cD)   (hc:Ctx G (Lf) w) {B:Int} (hF:iW l=B):Calls Tryz.prog 141 #[.agg #[i6 l.From,i6 l.To,i6 l.Day,i6 l.Rise,i6 l.Error]] w (fun e w=>e=.returned (i6 B)∧Ctx G (Lf) w):=by
 unfold iW at hF
 refine cC Tryz.func141 rfl Tryz.ntmps141 rfl fun a hf=>zS fun K h=>zB hf hc rfl fun D a w hf hc=>sp 1 hf rfl fun a hf=>zT h ?_
 refine zS fun K h=>zP hf rfl (pFA aCe rfl) fun a hf=>zL hf hc aX m0 rfl fun a w hf hc=>sp 1 hf rfl fun a hf=>zT h ?_
 refine wp_ret ?_
 obtain rfl:=hF
 replace hc:=hc.drop k0
 exact zO1 Tryz.results141 hf rfl ⟨rfl,hc⟩

def pB (N:Nat) (w_:Int) (D:List cD) (g:aK):Option (Int) :=
 Option.bind (cM D g.Line) fun B=>
 some (bif (iR g.Back) then (iT B) else (iW B))
theorem qJ {N:Nat} {G:bA} {Lf:List Ent} {w:World} (w_:Int) (I:List cD) (g:aK) {b_:Nat} {H:Option Addr} {D:Nat} {xa:Nat→Int} {J:Nat→aK} (M:Rd G 5 H D (I.map bR)) (hc:Ctx G (.box b_ (aY [i6 w_,.slice H I.length D] 169 aD xa (aY [] 169 aG J [])) 130::Lf) w) {O:Int} (hF:pB N w_ I g=some O):Calls Tryz.prog 137 #[pq b_,.agg #[i6 g.Line,.bool g.Back]] w (fun e w=>e=.returned (i6 O)∧Ctx G (.box b_ (aY [i6 w_,.slice H I.length D] 169 aD xa (aY [] 169 aG J [])) 130::Lf) w):=by
 unfold pB at hF
 refine cC Tryz.func137 rfl Tryz.ntmps137 rfl fun a hf=>zS fun K h=>zB hf hc rfl fun U a w hf hc=>sp 1 hf rfl fun a hf=>zT h ?_
 refine wp_seq_k fun K2 h2=>?_
 obtain ⟨B,R,hF⟩:=aC hF
 obtain ⟨S,o,qa,qp⟩:=M.atm R
 refine cQ hc aT (by kernel_rfl) ?_
 refine qE hf rfl rfl rfl (Pu.ev (pFA aCc rfl)) fun a hf=>qE hf rfl rfl rfl (cV vC rfl (bQ m0 rfl)) fun a hf=>qE hf rfl rfl rfl (eC (v:=.agg #[(bif (iR g.Back) then .func (.func 140) #[] #[] else .func (.func 141) #[] #[])]) (vs:=[.bool g.Back]) (caps:=[]) aMw rfl rfl rfl rfl (fun w hc=>wB g.Back hc rfl)) fun a hf=>qE hf rfl rfl rfl (Pu.ev (aI7 Tryz.underlying226 rfl aMy rfl rfl)) fun a hf=>qE hf rfl rfl rfl (Pu.ev (pM rfl)) fun a hf=>qE hf rfl rfl rfl (Pu.ev (pNC rfl)) fun a hf=>qE hf rfl rfl rfl (Pu.ev (pFA rI rfl)) fun a hf=>qE hf rfl rfl rfl (Pu.ev (pFA yE rfl)) fun a hf=>qE hf rfl rfl rfl (cV aFj rfl (bQ m1 rfl)) fun a hf=>qE hf rfl rfl rfl (Pu.ev (pFA aEb rfl)) fun a hf=>qE hf rfl rfl rfl (cV aX rfl (bQ m0 rfl)) fun a hf=>qE hf rfl rfl rfl (Pu.ev (pIA Tryz.underlying92 aC7 rfl rfl qa)) fun a hf=>qE hf rfl rfl rfl (kK (vs:=[i6 B.From,i6 B.To,i6 B.Day,i6 B.Rise,i6 B.Error]) aCh rfl rfl (dF qp (n:=5) (o':=0) rfl)) fun a hf=>?_
 refine qE hf rfl rfl rfl (aN1 (c:=(iR g.Back)) (v:=i6 (bif (iR g.Back) then (iT B) else (iW B))) (v1:=i6 (iT B)) (v2:=i6 (iW B)) (vs:=[.agg #[i6 B.From,i6 B.To,i6 B.Day,i6 B.Rise,i6 B.Error]]) aLi aM1 rfl rfl rfl rfl (fun hb=>congrArg (Value.int .i64) (bifT hb)) (fun hb=>congrArg (Value.int .i64) (bifF hb)) (fun w hc=>tL B hc rfl) (fun w hc=>tT B hc rfl)) fun a hf=>qE hf rfl rfl rfl (Pu.ev (pA rfl)) fun a hf=>?_
 intro w hc
 refine h2 _ _ ?_
 refine wp_ret ?_
 obtain rfl:=sj hF
 replace hc:=hc.drop k0
 exact zO1 Tryz.results137 hf rfl ⟨rfl,hc⟩

def jH (N:Nat) {σ:Type} (D:Int) (B:σ):Option (dA (Int × σ) (dA (Int × σ) (σ))) :=
 some (.cont (W (D + 1),B))
def pF (N:Nat) {σ:Type} (x:Int) (J:List cD) (M:Int) (y:σ→aK→Option (σ × Bool)) (H:Int) (B:Int) (D:σ):Option (dA (Int × σ) (dA (Int × σ) (σ))) :=
 cond (decide (B < (2:Int)))
 (Option.bind (cM ([(⟨H,false⟩:aK),(⟨H,true⟩:aK)]:List aK) B) fun I=>
 Option.bind (pB N x J I) fun r=>
 cond (r == M)
 (Option.bind (y D I) fun ry=>
 cond (!ry.2)
 (some (.ret (.ret ry.1)))
 (jH N B ry.1))
 (jH N B D))
 (some (.brk (B,D)))
def pQ (N:Nat) {σ:Type} (x:Int) (H:List cD) (J:Int) (y:σ→aK→Option (σ × Bool)) (D:Int) (sg:σ):Option (dA (Int × σ) (σ)) :=
 cond (decide (D < ((H.length:Nat):Int)))
 (Option.bind (bN (fun B=>pF N x H J y D B.1 B.2) N (0,sg)) fun I=>
 exK I (fun B=>some (.cont (W (D + 1),B.2))) some)
 (some (.brk (D,sg)))
def lN (N:Nat) {σ:Type} (x:Int) (D:List cD) (H:Int) (y:σ→aK→Option (σ × Bool)) (B:σ):Option (σ) :=
 Option.bind (bN (fun s3=>pQ N x D H y s3.1 s3.2) N (0,B)) fun x3=>
 exK x3 (fun s3=>some s3.2) some
theorem qC {N:Nat} {G:bA} {Lf:List Ent} {w:World} {σ:Type} (x:Int) (X:List cD) (O:Int) {b_:Nat} {D:Nat} {V:Option Addr} {U:Nat} {I:Nat} (ac:Rd G 5 V U (X.map bR)) (J:σ→List Ent→Prop) (y:σ→aK→Option (σ × Bool)) {l:Nat} (hy:rJ Tryz.prog G l (fun x:aK=>[.agg #[i6 x.Line,.bool x.Back]]) J y) (aj:σ) {Ls0:List Ent} (ai:J aj Ls0) (an:∀ (o:σ) (L:List Ent),J o L→∃ A B,∃ xx:(Nat→Int) × (Nat→aK),L=A++(.box D (aY [i6 x,.slice V X.length U] 169 aD xx.1 (aY [] 169 aG xx.2 [])) 130::B)) (hc:Ctx G (.box b_ [pq D] 119::.box I [i6 O] 3::(Ls0++Lf)) w) {af:σ} (hF:lN N x X O y aj=some af):Calls Tryz.prog 136 #[.func (.yield l) #[] #[],pq b_,pq I] w (fun e w=>(∃ v,e=.returned v)∧∃ L,J af L∧Ctx G (.box b_ [pq D] 119::.box I [i6 O] 3::(L++Lf)) w):=by
 unfold lN at hF
 refine cC Tryz.func136 rfl Tryz.ntmps136 rfl fun a hf=>wp_seq_k fun K1 h1=>?_
 obtain ⟨As,Bs,⟨xa,s⟩,p⟩:=an _ _ ai
 dsimp only at p
 rw [p] at hc ai
 replace hc:Ctx G (.box b_ [pq D] 119::.box I [i6 O] 3::((As++(.box D (aY [i6 x,.slice V X.length U] 169 aD xa (aY [] 169 aG s [])) 130::Bs))++Lf)) w:=hc
 replace hc:Ctx G (.box D (aY [i6 x,.slice V X.length U] 169 aD xa (aY [] 169 aG s [])) 130::.box b_ [pq D] 119::.box I [i6 O] 3::((As++Bs)++Lf)) w:=aE4 [.box b_ [pq D] 119,.box I [i6 O] 3] hc
 refine cX ?_
 refine zL hf hc lI m1 rfl fun a w hf hc=>sp 1 hf rfl fun a hf=>zP hf rfl (pFA rI rfl) fun a hf=>zP hf rfl (pFA yE rfl) fun a hf=>zL hf hc aFj m0 rfl fun a w hf hc=>zP hf rfl (cP Tryz.underlying92 rfl) fun a hf=>sp 1 hf rfl fun a hf=>aQ ?_
 replace hc:Ctx G (.box b_ [pq D] 119::.box I [i6 O] 3::((As++(.box D (aY [i6 x,.slice V X.length U] 169 aD xa (aY [] 169 aG s [])) 130::Bs))++Lf)) w:=aH8 [.box b_ [pq D] 119,.box I [i6 O] 3] hc
 refine h1 _ _ ?_
 refine lR fun K2 h2=>wp_block ?_
 obtain ⟨x3,a1,hF⟩:=aC hF
 let S3:(Int × σ)→Act→World→Prop:=(fun (zz:Int × σ) a w=>∃ (Ls:List Ent),J zz.2 Ls∧Has 39 a [(0,.func (.yield l) #[] #[]),(1,pq b_),(2,pq I),(12,i6 ((X.length:Nat):Int)),(13,i6 zz.1)]∧Ctx G (.box b_ [pq D] 119::.box I [i6 O] 3::(Ls++Lf)) w)
 have a3:∀ (zz:Int × σ) a w,x3=.go zz→S3 zz a w→K2 a w:=by
  rintro ⟨H,sg⟩ a w rfl ⟨Ls,hJ,hf,hc⟩
  replace hF:=cJ hF
  refine h2 _ _ ?_
  obtain rfl:=sj hF
  exact pO (by simp) rfl Tryz.results136 hf ⟨⟨_,rfl⟩,Ls,hJ,hc⟩
 have a0:∀ r,x3=.out r→r=af:=by
  rintro r rfl
  exact sj hF
 refine dQ N (dP (S:=S3) (x:=x3) ?_ N (0,aj) _ _ ⟨(As++(.box D (aY [i6 x,.slice V X.length U] 169 aD xa (aY [] 169 aG s [])) 130::Bs)),ai,hf.kp rfl,hc⟩ a1)
 clear hF hf hc
 rintro ⟨H,sg⟩ a5 a w KB3 ⟨Ls,hJ,hf,hc⟩ hF m a6
 unfold pQ at hF
 refine zS fun K h=>sp 1 hf rfl fun a hf=>zT h ?_
 refine wp_seq_k fun K5 h5=>zI hf rfl hF ?_ ?_ <;> clear hF <;> intro hF
 ·refine wp_skip ?_
  refine h5 _ _ ?_
  refine wp_seq_k fun K6 h6=>wp_block ?_
  refine zS fun K h=>sp 2 hf rfl fun a hf=>zT h ?_
  refine zS fun K h=>sp 1 hf rfl fun a hf=>zP hf rfl (bJ (cells:=[i6 H,.bool false]) aK0 rfl rfl) fun a hf=>sp 1 hf rfl fun a hf=>zP hf rfl (bJ (cells:=[i6 H,.bool true]) aK0 rfl rfl) fun a hf=>oJ (rows:=([(⟨H,false⟩:aK),(⟨H,true⟩:aK)]:List aK).map aG) (vs:=[(0,.agg #[i6 H,.bool false]),(1,.agg #[i6 H,.bool true])]) hf hc rfl rfl aPt rfl ⟨rfl,rfl,rfl,rfl,rfl,rfl,trivial⟩ rfl rfl fun Y a w hf hc=>zP hf rfl (cP Tryz.underlying223 rfl) fun a hf=>sp 1 hf rfl fun a hf=>zT h ?_
  refine lR fun K9 h9=>wp_block ?_
  obtain ⟨ag,aq,hF⟩:=aC hF
  let S10:(Int × σ)→Act→World→Prop:=(fun (zz:Int × σ) a w=>∃ (Ls_1:List Ent),J zz.2 Ls_1∧Has 39 a [(0,.func (.yield l) #[] #[]),(1,pq b_),(2,pq I),(12,i6 ((X.length:Nat):Int)),(13,i6 H),(20,.slice (some ⟨Y,0,none⟩) 2 2),(21,i6 (2:Int)),(22,i6 zz.1)]∧Ctx G (.row (some ⟨Y,0,none⟩) 2 (([(⟨H,false⟩:aK),(⟨H,true⟩:aK)]:List aK).map aG) 126 2::.box b_ [pq D] 119::.box I [i6 O] 3::(Ls_1++Lf)) w)
  have ar:∀ (zz:Int × σ) a w,ag=.go zz→S10 zz a w→K9 a w:=by
   rintro ⟨q,ab⟩ a w rfl ⟨Ls_1,d,hf,hc⟩
   replace hF:=cJ hF
   refine h9 _ _ ?_
   refine h6 _ _ ?_
   refine cX ?_
   refine sp 2 hf rfl fun a hf=>aQ ?_
   replace hc:=hc.drop k0
   exact a6 (W (H + 1),ab) _ _ (sj hF).symm ⟨Ls_1,d,hf.kp rfl,hc⟩
  have av:∀ r,ag=.out r→r=a5:=by
   rintro r rfl
   exact sj hF
  refine dQ N (dP (S:=S10) (x:=ag) ?_ N (0,sg) _ _ ⟨Ls,hJ,hf.kp rfl,hc⟩ aq)
  clear hF hf hc
  rintro ⟨q,ab⟩ au a w KB10 ⟨Ls_1,d,hf,hc⟩ hF g ay
  unfold pF at hF
  refine zS fun K h=>sp 1 hf rfl fun a hf=>zT h ?_
  refine wp_seq_k fun K12 az=>zI hf rfl hF ?_ ?_ <;> clear hF <;> intro hF
  ·refine wp_skip ?_
   refine az _ _ ?_
   refine wp_seq_k fun K13 a4=>?_
   have ad:∀ (z:σ) (Ls_2:List Ent) a w,J z Ls_2→Has 39 a [(0,.func (.yield l) #[] #[]),(1,pq b_),(2,pq I),(12,i6 ((X.length:Nat):Int)),(13,i6 H),(20,.slice (some ⟨Y,0,none⟩) 2 2),(21,i6 (2:Int)),(22,i6 q)]→Ctx G (.row (some ⟨Y,0,none⟩) 2 (([(⟨H,false⟩:aK),(⟨H,true⟩:aK)]:List aK).map aG) 126 2::.box b_ [pq D] 119::.box I [i6 O] 3::(Ls_2++Lf)) w→jH N q z=some au→K13 a w:=by
    repeat (clear hF)
    repeat (clear hc)
    repeat (clear hf)
    intro z Ls_2 a w ap hf hc hF
    unfold jH at hF
    refine a4 _ _ ?_
    refine cX ?_
    refine sp 2 hf rfl fun a hf=>aQ ?_
    exact ay (W (q + 1),z) _ _ (sj hF).symm ⟨Ls_2,ap,hf.kp rfl,hc⟩
   refine wp_block ?_
   refine zS fun K h=>?_
   obtain ⟨M,ax,hF⟩:=aC hF
   obtain ⟨qa,qr⟩:=jX hc m0 ax
   refine zP hf rfl (pIA Tryz.underlying223 aAr rfl rfl qa) fun a hf=>zE hf hc rfl (kK (vs:=[i6 M.Line,.bool M.Back]) sV rfl rfl (pP (sz:=2) (i:=q.toNat) m0 qr (n:=2) (o':=0) rfl)) fun a w hf hc=>zA hf hc aIn rfl fun b a w hf hc=>zW hf hc aAr u0 rfl fun w hc=>zT h ?_
   refine wp_seq_k fun K15 am=>?_
   obtain ⟨As_1,Bs_1,⟨k,j⟩,p⟩:=an _ _ d
   dsimp only at p
   rw [p] at hc d
   replace hc:Ctx G (.box b [i6 M.Line,.bool M.Back] 126::.row (some ⟨Y,0,none⟩) 2 (([(⟨H,false⟩:aK),(⟨H,true⟩:aK)]:List aK).map aG) 126 2::.box b_ [pq D] 119::.box I [i6 O] 3::((As_1++(.box D (aY [i6 x,.slice V X.length U] 169 aD k (aY [] 169 aG j [])) 130::Bs_1))++Lf)) w:=hc
   replace hc:Ctx G (.box D (aY [i6 x,.slice V X.length U] 169 aD k (aY [] 169 aG j [])) 130::.box b [i6 M.Line,.bool M.Back] 126::.row (some ⟨Y,0,none⟩) 2 (([(⟨H,false⟩:aK),(⟨H,true⟩:aK)]:List aK).map aG) 126 2::.box b_ [pq D] 119::.box I [i6 O] 3::((As_1++Bs_1)++Lf)) w:=aE4 [.box b [i6 M.Line,.bool M.Back] 126,.row (some ⟨Y,0,none⟩) 2 (([(⟨H,false⟩:aK),(⟨H,true⟩:aK)]:List aK).map aG) 126 2,.box b_ [pq D] 119,.box I [i6 O] 3] hc
   obtain ⟨r,hr,hF⟩:=aC hF
   rcases gW (r == O) with aa | aa
   ·replace hF:=gI aa hF
    obtain ⟨ry,a2,hF⟩:=aC hF
    refine aNi [⟨none,none,0,.func (.yield l) #[] #[]⟩,⟨none,none,1,pq b_⟩,⟨none,none,2,pq I⟩,⟨none,none,6,pq b⟩,⟨none,none,12,i6 ((X.length:Nat):Int)⟩,⟨none,none,13,i6 H⟩,⟨none,none,20,.slice (some ⟨Y,0,none⟩) 2 2⟩,⟨none,none,21,i6 (2:Int)⟩,⟨none,none,22,i6 q⟩,⟨some 0,none,26,pq D⟩,⟨some 1,none,27,.agg #[i6 M.Line,.bool M.Back]⟩,⟨some 2,none,28,i6 r⟩,⟨some 3,none,29,i6 O⟩,⟨some 4,none,30,.bool true⟩,⟨some 5,none,31,.bool true⟩,⟨some 6,none,32,.func (.yield l) #[] #[]⟩,⟨some 7,none,33,.agg #[i6 M.Line,.bool M.Back]⟩,⟨some 8,none,34,.bool ry.2⟩,⟨some 9,none,35,.bool (!ry.2)⟩,⟨some 10,none,36,.bool (!ry.2)⟩] (fun E w=>cond (E 8) (∃ Ls_3,J ry.1 Ls_3∧Ctx G (.box b [i6 M.Line,.bool M.Back] 126::.row (some ⟨Y,0,none⟩) 2 (([(⟨H,false⟩:aK),(⟨H,true⟩:aK)]:List aK).map aG) 126 2::.box b_ [pq D] 119::.box I [i6 O] 3::(Ls_3++Lf)) w) (Ctx G (.box D (aY [i6 x,.slice V X.length U] 169 aD k (aY [] 169 aG j [])) 130::.box b [i6 M.Line,.bool M.Back] 126::.row (some ⟨Y,0,none⟩) 2 (([(⟨H,false⟩:aK),(⟨H,true⟩:aK)]:List aK).map aG) 126 2::.box b_ [pq D] 119::.box I [i6 O] 3::((As_1++Bs_1)++Lf)) w)) [(2,0),(5,2),(8,5),(2,1),(4,3),(5,4),(8,6),(8,7),(9,8)] (fun a w=>∃ Ls_3,J ry.1 Ls_3∧Has 39 a [(0,.func (.yield l) #[] #[]),(1,pq b_),(2,pq I),(12,i6 ((X.length:Nat):Int)),(13,i6 H),(20,.slice (some ⟨Y,0,none⟩) 2 2),(21,i6 (2:Int)),(22,i6 q),(36,.bool (!ry.2))]∧Ctx G (.box b [i6 M.Line,.bool M.Back] 126::.row (some ⟨Y,0,none⟩) 2 (([(⟨H,false⟩:aK),(⟨H,true⟩:aK)]:List aK).map aG) 126 2::.box b_ [pq D] 119::.box I [i6 O] 3::(Ls_3++Lf)) w) aT (by kernel_rfl) (by kernel_rfl) (dL.of hf ⟨rfl,rfl,rfl,rfl,rfl,rfl,rfl,rfl,rfl,trivial,trivial,trivial,trivial,trivial,trivial,trivial,trivial,trivial,trivial,trivial,trivial⟩) (vK rfl hc.drew) ⟨?_,?_,?_,?_,?_,?_,?_,?_,?_,?_,?_,trivial⟩ ?_ ?_
    ·intro E a w hD hi hp he hc K hK
     have e2:=hD.f 0 rfl hi
     have e5:=hD.f 1 rfl e2
     have e8:=hD.f 2 rfl e5
     replace hc:=vX e8 hc
     have hf:=he.h0.mT he 1 rfl
     refine uN (fun _ _ h=>by obtain ⟨⟨_,h⟩,_⟩:=h; cases h) ?_
     refine zL hf hc lI m3 rfl fun a w hf hc=>aQ ?_
     refine bV ?_
     refine hK _ _ fun ds u R=>⟨he.put0 hi R hf rfl 9 rfl rfl,vK (aS 0 e8 rfl) hc⟩
    ·intro E a w hD hi hp he hc K hK
     have e2:=hD.f 3 rfl hi
     have e5:=hD.f 1 rfl e2
     have e8:=hD.f 2 rfl e5
     replace hc:=vX e8 hc
     have hf:=he.h0.mT he 3 rfl
     refine uN (fun _ _ h=>by obtain ⟨⟨_,h⟩,_⟩:=h; cases h) ?_
     refine zN hf hc sV m1 rfl fun a w hf hc=>aQ ?_
     refine bV ?_
     refine hK _ _ fun ds u R=>⟨he.put0 hi R hf rfl 10 rfl rfl,vK (aS 1 e8 rfl) hc⟩
    ·intro E a w hD hi hp he hc K hK
     have e0:=hp.o 0 rfl
     have e1:=hp.o 1 rfl
     have e5:=hD.f 1 rfl hi
     have e8:=hD.f 2 rfl e5
     replace hc:=vX e8 hc
     have hf:=(he.h0.mP he 9 rfl e0).mP he 10 rfl e1
     refine uN (fun _ _ h=>by obtain ⟨⟨_,h⟩,_⟩:=h; cases h) ?_
     refine zQ (v:=i6 r) hf hc aL9 rfl (fun w hc=>(qJ x X M ac (hc.pick k0) hr).mono fun e w h=>⟨h.1,(h.2.unpick k0)⟩) fun a w hf hc=>aQ ?_
     refine bV ?_
     refine hK _ _ fun ds u R=>⟨he.put0 hi R hf rfl 11 rfl rfl,vK (aS 2 e8 rfl) hc⟩
    ·intro E a w hD hi hp he hc K hK
     have e4:=hD.f 4 rfl hi
     have e5:=hD.f 5 rfl e4
     have e8:=hD.f 2 rfl e5
     replace hc:=vX e8 hc
     have hf:=he.h0.mT he 2 rfl
     refine uN (fun _ _ h=>by obtain ⟨⟨_,h⟩,_⟩:=h; cases h) ?_
     refine zL hf hc aX m4 rfl fun a w hf hc=>aQ ?_
     refine bV ?_
     refine hK _ _ fun ds u R=>⟨he.put0 hi R hf rfl 12 rfl rfl,vK (aS 3 e8 rfl) hc⟩
    ·intro E a w hD hi hp he hc K hK
     have e2:=hp.o 2 rfl
     have e3:=hp.o 3 rfl
     have e5:=hD.f 5 rfl hi
     have e8:=hD.f 2 rfl e5
     replace hc:=vX e8 hc
     have hf:=(he.h0.mP he 11 rfl e2).mP he 12 rfl e3
     refine uN (fun _ _ h=>by obtain ⟨⟨_,h⟩,_⟩:=h; cases h) ?_
     refine sp 1 hf rfl fun a hf=>?_
     replace hf:=dI aa hf
     refine aQ ?_
     refine bV ?_
     refine hK _ _ fun ds u R=>⟨he.put0 hi R hf rfl 13 rfl rfl,vK (aS 4 e8 rfl) hc⟩
    ·intro E a w hD hi hp he hc K hK
     have e4:=hp.o 4 rfl
     have e8:=hD.f 2 rfl hi
     replace hc:=vX e8 hc
     have hf:=he.h0.mP he 13 rfl e4
     refine uN (fun _ _ h=>by obtain ⟨⟨_,h⟩,_⟩:=h; cases h) ?_
     refine sp 1 hf rfl fun a hf=>aQ ?_
     refine bV ?_
     refine hK _ _ fun ds u R=>⟨he.put0 hi R hf rfl 14 rfl rfl,vK (aS 5 e8 rfl) hc⟩
    ·intro E a w hD hi hp he hc K hK
     have e5:=hp.o 5 rfl
     have e8:=hD.f 6 rfl hi
     replace hc:=vX e8 hc
     have hf:=(he.h0.mT he 0 rfl).mP he 14 rfl e5
     refine uN (fun _ _ h=>by obtain ⟨⟨_,h⟩,_⟩:=h; cases h) ?_
     refine sp 1 hf rfl fun a hf=>aQ ?_
     refine bV ?_
     refine hK _ _ fun ds u R=>⟨he.put0 hi R hf rfl 15 rfl rfl,vK (aS 6 e8 rfl) hc⟩
    ·intro E a w hD hi hp he hc K hK
     have e5:=hp.o 5 rfl
     have e8:=hD.f 7 rfl hi
     replace hc:=vX e8 hc
     have hf:=(he.h0.mT he 3 rfl).mP he 14 rfl e5
     refine uN (fun _ _ h=>by obtain ⟨⟨_,h⟩,_⟩:=h; cases h) ?_
     refine zN hf hc sV m1 rfl fun a w hf hc=>aQ ?_
     refine bV ?_
     refine hK _ _ fun ds u R=>⟨he.put0 hi R hf rfl 16 rfl rfl,vK (aS 7 e8 rfl) hc⟩
    ·intro E a w hD hi hp he hc K hK
     have e5:=hp.o 5 rfl
     have e6:=hp.o 6 rfl
     have e7:=hp.o 7 rfl
     replace hc:=vX hi hc
     have hf:=((he.h0.mP he 14 rfl e5).mP he 15 rfl e6).mP he 16 rfl e7
     replace hc:Ctx G (.box b [i6 M.Line,.bool M.Back] 126::.row (some ⟨Y,0,none⟩) 2 (([(⟨H,false⟩:aK),(⟨H,true⟩:aK)]:List aK).map aG) 126 2::.box b_ [pq D] 119::.box I [i6 O] 3::((As_1++(.box D (aY [i6 x,.slice V X.length U] 169 aD k (aY [] 169 aG j [])) 130::Bs_1))++Lf)) w:=aH8 [.box b [i6 M.Line,.bool M.Back] 126,.row (some ⟨Y,0,none⟩) 2 (([(⟨H,false⟩:aK),(⟨H,true⟩:aK)]:List aK).map aG) 126 2,.box b_ [pq D] 119,.box I [i6 O] 3] hc
     refine stY (own:=[.box b [i6 M.Line,.bool M.Back] 126,.row (some ⟨Y,0,none⟩) 2 (([(⟨H,false⟩:aK),(⟨H,true⟩:aK)]:List aK).map aG) 126 2,.box b_ [pq D] 119,.box I [i6 O] 3]) (v:=M) hy d a2 hf hc rfl rfl rfl rfl rfl rfl fun a w Ls_3 Z hf hc=>aPv ?_
     refine bV ?_
     refine hK _ _ fun ds u R=>⟨he.put0 hi R hf rfl 17 rfl rfl,aIo (aN E 8) ⟨Ls_3,Z,hc⟩⟩
    ·intro E a w hD hi hp he hc K hK
     have e5:=hp.o 5 rfl
     have e8:=hp.o 8 rfl
     obtain ⟨Ls_3,Z,hc⟩:=aIg e8 hc
     have hf:=(he.h0.mP he 14 rfl e5).mP he 17 rfl e8
     refine uN (fun _ _ h=>by obtain ⟨⟨_,h⟩,_⟩:=h; cases h) ?_
     refine sp 1 hf rfl fun a hf=>aQ ?_
     refine bV ?_
     refine hK _ _ fun ds u R=>⟨he.put0 hi R hf rfl 18 rfl rfl,aIo (cB 9 e8) ⟨Ls_3,Z,hc⟩⟩
    ·intro E a w hD hi hp he hc K hK
     have e5:=hp.o 5 rfl
     have e9:=hp.o 9 rfl
     have e8:=hD.t 8 rfl e9
     obtain ⟨Ls_3,Z,hc⟩:=aIg e8 hc
     have hf:=(he.h0.mP he 14 rfl e5).mP he 18 rfl e9
     refine uN (fun _ _ h=>by obtain ⟨⟨_,h⟩,_⟩:=h; cases h) ?_
     refine sp 1 hf rfl fun a hf=>aQ ?_
     refine bV ?_
     refine hK _ _ fun ds u R=>⟨he.put0 hi R hf rfl 19 rfl rfl,aIo (cB 10 e8) ⟨Ls_3,Z,hc⟩⟩
    ·intro E a w ak he hc
     obtain ⟨Ls_3,Z,hc⟩:=aIg (ak 8 rfl) hc
     have hf:=he.h0
     replace hf:=hf.more he 19 rfl (onP (ak 10 rfl))
     replace hf:=hf.more he 8 rfl onT
     replace hf:=hf.more he 7 rfl onT
     replace hf:=hf.more he 6 rfl onT
     replace hf:=hf.more he 5 rfl onT
     replace hf:=hf.more he 4 rfl onT
     replace hf:=hf.more he 2 rfl onT
     replace hf:=hf.more he 1 rfl onT
     replace hf:=hf.more he 0 rfl onT
     exact ⟨Ls_3,Z,hf.kp rfl,hc⟩
    rintro a w ⟨Ls_3,Z,hf,hc⟩
    refine am _ _ ?_
    refine zI hf rfl hF ?_ ?_ <;> clear hF <;> intro hF
    ·refine wp_ret ?_
     refine cI ?_
     refine aU ?_
     refine aU ?_
     have he:=sj hF
     rw [← he] at g
     replace hF:=av _ g
     refine cI ?_
     refine aU ?_
     refine cI ?_
     refine aU ?_
     refine aU ?_
     have he:=hF
     rw [← he] at m
     replace hF:=a0 _ m
     refine cI ?_
     refine aU ?_
     obtain rfl:=hF
     replace hc:=(hc.drop k1).drop k0
     exact pO (by simp) rfl Tryz.results136 hf ⟨⟨_,rfl⟩,Ls_3,Z,hc⟩
    ·refine wp_skip ?_
     replace hc:=hc.drop k0
     exact ad ry.1 Ls_3 _ _ Z (hf.kp rfl) hc hF
   ·replace hF:=nU aa hF
    refine cQ hc aT (by kernel_rfl) ?_
    refine qE hf rfl rfl rfl (cV lI rfl (bQ m3 rfl)) fun a hf=>qE hf rfl rfl rfl (kK (vs:=[i6 M.Line,.bool M.Back]) sV rfl rfl (cE (n:=2) m1 rfl)) fun a hf=>qE hf rfl rfl rfl (eC (v:=i6 r) (vs:=[pq D,.agg #[i6 M.Line,.bool M.Back]]) (caps:=[]) aL9 rfl rfl rfl rfl (fun w hc=>(qJ x X M ac (hc.pick k0) hr).mono fun e w h=>⟨h.1,(h.2.unpick k0)⟩)) fun a hf=>qE hf rfl rfl rfl (cV aX rfl (bQ m4 rfl)) fun a hf=>qE hf rfl rfl rfl (Pu.ev (pEq rfl rfl)) fun a hf=>?_
    replace hf:=dI aa hf
    refine qE hf rfl rfl rfl (Pu.ev (pM rfl)) fun a hf=>qS hf rfl rfl rfl fun a hf=>qS hf rfl rfl rfl fun a hf=>qS hf rfl rfl rfl fun a hf=>qS hf rfl rfl rfl fun a hf=>qE hf rfl rfl rfl (Pu.ev (pPf rfl rfl)) fun a hf=>?_
    intro w hc
    replace hc:Ctx G (.box b [i6 M.Line,.bool M.Back] 126::.row (some ⟨Y,0,none⟩) 2 (([(⟨H,false⟩:aK),(⟨H,true⟩:aK)]:List aK).map aG) 126 2::.box b_ [pq D] 119::.box I [i6 O] 3::((As_1++(.box D (aY [i6 x,.slice V X.length U] 169 aD k (aY [] 169 aG j [])) 130::Bs_1))++Lf)) w:=aH8 [.box b [i6 M.Line,.bool M.Back] 126,.row (some ⟨Y,0,none⟩) 2 (([(⟨H,false⟩:aK),(⟨H,true⟩:aK)]:List aK).map aG) 126 2,.box b_ [pq D] 119,.box I [i6 O] 3] hc
    refine am _ _ ?_
    refine aDi hf rfl ?_
    refine wp_skip ?_
    replace hc:=hc.drop k0
    exact ad ab (As_1++(.box D (aY [i6 x,.slice V X.length U] 169 aD k (aY [] 169 aG j [])) 130::Bs_1)) _ _ d (hf.kp rfl) hc hF
  ·refine wp_exit ?_
   refine bI ?_
   refine bI ?_
   have he:=sj hF
   rw [← he] at g
   refine fB ?_
   exact ar _ _ _ g ⟨Ls_1,d,hf.kp rfl,hc⟩
 ·refine wp_exit ?_
  refine bI ?_
  refine bI ?_
  have he:=sj hF
  rw [← he] at m
  refine fB ?_
  exact a3 _ _ _ m ⟨Ls,hJ,hf.kp rfl,hc⟩

def nG (N:Nat) (w_:bX) (g:aK):Option (Int) :=
 Option.bind (cM w_.Net.Lines g.Line) fun B=>
 cond g.Back
 (some (W (B.Error - B.Rise)))
 (some (W (B.Error + B.Rise)))
theorem rO {N:Nat} {G:bA} {Lf:List Ent} {w:World} (w_:bX) (g:aK) {b_:Nat} {D:Option Addr} {B:Nat} (I:Rd G 5 D B (w_.Net.Lines.map bR)) (hc:Ctx G (.box b_ (aY [i6 w_.Net.Marks,.slice D w_.Net.Lines.length B] 169 aD w_.can (aY [] 169 aG w_.by_ [])) 130::Lf) w) {S:Int} (hF:nG N w_ g=some S):Calls Tryz.prog 127 #[pq b_,.agg #[i6 g.Line,.bool g.Back]] w (fun e w=>e=.returned (i6 S)∧Ctx G (.box b_ (aY [i6 w_.Net.Marks,.slice D w_.Net.Lines.length B] 169 aD w_.can (aY [] 169 aG w_.by_ [])) 130::Lf) w):=by
 unfold nG at hF
 refine cC Tryz.func127 rfl Tryz.ntmps127 rfl fun a hf=>zS fun K h=>zB hf hc rfl fun J a w hf hc=>sp 1 hf rfl fun a hf=>zT h ?_
 refine wp_seq_k fun K2 h2=>?_
 obtain ⟨H,U,hF⟩:=aC hF
 obtain ⟨Y,o,qa,qp⟩:=I.atm U
 replace hc:=hc.nilRow 0 0
 refine cU (fun θ=>[⟨none,none,0,pq b_⟩,⟨none,none,3,pq J⟩,⟨some 0,none,6,pq b_⟩,⟨some 1,none,7,pq b_⟩,⟨some 2,none,8,pq b_⟩,⟨some 3,none,9,.pointer (some ⟨b_,1,none⟩)⟩,⟨some 4,none,10,.slice D w_.Net.Lines.length B⟩,⟨some 5,none,11,pq J⟩,⟨some 6,none,12,i6 g.Line⟩,⟨some 7,none,13,.pointer (some ⟨Y,o,none⟩)⟩,⟨some 8,none,14,.agg #[i6 H.From,i6 H.To,i6 H.Day,i6 H.Rise,i6 H.Error]⟩,⟨some 9,none,5,.pointer (some ⟨(θ 72).b,0,none⟩)⟩]) (fun E θ=>(bif E 10 then .box (θ 72).b [i6 H.From,i6 H.To,i6 H.Day,i6 H.Rise,i6 H.Error] 132 else bif E 9 then .box (θ 72).b [i6 0,i6 0,i6 0,i6 0,i6 0] 132 else .row none 0 [] 0 0)::.box J [i6 g.Line,.bool g.Back] 126::.box b_ (aY [i6 w_.Net.Marks,.slice D w_.Net.Lines.length B] 169 aD w_.can (aY [] 169 aG w_.by_ [])) 130::Lf) [(10,9)] (fun a w=>∃ (O:Nat),Has 27 a [(3,pq J),(5,pq O)]∧Ctx G (.box O [i6 H.From,i6 H.To,i6 H.Day,i6 H.Rise,i6 H.Error] 132::.box J [i6 g.Line,.bool g.Back] 126::.box b_ (aY [i6 w_.Net.Marks,.slice D w_.Net.Lines.length B] 169 aD w_.can (aY [] 169 aG w_.by_ [])) 130::Lf) w) aT (by kernel_rfl) (by kernel_rfl) (dL.of hf ⟨rfl,rfl,trivial,trivial,trivial,trivial,trivial,trivial,trivial,trivial,trivial,trivial,trivial⟩) hc ⟨?_,?_,?_,?_,?_,?_,?_,?_,?_,?_,?_,trivial⟩ ?_ ?_
 ·intro E θ a w hD hi hp he hc
  have hf:=he.h0.mT he 0 rfl
  refine sp 1 hf rfl fun a hf=>zD θ he hi hf 2 rfl rfl rfl hc
 ·intro E θ a w hD hi hp he hc
  have e0:=hp.o 0 rfl
  have hf:=he.h0.mP he 2 rfl e0
  refine sp 1 hf rfl fun a hf=>zD θ he hi hf 3 rfl rfl rfl hc
 ·intro E θ a w hD hi hp he hc
  have e1:=hp.o 1 rfl
  have hf:=he.h0.mP he 3 rfl e1
  refine zP hf rfl (pFA rI rfl) fun a hf=>zD θ he hi hf 4 rfl rfl rfl hc
 ·intro E θ a w hD hi hp he hc
  have e2:=hp.o 2 rfl
  have hf:=he.h0.mP he 4 rfl e2
  refine zP hf rfl (pFA yE rfl) fun a hf=>zD θ he hi hf 5 rfl rfl rfl hc
 ·intro E θ a w hD hi hp he hc
  have e3:=hp.o 3 rfl
  have hf:=he.h0.mP he 5 rfl e3
  refine zL hf hc aFj m2 rfl fun a w hf hc=>zD θ he hi hf 6 rfl rfl rfl hc
 ·intro E θ a w hD hi hp he hc
  have hf:=he.h0.mT he 1 rfl
  refine zP hf rfl (pFA aEb rfl) fun a hf=>zD θ he hi hf 7 rfl rfl rfl hc
 ·intro E θ a w hD hi hp he hc
  have e5:=hp.o 5 rfl
  have hf:=he.h0.mP he 7 rfl e5
  refine zL hf hc aX m1 rfl fun a w hf hc=>zD θ he hi hf 8 rfl rfl rfl hc
 ·intro E θ a w hD hi hp he hc
  have e4:=hp.o 4 rfl
  have e6:=hp.o 6 rfl
  have hf:=(he.h0.mP he 6 rfl e4).mP he 8 rfl e6
  refine zP hf rfl (pIA Tryz.underlying92 aC7 rfl rfl qa) fun a hf=>zD θ he hi hf 9 rfl rfl rfl hc
 ·intro E θ a w hD hi hp he hc
  have e7:=hp.o 7 rfl
  have hf:=he.h0.mP he 9 rfl e7
  refine zE hf hc rfl (kK (vs:=[i6 H.From,i6 H.To,i6 H.Day,i6 H.Rise,i6 H.Error]) aCh rfl rfl (dF qp (n:=5) (o':=0) rfl)) fun a w hf hc=>zD θ he hi hf 10 rfl rfl rfl hc
 ·intro E θ a w hD hi hp he hc
  have M:=hD.f 0 rfl hi
  try dsimp only at hc
  rw [hi,M] at hc
  have hf:=he.h0
  refine zA hf hc aPu rfl fun V a w hf hc=>aQ ?_
  refine bV ?_
  intro ds u X
  replace hc:=hc.drop k1
  refine ⟨(hZ θ 72 ⟨V,none,0,(fun _=>(none,0))⟩),he.put hi X hf rfl [] trivial ⟨qq,qq,qq,qq,qq,qq,qq,qq,qq,qq,qq,qq,trivial⟩,?_⟩
  try dsimp only
  rw [aN E 9,aS 9 M rfl]
  exact hc
 ·intro E θ a w hD hi hp he hc
  have e8:=hp.o 8 rfl
  have e9:=hp.o 9 rfl
  try dsimp only at hc
  rw [e9,hi] at hc
  have hf:=(he.h0.mP he 10 rfl e8).mP he 11 rfl e9
  refine zW hf hc aC7 u0 rfl fun w hc=>zG θ he hi hf rfl ?_
  try dsimp only
  rw [cB 10 e9,aN E 10]
  exact hc
 ·intro E θ a w R he hc
  have hf:=he.h0
  have e9:=R 9 rfl
  have M:=R 10 rfl
  replace hf:=hf.more he 11 rfl (onP e9)
  replace hf:=hf.more he 1 rfl (onT)
  try dsimp only at hc
  rw [e9,M] at hc
  exact ⟨(θ 72).b,hf.kp rfl,hc⟩
 rintro a w ⟨O,hf,hc⟩
 refine h2 _ _ ?_
 refine wp_seq_k fun K3 h3=>zS fun K h=>zP hf rfl (pFA aCc rfl) fun a hf=>zL hf hc vC m1 rfl fun a w hf hc=>zT h ?_
 refine zI hf rfl hF ?_ ?_ <;> clear hF <;> intro hF
 ·refine zS fun K h=>zP hf rfl (pFA aDt rfl) fun a hf=>zL hf hc aX m0 rfl fun a w hf hc=>zP hf rfl (pFA aCi rfl) fun a hf=>zL hf hc aX m0 rfl fun a w hf hc=>sp 2 hf rfl fun a hf=>zT h ?_
  refine wp_ret ?_
  refine aU ?_
  obtain rfl:=sj hF
  replace hc:=(hc.drop k1).drop k0
  exact zO1 Tryz.results127 hf rfl ⟨rfl,hc⟩
 ·refine wp_skip ?_
  refine h3 _ _ ?_
  refine zS fun K h=>zP hf rfl (pFA aDt rfl) fun a hf=>zL hf hc aX m0 rfl fun a w hf hc=>zP hf rfl (pFA aCi rfl) fun a hf=>zL hf hc aX m0 rfl fun a w hf hc=>sp 2 hf rfl fun a hf=>zT h ?_
  refine wp_ret ?_
  obtain rfl:=sj hF
  replace hc:=(hc.drop k1).drop k0
  exact zO1 Tryz.results127 hf rfl ⟨rfl,hc⟩

def yY (N:Nat) (l:List Int) (out:Int) (x:Int):Option (dA (Int × Int) (Int)) :=
 cond (decide (x < ((l.length:Nat):Int)))
 (Option.bind (cM l x) fun B=>
 some (.cont (W (out + B),W (x + 1))))
 (some (.brk (out,x)))
def aAq (N:Nat) (l:List Int):Option (Int) :=
 Option.bind (bN (fun s5=>yY N l s5.1 s5.2) N (0,0)) fun x5=>
 exK x5 (fun s5=>some s5.1) some
theorem aFv {N:Nat} {G:bA} {Lf:List Ent} {w:World} (l:List Int) {I:Option Addr} {D:Nat} (U:Rd G 1 I D (l.map aD)) (hc:Ctx G (Lf) w) {H:Int} (hF:aAq N l=some H):Calls Tryz.prog 139 #[.slice I l.length D] w (fun e w=>e=.returned (i6 H)∧Ctx G (Lf) w):=by
 unfold aAq at hF
 refine cC Tryz.func139 rfl Tryz.ntmps139 rfl fun a hf=>zS fun K h=>sp 1 hf rfl fun a hf=>zT h ?_
 refine zS fun K h=>sp 1 hf rfl fun a hf=>zT h ?_
 refine wp_seq_k fun K3 h3=>zS fun K h=>sp 1 hf rfl fun a hf=>zP hf rfl (cP Tryz.underlying39 rfl) fun a hf=>sp 1 hf rfl fun a hf=>zT h ?_
 refine wp_block ?_
 obtain ⟨x5,O,hF⟩:=aC hF
 let S5:(Int × Int)→Act→World→Prop:=(fun (zz:Int × Int) a w=>Has 17 a [(3,i6 zz.1),(6,.slice I l.length D),(7,i6 ((l.length:Nat):Int)),(8,i6 zz.2)]∧Ctx G (Lf) w)
 have V:∀ (zz:Int × Int) a w,x5=.go zz→S5 zz a w→K3 a w:=by
  rintro ⟨out,x⟩ a w rfl ⟨hf,hc⟩
  replace hF:=cJ hF
  refine h3 _ _ ?_
  refine zS fun K h=>sp 2 hf rfl fun a hf=>zT h ?_
  refine wp_ret ?_
  obtain rfl:=sj hF
  exact zO1 Tryz.results139 hf rfl ⟨rfl,hc⟩
 have Z:∀ r,x5=.out r→r=H:=by
  rintro r rfl
  exact sj hF
 refine dQ N (dP (S:=S5) (x:=x5) ?_ N (0,0) _ _ ⟨hf.kp rfl,hc⟩ O)
 clear hF hf hc
 rintro ⟨out,x⟩ X a w KB5 ⟨hf,hc⟩ hF B M
 unfold yY at hF
 refine zS fun K h=>sp 1 hf rfl fun a hf=>zT h ?_
 refine wp_seq_k fun K8 h8=>zI hf rfl hF ?_ ?_ <;> clear hF <;> intro hF
 ·refine wp_skip ?_
  refine h8 _ _ ?_
  refine wp_seq_k fun K9 h9=>wp_block ?_
  refine zS fun K h=>?_
  obtain ⟨R,J,hF⟩:=aC hF
  obtain ⟨Y,o,qa,qp⟩:=U.atm J
  refine zP hf rfl (pIA Tryz.underlying39 fD rfl rfl qa) fun a hf=>zE hf hc rfl (cV aX rfl (kX (j:=0) qp rfl)) fun a w hf hc=>sp 1 hf rfl fun a hf=>zT h ?_
  refine cX ?_
  refine sp 4 hf rfl fun a hf=>aQ ?_
  refine h9 _ _ ?_
  refine cX ?_
  refine sp 2 hf rfl fun a hf=>aQ ?_
  exact M (W (out + R),W (x + 1)) _ _ (sj hF).symm ⟨hf.kp rfl,hc⟩
 ·refine wp_exit ?_
  refine bI ?_
  refine bI ?_
  have he:=sj hF
  rw [← he] at B
  refine fB ?_
  exact V _ _ _ B ⟨hf.kp rfl,hc⟩

def jF (N:Nat) (w_:bX) (g:aK):Option (Int) :=
 Option.bind (cM w_.Net.Lines g.Line) fun B=>
 some (bif (iR (!g.Back)) then (iT B) else (iW B))
theorem lE {N:Nat} {G:bA} {Lf:List Ent} {w:World} (w_:bX) (g:aK) {b_:Nat} {D:Option Addr} {B:Nat} (I:Rd G 5 D B (w_.Net.Lines.map bR)) (hc:Ctx G (.box b_ (aY [i6 w_.Net.Marks,.slice D w_.Net.Lines.length B] 169 aD w_.can (aY [] 169 aG w_.by_ [])) 130::Lf) w) {J:Int} (hF:jF N w_ g=some J):Calls Tryz.prog 128 #[pq b_,.agg #[i6 g.Line,.bool g.Back]] w (fun e w=>e=.returned (i6 J)∧Ctx G (.box b_ (aY [i6 w_.Net.Marks,.slice D w_.Net.Lines.length B] 169 aD w_.can (aY [] 169 aG w_.by_ [])) 130::Lf) w):=by
 unfold jF at hF
 refine cC Tryz.func128 rfl Tryz.ntmps128 rfl fun a hf=>zS fun K h=>zB hf hc rfl fun R a w hf hc=>sp 1 hf rfl fun a hf=>zT h ?_
 refine wp_seq_k fun K2 h2=>?_
 obtain ⟨H,M,hF⟩:=aC hF
 obtain ⟨O,o,qa,qp⟩:=I.atm M
 refine cQ hc aT (by kernel_rfl) ?_
 refine qE hf rfl rfl rfl (Pu.ev (pFA aCc rfl)) fun a hf=>qE hf rfl rfl rfl (cV vC rfl (bQ m0 rfl)) fun a hf=>qE hf rfl rfl rfl (Pu.ev (pNot rfl)) fun a hf=>qE hf rfl rfl rfl (eC (v:=.agg #[(bif (iR (!g.Back)) then .func (.func 140) #[] #[] else .func (.func 141) #[] #[])]) (vs:=[.bool (!g.Back)]) (caps:=[]) aMw rfl rfl rfl rfl (fun w hc=>wB (!g.Back) hc rfl)) fun a hf=>qE hf rfl rfl rfl (Pu.ev (aI7 Tryz.underlying226 rfl aMy rfl rfl)) fun a hf=>qE hf rfl rfl rfl (Pu.ev (pM rfl)) fun a hf=>qE hf rfl rfl rfl (Pu.ev (pNC rfl)) fun a hf=>qE hf rfl rfl rfl (Pu.ev (pFA rI rfl)) fun a hf=>qE hf rfl rfl rfl (Pu.ev (pFA yE rfl)) fun a hf=>qE hf rfl rfl rfl (cV aFj rfl (bQ m1 rfl)) fun a hf=>qE hf rfl rfl rfl (Pu.ev (pFA aEb rfl)) fun a hf=>qE hf rfl rfl rfl (cV aX rfl (bQ m0 rfl)) fun a hf=>qE hf rfl rfl rfl (Pu.ev (pIA Tryz.underlying92 aC7 rfl rfl qa)) fun a hf=>?_
 refine qE hf rfl rfl rfl (kK (vs:=[i6 H.From,i6 H.To,i6 H.Day,i6 H.Rise,i6 H.Error]) aCh rfl rfl (dF qp (n:=5) (o':=0) rfl)) fun a hf=>qE hf rfl rfl rfl (aN1 (c:=(iR (!g.Back))) (v:=i6 (bif (iR (!g.Back)) then (iT H) else (iW H))) (v1:=i6 (iT H)) (v2:=i6 (iW H)) (vs:=[.agg #[i6 H.From,i6 H.To,i6 H.Day,i6 H.Rise,i6 H.Error]]) aLi aM1 rfl rfl rfl rfl (fun hb=>congrArg (Value.int .i64) (bifT hb)) (fun hb=>congrArg (Value.int .i64) (bifF hb)) (fun w hc=>tL H hc rfl) (fun w hc=>tT H hc rfl)) fun a hf=>qE hf rfl rfl rfl (Pu.ev (pA rfl)) fun a hf=>?_
 intro w hc
 refine h2 _ _ ?_
 refine wp_ret ?_
 obtain rfl:=sj hF
 replace hc:=hc.drop k0
 exact zO1 Tryz.results128 hf rfl ⟨rfl,hc⟩

end Go.Nilo
