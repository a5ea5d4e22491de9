/-
 What functions of the Go text compute, as plain functions, and that they do, part 5 of 5. Conditions: what each theorem names.
-/
import Derived.Test.YtkcmofifepmkdaaGreatTd4
import Derived.Test.YtkcmofifepmkdaaGreatProg
set_option linter.unusedVariables false
set_option linter.unusedSimpArgs false
set_option maxRecDepth 100000
set_option maxHeartbeats 4000000
namespace Go.Nilo
open Go.Proofs


def vN (N:Nat) (r:eN) (B:Int) (H:Int):Option (aF × Int) :=
 Option.bind (tS N r) fun I=>
 cond (I != 0)
 (some ((⟨0,0⟩:aF),I))
 (cond ((!(gZ B 0 H)) || (decide (((r.Days.length:Nat):Int)≤H)))
 (some ((⟨0,0⟩:aF),2))
 (Option.bind (vL N r) (aAb (fun J=>cond (J != 0)
 (some ((⟨0,0⟩:aF),J))
 (none))
 (fun D=>cond (D.2.2.2 != 0)
 (some ((⟨0,0⟩:aF),D.2.2.2))
 (Option.bind (vS D.2.2.1 B (W (H + 1))) fun sub=>
 Option.bind (yM N sub) fun O=>
 Option.bind (xU N O) fun R=>
 Option.bind (uC N sub) fun M=>
 Option.bind (xU N M) fun S=>
 some ((⟨R,S⟩:aF),0))))))
theorem aBs {N:Nat} {G:bA} {Lf:List Ent} {w:World} (r:eN) (B:Int) (M:Int) {H:Option Addr} {D:Nat} (V:Rd G 3 H D (r.Days.map dD)) (hc:Ctx G (Lf) w) {x:aF × Int} (hF:vN N r B M=some x):Calls Tryz.prog 29 #[.agg #[i6 r.Rise,i6 r.Fall,.slice H r.Days.length D],i6 B,i6 M] w (fun e w=>e=.returned (.tuple #[.agg #[i6 x.1.Lo,i6 x.1.Hi],i6 x.2])∧Ctx G (Lf) w):=by
 unfold vN at hF
 refine cC Tryz.func29 rfl Tryz.ntmps29 rfl fun a hf=>zS fun K h=>zB hf hc rfl fun k a w hf hc=>zA hf hc rE rfl fun S a w hf hc=>sp 1 hf rfl fun a hf=>zT h ?_
 refine wp_seq_k fun K2 h2=>zS fun K h=>zN hf hc aFn m1 rfl fun a w hf hc=>?_
 obtain ⟨ax,aj,hF⟩:=aC hF
 refine zQ (v:=i6 ax) hf hc aOr rfl (fun w hc=>wW r V hc aj) fun a w hf hc=>sp 1 hf rfl fun a hf=>zT h ?_
 refine zS fun K h=>sp 2 hf rfl fun a hf=>zT h ?_
 refine zI hf rfl hF ?_ ?_ <;> clear hF <;> intro hF
 ·refine zS fun K h=>zP hf rfl (bJ (cells:=[i6 0,i6 0]) oO rfl rfl) fun a hf=>sp 1 hf rfl fun a hf=>zW hf hc fS u0 rfl fun w hc=>sp 1 hf rfl fun a hf=>zT h ?_
  refine wp_ret ?_
  refine aU ?_
  obtain rfl:=sj hF
  replace hc:=hc.drop k1
  exact vY (by simp) rfl Tryz.results29 hf hc (dX (vs:=[i6 0,i6 0]) eY rfl rfl (cE (n:=2) m0 rfl)) (show iK _ 7=_ from rfl) ⟨rfl,(hc.drop k0)⟩
 ·refine wp_skip ?_
  refine h2 _ _ ?_
  refine wp_seq_k fun K6 h6=>zS fun K h=>sp 2 hf rfl fun a hf=>zQ (v:=.bool (gZ B 0 M)) hf hc aIy rfl (fun w hc=>tK B 0 M hc rfl) fun a w hf hc=>sp 2 hf rfl fun a hf=>fL 6 (fun a=>Has 60 a [(1,i6 B),(2,i6 M),(3,pq k),(6,pq S),(19,i6 B),(20,i6 M),(21,.bool (gZ B 0 M)),(22,.bool (!(gZ B 0 M))),(23,.bool (!(gZ B 0 M))),(29,.bool ((!(gZ B 0 M)) || (decide (((r.Days.length:Nat):Int)≤M))))]) hc ?_ ?_
  ·cases hb:(!(gZ B 0 M))
   ·rw [hb] at hf
    refine sp 1 hf rfl fun a hf=>zP hf rfl (pFA vW rfl) fun a hf=>zL hf hc aCp m1 rfl fun a w hf hc=>zP hf rfl (cP Tryz.underlying97 rfl) fun a hf=>sp 2 hf rfl fun a hf=>aQ ⟨hf.kp rfl,hc⟩
   ·rw [hb] at hf
    refine stS hf rfl rfl rfl fun a hf=>stS hf rfl rfl rfl fun a hf=>stS hf rfl rfl rfl fun a hf=>stS hf rfl rfl rfl fun a hf=>stS hf rfl rfl rfl fun a hf=>sp 1 hf rfl fun a hf=>aQ ⟨hf.kp rfl,hc⟩
  intro a w ⟨hf,hc⟩
  refine zT h ?_
  refine zI hf rfl hF ?_ ?_ <;> clear hF <;> intro hF
  ·refine zS fun K h=>zP hf rfl (bJ (cells:=[i6 0,i6 0]) oO rfl rfl) fun a hf=>zW hf hc fS u0 rfl fun w hc=>sp 1 hf rfl fun a hf=>zT h ?_
   refine wp_ret ?_
   refine aU ?_
   obtain rfl:=sj hF
   replace hc:=hc.drop k1
   exact vY (by simp) rfl Tryz.results29 hf hc (dX (vs:=[i6 0,i6 0]) eY rfl rfl (cE (n:=2) m0 rfl)) (show iK _ 7=_ from rfl) ⟨rfl,(hc.drop k0)⟩
  ·refine wp_skip ?_
   refine h6 _ _ ?_
   refine zS fun K h=>zN hf hc aFn m1 rfl fun a w hf hc=>?_
   obtain ⟨ab,z,hF⟩:=aC hF
   cases ab with
   | inl ab=>
    replace hF:=aE0 hF
    refine zC hf aOh rfl (wD r V hc z) ?_
    rintro _ w ⟨rfl,hc⟩
    refine ⟨_,rfl,fun a hf=>?_⟩
    refine sp 5 hf rfl fun a hf=>zT h ?_
    refine wp_seq_k fun K10 az=>zS fun K h=>sp 2 hf rfl fun a hf=>zT h ?_
    refine zI hf rfl hF ?_ ?_ <;> clear hF <;> intro hF
    ·refine zS fun K h=>zP hf rfl (bJ (cells:=[i6 0,i6 0]) oO rfl rfl) fun a hf=>sp 1 hf rfl fun a hf=>zW hf hc fS u0 rfl fun w hc=>sp 1 hf rfl fun a hf=>zT h ?_
     refine wp_ret ?_
     refine aU ?_
     obtain rfl:=sj hF
     replace hc:=hc.drop k1
     exact vY (by simp) rfl Tryz.results29 hf hc (dX (vs:=[i6 0,i6 0]) eY rfl rfl (cE (n:=2) m0 rfl)) (show iK _ 7=_ from rfl) ⟨rfl,(hc.drop k0)⟩
    ·refine wp_skip ?_
     refine az _ _ ?_
     refine wp_seq_k fun K13 a3=>aI9 hF
   | inr J=>
    replace hF:=aFl hF
    have ai:=z
    refine zC hf aOh rfl (wD r V hc ai) ?_
    rintro _ w ⟨Y,O,I,rfl,hc⟩
    refine ⟨_,rfl,fun a hf=>?_⟩
    refine sp 5 hf rfl fun a hf=>zT h ?_
    refine wp_seq_k fun K14 ap=>zS fun K h=>sp 2 hf rfl fun a hf=>zT h ?_
    refine zI hf rfl hF ?_ ?_ <;> clear hF <;> intro hF
    ·refine zS fun K h=>zP hf rfl (bJ (cells:=[i6 0,i6 0]) oO rfl rfl) fun a hf=>sp 1 hf rfl fun a hf=>zW hf hc fS u2 rfl fun w hc=>sp 1 hf rfl fun a hf=>zT h ?_
     refine wp_ret ?_
     refine aU ?_
     obtain rfl:=sj hF
     replace hc:=((hc.drop k3).drop k1).drop k0
     exact vY (by simp) rfl Tryz.results29 hf hc (dX (vs:=[i6 0,i6 0]) eY rfl rfl (cE (n:=2) m0 rfl)) (show iK _ 7=_ from rfl) ⟨rfl,(hc.drop k0)⟩
    ·refine wp_skip ?_
     refine ap _ _ ?_
     refine wp_seq_k fun K17 ay=>?_
     have qc:=aF3 hc m0
     obtain ⟨sub,q,hF⟩:=aC hF
     replace hc:=hc.nilRow 0 0
     refine cU (fun θ=>[⟨none,none,1,i6 B⟩,⟨none,none,2,i6 M⟩,⟨none,none,6,pq S⟩,⟨none,none,9,pq Y⟩,⟨some 0,none,40,pq Y⟩,⟨some 1,none,41,pq Y⟩,⟨some 2,none,42,.pointer (some ⟨Y,3,none⟩)⟩,⟨some 3,none,43,.slice O J.2.2.1.length I⟩,⟨some 4,none,44,i6 B⟩,⟨some 5,none,45,i6 M⟩,⟨some 6,none,46,i6 (W (M + 1))⟩,⟨some 7,none,47,.slice (wQ O I B.toNat 2) sub.length (I - B.toNat)⟩,⟨some 8,none,48,.agg #[.func (.func 85) #[] #[],.func (.func 86) #[] #[]]⟩,⟨some 9,none,12,.pointer (some ⟨(θ 72).b,0,none⟩)⟩,⟨some 10,none,11,.slice (wQ O I B.toNat 2) sub.length (I - B.toNat)⟩]) (fun E θ=>(bif E 11 then .box (θ 72).b [.func (.func 85) #[] #[],.func (.func 86) #[] #[]] 141 else bif E 9 then .box (θ 72).b [.nilFunc,.nilFunc] 141 else .row none 0 [] 0 0)::.row O I (J.2.2.1.map aJ) 29 2::.box Y [i6 J.1,i6 J.2.1,.slice H r.Days.length D,.slice O J.2.2.1.length I] 138::.box S [i6 0,i6 0] 29::.box k [i6 r.Rise,i6 r.Fall,.slice H r.Days.length D] 99::Lf) [(11,9)] (fun a w=>∃ (Z:Nat),Has 60 a [(6,pq S),(12,pq Z),(11,.slice (wQ O I B.toNat 2) sub.length (I - B.toNat))]∧Ctx G (.box Z [.func (.func 85) #[] #[],.func (.func 86) #[] #[]] 141::.row O I (J.2.2.1.map aJ) 29 2::.box Y [i6 J.1,i6 J.2.1,.slice H r.Days.length D,.slice O J.2.2.1.length I] 138::.box S [i6 0,i6 0] 29::.box k [i6 r.Rise,i6 r.Fall,.slice H r.Days.length D] 99::Lf) w) aT (by kernel_rfl) (by kernel_rfl) (dL.of hf ⟨rfl,rfl,rfl,rfl,trivial,trivial,trivial,trivial,trivial,trivial,trivial,trivial,trivial,trivial,trivial,trivial⟩) hc ⟨?_,?_,?_,?_,?_,?_,?_,?_,?_,?_,?_,?_,trivial⟩ ?_ ?_
     ·intro E θ a w hD hi hp he hc
      have hf:=he.h0.mT he 3 rfl
      refine sp 1 hf rfl fun a hf=>zD θ he hi hf 4 rfl rfl rfl hc
     ·intro E θ a w hD hi hp he hc
      have e0:=hp.o 0 rfl
      have hf:=he.h0.mP he 4 rfl e0
      refine sp 1 hf rfl fun a hf=>zD θ he hi hf 5 rfl rfl rfl hc
     ·intro E θ a w hD hi hp he hc
      have e1:=hp.o 1 rfl
      have hf:=he.h0.mP he 5 rfl e1
      refine zP hf rfl (pFA pN rfl) fun a hf=>zD θ he hi hf 6 rfl rfl rfl hc
     ·intro E θ a w hD hi hp he hc
      have e2:=hp.o 2 rfl
      have hf:=he.h0.mP he 6 rfl e2
      refine zL hf hc sA m2 rfl fun a w hf hc=>zD θ he hi hf 7 rfl rfl rfl hc
     ·intro E θ a w hD hi hp he hc
      have hf:=he.h0.mT he 0 rfl
      refine sp 1 hf rfl fun a hf=>zD θ he hi hf 8 rfl rfl rfl hc
     ·intro E θ a w hD hi hp he hc
      have hf:=he.h0.mT he 1 rfl
      refine sp 1 hf rfl fun a hf=>zD θ he hi hf 9 rfl rfl rfl hc
     ·intro E θ a w hD hi hp he hc
      have e5:=hp.o 5 rfl
      have hf:=he.h0.mP he 9 rfl e5
      refine sp 1 hf rfl fun a hf=>zD θ he hi hf 10 rfl rfl rfl hc
     ·intro E θ a w hD hi hp he hc
      have e3:=hp.o 3 rfl
      have e4:=hp.o 4 rfl
      have e6:=hp.o 6 rfl
      have hf:=((he.h0.mP he 7 rfl e3).mP he 8 rfl e4).mP he 10 rfl e6
      refine zP hf rfl (pSl Tryz.underlying35 fS rfl rfl qc rfl rfl q) fun a hf=>zD θ he hi hf 11 rfl rfl rfl hc
     ·intro E θ a w hD hi hp he hc
      have hf:=he.h0
      refine zQ (v:=.agg #[.func (.func 85) #[] #[],.func (.func 86) #[] #[]]) hf hc en_53 rfl (fun w hc=>aEm hc rfl) fun a w hf hc=>zD θ he hi hf 12 rfl rfl rfl hc
     ·intro E θ a w hD hi hp he hc
      have i:=hD.f 0 rfl hi
      try dsimp only at hc
      rw [hi,i] at hc
      have hf:=he.h0
      refine zA hf hc aNa rfl fun av a w hf hc=>aQ ?_
      refine bV ?_
      intro ds u j
      replace hc:=hc.drop k1
      refine ⟨(hZ θ 72 ⟨av,none,0,(fun _=>(none,0))⟩),he.put hi j hf rfl [] trivial ⟨qq,qq,qq,qq,qq,qq,qq,qq,qq,qq,qq,qq,qq,qq,qq,trivial⟩,?_⟩
      try dsimp only
      rw [aN E 9,aS 9 i rfl]
      exact hc
     ·intro E θ a w hD hi hp he hc
      have e7:=hp.o 7 rfl
      have hf:=he.h0.mP he 11 rfl e7
      refine sp 1 hf rfl fun a hf=>zD θ he hi hf 14 rfl rfl rfl hc
     ·intro E θ a w hD hi hp he hc
      have e8:=hp.o 8 rfl
      have e9:=hp.o 9 rfl
      try dsimp only at hc
      rw [e9,hi] at hc
      have hf:=(he.h0.mP he 12 rfl e8).mP he 13 rfl e9
      refine zW hf hc aMz u0 rfl fun w hc=>zG θ he hi hf rfl ?_
      try dsimp only
      rw [cB 11 e9,aN E 11]
      exact hc
     ·intro E θ a w R he hc
      have hf:=he.h0
      have e9:=R 9 rfl
      have y:=R 10 rfl
      have i:=R 11 rfl
      replace hf:=hf.more he 14 rfl (onP y)
      replace hf:=hf.more he 13 rfl (onP e9)
      replace hf:=hf.more he 2 rfl (onT)
      try dsimp only at hc
      rw [e9,i] at hc
      exact ⟨(θ 72).b,hf.kp rfl,hc⟩
     rintro a w ⟨Z,hf,hc⟩
     refine ay _ _ ?_
     refine wp_seq_k fun K18 ar=>?_
     obtain ⟨s,ag,hF⟩:=aC hF
     obtain ⟨d,ak,hF⟩:=aC hF
     obtain ⟨t,an,hF⟩:=aC hF
     obtain ⟨g,am,hF⟩:=aC hF
     replace hc:=hc.nilRow 0 0
     replace hc:=hc.nilRow 0 0
     refine cU (fun θ=>[⟨none,none,6,pq S⟩,⟨none,none,11,.slice (wQ O I B.toNat 2) sub.length (I - B.toNat)⟩,⟨none,none,12,pq Z⟩,⟨some 0,none,49,.slice (wQ O I B.toNat 2) sub.length (I - B.toNat)⟩,⟨some 1,none,50,pq Z⟩,⟨some 2,none,51,.agg #[.func (.func 85) #[] #[]]⟩,⟨some 3,none,52,.slice ((θ 24).p) s.length ((θ 24).c)⟩,⟨some 4,none,53,i6 d⟩,⟨some 5,none,54,.slice (wQ O I B.toNat 2) sub.length (I - B.toNat)⟩,⟨some 6,none,55,.pointer (some ⟨Z,1,none⟩)⟩,⟨some 7,none,56,.agg #[.func (.func 86) #[] #[]]⟩,⟨some 8,none,57,.slice ((θ 64).p) t.length ((θ 64).c)⟩,⟨some 9,none,58,i6 g⟩,⟨some 10,none,59,.agg #[i6 d,i6 g]⟩,⟨some 12,none,7,i6 0⟩]) (fun E θ=>(bif E 8 then .row ((θ 64).p) ((θ 64).c) (t.map aD) 3 1 else .row none 0 [] 0 0)::(bif E 3 then .row ((θ 24).p) ((θ 24).c) (s.map aD) 3 1 else .row none 0 [] 0 0)::.box Z [.func (.func 85) #[] #[],.func (.func 86) #[] #[]] 141::.row O I (J.2.2.1.map aJ) 29 2::.box Y [i6 J.1,i6 J.2.1,.slice H r.Days.length D,.slice O J.2.2.1.length I] 138::(bif E 11 then .box S [i6 d,i6 g] 29 else .box S [i6 0,i6 0] 29)::.box k [i6 r.Rise,i6 r.Fall,.slice H r.Days.length D] 99::Lf) [] (fun a w=>∃ (ac:Option Addr) (ad:Nat) (aa:Option Addr) (af:Nat),Has 60 a [(6,pq S),(7,i6 0)]∧Ctx G (.row ac ad (t.map aD) 3 1::.row aa af (s.map aD) 3 1::.box Z [.func (.func 85) #[] #[],.func (.func 86) #[] #[]] 141::.row O I (J.2.2.1.map aJ) 29 2::.box Y [i6 J.1,i6 J.2.1,.slice H r.Days.length D,.slice O J.2.2.1.length I] 138::.box S [i6 d,i6 g] 29::.box k [i6 r.Rise,i6 r.Fall,.slice H r.Days.length D] 99::Lf) w) aT (by kernel_rfl) (by kernel_rfl) (dL.of hf ⟨rfl,rfl,rfl,trivial,trivial,trivial,trivial,trivial,trivial,trivial,trivial,trivial,trivial,trivial,trivial,trivial⟩) hc ⟨?_,?_,?_,?_,?_,?_,?_,?_,?_,?_,?_,?_,?_,trivial⟩ ?_ ?_
     ·intro E θ a w hD hi hp he hc
      have hf:=he.h0.mT he 1 rfl
      refine sp 1 hf rfl fun a hf=>zD θ he hi hf 3 rfl rfl rfl hc
     ·intro E θ a w hD hi hp he hc
      have hf:=he.h0.mT he 2 rfl
      refine zP hf rfl (nS Tryz.underlying141 aKx rfl rfl (by decide) (by decide)) fun a hf=>zD θ he hi hf 4 rfl rfl rfl hc
     ·intro E θ a w hD hi hp he hc
      have e1:=hp.o 1 rfl
      have hf:=he.h0.mP he 4 rfl e1
      refine zN hf hc aMt m2 rfl fun a w hf hc=>zD θ he hi hf 5 rfl rfl rfl hc
     ·intro E θ a w hD hi hp he hc
      have e0:=hp.o 0 rfl
      have e2:=hp.o 2 rfl
      try dsimp only at hc
      rw [hi] at hc
      have hf:=(he.h0.mP he 3 rfl e0).mP he 5 rfl e2
      obtain ⟨G1,m,X,hc,U⟩:=lend hc k3
      refine zC hf aO3 rfl (aEq sub (Rd.sub X q) hc ag) ?_
      rintro _ w ⟨aq,a1,rfl,hc⟩
      refine ⟨_,rfl,fun a hf=>?_⟩
      replace hc:=U _ _ hc
      refine aQ ?_
      refine bV ?_
      intro ds u j
      replace hc:=((((hc.drop k3).pick k0).pick k3).pick k2).pick k3
      refine ⟨(hZ θ 24 ⟨0,aq,a1,(fun _=>(none,0))⟩),he.put hi j hf rfl [] trivial ⟨qq,qq,qq,qq,qq,qq,qq,qq,qq,qq,qq,qq,qq,qq,qq,trivial⟩,?_⟩
      try dsimp only
      rw [aN E 3]
      exact hc
     ·intro E θ a w hD hi hp he hc
      have e3:=hp.o 3 rfl
      try dsimp only at hc
      rw [e3] at hc
      have hf:=he.h0.mP he 6 rfl e3
      refine zQ (v:=i6 d) hf hc aO1 rfl (fun w hc=>by obtain ⟨G1,m,X,hc,U⟩:=lend hc k1; exact (aAi s X hc ak).mono fun e w h=>⟨h.1,((U _ _ h.2).unpick k1)⟩) fun a w hf hc=>zD θ he hi hf 7 rfl rfl rfl ?_
      try dsimp only
      rw [cB 4 e3]
      exact hc
     ·intro E θ a w hD hi hp he hc
      have hf:=he.h0.mT he 1 rfl
      refine sp 1 hf rfl fun a hf=>zD θ he hi hf 8 rfl rfl rfl hc
     ·intro E θ a w hD hi hp he hc
      have hf:=he.h0.mT he 2 rfl
      refine zP hf rfl (nS Tryz.underlying141 aKx rfl rfl (by decide) (by decide)) fun a hf=>zD θ he hi hf 9 rfl rfl rfl hc
     ·intro E θ a w hD hi hp he hc
      have e6:=hp.o 6 rfl
      have hf:=he.h0.mP he 9 rfl e6
      refine zN hf hc aMt m2 rfl fun a w hf hc=>zD θ he hi hf 10 rfl rfl rfl hc
     ·intro E θ a w hD hi hp he hc
      have e5:=hp.o 5 rfl
      have e7:=hp.o 7 rfl
      try dsimp only at hc
      rw [hi] at hc
      have hf:=(he.h0.mP he 8 rfl e5).mP he 10 rfl e7
      obtain ⟨G1,m,X,hc,U⟩:=lend hc k3
      refine zC hf aO3 rfl (aA1 sub (Rd.sub X q) hc an) ?_
      rintro _ w ⟨au,a0,rfl,hc⟩
      refine ⟨_,rfl,fun a hf=>?_⟩
      replace hc:=U _ _ hc
      refine aQ ?_
      refine bV ?_
      intro ds u j
      replace hc:=((((hc.drop k2).pick k0).pick k3).pick k3).pick k3
      refine ⟨(hZ θ 64 ⟨0,au,a0,(fun _=>(none,0))⟩),he.put hi j hf rfl [] trivial ⟨qq,qq,qq,qq,qq,qq,qq,qq,qq,qq,qq,qq,qq,qq,qq,trivial⟩,?_⟩
      try dsimp only
      rw [aN E 8]
      exact hc
     ·intro E θ a w hD hi hp he hc
      have e8:=hp.o 8 rfl
      try dsimp only at hc
      rw [e8] at hc
      have hf:=he.h0.mP he 11 rfl e8
      refine zQ (v:=i6 g) hf hc aO1 rfl (fun w hc=>by obtain ⟨G1,m,X,hc,U⟩:=lend hc k0; exact (aAi t X hc am).mono fun e w h=>⟨h.1,((U _ _ h.2).unpick k0)⟩) fun a w hf hc=>zD θ he hi hf 12 rfl rfl rfl ?_
      try dsimp only
      rw [cB 9 e8]
      exact hc
     ·intro E θ a w hD hi hp he hc
      have e4:=hp.o 4 rfl
      have e9:=hp.o 9 rfl
      have hf:=(he.h0.mP he 7 rfl e4).mP he 12 rfl e9
      refine zP hf rfl (bJ (cells:=[i6 d,i6 g]) oO rfl rfl) fun a hf=>zD θ he hi hf 13 rfl rfl rfl hc
     ·intro E θ a w hD hi hp he hc
      have y:=hp.o 10 rfl
      try dsimp only at hc
      rw [hi] at hc
      have hf:=(he.h0.mT he 0 rfl).mP he 13 rfl y
      refine zW hf hc fS u5 rfl fun w hc=>zG θ he hi hf rfl ?_
      try dsimp only
      rw [aN E 11]
      exact hc
     ·intro E θ a w hD hi hp he hc
      have hf:=he.h0
      refine sp 1 hf rfl fun a hf=>zD θ he hi hf 14 rfl rfl rfl hc
     ·intro E θ a w R he hc
      have hf:=he.h0
      have e3:=R 3 rfl
      have e8:=R 8 rfl
      have i:=R 11 rfl
      have a2:=R 12 rfl
      replace hf:=hf.more he 14 rfl (onP a2)
      replace hf:=hf.more he 0 rfl (onT)
      try dsimp only at hc
      rw [e3,e8,i] at hc
      exact ⟨(θ 64).p,(θ 64).c,(θ 24).p,(θ 24).c,hf.kp rfl,hc⟩
     rintro a w ⟨ac,ad,aa,af,hf,hc⟩
     refine ar _ _ ?_
     refine wp_ret ?_
     obtain rfl:=sj hF
     replace hc:=(((((hc.drop k6).drop k4).drop k3).drop k2).drop k1).drop k0
     exact vY (by simp) rfl Tryz.results29 hf hc (dX (vs:=[i6 d,i6 g]) eY rfl rfl (cE (n:=2) m0 rfl)) (show iK _ 7=_ from rfl) ⟨rfl,(hc.drop k0)⟩

def aAp (N:Nat)  : Option (cK) :=
 some (⟨2,([(⟨0,100,50⟩:cA),(⟨1,60,100⟩:cA),(⟨0,40,0⟩:cA)]:List cA)⟩:cK)
theorem aGg {N:Nat} {G:bA} {Lf:List Ent} {w:World}    (hc:Ctx G (Lf) w) {B:cK} (hF:aAp N=some B):Calls Tryz.prog 32 #[] w (fun e w=>∃ (H:Option Addr) (I:Nat),e=.returned (.agg #[i6 B.States,.slice H B.Rights.length I])∧Ctx G (.row H I (B.Rights.map cN) 151 3::Lf) w):=by
 unfold aAp at hF
 refine cC Tryz.func32 rfl Tryz.ntmps32 rfl fun a hf=>zS fun K h=>zA hf hc aQq rfl fun J a w hf hc=>zT h ?_
 refine zS fun K h=>zP hf rfl (bJ (cells:=[i6 0,i6 100,i6 50]) aIq rfl rfl) fun a hf=>zP hf rfl (bJ (cells:=[i6 1,i6 60,i6 100]) aIq rfl rfl) fun a hf=>zP hf rfl (bJ (cells:=[i6 0,i6 40,i6 0]) aIq rfl rfl) fun a hf=>oJ (rows:=([(⟨0,100,50⟩:cA),(⟨1,60,100⟩:cA),(⟨0,40,0⟩:cA)]:List cA).map cN) (vs:=[(0,.agg #[i6 0,i6 100,i6 50]),(1,.agg #[i6 1,i6 60,i6 100]),(2,.agg #[i6 0,i6 40,i6 0])]) hf hc rfl rfl aPk rfl ⟨rfl,rfl,rfl,rfl,rfl,rfl,rfl,rfl,rfl,trivial⟩ rfl rfl fun D a w hf hc=>zP hf rfl (bJ (cells:=[i6 2,.slice (some ⟨D,0,none⟩) 3 3]) aQe rfl rfl) fun a hf=>zW hf hc aPh u1 rfl fun w hc=>zT h ?_
 refine wp_ret ?_
 obtain rfl:=sj hF
 exact nK (by simp) rfl Tryz.results32 hf hc (dX (vs:=[i6 2,.slice (some ⟨D,0,none⟩) 3 3]) aFw rfl rfl (cE (n:=2) m1 rfl)) ⟨(some ⟨D,0,none⟩),3,rfl,(hc.drop k1)⟩

def qW (r:cA) (x:cK):Bool :=
 (((aW r.State 0 (W (x.States - 1))) && (bP r.Amount)) && (aW r.Loss 0 1000))
theorem aA0 {G:bA} {Lf:List Ent} {w:World} (r:cA) (x:cK) {b_:Nat} {B:Option Addr} {D:Nat} (I:Rd G 3 B D (x.Rights.map cN)) (hc:Ctx G (.box b_ [i6 x.States,.slice B x.Rights.length D] 104::Lf) w) {J:Bool} (hF:qW r x=J):Calls Tryz.prog 89 #[.agg #[i6 r.State,i6 r.Amount,i6 r.Loss],pq b_] w (fun e w=>e=.returned (.bool J)∧Ctx G (.box b_ [i6 x.States,.slice B x.Rights.length D] 104::Lf) w):=by
 unfold qW at hF
 refine cC Tryz.func89 rfl Tryz.ntmps89 rfl fun a hf=>zS fun K h=>zB hf hc rfl fun H a w hf hc=>sp 1 hf rfl fun a hf=>zT h ?_
 refine zS fun K h=>zP hf rfl (pFA aHo rfl) fun a hf=>zL hf hc aX m0 rfl fun a w hf hc=>zP hf rfl (pFA aDd rfl) fun a hf=>zL hf hc aX m1 rfl fun a w hf hc=>sp 1 hf rfl fun a hf=>zQ (v:=.bool (aW r.State 0 (W (x.States - 1)))) hf hc wH rfl (fun w hc=>iA r.State 0 (W (x.States - 1)) hc rfl) fun a w hf hc=>sp 1 hf rfl fun a hf=>fL 4 (fun a=>Has 20 a [(1,pq b_),(2,pq H),(3,.bool false),(4,pq H),(5,i6 r.State),(6,pq b_),(7,i6 x.States),(8,i6 (W (x.States - 1))),(9,.bool (aW r.State 0 (W (x.States - 1)))),(10,.bool (aW r.State 0 (W (x.States - 1)))),(14,.bool ((aW r.State 0 (W (x.States - 1))) && (bP r.Amount)))]) hc ?_ ?_
 ·cases hb:(aW r.State 0 (W (x.States - 1)))
  ·rw [hb] at hf
   refine stS hf rfl rfl rfl fun a hf=>stS hf rfl rfl rfl fun a hf=>stS hf rfl rfl rfl fun a hf=>sp 1 hf rfl fun a hf=>aQ ⟨hf.kp rfl,hc⟩
  ·rw [hb] at hf
   refine zP hf rfl (pFA aHh rfl) fun a hf=>zL hf hc aX m0 rfl fun a w hf hc=>zQ (v:=.bool (bP r.Amount)) hf hc aBf rfl (fun w hc=>iZ r.Amount hc rfl) fun a w hf hc=>sp 1 hf rfl fun a hf=>aQ ⟨hf.kp rfl,hc⟩
 intro a w ⟨hf,hc⟩
 refine sp 1 hf rfl fun a hf=>fL 4 (fun a=>Has 20 a [(1,pq b_),(2,pq H),(3,.bool false),(4,pq H),(5,i6 r.State),(6,pq b_),(7,i6 x.States),(8,i6 (W (x.States - 1))),(9,.bool (aW r.State 0 (W (x.States - 1)))),(10,.bool (aW r.State 0 (W (x.States - 1)))),(14,.bool ((aW r.State 0 (W (x.States - 1))) && (bP r.Amount))),(15,.bool ((aW r.State 0 (W (x.States - 1))) && (bP r.Amount))),(19,.bool (((aW r.State 0 (W (x.States - 1))) && (bP r.Amount)) && (aW r.Loss 0 1000)))]) hc ?_ ?_
 ·cases hb:((aW r.State 0 (W (x.States - 1))) && (bP r.Amount))
  ·rw [hb] at hf
   refine stS hf rfl rfl rfl fun a hf=>stS hf rfl rfl rfl fun a hf=>stS hf rfl rfl rfl fun a hf=>sp 1 hf rfl fun a hf=>aQ ⟨hf.kp rfl,hc⟩
  ·rw [hb] at hf
   refine zP hf rfl (pFA aHr rfl) fun a hf=>zL hf hc aX m0 rfl fun a w hf hc=>zQ (v:=.bool (aW r.Loss 0 1000)) hf hc wH rfl (fun w hc=>iA r.Loss 0 1000 hc rfl) fun a w hf hc=>sp 1 hf rfl fun a hf=>aQ ⟨hf.kp rfl,hc⟩
 intro a w ⟨hf,hc⟩
 refine sp 1 hf rfl fun a hf=>zT h ?_
 refine wp_ret ?_
 obtain rfl:=hF
 replace hc:=hc.drop k0
 exact zO1 Tryz.results89 hf rfl ⟨rfl,hc⟩

def iG (x:cA) (B:cK):Bool :=
 (!(qW (⟨x.State,x.Amount,x.Loss⟩:cA) B))
theorem rR {G:bA} {Lf:List Ent} {w:World} (x:cA) (H:cK) {b_:Nat} {J:Nat} {D:Option Addr} {B:Nat} (I:Rd G 3 D B (H.Rights.map cN)) (hc:Ctx G (.box b_ [.func (.func 89) #[] #[pq J]] 182::.box J [i6 H.States,.slice D H.Rights.length B] 104::Lf) w) {M:Bool} (hF:iG x H=M):Calls Tryz.prog 118 #[.agg #[i6 x.State,i6 x.Amount,i6 x.Loss],pq b_] w (fun e w=>e=.returned (.bool M)∧Ctx G (.box b_ [.func (.func 89) #[] #[pq J]] 182::.box J [i6 H.States,.slice D H.Rights.length B] 104::Lf) w):=by
 unfold iG at hF
 refine cC Tryz.func118 rfl Tryz.ntmps118 rfl fun a hf=>zS fun K h=>zB hf hc rfl fun O a w hf hc=>sp 1 hf rfl fun a hf=>zT h ?_
 refine zS fun K h=>zL hf hc aQw m1 rfl fun a w hf hc=>zN hf hc aGe m0 rfl fun a w hf hc=>zQ (v:=.bool (qW (⟨x.State,x.Amount,x.Loss⟩:cA) H)) hf hc en_89 rfl (fun w hc=>(aA0 (⟨x.State,x.Amount,x.Loss⟩:cA) H I (hc.pick k2) rfl).mono fun e w h=>⟨h.1,(h.2.unpick k2)⟩) fun a w hf hc=>sp 2 hf rfl fun a hf=>zT h ?_
 refine wp_ret ?_
 obtain rfl:=hF
 replace hc:=hc.drop k0
 exact zO1 Tryz.results118 hf rfl ⟨rfl,hc⟩

def gM (N:Nat) (s_:List cA) (f_:cK) (x:Int):Option (dA (Int) (Int)) :=
 cond (decide (x < ((s_.length:Nat):Int)))
 (Option.bind (cM s_ x) fun B=>
 cond (iG B f_)
 (some (.ret x))
 (some (.cont (W (x + 1)))))
 (some (.brk x))
def eR (N:Nat) (s_:List cA) (f_:cK):Option (Int) :=
 Option.bind (bN (fun s4=>gM N s_ f_ s4) N 0) fun x4=>
 exK x4 (fun s4=>some (-1)) some
theorem mB {N:Nat} {G:bA} {Lf:List Ent} {w:World} (s_:List cA) (f_:cK) {R:Option Addr} {O:Nat} {b_:Nat} {H:Nat} {B:Option Addr} {D:Nat} (X:Rd G 3 R O (s_.map cN)) (J:Rd G 3 B D (f_.Rights.map cN)) (hc:Ctx G (.box b_ [.func (.func 89) #[] #[pq H]] 182::.box H [i6 f_.States,.slice B f_.Rights.length D] 104::Lf) w) {U:Int} (hF:eR N s_ f_=some U):Calls Tryz.prog 132 #[.slice R s_.length O,.func (.func 118) #[] #[pq b_]] w (fun e w=>e=.returned (i6 U)∧Ctx G (.box b_ [.func (.func 89) #[] #[pq H]] 182::.box H [i6 f_.States,.slice B f_.Rights.length D] 104::Lf) w):=by
 unfold eR at hF
 refine cC Tryz.func132 rfl Tryz.ntmps132 rfl fun a hf=>zS fun K h=>sp 1 hf rfl fun a hf=>zT h ?_
 refine wp_seq_k fun K2 h2=>zS fun K h=>sp 1 hf rfl fun a hf=>zP hf rfl (cP Tryz.underlying102 rfl) fun a hf=>sp 1 hf rfl fun a hf=>zT h ?_
 refine wp_block ?_
 obtain ⟨x4,Z,hF⟩:=aC hF
 let S4:Int→Act→World→Prop:=(fun (zz:Int) a w=>Has 19 a [(0,.slice R s_.length O),(1,.func (.func 118) #[] #[pq b_]),(7,i6 ((s_.length:Nat):Int)),(8,i6 zz)]∧Ctx G (.box b_ [.func (.func 89) #[] #[pq H]] 182::.box H [i6 f_.States,.slice B f_.Rights.length D] 104::Lf) w)
 have d:∀ (zz:Int) a w,x4=.go zz→S4 zz a w→K2 a w:=by
  rintro x a w rfl ⟨hf,hc⟩
  replace hF:=cJ hF
  refine h2 _ _ ?_
  refine zS fun K h=>sp 1 hf rfl fun a hf=>zT h ?_
  refine wp_ret ?_
  obtain rfl:=sj hF
  exact zO1 Tryz.results132 hf rfl ⟨rfl,hc⟩
 have Y:∀ r,x4=.out r→r=U:=by
  rintro r rfl
  exact sj hF
 refine dQ N (dP (S:=S4) (x:=x4) ?_ N 0 _ _ ⟨hf.kp rfl,hc⟩ Z)
 clear hF hf hc
 rintro x g a w KB4 ⟨hf,hc⟩ hF I b
 unfold gM at hF
 refine zS fun K h=>sp 1 hf rfl fun a hf=>zT h ?_
 refine wp_seq_k fun K7 h7=>zI hf rfl hF ?_ ?_ <;> clear hF <;> intro hF
 ·refine wp_skip ?_
  refine h7 _ _ ?_
  refine wp_seq_k fun K8 h8=>wp_block ?_
  refine zS fun K h=>sp 2 hf rfl fun a hf=>zT h ?_
  refine zS fun K h=>sp 3 hf rfl fun a hf=>?_
  obtain ⟨M,V,hF⟩:=aC hF
  obtain ⟨i,o,qa,qp⟩:=X.atm V
  refine zP hf rfl (pIA Tryz.underlying102 aGi rfl rfl qa) fun a hf=>zE hf hc rfl (kK (vs:=[i6 M.State,i6 M.Amount,i6 M.Loss]) aGe rfl rfl (dF qp (n:=3) (o':=0) rfl)) fun a w hf hc=>zQ (v:=.bool (iG M f_)) hf hc aQs rfl (fun w hc=>(rR M f_ J ((hc.pick k1).pick k1) rfl).mono fun e w h=>⟨h.1,((h.2.unpick k1).unpick k1)⟩) fun a w hf hc=>zT h ?_
  refine zI hf rfl hF ?_ ?_ <;> clear hF <;> intro hF
  ·refine zS fun K h=>sp 2 hf rfl fun a hf=>zT h ?_
   refine wp_ret ?_
   refine cI ?_
   refine aU ?_
   refine aU ?_
   have he:=sj hF
   rw [← he] at I
   replace hF:=Y _ I
   refine cI ?_
   refine aU ?_
   obtain rfl:=hF
   exact zO1 Tryz.results132 hf rfl ⟨rfl,hc⟩
  ·refine wp_skip ?_
   refine h8 _ _ ?_
   refine cX ?_
   refine sp 2 hf rfl fun a hf=>aQ ?_
   exact b (W (x + 1)) _ _ (sj hF).symm ⟨hf.kp rfl,hc⟩
 ·refine wp_exit ?_
  refine bI ?_
  refine bI ?_
  have he:=sj hF
  rw [← he] at I
  refine fB ?_
  exact d _ _ _ I ⟨hf.kp rfl,hc⟩

def eG (N:Nat) (s_:List cA) (f_:cK):Option (Bool) :=
 Option.bind (eR N s_ f_) fun r=>
 some (decide (0≤r))
theorem kV {N:Nat} {G:bA} {Lf:List Ent} {w:World} (s_:List cA) (f_:cK) {M:Option Addr} {J:Nat} {b_:Nat} {I:Nat} {B:Option Addr} {D:Nat} (R:Rd G 3 M J (s_.map cN)) (H:Rd G 3 B D (f_.Rights.map cN)) (hc:Ctx G (.box b_ [.func (.func 89) #[] #[pq I]] 182::.box I [i6 f_.States,.slice B f_.Rights.length D] 104::Lf) w) {O:Bool} (hF:eG N s_ f_=some O):Calls Tryz.prog 117 #[.slice M s_.length J,.func (.func 118) #[] #[pq b_]] w (fun e w=>e=.returned (.bool O)∧Ctx G (.box b_ [.func (.func 89) #[] #[pq I]] 182::.box I [i6 f_.States,.slice B f_.Rights.length D] 104::Lf) w):=by
 unfold eG at hF
 refine cC Tryz.func117 rfl Tryz.ntmps117 rfl fun a hf=>zS fun K h=>sp 1 hf rfl fun a hf=>zT h ?_
 refine zS fun K h=>sp 2 hf rfl fun a hf=>?_
 obtain ⟨r,hr,hF⟩:=aC hF
 refine zQ (v:=i6 r) hf hc aQu rfl (fun w hc=>(mB s_ f_ R H ((hc.pick k1).pick k1) hr).mono fun e w h=>⟨h.1,((h.2.unpick k1).unpick k1)⟩) fun a w hf hc=>sp 2 hf rfl fun a hf=>zT h ?_
 refine wp_ret ?_
 obtain rfl:=sj hF
 exact zO1 Tryz.results117 hf rfl ⟨rfl,hc⟩

def lP (N:Nat) (l:List cA) (so:cK):Option (Bool) :=
 Option.bind (eG N l so) fun r=>
 some (!r)
theorem tE {N:Nat} {G:bA} {Lf:List Ent} {w:World} (l:List cA) (so:cK) {M:Option Addr} {J:Nat} {b_:Nat} {D:Option Addr} {B:Nat} (O:Rd G 3 M J (l.map cN)) (H:Rd G 3 D B (so.Rights.map cN)) (hc:Ctx G (.box b_ [i6 so.States,.slice D so.Rights.length B] 104::Lf) w) {I:Bool} (hF:lP N l so=some I):Calls Tryz.prog 88 #[.slice M l.length J,.func (.func 89) #[] #[pq b_]] w (fun e w=>e=.returned (.bool I)∧Ctx G (.box b_ [i6 so.States,.slice D so.Rights.length B] 104::Lf) w):=by
 unfold lP at hF
 refine cC Tryz.func88 rfl Tryz.ntmps88 rfl fun a hf=>zS fun K h=>zB hf hc rfl fun R a w hf hc=>sp 1 hf rfl fun a hf=>zT h ?_
 refine zS fun K h=>sp 1 hf rfl fun a hf=>zP hf rfl (pMF (us:=[pq R]) rfl rfl) fun a hf=>?_
 obtain ⟨r,hr,hF⟩:=aC hF
 refine zQ (v:=.bool r) hf hc aPm rfl (fun w hc=>(kV l so O H ((hc.pick k1).pick k1) hr).mono fun e w h=>⟨h.1,((h.2.unpick k1).unpick k1)⟩) fun a w hf hc=>sp 2 hf rfl fun a hf=>zT h ?_
 refine wp_ret ?_
 obtain rfl:=sj hF
 replace hc:=hc.drop k0
 exact zO1 Tryz.results88 hf rfl ⟨rfl,hc⟩

def wV (N:Nat) (c_:cK):Option (Int) :=
 cond ((!(aW c_.States 1 12)) || (!(aW ((c_.Rights.length:Nat):Int) 1 30)))
 (some 3)
 (Option.bind (lP N c_.Rights c_) fun r=>
 cond (!r)
 (some 100)
 (some 0))
theorem aD3 {N:Nat} {G:bA} {Lf:List Ent} {w:World} (c_:cK) {B:Option Addr} {D:Nat} (H:Rd G 3 B D (c_.Rights.map cN)) (hc:Ctx G (Lf) w) {J:Int} (hF:wV N c_=some J):Calls Tryz.prog 57 #[.agg #[i6 c_.States,.slice B c_.Rights.length D]] w (fun e w=>e=.returned (i6 J)∧Ctx G (Lf) w):=by
 unfold wV at hF
 refine cC Tryz.func57 rfl Tryz.ntmps57 rfl fun a hf=>zS fun K h=>zB hf hc rfl fun I a w hf hc=>sp 1 hf rfl fun a hf=>zT h ?_
 refine wp_seq_k fun K2 h2=>wp_block ?_
 refine zS fun K h=>zP hf rfl (pFA aDd rfl) fun a hf=>zL hf hc aX m0 rfl fun a w hf hc=>zQ (v:=.bool (aW c_.States 1 12)) hf hc wH rfl (fun w hc=>iA c_.States 1 12 hc rfl) fun a w hf hc=>sp 2 hf rfl fun a hf=>fL 6 (fun a=>Has 21 a [(1,pq I),(4,pq I),(5,i6 c_.States),(6,.bool (aW c_.States 1 12)),(7,.bool (!(aW c_.States 1 12))),(8,.bool (!(aW c_.States 1 12))),(14,.bool ((!(aW c_.States 1 12)) || (!(aW ((c_.Rights.length:Nat):Int) 1 30))))]) hc ?_ ?_
 ·cases hb:(!(aW c_.States 1 12))
  ·rw [hb] at hf
   refine zP hf rfl (pFA aEf rfl) fun a hf=>zL hf hc aH2 m0 rfl fun a w hf hc=>zP hf rfl (cP Tryz.underlying102 rfl) fun a hf=>zQ (v:=.bool (aW ((c_.Rights.length:Nat):Int) 1 30)) hf hc wH rfl (fun w hc=>iA ((c_.Rights.length:Nat):Int) 1 30 hc rfl) fun a w hf hc=>sp 2 hf rfl fun a hf=>aQ ⟨hf.kp rfl,hc⟩
  ·rw [hb] at hf
   refine stS hf rfl rfl rfl fun a hf=>stS hf rfl rfl rfl fun a hf=>stS hf rfl rfl rfl fun a hf=>stS hf rfl rfl rfl fun a hf=>stS hf rfl rfl rfl fun a hf=>sp 1 hf rfl fun a hf=>aQ ⟨hf.kp rfl,hc⟩
 intro a w ⟨hf,hc⟩
 refine sp 1 hf rfl fun a hf=>zT h ?_
 refine zI hf rfl hF ?_ ?_ <;> clear hF <;> intro hF
 ·refine zS fun K h=>sp 1 hf rfl fun a hf=>zT h ?_
  refine wp_ret ?_
  refine cI ?_
  refine aU ?_
  obtain rfl:=sj hF
  replace hc:=hc.drop k0
  exact zO1 Tryz.results57 hf rfl ⟨rfl,hc⟩
 ·refine zS fun K h=>zP hf rfl (pFA aEf rfl) fun a hf=>zL hf hc aH2 m0 rfl fun a w hf hc=>zP hf rfl (pMF (us:=[pq I]) rfl rfl) fun a hf=>?_
  obtain ⟨r,hr,hF⟩:=aC hF
  refine zQ (v:=.bool r) hf hc en_88 rfl (fun w hc=>(tE c_.Rights c_ H H (hc.pick k0) hr).mono fun e w h=>⟨h.1,(h.2.unpick k0)⟩) fun a w hf hc=>sp 2 hf rfl fun a hf=>zT h ?_
  refine zI hf rfl hF ?_ ?_ <;> clear hF <;> intro hF
  ·refine zS fun K h=>sp 1 hf rfl fun a hf=>zT h ?_
   refine wp_ret ?_
   refine cI ?_
   refine aU ?_
   obtain rfl:=sj hF
   replace hc:=hc.drop k0
   exact zO1 Tryz.results57 hf rfl ⟨rfl,hc⟩
  ·refine wp_skip ?_
   refine h2 _ _ ?_
   refine zS fun K h=>sp 1 hf rfl fun a hf=>zT h ?_
   refine wp_ret ?_
   obtain rfl:=sj hF
   replace hc:=hc.drop k0
   exact zO1 Tryz.results57 hf rfl ⟨rfl,hc⟩

def oZ (N:Nat) (w_:jU) (B:Int):Option (Int) :=
 some B
theorem wO {N:Nat} {G:bA} {Lf:List Ent} {w:World} (w_:jU) (I:Int) {b_:Nat} {D:Option Addr} {B:Nat} (H:Rd G 3 D B (w_.Compact.Rights.map cN)) (hc:Ctx G (.box b_ (aY [i6 w_.Compact.States,.slice D w_.Compact.Rights.length B] 12 aD w_.got []) 186::Lf) w) {O:Int} (hF:oZ N w_ I=some O):Calls Tryz.prog 90 #[pq b_,i6 I] w (fun e w=>∃ (J:Nat) (M:Nat),e=.returned (.func (.func 119) #[] #[pq J,pq M])∧Ctx G (.box J [pq b_] 183::.box M [i6 O] 3::.box b_ (aY [i6 w_.Compact.States,.slice D w_.Compact.Rights.length B] 12 aD w_.got []) 186::Lf) w):=by
 unfold oZ at hF
 refine cC Tryz.func90 rfl Tryz.ntmps90 rfl fun a hf=>zS fun K h=>zB hf hc rfl fun S a w hf hc=>zB hf hc rfl fun R a w hf hc=>sp 1 hf rfl fun a hf=>zT h ?_
 refine zS fun K h=>zP hf rfl (pMF (us:=[pq S,pq R]) rfl rfl) fun a hf=>sp 1 hf rfl fun a hf=>zT h ?_
 refine wp_ret ?_
 obtain rfl:=sj hF
 replace hc:=(hc.pick k0).pick k1
 exact zO1 Tryz.results90 hf rfl ⟨S,R,rfl,hc⟩

def pH (N:Nat) {σ:Type} (x:jU) (y:σ→(cA × Int)→Option (σ × Bool)) (D:Int) (B:Int) (sg:σ):Option (dA (Int × Int × σ) (σ × Int)) :=
 cond (decide (D < ((x.Compact.Rights.length:Nat):Int)))
 (Option.bind (cM x.Compact.Rights D) fun H=>
 Option.bind (y sg (H,min H.Amount B)) fun ry=>
 cond (!ry.2)
 (some (.ret (ry.1,W (B - (min H.Amount B)))))
 (some (.cont (W (D + 1),W (B - (min H.Amount B)),ry.1))))
 (some (.brk (D,B,sg)))
def nX (N:Nat) {σ:Type} (x:jU) (D:Int) (y:σ→(cA × Int)→Option (σ × Bool)) (B:σ):Option (σ × Int) :=
 Option.bind (bN (fun s3=>pH N x y s3.1 s3.2.1 s3.2.2) N (0,D,B)) fun x3=>
 exK x3 (fun s3=>some (s3.2.2,s3.2.1)) some
theorem uX {N:Nat} {G:bA} {Lf:List Ent} {w:World} {σ:Type} (x:jU) (V:Int) {b_:Nat} {I:Nat} {D:Option Addr} {B:Nat} {M:Nat} (R:Rd G 3 D B (x.Compact.Rights.map cN)) (J:σ→List Ent→Prop) (y:σ→(cA × Int)→Option (σ × Bool)) {l:Nat} (hy:rJ Tryz.prog G l (fun x:(cA × Int)=>[.agg #[i6 x.1.State,i6 x.1.Amount,i6 x.1.Loss],i6 x.2]) J y) (Z:σ) {A0 Ls1:List Ent} (q:J Z (A0++(.box I (aY [i6 x.Compact.States,.slice D x.Compact.Rights.length B] 12 aD x.got []) 186::Ls1))) (hc:Ctx G (.box b_ [pq I] 183::.box M [i6 V] 3::((A0++(.box I (aY [i6 x.Compact.States,.slice D x.Compact.Rights.length B] 12 aD x.got []) 186::Ls1))++Lf)) w) {X:σ × Int} (hF:nX N x V y Z=some X):Calls Tryz.prog 119 #[.func (.yield l) #[] #[],pq b_,pq M] w (fun e w=>(∃ v,e=.returned v)∧∃ L,J X.1 L∧Ctx G (.box b_ [pq I] 183::.box M [i6 X.2] 3::(L++Lf)) w):=by
 unfold nX at hF
 refine cC Tryz.func119 rfl Tryz.ntmps119 rfl fun a hf=>?_
 replace hc:Ctx G (.box I (aY [i6 x.Compact.States,.slice D x.Compact.Rights.length B] 12 aD x.got []) 186::.box b_ [pq I] 183::.box M [i6 V] 3::((A0++Ls1)++Lf)) w:=aE4 [.box b_ [pq I] 183,.box M [i6 V] 3] hc
 refine zS fun K h=>zL hf hc aEh m1 rfl fun a w hf hc=>sp 1 hf rfl fun a hf=>zP hf rfl (pFA aG4 rfl) fun a hf=>zP hf rfl (pFA aEf rfl) fun a hf=>zL hf hc aH2 m0 rfl fun a w hf hc=>zP hf rfl (cP Tryz.underlying102 rfl) fun a hf=>sp 1 hf rfl fun a hf=>zT h ?_
 refine lR fun K2 h2=>wp_block ?_
 replace hc:Ctx G (.box b_ [pq I] 183::.box M [i6 V] 3::((A0++(.box I (aY [i6 x.Compact.States,.slice D x.Compact.Rights.length B] 12 aD x.got []) 186::Ls1))++Lf)) w:=aH8 [.box b_ [pq I] 183,.box M [i6 V] 3] hc
 obtain ⟨x3,i,hF⟩:=aC hF
 let S3:(Int × Int × σ)→Act→World→Prop:=(fun (zz:Int × Int × σ) a w=>∃ (Ls:List Ent),J zz.2.2 Ls∧Has 30 a [(0,.func (.yield l) #[] #[]),(2,pq M),(11,.slice D x.Compact.Rights.length B),(12,i6 ((x.Compact.Rights.length:Nat):Int)),(13,i6 zz.1)]∧Ctx G (.box b_ [pq I] 183::.box M [i6 zz.2.1] 3::(Ls++Lf)) w)
 have k:∀ (zz:Int × Int × σ) a w,x3=.go zz→S3 zz a w→K2 a w:=by
  rintro ⟨b,O,sg⟩ a w rfl ⟨Ls,hJ,hf,hc⟩
  replace hF:=cJ hF
  refine h2 _ _ ?_
  obtain rfl:=sj hF
  exact pO (by simp) rfl Tryz.results119 hf ⟨⟨_,rfl⟩,Ls,hJ,hc⟩
 have s:∀ r,x3=.out r→r=X:=by
  rintro r rfl
  exact sj hF
 refine dQ N (dP (S:=S3) (x:=x3) ?_ N (0,V,Z) _ _ ⟨(A0++(.box I (aY [i6 x.Compact.States,.slice D x.Compact.Rights.length B] 12 aD x.got []) 186::Ls1)),q,hf.kp rfl,hc⟩ i)
 clear hF hf hc
 rintro ⟨b,O,sg⟩ t a w KB3 ⟨Ls,hJ,hf,hc⟩ hF U p
 unfold pH at hF
 refine zS fun K h=>sp 1 hf rfl fun a hf=>zT h ?_
 refine wp_seq_k fun K5 h5=>zI hf rfl hF ?_ ?_ <;> clear hF <;> intro hF
 ·refine wp_skip ?_
  refine h5 _ _ ?_
  refine wp_seq_k fun K6 h6=>wp_block ?_
  refine zS fun K h=>?_
  obtain ⟨H,g,hF⟩:=aC hF
  obtain ⟨u,o,qa,qp⟩:=R.atm g
  refine zP hf rfl (pIA Tryz.underlying102 aGi rfl rfl qa) fun a hf=>zE hf hc rfl (kK (vs:=[i6 H.State,i6 H.Amount,i6 H.Loss]) aGe rfl rfl (dF qp (n:=3) (o':=0) rfl)) fun a w hf hc=>zA hf hc aKu rfl fun Y a w hf hc=>zW hf hc aGi u0 rfl fun w hc=>zT h ?_
  refine zS fun K h=>zP hf rfl (pFA aHh rfl) fun a hf=>zL hf hc aX m0 rfl fun a w hf hc=>zL hf hc aX m2 rfl fun a w hf hc=>zP hf rfl (aFi rfl rfl) fun a hf=>sp 1 hf rfl fun a hf=>zT h ?_
  refine zS fun K h=>zL hf hc aX m2 rfl fun a w hf hc=>sp 2 hf rfl fun a hf=>zW hf hc fD u2 rfl fun w hc=>zT h ?_
  refine wp_seq_k fun K10 m=>?_
  obtain ⟨ry,j,hF⟩:=aC hF
  refine aKk 3 (fun a w=>Has 30 a [(0,.func (.yield l) #[] #[]),(2,pq M),(11,.slice D x.Compact.Rights.length B),(12,i6 ((x.Compact.Rights.length:Nat):Int)),(13,i6 b),(5,pq Y),(6,i6 (min H.Amount O)),(24,.func (.yield l) #[] #[]),(25,.agg #[i6 H.State,i6 H.Amount,i6 H.Loss]),(26,i6 (min H.Amount O))]∧Ctx G (.box Y [i6 H.State,i6 H.Amount,i6 H.Loss] 151::.box b_ [pq I] 183::.box M [i6 (W (O - (min H.Amount O)))] 3::(Ls++Lf)) w) (fun _ _ h=>by obtain ⟨⟨_,h⟩,_⟩:=h; cases h) ?_ ?_
  ·refine sp 1 hf rfl fun a hf=>zN hf hc aGe m0 rfl fun a w hf hc=>sp 1 hf rfl fun a hf=>aQ ⟨hf.kp rfl,hc⟩
  rintro a w ⟨hf,hc⟩
  refine stY (own:=[.box Y [i6 H.State,i6 H.Amount,i6 H.Loss] 151,.box b_ [pq I] 183,.box M [i6 (W (O - (min H.Amount O)))] 3]) (v:=(H,min H.Amount O)) hy hJ j hf hc rfl rfl rfl rfl rfl rfl fun a w Ls_1 d hf hc=>?_
  replace hc:Ctx G (.box Y [i6 H.State,i6 H.Amount,i6 H.Loss] 151::.box b_ [pq I] 183::.box M [i6 (W (O - (min H.Amount O)))] 3::(Ls_1++Lf)) w:=hc
  refine aCq (fun _ _ h=>by obtain ⟨⟨_,h⟩,_⟩:=h; cases h) ?_
  refine sp 1 hf rfl fun a hf=>aQ ?_
  refine m _ _ ?_
  refine zI hf rfl hF ?_ ?_ <;> clear hF <;> intro hF
  ·refine wp_ret ?_
   refine cI ?_
   refine aU ?_
   refine aU ?_
   have he:=sj hF
   rw [← he] at U
   replace hF:=s _ U
   refine cI ?_
   refine aU ?_
   obtain rfl:=hF
   replace hc:=hc.drop k0
   exact pO (by simp) rfl Tryz.results119 hf ⟨⟨_,rfl⟩,Ls_1,d,hc⟩
  ·refine wp_skip ?_
   refine h6 _ _ ?_
   refine cX ?_
   refine sp 2 hf rfl fun a hf=>aQ ?_
   replace hc:=hc.drop k0
   exact p (W (b + 1),W (O - (min H.Amount O)),ry.1) _ _ (sj hF).symm ⟨Ls_1,d,hf.kp rfl,hc⟩
 ·refine wp_exit ?_
  refine bI ?_
  refine bI ?_
  have he:=sj hF
  rw [← he] at U
  refine fB ?_
  exact k _ _ _ U ⟨Ls,hJ,hf.kp rfl,hc⟩

def kM (N:Nat) (s_:List Int):Option ((List Int)) :=
 Option.bind (nQ (s_).length) fun un=>
 some s_
theorem uJ {N:Nat} {G:bA} {Lf:List Ent} {w:World} (s_:List Int) {I:Option Addr} {D:Nat} (H:Rd G 1 I D (s_.map aD)) (hc:Ctx G (Lf) w) {B:(List Int)} (hF:kM N s_=some B):Calls Tryz.prog 91 #[.slice I s_.length D] w (fun e w=>∃ (J:Option Addr) (M:Nat),e=.returned (.slice J B.length M)∧Ctx G (.row J M (B.map aD) 3 1::Lf) w):=by
 unfold kM at hF
 refine cC Tryz.func91 rfl Tryz.ntmps91 rfl fun a hf=>zS fun K h=>sp 1 hf rfl fun a hf=>zT h ?_
 refine wp_seq_k fun K2 h2=>zS fun K h=>sp 1 hf rfl fun a hf=>zP hf rfl (pEqN Tryz.underlying39 rfl rfl) fun a hf=>zT h ?_
 rcases aJx H with ⟨hp,hx⟩ | hp
 ·rw [hp] at hf
  replace hF:(some ([]:List Int))=some B:=by
   try rw [hx] at hF
   exact hF
  refine aIk hf rfl ?_
  refine zS fun K h=>sp 1 hf rfl fun a hf=>zT h ?_
  refine wp_ret ?_
  refine aU ?_
  obtain rfl:=sj hF
  replace hc:=hc.nilRow 3 1
  exact zO1 Tryz.results91 hf rfl ⟨none,0,rfl,hc⟩
 ·rw [hp] at hf
  refine aDi hf rfl ?_
  refine wp_skip ?_
  refine h2 _ _ ?_
  refine zS fun K h=>oJ (rows:=([]:List Int).map aD) (vs:=[]) hf hc rfl rfl lQ rfl trivial rfl rfl fun U a w hf hc=>sp 1 hf rfl fun a hf=>?_
  obtain ⟨un,R,hF⟩:=aC hF
  refine lO (xs:=([]:List Int)) (ys:=s_) hf hc rfl rfl lQ rfl rfl rfl rfl rfl bG (aM5 hc H) (fun _ _=>u0) (by simpa using dB R) fun S O a w hf hc=>sp 1 hf rfl fun a hf=>zT h ?_
  refine wp_ret ?_
  obtain rfl:=sj hF
  exact zO1 Tryz.results91 hf rfl ⟨S,O,rfl,hc⟩

def pY (N:Nat) (x:Nat→Int) (xv:cA) (B:Int):Option (Rs ((Nat→Int))) :=
 Option.bind (inR xv.State 12) fun un=>
 Option.bind (inR xv.State 12) fun D=>
 some (.go (kR x xv.State.toNat (W ((x xv.State.toNat) + (W ((W (B * (W (1000 - xv.Loss)))).tdiv 1000))))))
def xT (N:Nat) (c_:cK) (H:Int):Option ((List Int)) :=
 Option.bind (oZ N (⟨c_,(fun _=>0)⟩:jU) H) fun r=>
 Option.bind (nX N (⟨c_,(fun _=>0)⟩:jU) r (rY (fun (zz:(Nat→Int)) (D:(cA × Int))=>pY N zz D.1 D.2)) (.go (fun _=>0))) fun x5=>
 rsK x5.1 (fun B=>Option.bind (vS (aL 12 B) 0 c_.States) fun sub=>
 Option.bind (kM N sub) fun I=>
 some I) (fun B=>none)
theorem aDr {N:Nat} {G:bA} {Lf:List Ent} {w:World} (c_:cK) (i:Int) {D:Option Addr} {B:Nat} (O:Rd G 3 D B (c_.Rights.map cN)) (hc:Ctx G (Lf) w) {g:(List Int)} (hF:xT N c_ i=some g):Calls Tryz.prog 58 #[.agg #[i6 c_.States,.slice D c_.Rights.length B],i6 i] w (fun e w=>∃ (s:Option Addr) (t:Nat),e=.returned (.slice s g.length t)∧Ctx G (.row s t (g.map aD) 3 1::Lf) w):=by
 unfold xT at hF
 refine aEy Tryz.func58 rfl Tryz.ntmps58 rfl fun a hf=>zS fun K h=>zB hf hc rfl fun au a w hf hc=>sp 1 hf rfl fun a hf=>zT h ?_
 refine zS fun K h=>zN hf hc aFw m0 rfl fun a w hf hc=>zP hf rfl (bJ (cells:=(aY [i6 c_.States,.slice D c_.Rights.length B] 12 aD (fun _=>0) [])) aP2 rfl rfl) fun a hf=>stBx (cs:=(aY [i6 c_.States,.slice D c_.Rights.length B] 12 aD (fun _=>0) [])) hf hc rfl rfl rfl rfl fun H a w hf hc=>zA hf hc aQt rfl fun I a w hf hc=>zW hf hc aPl u0 rfl fun w hc=>zT h ?_
 refine wp_seq_k fun K3 h3=>zS fun K h=>zL hf hc aEh m0 rfl fun a w hf hc=>sp 1 hf rfl fun a hf=>?_
 obtain ⟨r,hr,hF⟩:=aC hF
 refine zC hf en_90 rfl (wO (⟨c_,(fun _=>0)⟩:jU) i O (hc.pick k1) hr) ?_
 rintro _ w ⟨S,U,rfl,hc⟩
 refine ⟨_,rfl,fun a hf=>?_⟩
 refine zT h ?_
 obtain ⟨x5,ad,hF⟩:=aC hF
 replace hc:=hc.drop k4
 refine aGa (C:=[.box S [pq H] 183,.box U [i6 r] 3]) (C2:=[.box S [pq H] 183,.box U [i6 x5.2] 3]) (L0:=[.box H (aY [i6 c_.States,.slice D c_.Rights.length B] 12 aD ((fun _=>0)) []) 186,.box I [pq H] 183]) (Lf:=Lf) (encs:=fun x:(cA × Int)=>[.agg #[i6 x.1.State,i6 x.1.Amount,i6 x.1.Loss],i6 x.2]) (fun (zz:(Nat→Int)) L=>L=[.box H (aY [i6 c_.States,.slice D c_.Rights.length B] 12 aD zz []) 186,.box I [pq H] 183]) (fun (zz:(Nat→Int)) (v:(cA × Int))=>pY N zz v.1 v.2) (fun _=>0) x5.1 hf hc rfl aO6 (fun _=>rfl) rfl rfl ?_ ?_ ?_ ?_
 ·intro lq mq J A Lx w hy hJ hc
  exact uX (⟨c_,(fun _=>0)⟩:jU) r O J _ hy _ hJ hc ad
 ·clear hF hf hc
  rintro lq mq x ⟨xv,M⟩ oq _ Lr Lb a w av rfl hF hf hc hK
  replace hf:Has 43 a [(5,pq I),(14,.agg #[i6 xv.State,i6 xv.Amount,i6 xv.Loss]),(15,i6 M)]:=hf.kp rfl
  replace hc:Ctx G (.box H (aY [i6 c_.States,.slice D c_.Rights.length B] 12 aD x []) 186::.box I [pq H] 183::Lr) w:=hc
  replace hF:pY N x xv M=some oq:=hF
  unfold pY at hF
  refine sE fun K6 h6=>sP (fun _ _ h=>h) rfl ?_
  refine zA hf hc aKu rfl fun V a w hf hc=>zW hf hc aGi u0 rfl fun w hc=>aQ ?_
  refine h6 _ _ ?_
  refine sP (fun _ _ h=>h) rfl ?_
  refine sp 1 hf rfl fun a hf=>aQ ?_
  refine hK _ _ [.box V [i6 xv.State,i6 xv.Amount,i6 xv.Loss] 151,.box H (aY [i6 c_.States,.slice D c_.Rights.length B] 12 aD x []) 186,.box I [pq H] 183] hc fun w hc=>?_
  replace hc:Ctx G (.box V [i6 xv.State,i6 xv.Amount,i6 xv.Loss] 151::.box H (aY [i6 c_.States,.slice D c_.Rights.length B] 12 aD x []) 186::.box I [pq H] 183::Lb) w:=hc
  refine xA fun K7 h7=>vZ ?_
  obtain ⟨un,m,hF⟩:=aC hF
  obtain ⟨ar,Z,hF⟩:=aC hF
  refine xP (fun _ _ h=>h) rfl (fun θ=>[⟨none,none,5,pq I⟩,⟨none,none,6,pq V⟩,⟨none,none,7,i6 M⟩,⟨some 0,none,16,pq H⟩,⟨some 1,none,17,pq V⟩,⟨some 2,none,18,i6 xv.State⟩,⟨some 3,none,19,pq H⟩,⟨some 4,none,20,.pointer (some ⟨H,2,none⟩)⟩,⟨some 5,none,21,.pointer (some ⟨H,2 + xv.State.toNat * 1,none⟩)⟩,⟨some 6,none,22,i6 (x xv.State.toNat)⟩,⟨some 7,none,23,i6 M⟩,⟨some 8,none,24,.pointer (some ⟨V,2,none⟩)⟩,⟨some 9,none,25,i6 xv.Loss⟩,⟨some 10,none,26,i6 (W (1000 - xv.Loss))⟩,⟨some 11,none,27,i6 (W (M * (W (1000 - xv.Loss))))⟩,⟨some 12,none,28,i6 (W ((W (M * (W (1000 - xv.Loss)))).tdiv 1000))⟩,⟨some 13,none,29,i6 (W ((x xv.State.toNat) + (W ((W (M * (W (1000 - xv.Loss)))).tdiv 1000))))⟩,⟨some 14,none,30,pq H⟩,⟨some 15,none,31,.pointer (some ⟨H,2,none⟩)⟩,⟨some 16,none,32,.pointer (some ⟨H,2 + xv.State.toNat * 1,none⟩)⟩]) (fun E θ=>.box V [i6 xv.State,i6 xv.Amount,i6 xv.Loss] 151::(bif E 17 then .box H (aY [i6 c_.States,.slice D c_.Rights.length B] 12 aD (kR x xv.State.toNat (W ((x xv.State.toNat) + (W ((W (M * (W (1000 - xv.Loss)))).tdiv 1000))))) []) 186 else .box H (aY [i6 c_.States,.slice D c_.Rights.length B] 12 aD x []) 186)::.box I [pq H] 183::Lb) [(17,6)] (fun a w=>Has 43 a [(5,pq I)]∧Ctx G (.box V [i6 xv.State,i6 xv.Amount,i6 xv.Loss] 151::.box H (aY [i6 c_.States,.slice D c_.Rights.length B] 12 aD (kR x xv.State.toNat (W ((x xv.State.toNat) + (W ((W (M * (W (1000 - xv.Loss)))).tdiv 1000))))) []) 186::.box I [pq H] 183::Lb) w) aT (by kernel_rfl) (by kernel_rfl) (dL.of hf ⟨rfl,rfl,rfl,trivial,trivial,trivial,trivial,trivial,trivial,trivial,trivial,trivial,trivial,trivial,trivial,trivial,trivial,trivial,trivial,trivial,trivial⟩) hc ⟨?_,?_,?_,?_,?_,?_,?_,?_,?_,?_,?_,?_,?_,?_,?_,?_,?_,?_,trivial⟩ ?_ ?_
  ·intro E θ a w hD hi hp he hc
   have hf:=he.h0.mT he 0 rfl
   refine zL hf hc aEh m2 rfl fun a w hf hc=>zD θ he hi hf 3 rfl rfl rfl hc
  ·intro E θ a w hD hi hp he hc
   have hf:=he.h0.mT he 1 rfl
   refine zP hf rfl (pFA aHo rfl) fun a hf=>zD θ he hi hf 4 rfl rfl rfl hc
  ·intro E θ a w hD hi hp he hc
   have e1:=hp.o 1 rfl
   have hf:=he.h0.mP he 4 rfl e1
   refine zL hf hc aX m0 rfl fun a w hf hc=>zD θ he hi hf 5 rfl rfl rfl hc
  ·intro E θ a w hD hi hp he hc
   have e0:=hp.o 0 rfl
   have hf:=he.h0.mP he 3 rfl e0
   refine sp 1 hf rfl fun a hf=>zD θ he hi hf 6 rfl rfl rfl hc
  ·intro E θ a w hD hi hp he hc
   have e3:=hp.o 3 rfl
   have hf:=he.h0.mP he 6 rfl e3
   refine zP hf rfl (pFA aEd rfl) fun a hf=>zD θ he hi hf 7 rfl rfl rfl hc
  ·intro E θ a w hD hi hp he hc
   have e2:=hp.o 2 rfl
   have e4:=hp.o 4 rfl
   have hf:=(he.h0.mP he 5 rfl e2).mP he 7 rfl e4
   refine zP hf rfl (nS Tryz.underlying184 fD rfl rfl (bF m).1 (bF m).2) fun a hf=>zD θ he hi hf 8 rfl rfl rfl hc
  ·intro E θ a w hD hi hp he hc
   have e5:=hp.o 5 rfl
   have k:=hD.f 0 rfl hi
   try dsimp only at hc
   rw [k] at hc
   have hf:=he.h0.mP he 8 rfl e5
   refine zE hf hc rfl (cV aX rfl (kA (j:=0) m1 (fun x=>(bG x).1) rfl m rfl)) fun a w hf hc=>zD θ he hi hf 9 rfl rfl rfl ?_
   try dsimp only
   rw [aS 6 k rfl]
   exact hc
  ·intro E θ a w hD hi hp he hc
   have hf:=he.h0.mT he 2 rfl
   refine sp 1 hf rfl fun a hf=>zD θ he hi hf 10 rfl rfl rfl hc
  ·intro E θ a w hD hi hp he hc
   have hf:=he.h0.mT he 1 rfl
   refine zP hf rfl (pFA aHr rfl) fun a hf=>zD θ he hi hf 11 rfl rfl rfl hc
  ·intro E θ a w hD hi hp he hc
   have e8:=hp.o 8 rfl
   have hf:=he.h0.mP he 11 rfl e8
   refine zL hf hc aX m0 rfl fun a w hf hc=>zD θ he hi hf 12 rfl rfl rfl hc
  ·intro E θ a w hD hi hp he hc
   have e9:=hp.o 9 rfl
   have hf:=he.h0.mP he 12 rfl e9
   refine sp 1 hf rfl fun a hf=>zD θ he hi hf 13 rfl rfl rfl hc
  ·intro E θ a w hD hi hp he hc
   have e7:=hp.o 7 rfl
   have d:=hp.o 10 rfl
   have hf:=(he.h0.mP he 10 rfl e7).mP he 13 rfl d
   refine sp 1 hf rfl fun a hf=>zD θ he hi hf 14 rfl rfl rfl hc
  ·intro E θ a w hD hi hp he hc
   have ak:=hp.o 11 rfl
   have hf:=he.h0.mP he 14 rfl ak
   refine zP hf rfl (aJ9 rfl rfl (by decide)) fun a hf=>zD θ he hi hf 15 rfl rfl rfl hc
  ·intro E θ a w hD hi hp he hc
   have e6:=hp.o 6 rfl
   have aj:=hp.o 12 rfl
   have hf:=(he.h0.mP he 9 rfl e6).mP he 15 rfl aj
   refine sp 1 hf rfl fun a hf=>zD θ he hi hf 16 rfl rfl rfl hc
  ·intro E θ a w hD hi hp he hc
   have e0:=hp.o 0 rfl
   have hf:=he.h0.mP he 3 rfl e0
   refine sp 1 hf rfl fun a hf=>zD θ he hi hf 17 rfl rfl rfl hc
  ·intro E θ a w hD hi hp he hc
   have ai:=hp.o 14 rfl
   have hf:=he.h0.mP he 17 rfl ai
   refine zP hf rfl (pFA aEd rfl) fun a hf=>zD θ he hi hf 18 rfl rfl rfl hc
  ·intro E θ a w hD hi hp he hc
   have e2:=hp.o 2 rfl
   have ap:=hp.o 15 rfl
   have hf:=(he.h0.mP he 5 rfl e2).mP he 18 rfl ap
   refine zP hf rfl (nS Tryz.underlying184 fD rfl rfl (bF Z).1 (bF Z).2) fun a hf=>zD θ he hi hf 19 rfl rfl rfl hc
  ·intro E θ a w hD hi hp he hc
   have am:=hp.o 13 rfl
   have af:=hp.o 16 rfl
   try dsimp only at hc
   rw [hi] at hc
   have hf:=(he.h0.mP he 16 rfl am).mP he 19 rfl af
   refine aIj (vs:=[i6 (W ((x xv.State.toNat) + (W ((W (M * (W (1000 - xv.Loss)))).tdiv 1000))))]) (o':=0) (z:=W ((x xv.State.toNat) + (W ((W (M * (W (1000 - xv.Loss)))).tdiv 1000)))) hf hc rfl rfl rfl rfl fD rfl (fun x=>(bG x).1) rfl Z rfl rfl u1 fun w hc=>zG θ he hi hf rfl ?_
   try dsimp only
   rw [aN E 17]
   exact hc
  ·intro E θ a w b he hc
   have hf:=he.h0
   have k:=b 17 rfl
   replace hf:=hf.more he 0 rfl (onT)
   try dsimp only at hc
   rw [k] at hc
   exact ⟨hf.kp rfl,hc⟩
  rintro a w ⟨hf,hc⟩
  refine h7 _ _ ?_
  replace hc:=hc.drop k0
  exact ⟨(kR x xv.State.toNat (W ((x xv.State.toNat) + (W ((W (M * (W (1000 - xv.Loss)))).tdiv 1000))))),_,(sj hF).symm,rfl,hc⟩
 ·rintro D_1 x _ a w q rfl hf hc
  replace hf:Has ⟨43,lK (D_1::[])⟩ a [(5,pq I)]:=hf.kp rfl
  replace hc:Ctx G (.box S [pq H] 183::.box U [i6 x5.2] 3::.box H (aY [i6 c_.States,.slice D c_.Rights.length B] 12 aD x []) 186::.box I [pq H] 183::(nI (D_1::[])++Lf)) w:=pK (C:=[.box S [pq H] 183,.box U [i6 x5.2] 3]) (L:=[.box H (aY [i6 c_.States,.slice D c_.Rights.length B] 12 aD x []) 186,.box I [pq H] 183]) hc
  replace hF:(Option.bind (vS (aL 12 x) 0 c_.States) fun sub=>Option.bind (kM N sub) fun R=>some R)=some g:=by rcases q with h_ | h_ <;> (rw [h_] at hF; exact hF)
  refine h3 _ _ ?_
  refine wp_seq_k fun K8 h8=>?_
  obtain ⟨sub,n,hF⟩:=aC hF
  obtain ⟨R,aa,hF⟩:=aC hF
  replace hc:=hc.nilRow 0 0
  refine cU (fun θ=>[⟨none,none,5,pq I⟩,⟨some 0,none,33,pq H⟩,⟨some 1,none,34,pq H⟩,⟨some 2,none,35,.pointer (some ⟨H,2,none⟩)⟩,⟨some 3,none,36,pq H⟩,⟨some 4,none,37,pq H⟩,⟨some 5,none,38,pq H⟩,⟨some 6,none,39,pq H⟩,⟨some 7,none,40,i6 c_.States⟩,⟨some 8,none,41,.slice (wQ (some ⟨H,2,none⟩) 12 (0:Int).toNat 1) sub.length (12 - (0:Int).toNat)⟩,⟨some 9,none,42,.slice ((θ 72).p) R.length ((θ 72).c)⟩,⟨some 10,none,4,.slice ((θ 72).p) R.length ((θ 72).c)⟩]) (fun E θ=>(bif E 9 then .row ((θ 72).p) ((θ 72).c) (R.map aD) 3 1 else .row none 0 [] 0 0)::.box S [pq H] 183::.box U [i6 x5.2] 3::.box H (aY [i6 c_.States,.slice D c_.Rights.length B] 12 aD x []) 186::.box I [pq H] 183::(nI (D_1::[])++Lf)) [(10,9)] (fun a w=>∃ (X:Option Addr) (Y:Nat),Has ⟨43,lK (D_1::[])⟩ a [(4,.slice X R.length Y)]∧Ctx G (.row X Y (R.map aD) 3 1::.box S [pq H] 183::.box U [i6 x5.2] 3::.box H (aY [i6 c_.States,.slice D c_.Rights.length B] 12 aD x []) 186::.box I [pq H] 183::(nI (D_1::[])++Lf)) w) aT (by kernel_rfl) (by kernel_rfl) (dL.of hf ⟨rfl,trivial,trivial,trivial,trivial,trivial,trivial,trivial,trivial,trivial,trivial,trivial,trivial⟩) hc ⟨?_,?_,?_,?_,?_,?_,?_,?_,?_,?_,?_,trivial⟩ ?_ ?_
  ·intro E θ a w hD hi hp he hc
   have hf:=he.h0.mT he 0 rfl
   refine zL hf hc aEh m4 rfl fun a w hf hc=>zD θ he hi hf 1 rfl rfl rfl hc
  ·intro E θ a w hD hi hp he hc
   have e0:=hp.o 0 rfl
   have hf:=he.h0.mP he 1 rfl e0
   refine sp 1 hf rfl fun a hf=>zD θ he hi hf 2 rfl rfl rfl hc
  ·intro E θ a w hD hi hp he hc
   have e1:=hp.o 1 rfl
   have hf:=he.h0.mP he 2 rfl e1
   refine zP hf rfl (pFA aEd rfl) fun a hf=>zD θ he hi hf 3 rfl rfl rfl hc
  ·intro E θ a w hD hi hp he hc
   have hf:=he.h0.mT he 0 rfl
   refine zL hf hc aEh m4 rfl fun a w hf hc=>zD θ he hi hf 4 rfl rfl rfl hc
  ·intro E θ a w hD hi hp he hc
   have e3:=hp.o 3 rfl
   have hf:=he.h0.mP he 4 rfl e3
   refine sp 1 hf rfl fun a hf=>zD θ he hi hf 5 rfl rfl rfl hc
  ·intro E θ a w hD hi hp he hc
   have e4:=hp.o 4 rfl
   have hf:=he.h0.mP he 5 rfl e4
   refine zP hf rfl (pFA aG4 rfl) fun a hf=>zD θ he hi hf 6 rfl rfl rfl hc
  ·intro E θ a w hD hi hp he hc
   have e5:=hp.o 5 rfl
   have hf:=he.h0.mP he 6 rfl e5
   refine zP hf rfl (pFA aDd rfl) fun a hf=>zD θ he hi hf 7 rfl rfl rfl hc
  ·intro E θ a w hD hi hp he hc
   have e6:=hp.o 6 rfl
   have hf:=he.h0.mP he 7 rfl e6
   refine zL hf hc aX m3 rfl fun a w hf hc=>zD θ he hi hf 8 rfl rfl rfl hc
  ·intro E θ a w hD hi hp he hc
   have e2:=hp.o 2 rfl
   have e7:=hp.o 7 rfl
   have hf:=(he.h0.mP he 3 rfl e2).mP he 8 rfl e7
   refine zP hf rfl (pSlA (xs:=(aL 12 x)) Tryz.underlying184 fD rfl aFy rfl rfl n) fun a hf=>zD θ he hi hf 9 rfl rfl rfl hc
  ·intro E θ a w hD hi hp he hc
   have e8:=hp.o 8 rfl
   have d:=hD.f 0 rfl hi
   try dsimp only at hc
   rw [hi] at hc
   have hf:=he.h0.mP he 9 rfl e8
   obtain ⟨G1,aq,ab,hc,y⟩:=aN7 hc k3
   refine zC hf en_91 rfl (uJ sub (Rd.sub (rdA (fun x=>(bG x).1) ab rfl rfl) n) hc aa) ?_
   rintro _ w ⟨an,ac,rfl,hc⟩
   refine ⟨_,rfl,fun a hf=>?_⟩
   replace hc:=y _ _ hc
   refine aQ ?_
   refine bV ?_
   intro ds u ag
   replace hc:=((((hc.drop k2).pick k0).pick k3).pick k3).pick k3
   refine ⟨(hZ θ 72 ⟨0,an,ac,(fun _=>(none,0))⟩),he.put hi ag hf rfl [10] ⟨⟨d,rfl⟩,trivial⟩ ⟨qq,qq,qq,qq,qq,qq,qq,qq,qq,qq,qq,trivial,trivial⟩,?_⟩
   try dsimp only
   rw [aN E 9]
   exact hc
  ·intro E θ a w hD hi hp he hc
   have e9:=hp.o 9 rfl
   have hf:=he.h0.mP he 10 rfl e9
   refine sp 1 hf rfl fun a hf=>zD θ he hi hf 11 rfl rfl rfl hc
  ·intro E θ a w b he hc
   have hf:=he.h0
   have e9:=b 9 rfl
   have d:=b 10 rfl
   replace hf:=hf.more he 11 rfl (onP d)
   try dsimp only at hc
   rw [e9] at hc
   exact ⟨(θ 72).p,(θ 72).c,hf.kp rfl,hc⟩
  rintro a w ⟨X,Y,hf,hc⟩
  refine h8 _ _ ?_
  refine wp_ret ?_
  obtain rfl:=sj hF
  replace hc:=(((hc.drop k4).drop k3).drop k2).drop k1
  refine aFx hf ?_
  refine aAd [.row X Y (R.map aD) 3 1] (D_1::[]) hc fun w hc=>?_
  replace hc:Ctx G (.row X Y (R.map aD) 3 1::Lf) w:=hc
  exact aFs Tryz.results58 hf hc (show iK _ 4=_ from rfl) ⟨X,Y,rfl,hc⟩
 ·rintro D_1 x _ a w q rfl hf hc
  replace hf:Has ⟨43,lK (D_1::[])⟩ a [(5,pq I)]:=hf.kp rfl
  replace hc:Ctx G (.box S [pq H] 183::.box U [i6 x5.2] 3::.box H (aY [i6 c_.States,.slice D c_.Rights.length B] 12 aD x []) 186::.box I [pq H] 183::(nI (D_1::[])++Lf)) w:=pK (C:=[.box S [pq H] 183,.box U [i6 x5.2] 3]) (L:=[.box H (aY [i6 c_.States,.slice D c_.Rights.length B] 12 aD x []) 186,.box I [pq H] 183]) hc
  replace hF:(none)=some g:=by rw [q] at hF; exact hF
  cases hF

def yT (N:Nat) (c_:cK) (B:Int):Option ((List Int) × Int) :=
 Option.bind (wV N c_) fun r=>
 cond (r != 0)
 (some (([]:List Int),r))
 (cond (!(bP B))
 (some (([]:List Int),4))
 (Option.bind (xT N c_ B) fun D=>
 some (D,0)))
theorem aEu {N:Nat} {G:bA} {Lf:List Ent} {w:World} (c_:cK) (I:Int) {B:Option Addr} {D:Nat} (H:Rd G 3 B D (c_.Rights.map cN)) (hc:Ctx G (Lf) w) {J:(List Int) × Int} (hF:yT N c_ I=some J):Calls Tryz.prog 31 #[.agg #[i6 c_.States,.slice B c_.Rights.length D],i6 I] w (fun e w=>∃ (M:Option Addr) (O:Nat),e=.returned (.tuple #[.slice M J.1.length O,i6 J.2])∧Ctx G (.row M O (J.1.map aD) 3 1::Lf) w):=by
 unfold yT at hF
 refine cC Tryz.func31 rfl Tryz.ntmps31 rfl fun a hf=>zS fun K h=>zB hf hc rfl fun V a w hf hc=>sp 2 hf rfl fun a hf=>zT h ?_
 refine zS fun K h=>zN hf hc aFw m0 rfl fun a w hf hc=>?_
 obtain ⟨r,hr,hF⟩:=aC hF
 refine zQ (v:=i6 r) hf hc en_57 rfl (fun w hc=>aD3 c_ H hc hr) fun a w hf hc=>sp 1 hf rfl fun a hf=>zT h ?_
 refine wp_seq_k fun K3 h3=>wp_block ?_
 refine zS fun K h=>sp 3 hf rfl fun a hf=>zT h ?_
 refine zI hf rfl hF ?_ ?_ <;> clear hF <;> intro hF
 ·refine zS fun K h=>sp 3 hf rfl fun a hf=>zT h ?_
  refine wp_ret ?_
  refine cI ?_
  refine aU ?_
  obtain rfl:=sj hF
  replace hc:=hc.nilRow 3 1
  replace hc:=hc.drop k1
  exact zO2 Tryz.results31 hf rfl rfl ⟨none,0,rfl,hc⟩
 ·refine zS fun K h=>sp 1 hf rfl fun a hf=>zQ (v:=.bool (bP I)) hf hc aBf rfl (fun w hc=>iZ I hc rfl) fun a w hf hc=>sp 2 hf rfl fun a hf=>zT h ?_
  refine zI hf rfl hF ?_ ?_ <;> clear hF <;> intro hF
  ·refine zS fun K h=>sp 2 hf rfl fun a hf=>zT h ?_
   refine wp_ret ?_
   refine cI ?_
   refine aU ?_
   obtain rfl:=sj hF
   replace hc:=hc.nilRow 3 1
   replace hc:=hc.drop k1
   exact zO2 Tryz.results31 hf rfl rfl ⟨none,0,rfl,hc⟩
  ·refine wp_skip ?_
   refine h3 _ _ ?_
   refine zS fun K h=>zN hf hc aFw m0 rfl fun a w hf hc=>sp 1 hf rfl fun a hf=>?_
   obtain ⟨X,R,hF⟩:=aC hF
   refine zC hf en_58 rfl (aDr c_ I H hc R) ?_
   rintro _ w ⟨U,S,rfl,hc⟩
   refine ⟨_,rfl,fun a hf=>?_⟩
   refine sp 2 hf rfl fun a hf=>zT h ?_
   refine wp_ret ?_
   obtain rfl:=sj hF
   replace hc:=hc.drop k1
   exact zO2 Tryz.results31 hf rfl rfl ⟨U,S,rfl,hc⟩

def wF (N:Nat) (a_:List Int) (b_:List Int) (B:Int):Option (dA (Int) (Bool)) :=
 cond (decide (B < ((a_.length:Nat):Int)))
 (Option.bind (cM a_ B) fun D=>
 Option.bind (cM b_ B) fun H=>
 cond (D != H)
 (some (.ret false))
 (some (.cont (W (B + 1)))))
 (some (.brk B))
def vR (N:Nat) (a_:List Int) (b_:List Int):Option (Bool) :=
 cond (((a_.length:Nat):Int) != ((b_.length:Nat):Int))
 (some false)
 (Option.bind (bN (fun s7=>wF N a_ b_ s7) N 0) fun x7=>
 exK x7 (fun s7=>some true) some)
theorem aBn {N:Nat} {G:bA} {Lf:List Ent} {w:World} (a_:List Int) (b_:List Int) {H:Option Addr} {D:Nat} {J:Option Addr} {I:Nat} (V:Rd G 1 H D (a_.map aD)) (Y:Rd G 1 J I (b_.map aD)) (hc:Ctx G (Lf) w) {M:Bool} (hF:vR N a_ b_=some M):Calls Tryz.prog 33 #[.slice H a_.length D,.slice J b_.length I] w (fun e w=>e=.returned (.bool M)∧Ctx G (Lf) w):=by
 unfold vR at hF
 refine cC Tryz.func33 rfl Tryz.ntmps33 rfl fun a hf=>zS fun K h=>sp 1 hf rfl fun a hf=>zT h ?_
 refine wp_seq_k fun K2 h2=>zS fun K h=>sp 1 hf rfl fun a hf=>zP hf rfl (cP Tryz.underlying39 rfl) fun a hf=>sp 1 hf rfl fun a hf=>zP hf rfl (cP Tryz.underlying39 rfl) fun a hf=>sp 1 hf rfl fun a hf=>zT h ?_
 refine zI hf rfl hF ?_ ?_ <;> clear hF <;> intro hF
 ·refine zS fun K h=>sp 1 hf rfl fun a hf=>zT h ?_
  refine wp_ret ?_
  refine aU ?_
  obtain rfl:=sj hF
  exact zO1 Tryz.results33 hf rfl ⟨rfl,hc⟩
 ·refine wp_skip ?_
  refine h2 _ _ ?_
  refine wp_seq_k fun K5 h5=>zS fun K h=>sp 1 hf rfl fun a hf=>zT h ?_
  refine wp_block ?_
  obtain ⟨x7,g,hF⟩:=aC hF
  let S7:Int→Act→World→Prop:=(fun (zz:Int) a w=>Has 26 a [(0,.slice H a_.length D),(1,.slice J b_.length I),(5,i6 zz)]∧Ctx G (Lf) w)
  have i:∀ (zz:Int) a w,x7=.go zz→S7 zz a w→K5 a w:=by
   rintro O a w rfl ⟨hf,hc⟩
   replace hF:=cJ hF
   refine h5 _ _ ?_
   refine zS fun K h=>sp 1 hf rfl fun a hf=>zT h ?_
   refine wp_ret ?_
   obtain rfl:=sj hF
   exact zO1 Tryz.results33 hf rfl ⟨rfl,hc⟩
  have b:∀ r,x7=.out r→r=M:=by
   rintro r rfl
   exact sj hF
  refine dQ N (dP (S:=S7) (x:=x7) ?_ N 0 _ _ ⟨hf.kp rfl,hc⟩ g)
  clear hF hf hc
  rintro O n a w KB7 ⟨hf,hc⟩ hF B d
  unfold wF at hF
  refine wp_seq_k fun K9 h9=>zS fun K h=>sp 2 hf rfl fun a hf=>zP hf rfl (cP Tryz.underlying39 rfl) fun a hf=>sp 1 hf rfl fun a hf=>zT h ?_
  refine zI hf rfl hF ?_ ?_ <;> clear hF <;> intro hF
  ·refine wp_skip ?_
   refine h9 _ _ ?_
   refine wp_seq_k fun K11 m=>wp_block ?_
   refine wp_seq_k fun K12 k=>?_
   obtain ⟨p,X,hF⟩:=aC hF
   obtain ⟨u,o,qa,qp⟩:=V.atm X
   obtain ⟨q,U,hF⟩:=aC hF
   obtain ⟨s,t,R,Z⟩:=Y.atm U
   refine cQ hc aT (by kernel_rfl) ?_
   refine qE hf rfl rfl rfl (Pu.ev (pM rfl)) fun a hf=>qE hf rfl rfl rfl (Pu.ev (pM rfl)) fun a hf=>qE hf rfl rfl rfl (Pu.ev (pIA Tryz.underlying39 fD rfl rfl qa)) fun a hf=>qE hf rfl rfl rfl (cV aX rfl (kX (j:=0) qp rfl)) fun a hf=>qE hf rfl rfl rfl (Pu.ev (pM rfl)) fun a hf=>qE hf rfl rfl rfl (Pu.ev (pM rfl)) fun a hf=>qE hf rfl rfl rfl (Pu.ev (pIA Tryz.underlying39 fD rfl rfl R)) fun a hf=>qE hf rfl rfl rfl (cV aX rfl (kX (j:=0) Z rfl)) fun a hf=>qE hf rfl rfl rfl (Pu.ev (pNe rfl rfl)) fun a hf=>?_
   intro w hc
   refine k _ _ ?_
   refine zI hf rfl hF ?_ ?_ <;> clear hF <;> intro hF
   ·refine zS fun K h=>sp 1 hf rfl fun a hf=>zT h ?_
    refine wp_ret ?_
    refine cI ?_
    refine aU ?_
    refine aU ?_
    have he:=sj hF
    rw [← he] at B
    replace hF:=b _ B
    refine cI ?_
    refine aU ?_
    obtain rfl:=hF
    exact zO1 Tryz.results33 hf rfl ⟨rfl,hc⟩
   ·refine wp_skip ?_
    refine m _ _ ?_
    refine cX ?_
    refine sp 3 hf rfl fun a hf=>aQ ?_
    exact d (W (O + 1)) _ _ (sj hF).symm ⟨hf.kp rfl,hc⟩
  ·refine wp_exit ?_
   refine bI ?_
   refine bI ?_
   have he:=sj hF
   rw [← he] at B
   refine fB ?_
   exact i _ _ _ B ⟨hf.kp rfl,hc⟩

def tQ (N:Nat)  : Option (Bool) :=
 Option.bind (wY N 148) fun r=>
 Option.bind (uK N r 0 2) fun D=>
 Option.bind (yS N 58) fun I=>
 Option.bind (vN N I 1 2) fun B=>
 Option.bind (aAp N) fun J=>
 Option.bind (yT N J 120) fun H=>
 Option.bind (cond (((((D.2 == 0) && (B.2 == 0)) && (H.2 == 0)) && (D.1.Lo == 147 && D.1.Hi == 151)) && (B.1.Lo == 86 && B.1.Hi == 90)) (Option.bind (vR N H.1 ([95,18]:List Int)) fun O=>
 some O) (some false)) fun M=>
 some M
theorem aD1 {N:Nat} {G:bA} {Lf:List Ent} {w:World}    (hc:Ctx G (Lf) w) {X:Bool} (hF:tQ N=some X):Calls Tryz.prog 15 #[] w (fun e w=>e=.returned (.bool X)∧Ctx G (Lf) w):=by
 unfold tQ at hF
 refine cC Tryz.func15 rfl Tryz.ntmps15 rfl fun a hf=>zS fun K h=>sp 1 hf rfl fun a hf=>zT h ?_
 refine zS fun K h=>?_
 obtain ⟨r,hr,hF⟩:=aC hF
 refine zC hf en_28 rfl (aDw 148 hc hr) ?_
 rintro _ w ⟨y,t,rfl,hc⟩
 refine ⟨_,rfl,fun a hf=>?_⟩
 obtain ⟨B,b,hF⟩:=aC hF
 refine zQ (v:=.tuple #[.agg #[i6 B.1.Lo,i6 B.1.Hi],i6 B.2]) hf hc en_27 rfl (fun w hc=>by obtain ⟨G1,U,J,hc,I⟩:=lend hc k0; exact (aAs r 0 2 J hc b).mono fun e w h=>⟨h.1,((I _ _ h.2).unpick k0)⟩) fun a w hf hc=>sp 3 hf rfl fun a hf=>zA hf hc rE rfl fun R a w hf hc=>zW hf hc fS u0 rfl fun w hc=>sp 1 hf rfl fun a hf=>zT h ?_
 refine zS fun K h=>?_
 obtain ⟨p,Y,hF⟩:=aC hF
 refine zC hf en_30 rfl (aEj 58 hc Y) ?_
 rintro _ w ⟨u,aa,rfl,hc⟩
 refine ⟨_,rfl,fun a hf=>?_⟩
 obtain ⟨D,g,hF⟩:=aC hF
 refine zQ (v:=.tuple #[.agg #[i6 D.1.Lo,i6 D.1.Hi],i6 D.2]) hf hc en_29 rfl (fun w hc=>by obtain ⟨G1,U,J,hc,I⟩:=lend hc k0; exact (aBs p 1 2 J hc g).mono fun e w h=>⟨h.1,((I _ _ h.2).unpick k0)⟩) fun a w hf hc=>sp 3 hf rfl fun a hf=>zA hf hc rE rfl fun M a w hf hc=>zW hf hc fS u0 rfl fun w hc=>sp 1 hf rfl fun a hf=>zT h ?_
 refine zS fun K h=>?_
 obtain ⟨n,i,hF⟩:=aC hF
 refine zC hf en_32 rfl (aGg hc i) ?_
 rintro _ w ⟨s,z,rfl,hc⟩
 refine ⟨_,rfl,fun a hf=>?_⟩
 obtain ⟨H,m,hF⟩:=aC hF
 obtain ⟨G1,U,J,hc,I⟩:=lend hc k0
 refine zC hf en_31 rfl (aEu n 120 J hc m) ?_
 rintro _ w ⟨O,S,rfl,hc⟩
 refine ⟨_,rfl,fun a hf=>?_⟩
 replace hc:=I _ _ hc
 refine sp 5 hf rfl fun a hf=>zT h ?_
 refine zS fun K h=>sp 3 hf rfl fun a hf=>fL 3 (fun a=>Has 47 a [(0,.bool false),(1,pq R),(2,i6 B.2),(3,pq M),(4,i6 D.2),(5,.slice O H.1.length S),(6,i6 H.2),(22,i6 B.2),(23,.bool (B.2 == 0)),(24,.bool (B.2 == 0)),(27,.bool ((B.2 == 0) && (D.2 == 0)))]) hc ?_ ?_
 ·cases hb:(B.2 == 0)
  ·rw [hb] at hf
   refine stS hf rfl rfl rfl fun a hf=>stS hf rfl rfl rfl fun a hf=>sp 1 hf rfl fun a hf=>aQ ⟨hf.kp rfl,hc⟩
  ·rw [hb] at hf
   refine sp 3 hf rfl fun a hf=>aQ ⟨hf.kp rfl,hc⟩
 intro a w ⟨hf,hc⟩
 refine sp 1 hf rfl fun a hf=>fL 3 (fun a=>Has 47 a [(0,.bool false),(1,pq R),(2,i6 B.2),(3,pq M),(4,i6 D.2),(5,.slice O H.1.length S),(6,i6 H.2),(22,i6 B.2),(23,.bool (B.2 == 0)),(24,.bool (B.2 == 0)),(27,.bool ((B.2 == 0) && (D.2 == 0))),(28,.bool ((B.2 == 0) && (D.2 == 0))),(31,.bool (((B.2 == 0) && (D.2 == 0)) && (H.2 == 0)))]) hc ?_ ?_
 ·cases hb:((B.2 == 0) && (D.2 == 0))
  ·rw [hb] at hf
   refine stS hf rfl rfl rfl fun a hf=>stS hf rfl rfl rfl fun a hf=>sp 1 hf rfl fun a hf=>aQ ⟨hf.kp rfl,hc⟩
  ·rw [hb] at hf
   refine sp 3 hf rfl fun a hf=>aQ ⟨hf.kp rfl,hc⟩
 intro a w ⟨hf,hc⟩
 refine sp 1 hf rfl fun a hf=>fL 4 (fun a=>Has 47 a [(0,.bool false),(1,pq R),(2,i6 B.2),(3,pq M),(4,i6 D.2),(5,.slice O H.1.length S),(6,i6 H.2),(22,i6 B.2),(23,.bool (B.2 == 0)),(24,.bool (B.2 == 0)),(27,.bool ((B.2 == 0) && (D.2 == 0))),(28,.bool ((B.2 == 0) && (D.2 == 0))),(31,.bool (((B.2 == 0) && (D.2 == 0)) && (H.2 == 0))),(32,.bool (((B.2 == 0) && (D.2 == 0)) && (H.2 == 0))),(36,.bool ((((B.2 == 0) && (D.2 == 0)) && (H.2 == 0)) && (B.1.Lo == 147 && B.1.Hi == 151)))]) hc ?_ ?_
 ·cases hb:(((B.2 == 0) && (D.2 == 0)) && (H.2 == 0))
  ·rw [hb] at hf
   refine stS hf rfl rfl rfl fun a hf=>stS hf rfl rfl rfl fun a hf=>stS hf rfl rfl rfl fun a hf=>sp 1 hf rfl fun a hf=>aQ ⟨hf.kp rfl,hc⟩
  ·rw [hb] at hf
   refine zN hf hc eY m4 rfl fun a w hf hc=>zP hf rfl (bJ (cells:=[i6 147,i6 151]) oO rfl rfl) fun a hf=>zP hf rfl (pEqA aOk rfl rfl (aLg _ _ _ _)) fun a hf=>sp 1 hf rfl fun a hf=>aQ ⟨hf.kp rfl,hc⟩
 intro a w ⟨hf,hc⟩
 refine sp 1 hf rfl fun a hf=>fL 4 (fun a=>Has 47 a [(0,.bool false),(1,pq R),(2,i6 B.2),(3,pq M),(4,i6 D.2),(5,.slice O H.1.length S),(6,i6 H.2),(22,i6 B.2),(23,.bool (B.2 == 0)),(24,.bool (B.2 == 0)),(27,.bool ((B.2 == 0) && (D.2 == 0))),(28,.bool ((B.2 == 0) && (D.2 == 0))),(31,.bool (((B.2 == 0) && (D.2 == 0)) && (H.2 == 0))),(32,.bool (((B.2 == 0) && (D.2 == 0)) && (H.2 == 0))),(36,.bool ((((B.2 == 0) && (D.2 == 0)) && (H.2 == 0)) && (B.1.Lo == 147 && B.1.Hi == 151))),(37,.bool ((((B.2 == 0) && (D.2 == 0)) && (H.2 == 0)) && (B.1.Lo == 147 && B.1.Hi == 151))),(41,.bool (((((B.2 == 0) && (D.2 == 0)) && (H.2 == 0)) && (B.1.Lo == 147 && B.1.Hi == 151)) && (D.1.Lo == 86 && D.1.Hi == 90)))]) hc ?_ ?_
 ·cases hb:((((B.2 == 0) && (D.2 == 0)) && (H.2 == 0)) && (B.1.Lo == 147 && B.1.Hi == 151))
  ·rw [hb] at hf
   refine stS hf rfl rfl rfl fun a hf=>stS hf rfl rfl rfl fun a hf=>stS hf rfl rfl rfl fun a hf=>sp 1 hf rfl fun a hf=>aQ ⟨hf.kp rfl,hc⟩
  ·rw [hb] at hf
   refine zN hf hc eY m2 rfl fun a w hf hc=>zP hf rfl (bJ (cells:=[i6 86,i6 90]) oO rfl rfl) fun a hf=>zP hf rfl (pEqA aOk rfl rfl (aLg _ _ _ _)) fun a hf=>sp 1 hf rfl fun a hf=>aQ ⟨hf.kp rfl,hc⟩
 intro a w ⟨hf,hc⟩
 refine sp 1 hf rfl fun a hf=>?_
 obtain ⟨o,V,hF⟩:=aC hF
 refine fL 4 (fun a=>Has 47 a [(0,.bool false),(1,pq R),(2,i6 B.2),(3,pq M),(4,i6 D.2),(5,.slice O H.1.length S),(6,i6 H.2),(22,i6 B.2),(23,.bool (B.2 == 0)),(24,.bool (B.2 == 0)),(27,.bool ((B.2 == 0) && (D.2 == 0))),(28,.bool ((B.2 == 0) && (D.2 == 0))),(31,.bool (((B.2 == 0) && (D.2 == 0)) && (H.2 == 0))),(32,.bool (((B.2 == 0) && (D.2 == 0)) && (H.2 == 0))),(36,.bool ((((B.2 == 0) && (D.2 == 0)) && (H.2 == 0)) && (B.1.Lo == 147 && B.1.Hi == 151))),(37,.bool ((((B.2 == 0) && (D.2 == 0)) && (H.2 == 0)) && (B.1.Lo == 147 && B.1.Hi == 151))),(41,.bool (((((B.2 == 0) && (D.2 == 0)) && (H.2 == 0)) && (B.1.Lo == 147 && B.1.Hi == 151)) && (D.1.Lo == 86 && D.1.Hi == 90))),(42,.bool (((((B.2 == 0) && (D.2 == 0)) && (H.2 == 0)) && (B.1.Lo == 147 && B.1.Hi == 151)) && (D.1.Lo == 86 && D.1.Hi == 90))),(46,.bool o)]) hc ?_ ?_
 ·cases hb:(((((B.2 == 0) && (D.2 == 0)) && (H.2 == 0)) && (B.1.Lo == 147 && B.1.Hi == 151)) && (D.1.Lo == 86 && D.1.Hi == 90))
  ·rw [hb] at hf
   have hF:=nU hb V
   obtain rfl:=sj hF
   refine stS hf rfl rfl rfl fun a hf=>stS hf rfl rfl rfl fun a hf=>stS hf rfl rfl rfl fun a hf=>sp 1 hf rfl fun a hf=>aQ ⟨hf.kp rfl,hc⟩
  ·rw [hb] at hf
   have hF:=gI hb V
   refine sp 1 hf rfl fun a hf=>oJ (rows:=([95,18]:List Int).map aD) (vs:=[(0,i6 95),(1,i6 18)]) hf hc rfl rfl lQ rfl ⟨rfl,rfl,rfl,rfl,rfl,rfl,trivial⟩ rfl rfl fun x a w hf hc=>?_
   obtain ⟨q,j,hF⟩:=aC hF
   refine zQ (v:=.bool q) hf hc en_33 rfl (fun w hc=>by obtain ⟨G1,U,J,hc,I⟩:=lend hc k2; obtain ⟨G2,d,k,hc,Z⟩:=lend hc k0; exact (aBn H.1 ([95,18]:List Int) (J.mono d) k hc j).mono fun e w h=>⟨h.1,((I _ _ ((Z _ _ h.2).unpick k0)).unpick k2)⟩) fun a w hf hc=>sp 1 hf rfl fun a hf=>?_
   replace hc:=hc.drop k0
   obtain rfl:=sj hF
   exact aQ ⟨hf.kp rfl,hc⟩
 intro a w ⟨hf,hc⟩
 refine sp 1 hf rfl fun a hf=>zT h ?_
 refine wp_ret ?_
 obtain rfl:=sj hF
 replace hc:=(((((hc.drop k5).drop k4).drop k3).drop k2).drop k1).drop k0
 exact zO1 Tryz.results15 hf rfl ⟨rfl,hc⟩

def fZ (N:Nat) (most:Int) (D:Int) (B:List Int):Option (dA (Int × (List Int)) (Bool)) :=
 cond (decide (D < 7))
 (Option.bind (nQ ((B++[W ((W (1 + (W (most.tdiv 7)))) + (W (most.tdiv 5)))])).length) fun un=>
 some (.cont (W (D + 1),(B++[W ((W (1 + (W (most.tdiv 7)))) + (W (most.tdiv 5)))]))))
 (some (.brk (D,B)))
def iD (N:Nat) (H:(List aF) × Int) (D:(List aF) × Int) (I:(List Int) × Int) (most:Int) (B:Int):Option (dA (Int × Int) (Bool)) :=
 cond (decide (B < ((I.1.length:Nat):Int)))
 (Option.bind (cM I.1 B) fun X=>
 Option.bind (cM D.1 B) fun O=>
 Option.bind (cond (!(lX X O)) (some true) (Option.bind (cM D.1 B) fun R=>
 Option.bind (cM H.1 B) fun S=>
 some (decide (R.Lo < S.Lo)))) fun U=>
 Option.bind (cond U (some true) (Option.bind (cM D.1 B) fun M=>
 Option.bind (cM H.1 B) fun Y=>
 some (decide (Y.Hi < M.Hi)))) fun J=>
 cond J
 (some (.ret false))
 (Option.bind (cM D.1 B) fun V=>
 some (.cont (max most V.Hi,W (B + 1)))))
 (some (.brk (most,B)))
def jK (N:Nat) (x:Int) (H:List aI) (B:List aI) (D:List aR) (I:Int) (J:Int):Option (dA ((List aI) × (List aI) × (List aR) × Int × Int × Int) (Bool)) :=
 some (.cont (H,B,D,W (x + 1),I,J))
def kF (N:Nat) (O:List Int) (up:Int) (M:Int) (o:Int × Int × Int) (J:List aI) (H:List aI) (I:List aR) (x:Int) (b:Int) (Z:Int):Option (dA ((List aI) × (List aI) × (List aR) × Int × Int × Int) (Bool)) :=
 cond (decide (x < o.1))
 (Option.bind (sQ N (⟨O,b,Z⟩:aV) 5) fun D=>
 Option.bind (nA N D.1) fun B=>
 cond ((B.2.2 != 0) || (((B.1.length:Nat):Int) != ((D.1.Reaches.length:Nat):Int)))
 (some (.ret false))
 (cond (((B.1.length:Nat):Int) == 0)
 (jK N x J H I D.2.2.1 D.2.2.2)
 (Option.bind (nz ((B.1.length:Nat):Int)) fun t=>
 Option.bind (nz ((B.1.length:Nat):Int)) fun p=>
 Option.bind (cM D.2.1.Flows ((W (up)).tmod ((B.1.length:Nat):Int))) fun m=>
 Option.bind (cond (decide (m < 0)) (some true) (Option.bind (cM D.2.1.Flows ((W (M)).tmod ((B.1.length:Nat):Int))) fun k=>
 some (decide (k < 0)))) fun n=>
 cond n
 (jK N x J H I D.2.2.1 D.2.2.2)
 (Option.bind (cM D.1.Reaches ((W (up)).tmod ((B.1.length:Nat):Int))) fun d=>
 Option.bind (lJ N d.Flow) fun X=>
 Option.bind (cM D.1.Reaches ((W (M)).tmod ((B.1.length:Nat):Int))) fun i=>
 Option.bind (lJ N i.Flow) fun U=>
 Option.bind (nQ ((J++[(⟨X,U,false⟩:aI)])).length) fun r=>
 Option.bind (cM B.1 ((W (up)).tmod ((B.1.length:Nat):Int))) fun j=>
 Option.bind (lJ N j) fun V=>
 Option.bind (cM B.1 ((W (M)).tmod ((B.1.length:Nat):Int))) fun g=>
 Option.bind (lJ N g) fun R=>
 Option.bind (nQ ((H++[(⟨V,R,false⟩:aI)])).length) fun q=>
 Option.bind (cM D.2.1.Flows ((W (up)).tmod ((B.1.length:Nat):Int))) fun S=>
 Option.bind (cM D.2.1.Flows ((W (M)).tmod ((B.1.length:Nat):Int))) fun Y=>
 Option.bind (nQ ((I++[(⟨S,Y⟩:aR)])).length) fun s=>
 jK N x (J++[(⟨X,U,false⟩:aI)]) (H++[(⟨V,R,false⟩:aI)]) (I++[(⟨S,Y⟩:aR)]) D.2.2.1 D.2.2.2))))
 (some (.brk (J,H,I,x,b,Z)))
def tP (N:Nat) (B:List Int) (H:List Int) (up:Int) (X:Int):Option (Bool) :=
 Option.bind (aAh N B) fun r=>
 Option.bind (aAh N H) fun V=>
 Option.bind (nO N (⟨H,V.1,V.2⟩:aV) 1) fun O=>
 Option.bind (dE N (⟨B,r.1,r.2⟩:aV) 1 5) fun R=>
 Option.bind (bN (fun s8=>kF N B up X R s8.1 s8.2.1 s8.2.2.1 s8.2.2.2.1 s8.2.2.2.2.1 s8.2.2.2.2.2) N (([]:List aI),([]:List aI),([]:List aR),0,R.2.1,R.2.2)) fun x8=>
 exK x8 (fun s8=>Option.bind (mC N O.1 (⟨0,0⟩:aF) s8.1) fun M=>
 Option.bind (mC N O.1 (⟨0,0⟩:aF) s8.2.1) fun J=>
 Option.bind (qT N O.1 0 s8.2.1 s8.2.2.1) fun S=>
 cond ((((((M.2 != 0) || (J.2 != 0)) || (S.2 != 0)) || (((M.1.length:Nat):Int) != ((s8.2.2.1.length:Nat):Int))) || (((J.1.length:Nat):Int) != ((s8.2.2.1.length:Nat):Int))) || (((S.1.length:Nat):Int) != ((s8.2.2.1.length:Nat):Int)))
 (some false)
 (Option.bind (bN (fun D=>iD N M J S D.1 D.2) N (0,0)) fun Z=>
 exK Z (fun D=>Option.bind (bN (fun I=>fZ N D.1 I.1 I.2) N (0,([]:List Int))) fun g=>
 exK g (fun I=>Option.bind (mY N D.1 (⟨W (1 + (W (D.1.tdiv 7))),3,I.2⟩:sW)) fun U=>
 Option.bind (cond (U.2 == 0) (Option.bind (sL N U.1) fun d=>
 some (d == D.1)) (some false)) fun b=>
 Option.bind (cond b (Option.bind (tQ N) fun Y=>
 some Y) (some false)) fun i=>
 some i) some) some)) some
theorem aDu {N:Nat} {G:bA} {Lf:List Ent} {w:World} (X:List Int) (a6:List Int) (up:Int) (O:Int) {k:Option Addr} {m:Nat} {bz:Option Addr} {bx:Nat} (bb:Rd G 1 k m (X.map sI)) (bv:Rd G 1 bz bx (a6.map sI)) (hc:Ctx G (Lf) w) {cz:Bool} (hF:tP N X a6 up O=some cz):Calls Tryz.prog 3 #[.slice k X.length m,.slice bz a6.length bx,.int .u8 up,.int .u8 O] w (fun e w=>e=.returned (.bool cz)∧Ctx G (Lf) w):=by
 unfold tP at hF
 refine cC Tryz.func3 rfl Tryz.ntmps3 rfl fun a hf=>zS fun K h=>sp 1 hf rfl fun a hf=>zT h ?_
 refine zS fun K h=>sp 1 hf rfl fun a hf=>?_
 obtain ⟨r,hr,hF⟩:=aC hF
 refine zC hf en_4 rfl (aC9 X bb hc hr) ?_
 rintro _ w ⟨ab,rfl,hc⟩
 refine ⟨_,rfl,fun a hf=>?_⟩
 refine sp 1 hf rfl fun a hf=>zT h ?_
 refine zS fun K h=>sp 1 hf rfl fun a hf=>?_
 obtain ⟨gs,g3,hF⟩:=aC hF
 refine zC hf en_4 rfl (aC9 a6 bv hc g3) ?_
 rintro _ w ⟨my,rfl,hc⟩
 refine ⟨_,rfl,fun a hf=>?_⟩
 obtain ⟨q,g2,hF⟩:=aC hF
 refine zC hf en_5 rfl (zJ (⟨a6,gs.1,gs.2⟩:aV) 1 bv (hc.pick k0) g2) ?_
 rintro _ w ⟨ap,an,na,nd,mu,nf,rfl,hc⟩
 refine ⟨_,rfl,fun a hf=>?_⟩
 refine sp 5 hf rfl fun a hf=>zA hf hc aKw rfl fun ad a w hf hc=>zA hf hc rE rfl fun mz a w hf hc=>zW hf hc aM4 u1 rfl fun w hc=>zW hf hc fS u0 rfl fun w hc=>sp 2 hf rfl fun a hf=>zT h ?_
 refine zS fun K h=>sp 2 hf rfl fun a hf=>zT h ?_
 refine zS fun K h=>sp 1 hf rfl fun a hf=>zT h ?_
 refine wp_seq_k fun K6 h6=>zS fun K h=>sp 1 hf rfl fun a hf=>?_
 obtain ⟨a7,i1,hF⟩:=aC hF
 refine zC hf aGy rfl (eJ (⟨X,r.1,r.2⟩:aV) 1 5 bb (hc.pick k6) i1) ?_
 rintro _ w ⟨rfl,hc⟩
 refine ⟨_,rfl,fun a hf=>?_⟩
 refine sp 1 hf rfl fun a hf=>zT h ?_
 refine wp_block ?_
 obtain ⟨x8,jy,hF⟩:=aC hF
 let S8:((List aI) × (List aI) × (List aR) × Int × Int × Int)→Act→World→Prop:=(fun (zz:(List aI) × (List aI) × (List aR) × Int × Int × Int) a w=>∃ (a8:Option Addr) (a9:Nat) (ar:Option Addr) (aq:Nat) (s:Option Addr) (t:Nat),Has 283 a [(2,.int .u8 up),(3,.int .u8 O),(9,pq ab),(10,pq ad),(14,.slice a8 zz.1.length a9),(15,.slice ar zz.2.1.length aq),(16,.slice s zz.2.2.1.length t),(47,i6 a7.1),(48,i6 zz.2.2.2.1)]∧Ctx G (.row s t (zz.2.2.1.map bY) 53 2::.row ar aq (zz.2.1.map aZ) 51 5::.row a8 a9 (zz.1.map aZ) 51 5::.box ab [.slice k X.length m,i6 zz.2.2.2.2.1,i6 zz.2.2.2.2.2] 66::.box ad [.slice ap q.1.Table.length an,i6 q.1.Credit] 27::.row ap an (q.1.Table.map bK) 69 2::Lf) w)
 have kn:∀ (zz:(List aI) × (List aI) × (List aR) × Int × Int × Int) a w,x8=.go zz→S8 zz a w→K6 a w:=by
  rintro ⟨Y,J,B,x,gv,gx⟩ a w rfl ⟨a8,a9,ar,aq,s,t,hf,hc⟩
  replace hF:=cJ hF
  refine h6 _ _ ?_
  refine zS fun K h=>zN hf hc wA m4 rfl fun a w hf hc=>zP hf rfl (bJ (cells:=[i6 0,i6 0]) oO rfl rfl) fun a hf=>sp 1 hf rfl fun a hf=>?_
  obtain ⟨I,ik,hF⟩:=aC hF
  obtain ⟨G1,b6,ay,hc,az⟩:=lend hc k5
  obtain ⟨G2,bm,bk,hc,bn⟩:=lend hc k2
  refine zC hf aNw rfl (wU q.1 (⟨0,0⟩:aF) Y (ay.mono bm) bk hc ik) ?_
  rintro _ w ⟨bp,bq,rfl,hc⟩
  refine ⟨_,rfl,fun a hf=>?_⟩
  replace hc:=bn _ _ hc
  replace hc:=az _ _ hc
  refine sp 5 hf rfl fun a hf=>zT h ?_
  refine zS fun K h=>zN hf hc wA m6 rfl fun a w hf hc=>zP hf rfl (bJ (cells:=[i6 0,i6 0]) oO rfl rfl) fun a hf=>sp 1 hf rfl fun a hf=>?_
  obtain ⟨M,jd,hF⟩:=aC hF
  obtain ⟨G1,b6,ay,hc,az⟩:=lend hc k0
  obtain ⟨G2,bm,bk,hc,bn⟩:=lend hc k3
  refine zC hf aNw rfl (wU q.1 (⟨0,0⟩:aF) J (ay.mono bm) bk hc jd) ?_
  rintro _ w ⟨ci,cg,rfl,hc⟩
  refine ⟨_,rfl,fun a hf=>?_⟩
  replace hc:=bn _ _ hc
  replace hc:=az _ _ hc
  refine sp 5 hf rfl fun a hf=>zT h ?_
  refine wp_seq_k fun K11 kb=>cX ?_
  refine zN hf hc wA m7 rfl fun a w hf hc=>sp 2 hf rfl fun a hf=>?_
  obtain ⟨V,jv,hF⟩:=aC hF
  obtain ⟨G1,b6,ay,hc,az⟩:=lend hc k0
  obtain ⟨G2,bm,bk,hc,bn⟩:=lend hc k0
  obtain ⟨G3,dp,it,hc,g5⟩:=lend hc k3
  refine zC hf en_11 rfl (aEk q.1 0 J B ((ay.mono bm).mono dp) (bk.mono dp) it hc jv) ?_
  rintro _ w ⟨cj,ck,rfl,hc⟩
  refine ⟨_,rfl,fun a hf=>?_⟩
  replace hc:=g5 _ _ hc
  replace hc:=bn _ _ hc
  replace hc:=az _ _ hc
  refine sp 5 hf rfl fun a hf=>aQ ?_
  replace hc:=((((hc.drop k8).drop k7).drop k5).drop k1).drop k0
  refine kb _ _ ?_
  refine wp_seq_k fun K12 j8=>zS fun K h=>sp 3 hf rfl fun a hf=>fL 3 (fun a=>Has 283 a [(16,.slice s B.length t),(25,.slice bp I.1.length bq),(26,i6 I.2),(27,.slice ci M.1.length cg),(28,i6 M.2),(29,.slice cj V.1.length ck),(30,i6 V.2),(170,i6 I.2),(171,.bool (I.2 != 0)),(172,.bool (I.2 != 0)),(175,.bool ((I.2 != 0) || (M.2 != 0)))]) hc ?_ ?_
  ·cases hb:(I.2 != 0)
   ·rw [hb] at hf
    refine sp 3 hf rfl fun a hf=>aQ ⟨hf.kp rfl,hc⟩
   ·rw [hb] at hf
    refine stS hf rfl rfl rfl fun a hf=>stS hf rfl rfl rfl fun a hf=>sp 1 hf rfl fun a hf=>aQ ⟨hf.kp rfl,hc⟩
  intro a w ⟨hf,hc⟩
  refine sp 1 hf rfl fun a hf=>fL 3 (fun a=>Has 283 a [(16,.slice s B.length t),(25,.slice bp I.1.length bq),(26,i6 I.2),(27,.slice ci M.1.length cg),(28,i6 M.2),(29,.slice cj V.1.length ck),(30,i6 V.2),(170,i6 I.2),(171,.bool (I.2 != 0)),(172,.bool (I.2 != 0)),(175,.bool ((I.2 != 0) || (M.2 != 0))),(176,.bool ((I.2 != 0) || (M.2 != 0))),(179,.bool (((I.2 != 0) || (M.2 != 0)) || (V.2 != 0)))]) hc ?_ ?_
  ·cases hb:((I.2 != 0) || (M.2 != 0))
   ·rw [hb] at hf
    refine sp 3 hf rfl fun a hf=>aQ ⟨hf.kp rfl,hc⟩
   ·rw [hb] at hf
    refine stS hf rfl rfl rfl fun a hf=>stS hf rfl rfl rfl fun a hf=>sp 1 hf rfl fun a hf=>aQ ⟨hf.kp rfl,hc⟩
  intro a w ⟨hf,hc⟩
  refine sp 1 hf rfl fun a hf=>fL 6 (fun a=>Has 283 a [(16,.slice s B.length t),(25,.slice bp I.1.length bq),(26,i6 I.2),(27,.slice ci M.1.length cg),(28,i6 M.2),(29,.slice cj V.1.length ck),(30,i6 V.2),(170,i6 I.2),(171,.bool (I.2 != 0)),(172,.bool (I.2 != 0)),(175,.bool ((I.2 != 0) || (M.2 != 0))),(176,.bool ((I.2 != 0) || (M.2 != 0))),(179,.bool (((I.2 != 0) || (M.2 != 0)) || (V.2 != 0))),(180,.bool (((I.2 != 0) || (M.2 != 0)) || (V.2 != 0))),(186,.bool ((((I.2 != 0) || (M.2 != 0)) || (V.2 != 0)) || (((I.1.length:Nat):Int) != ((B.length:Nat):Int))))]) hc ?_ ?_
  ·cases hb:(((I.2 != 0) || (M.2 != 0)) || (V.2 != 0))
   ·rw [hb] at hf
    refine sp 1 hf rfl fun a hf=>zP hf rfl (cP Tryz.underlying35 rfl) fun a hf=>sp 1 hf rfl fun a hf=>zP hf rfl (cP Tryz.underlying31 rfl) fun a hf=>sp 2 hf rfl fun a hf=>aQ ⟨hf.kp rfl,hc⟩
   ·rw [hb] at hf
    refine stS hf rfl rfl rfl fun a hf=>stS hf rfl rfl rfl fun a hf=>stS hf rfl rfl rfl fun a hf=>stS hf rfl rfl rfl fun a hf=>stS hf rfl rfl rfl fun a hf=>sp 1 hf rfl fun a hf=>aQ ⟨hf.kp rfl,hc⟩
  intro a w ⟨hf,hc⟩
  refine sp 1 hf rfl fun a hf=>fL 6 (fun a=>Has 283 a [(16,.slice s B.length t),(25,.slice bp I.1.length bq),(26,i6 I.2),(27,.slice ci M.1.length cg),(28,i6 M.2),(29,.slice cj V.1.length ck),(30,i6 V.2),(170,i6 I.2),(171,.bool (I.2 != 0)),(172,.bool (I.2 != 0)),(175,.bool ((I.2 != 0) || (M.2 != 0))),(176,.bool ((I.2 != 0) || (M.2 != 0))),(179,.bool (((I.2 != 0) || (M.2 != 0)) || (V.2 != 0))),(180,.bool (((I.2 != 0) || (M.2 != 0)) || (V.2 != 0))),(186,.bool ((((I.2 != 0) || (M.2 != 0)) || (V.2 != 0)) || (((I.1.length:Nat):Int) != ((B.length:Nat):Int)))),(187,.bool ((((I.2 != 0) || (M.2 != 0)) || (V.2 != 0)) || (((I.1.length:Nat):Int) != ((B.length:Nat):Int)))),(193,.bool (((((I.2 != 0) || (M.2 != 0)) || (V.2 != 0)) || (((I.1.length:Nat):Int) != ((B.length:Nat):Int))) || (((M.1.length:Nat):Int) != ((B.length:Nat):Int))))]) hc ?_ ?_
  ·cases hb:((((I.2 != 0) || (M.2 != 0)) || (V.2 != 0)) || (((I.1.length:Nat):Int) != ((B.length:Nat):Int)))
   ·rw [hb] at hf
    refine sp 1 hf rfl fun a hf=>zP hf rfl (cP Tryz.underlying35 rfl) fun a hf=>sp 1 hf rfl fun a hf=>zP hf rfl (cP Tryz.underlying31 rfl) fun a hf=>sp 2 hf rfl fun a hf=>aQ ⟨hf.kp rfl,hc⟩
   ·rw [hb] at hf
    refine stS hf rfl rfl rfl fun a hf=>stS hf rfl rfl rfl fun a hf=>stS hf rfl rfl rfl fun a hf=>stS hf rfl rfl rfl fun a hf=>stS hf rfl rfl rfl fun a hf=>sp 1 hf rfl fun a hf=>aQ ⟨hf.kp rfl,hc⟩
  intro a w ⟨hf,hc⟩
  refine sp 1 hf rfl fun a hf=>fL 6 (fun a=>Has 283 a [(16,.slice s B.length t),(25,.slice bp I.1.length bq),(26,i6 I.2),(27,.slice ci M.1.length cg),(28,i6 M.2),(29,.slice cj V.1.length ck),(30,i6 V.2),(170,i6 I.2),(171,.bool (I.2 != 0)),(172,.bool (I.2 != 0)),(175,.bool ((I.2 != 0) || (M.2 != 0))),(176,.bool ((I.2 != 0) || (M.2 != 0))),(179,.bool (((I.2 != 0) || (M.2 != 0)) || (V.2 != 0))),(180,.bool (((I.2 != 0) || (M.2 != 0)) || (V.2 != 0))),(186,.bool ((((I.2 != 0) || (M.2 != 0)) || (V.2 != 0)) || (((I.1.length:Nat):Int) != ((B.length:Nat):Int)))),(187,.bool ((((I.2 != 0) || (M.2 != 0)) || (V.2 != 0)) || (((I.1.length:Nat):Int) != ((B.length:Nat):Int)))),(193,.bool (((((I.2 != 0) || (M.2 != 0)) || (V.2 != 0)) || (((I.1.length:Nat):Int) != ((B.length:Nat):Int))) || (((M.1.length:Nat):Int) != ((B.length:Nat):Int)))),(194,.bool (((((I.2 != 0) || (M.2 != 0)) || (V.2 != 0)) || (((I.1.length:Nat):Int) != ((B.length:Nat):Int))) || (((M.1.length:Nat):Int) != ((B.length:Nat):Int)))),(200,.bool ((((((I.2 != 0) || (M.2 != 0)) || (V.2 != 0)) || (((I.1.length:Nat):Int) != ((B.length:Nat):Int))) || (((M.1.length:Nat):Int) != ((B.length:Nat):Int))) || (((V.1.length:Nat):Int) != ((B.length:Nat):Int))))]) hc ?_ ?_
  ·cases hb:(((((I.2 != 0) || (M.2 != 0)) || (V.2 != 0)) || (((I.1.length:Nat):Int) != ((B.length:Nat):Int))) || (((M.1.length:Nat):Int) != ((B.length:Nat):Int)))
   ·rw [hb] at hf
    refine sp 1 hf rfl fun a hf=>zP hf rfl (cP Tryz.underlying39 rfl) fun a hf=>sp 1 hf rfl fun a hf=>zP hf rfl (cP Tryz.underlying31 rfl) fun a hf=>sp 2 hf rfl fun a hf=>aQ ⟨hf.kp rfl,hc⟩
   ·rw [hb] at hf
    refine stS hf rfl rfl rfl fun a hf=>stS hf rfl rfl rfl fun a hf=>stS hf rfl rfl rfl fun a hf=>stS hf rfl rfl rfl fun a hf=>stS hf rfl rfl rfl fun a hf=>sp 1 hf rfl fun a hf=>aQ ⟨hf.kp rfl,hc⟩
  intro a w ⟨hf,hc⟩
  refine zT h ?_
  refine zI hf rfl hF ?_ ?_ <;> clear hF <;> intro hF
  ·refine zS fun K h=>sp 1 hf rfl fun a hf=>zT h ?_
   refine wp_ret ?_
   refine aU ?_
   obtain rfl:=sj hF
   replace hc:=(((hc.drop k3).drop k2).drop k1).drop k0
   exact zO1 Tryz.results3 hf rfl ⟨rfl,hc⟩
  ·refine wp_skip ?_
   refine j8 _ _ ?_
   refine zS fun K h=>sp 1 hf rfl fun a hf=>zT h ?_
   refine wp_seq_k fun K16 j0=>zS fun K h=>sp 1 hf rfl fun a hf=>zP hf rfl (cP Tryz.underlying39 rfl) fun a hf=>sp 1 hf rfl fun a hf=>zT h ?_
   refine wp_block ?_
   obtain ⟨dk,g6,hF⟩:=aC hF
   let S18:(Int × Int)→Act→World→Prop:=(fun (zz:Int × Int) a w=>∃ (b2:Option Addr) (a2:Nat) (b3:Option Addr) (bc:Nat),Has 283 a [(25,.slice bp I.1.length bq),(27,.slice b2 M.1.length a2),(31,i6 zz.1),(201,.slice b3 V.1.length bc),(202,i6 ((V.1.length:Nat):Int)),(203,i6 zz.2)]∧Ctx G (.row b3 bc (V.1.map aD) 3 1::.row b2 a2 (M.1.map aJ) 29 2::.row bp bq (I.1.map aJ) 29 2::Lf) w)
   have g0:∀ (zz:Int × Int) a w,dk=.go zz→S18 zz a w→K16 a w:=by
    rintro ⟨most,ag⟩ a w rfl ⟨b2,a2,b3,bc,hf,hc⟩
    replace hF:=cJ hF
    refine j0 _ _ ?_
    refine zS fun K h=>sp 1 hf rfl fun a hf=>zP hf rfl (aJ9 rfl rfl (by decide)) fun a hf=>sp 1 hf rfl fun a hf=>zP hf rfl (bJ (cells:=[i6 (W (1 + (W (most.tdiv 7)))),i6 3,.slice none 0 0]) bt_60 rfl rfl) fun a hf=>zA hf hc zr_60 rfl fun gu a w hf hc=>zW hf hc sz_60 u0 rfl fun w hc=>zT h ?_
    refine wp_seq_k fun K20 j4=>zS fun K h=>sp 1 hf rfl fun a hf=>zT h ?_
    refine wp_block ?_
    obtain ⟨dq,ic,hF⟩:=aC hF
    let S22:(Int × (List Int))→Act→World→Prop:=(fun (zz:Int × (List Int)) a w=>∃ (ca:Option Addr) (b4:Nat),Has 283 a [(31,i6 most),(34,pq gu),(253,i6 zz.1)]∧Ctx G (.row ca b4 (zz.2.map aD) 3 1::.box gu [i6 (W (1 + (W (most.tdiv 7)))),i6 3,.slice ca zz.2.length b4] 60::Lf) w)
    have i8:∀ (zz:Int × (List Int)) a w,dq=.go zz→S22 zz a w→K20 a w:=by
     rintro ⟨gy,c7⟩ a w rfl ⟨ca,b4,hf,hc⟩
     replace hF:=cJ hF
     refine j4 _ _ ?_
     refine zS fun K h=>sp 1 hf rfl fun a hf=>zN hf hc ag_60 m1 rfl fun a w hf hc=>?_
     obtain ⟨ba,g7,hF⟩:=aC hF
     obtain ⟨G1,b6,ay,hc,az⟩:=lend hc k0
     refine zC hf en_13 rfl (aAz most (⟨W (1 + (W (most.tdiv 7))),3,c7⟩:sW) ay hc g7) ?_
     rintro _ w ⟨dc,dm,rfl,hc⟩
     refine ⟨_,rfl,fun a hf=>?_⟩
     replace hc:=az _ _ hc
     refine sp 5 hf rfl fun a hf=>zT h ?_
     refine zS fun K h=>sp 3 hf rfl fun a hf=>?_
     obtain ⟨da,df,hF⟩:=aC hF
     refine fL 5 (fun a=>Has 283 a [(31,i6 most),(35,.slice dc ba.1.length dm),(26,i6 ba.2),(272,i6 ba.2),(273,.bool (ba.2 == 0)),(274,.bool (ba.2 == 0)),(279,.bool da)]) hc ?_ ?_
     ·cases hb:(ba.2 == 0)
      ·rw [hb] at hf
       have hF:=nU hb df
       obtain rfl:=sj hF
       refine stS hf rfl rfl rfl fun a hf=>stS hf rfl rfl rfl fun a hf=>stS hf rfl rfl rfl fun a hf=>stS hf rfl rfl rfl fun a hf=>sp 1 hf rfl fun a hf=>aQ ⟨hf.kp rfl,hc⟩
      ·rw [hb] at hf
       have hF:=gI hb df
       refine sp 1 hf rfl fun a hf=>?_
       obtain ⟨kx,i9,hF⟩:=aC hF
       refine zQ (v:=i6 kx) hf hc en_14 rfl (fun w hc=>by obtain ⟨G1,b6,ay,hc,az⟩:=lend hc k1; exact (aF7 ba.1 ay hc i9).mono fun e w h=>⟨h.1,((az _ _ h.2).unpick k1)⟩) fun a w hf hc=>sp 3 hf rfl fun a hf=>?_
       obtain rfl:=sj hF
       exact aQ ⟨hf.kp rfl,hc⟩
     intro a w ⟨hf,hc⟩
     refine sp 1 hf rfl fun a hf=>?_
     obtain ⟨jz,dt,hF⟩:=aC hF
     refine fL 2 (fun a=>Has 283 a [(31,i6 most),(35,.slice dc ba.1.length dm),(26,i6 ba.2),(272,i6 ba.2),(273,.bool (ba.2 == 0)),(274,.bool (ba.2 == 0)),(279,.bool da),(280,.bool da),(282,.bool jz)]) hc ?_ ?_
     ·cases hb:da
      ·rw [hb] at hf
       try rw [hb] at hc
       have hF:=nU hb dt
       obtain rfl:=sj hF
       refine stS hf rfl rfl rfl fun a hf=>sp 1 hf rfl fun a hf=>aQ ⟨hf.kp rfl,hc⟩
      ·rw [hb] at hf
       try rw [hb] at hc
       have hF:=gI hb dt
       obtain ⟨j2,jn,hF⟩:=aC hF
       refine zQ (v:=.bool j2) hf hc en_15 rfl (fun w hc=>aD1 hc jn) fun a w hf hc=>sp 1 hf rfl fun a hf=>?_
       obtain rfl:=sj hF
       exact aQ ⟨hf.kp rfl,hc⟩
     intro a w ⟨hf,hc⟩
     refine sp 1 hf rfl fun a hf=>zT h ?_
     refine wp_ret ?_
     obtain rfl:=sj hF
     replace hc:=((hc.drop k2).drop k1).drop k0
     exact zO1 Tryz.results3 hf rfl ⟨rfl,hc⟩
    have mf:∀ r,dq=.out r→r=cz:=by
     rintro r rfl
     exact sj hF
    replace hc:=hc.nilRow 3 1
    replace hc:=((hc.drop k4).drop k3).drop k2
    refine dQ N (dP (S:=S22) (x:=dq) ?_ N (0,([]:List Int)) _ _ ⟨none,0,hf.kp rfl,hc⟩ ic)
    clear hF hf hc
    rintro ⟨gy,c7⟩ mm a w KB22 ⟨ca,b4,hf,hc⟩ hF c4 ii
    unfold fZ at hF
    refine zS fun K h=>sp 1 hf rfl fun a hf=>zT h ?_
    refine wp_seq_k fun K26 kz=>zI hf rfl hF ?_ ?_ <;> clear hF <;> intro hF
    ·refine wp_skip ?_
     refine kz _ _ ?_
     refine wp_seq_k fun K27 ki=>wp_block ?_
     refine cX ?_
     refine zP hf rfl (pFA zO rfl) fun a hf=>zL hf hc uA m1 rfl fun a w hf hc=>zP hf rfl (pFA aGl rfl) fun a hf=>zL hf hc aX m1 rfl fun a w hf hc=>sp 1 hf rfl fun a hf=>zP hf rfl (aJ9 rfl rfl (by decide)) fun a hf=>sp 1 hf rfl fun a hf=>oJ (rows:=([W ((W (1 + (W (most.tdiv 7)))) + (W (most.tdiv 5)))]:List Int).map aD) (vs:=[(0,i6 (W ((W (1 + (W (most.tdiv 7)))) + (W (most.tdiv 5)))))]) hf hc rfl rfl lQ rfl ⟨rfl,rfl,rfl,trivial⟩ rfl rfl fun m8 a w hf hc=>?_
     obtain ⟨un,kq,hF⟩:=aC hF
     refine lO (xs:=c7) (ys:=([W ((W (1 + (W (most.tdiv 7)))) + (W (most.tdiv 5)))]:List Int)) hf hc rfl rfl lQ rfl rfl rfl rfl rfl bG (fM hc m0) (fun _ _=>u1) (by simpa using dB kq) fun jb ij a w hf hc=>zP hf rfl (pFA zO rfl) fun a hf=>zW hf hc aNe u2 rfl fun w hc=>aQ ?_
     refine ki _ _ ?_
     refine cX ?_
     refine sp 2 hf rfl fun a hf=>aQ ?_
     replace hc:=hc.drop k0
     exact ii (W (gy + 1),(c7++[W ((W (1 + (W (most.tdiv 7)))) + (W (most.tdiv 5)))])) _ _ (sj hF).symm ⟨jb,ij,hf.kp rfl,hc⟩
    ·refine wp_exit ?_
     refine bI ?_
     refine bI ?_
     have he:=sj hF
     rw [← he] at c4
     refine fB ?_
     exact i8 _ _ _ c4 ⟨ca,b4,hf.kp rfl,hc⟩
   have jj:∀ r,dk=.out r→r=cz:=by
    rintro r rfl
    exact sj hF
   replace hc:=hc.drop k0
   refine dQ N (dP (S:=S18) (x:=dk) ?_ N (0,0) _ _ ⟨ci,cg,cj,ck,hf.kp rfl,hc⟩ g6)
   clear hF hf hc
   rintro ⟨most,ag⟩ mr a w KB18 ⟨b2,a2,b3,bc,hf,hc⟩ hF br jf
   unfold iD at hF
   refine zS fun K h=>sp 1 hf rfl fun a hf=>zT h ?_
   refine wp_seq_k fun K29 ka=>zI hf rfl hF ?_ ?_ <;> clear hF <;> intro hF
   ·refine wp_skip ?_
    refine ka _ _ ?_
    refine wp_seq_k fun K30 km=>wp_block ?_
    refine zS fun K h=>sp 1 hf rfl fun a hf=>?_
    obtain ⟨a1,js,hF⟩:=aC hF
    have a4:=hf
    obtain ⟨g,rfl,qa,qr⟩:=iJ hc m0 js
    have hf:=a4
    refine zP hf rfl (pIA Tryz.underlying39 fD rfl rfl qa) fun a hf=>zE hf hc rfl (cV aX rfl (eI (sz:=1) (i:=ag.toNat) (j:=0) m0 qr rfl)) fun a w hf hc=>sp 2 hf rfl fun a hf=>zT h ?_
    refine wp_seq_k fun K32 j1=>wp_seq_k fun K33 j6=>?_
    obtain ⟨af,ix,hF⟩:=aC hF
    have a4:=hf
    obtain ⟨cc,rfl,iu,ju⟩:=iJ hc m1 ix
    have hf:=a4
    obtain ⟨c9,du,hF⟩:=aC hF
    obtain ⟨ks,di,hF⟩:=aC hF
    refine cQ hc aT (by kernel_rfl) ?_
    refine qE hf rfl rfl rfl (Pu.ev (pM rfl)) fun a hf=>qE hf rfl rfl rfl (Pu.ev (pM rfl)) fun a hf=>qE hf rfl rfl rfl (Pu.ev (pM rfl)) fun a hf=>qE hf rfl rfl rfl (Pu.ev (pIA Tryz.underlying35 fS rfl rfl iu)) fun a hf=>qE hf rfl rfl rfl (kK (vs:=[i6 af.Lo,i6 af.Hi]) eY rfl rfl (pP (sz:=2) (i:=ag.toNat) m1 ju (n:=2) (o':=0) rfl)) fun a hf=>qE hf rfl rfl rfl (eC (v:=.bool (lX a1 af)) (vs:=[i6 a1,.agg #[i6 af.Lo,i6 af.Hi]]) (caps:=[]) en_12 rfl rfl rfl rfl (fun w hc=>aG8 a1 af hc rfl)) fun a hf=>qE hf rfl rfl rfl (Pu.ev (pNot rfl)) fun a hf=>qE hf rfl rfl rfl (Pu.ev (pM rfl)) fun a hf=>qCut 12 (fun a=>Has 283 a [(25,.slice bp I.1.length bq),(27,.slice (some ⟨cc,0,none⟩) M.1.length a2),(31,i6 most),(201,.slice (some ⟨g,0,none⟩) V.1.length bc),(202,i6 ((V.1.length:Nat):Int)),(203,i6 ag),(32,i6 ag),(33,i6 a1),(208,i6 a1),(209,.slice (some ⟨cc,0,none⟩) M.1.length a2),(210,i6 ag),(211,.pointer (some ⟨cc,ag.toNat * 2,none⟩)),(212,.agg #[i6 af.Lo,i6 af.Hi]),(213,.bool (lX a1 af)),(214,.bool (!(lX a1 af))),(215,.bool (!(lX a1 af))),(227,.bool c9)]) ?_ ?_
    ·cases hb:(!(lX a1 af))
     ·rw [hb] at hf
      have hF:=nU hb du
      obtain ⟨ng,iy,hF⟩:=aC hF
      obtain ⟨ir,g9⟩:=jX hc m1 iy
      obtain ⟨mt,g8,hF⟩:=aC hF
      have a4:=hf
      obtain ⟨nc,rfl,jg,jc⟩:=iJ hc m2 g8
      have hf:=a4
      refine qE hf rfl rfl rfl (Pu.ev (pM rfl)) fun a hf=>qE hf rfl rfl rfl (Pu.ev (pM rfl)) fun a hf=>qE hf rfl rfl rfl (Pu.ev (pIA Tryz.underlying35 fS rfl rfl ir)) fun a hf=>qE hf rfl rfl rfl (Pu.ev (pFA iH rfl)) fun a hf=>qE hf rfl rfl rfl (cV aX rfl (eI (sz:=2) (i:=ag.toNat) (j:=0) m1 g9 rfl)) fun a hf=>qE hf rfl rfl rfl (Pu.ev (pM rfl)) fun a hf=>qE hf rfl rfl rfl (Pu.ev (pM rfl)) fun a hf=>qE hf rfl rfl rfl (Pu.ev (pIA Tryz.underlying35 fS rfl rfl jg)) fun a hf=>qE hf rfl rfl rfl (Pu.ev (pFA iH rfl)) fun a hf=>qE hf rfl rfl rfl (cV aX rfl (eI (sz:=2) (i:=ag.toNat) (j:=0) m2 jc rfl)) fun a hf=>qE hf rfl rfl rfl (Pu.ev (pLt rfl rfl)) fun a hf=>qE hf rfl rfl rfl (Pu.ev (pPf rfl rfl)) fun a hf=>?_
      obtain rfl:=sj hF
      exact qNil (hf.kp rfl)
     ·rw [hb] at hf
      have hF:=gI hb du
      obtain rfl:=sj hF
      refine qS hf rfl rfl rfl fun a hf=>qS hf rfl rfl rfl fun a hf=>qS hf rfl rfl rfl fun a hf=>qS hf rfl rfl rfl fun a hf=>qS hf rfl rfl rfl fun a hf=>qS hf rfl rfl rfl fun a hf=>qS hf rfl rfl rfl fun a hf=>qS hf rfl rfl rfl fun a hf=>qS hf rfl rfl rfl fun a hf=>qS hf rfl rfl rfl fun a hf=>qS hf rfl rfl rfl fun a hf=>qE hf rfl rfl rfl (Pu.ev (pPt rfl rfl)) fun a hf=>qNil (hf.kp rfl)
    intro a hf
    refine qE hf rfl rfl rfl (Pu.ev (pM rfl)) fun a hf=>qCut 12 (fun a=>Has 283 a [(25,.slice bp I.1.length bq),(27,.slice (some ⟨cc,0,none⟩) M.1.length a2),(31,i6 most),(201,.slice (some ⟨g,0,none⟩) V.1.length bc),(202,i6 ((V.1.length:Nat):Int)),(203,i6 ag),(32,i6 ag),(33,i6 a1),(208,i6 a1),(209,.slice (some ⟨cc,0,none⟩) M.1.length a2),(210,i6 ag),(211,.pointer (some ⟨cc,ag.toNat * 2,none⟩)),(212,.agg #[i6 af.Lo,i6 af.Hi]),(213,.bool (lX a1 af)),(214,.bool (!(lX a1 af))),(215,.bool (!(lX a1 af))),(227,.bool c9),(228,.bool c9),(240,.bool ks)]) ?_ ?_
    ·cases hb:c9
     ·rw [hb] at hf
      have hF:=nU hb di
      obtain ⟨mv,ja,hF⟩:=aC hF
      obtain ⟨jx,i4⟩:=jX hc m1 ja
      obtain ⟨mx,i7,hF⟩:=aC hF
      have a4:=hf
      obtain ⟨nb,rfl,ji,gz⟩:=iJ hc m2 i7
      have hf:=a4
      refine qE hf rfl rfl rfl (Pu.ev (pM rfl)) fun a hf=>qE hf rfl rfl rfl (Pu.ev (pM rfl)) fun a hf=>qE hf rfl rfl rfl (Pu.ev (pIA Tryz.underlying35 fS rfl rfl jx)) fun a hf=>qE hf rfl rfl rfl (Pu.ev (pFA fQ rfl)) fun a hf=>qE hf rfl rfl rfl (cV aX rfl (eI (sz:=2) (i:=ag.toNat) (j:=1) m1 i4 rfl)) fun a hf=>qE hf rfl rfl rfl (Pu.ev (pM rfl)) fun a hf=>qE hf rfl rfl rfl (Pu.ev (pM rfl)) fun a hf=>qE hf rfl rfl rfl (Pu.ev (pIA Tryz.underlying35 fS rfl rfl ji)) fun a hf=>qE hf rfl rfl rfl (Pu.ev (pFA fQ rfl)) fun a hf=>qE hf rfl rfl rfl (cV aX rfl (eI (sz:=2) (i:=ag.toNat) (j:=1) m2 gz rfl)) fun a hf=>qE hf rfl rfl rfl (Pu.ev (pGt rfl rfl)) fun a hf=>qE hf rfl rfl rfl (Pu.ev (pPf rfl rfl)) fun a hf=>?_
      obtain rfl:=sj hF
      exact qNil (hf.kp rfl)
     ·rw [hb] at hf
      have hF:=gI hb di
      obtain rfl:=sj hF
      refine qS hf rfl rfl rfl fun a hf=>qS hf rfl rfl rfl fun a hf=>qS hf rfl rfl rfl fun a hf=>qS hf rfl rfl rfl fun a hf=>qS hf rfl rfl rfl fun a hf=>qS hf rfl rfl rfl fun a hf=>qS hf rfl rfl rfl fun a hf=>qS hf rfl rfl rfl fun a hf=>qS hf rfl rfl rfl fun a hf=>qS hf rfl rfl rfl fun a hf=>qS hf rfl rfl rfl fun a hf=>qE hf rfl rfl rfl (Pu.ev (pPt rfl rfl)) fun a hf=>qNil (hf.kp rfl)
    intro a hf
    intro w hc
    refine j6 _ _ ?_
    refine zI hf rfl hF ?_ ?_ <;> clear hF <;> intro hF
    ·refine zS fun K h=>sp 1 hf rfl fun a hf=>zT h ?_
     refine wp_ret ?_
     refine aU ?_
     refine cI ?_
     refine aU ?_
     refine aU ?_
     have he:=sj hF
     rw [← he] at br
     replace hF:=jj _ br
     refine cI ?_
     refine aU ?_
     obtain rfl:=hF
     replace hc:=((hc.drop k2).drop k1).drop k0
     exact zO1 Tryz.results3 hf rfl ⟨rfl,hc⟩
    ·refine wp_skip ?_
     refine j1 _ _ ?_
     refine cX ?_
     refine sp 3 hf rfl fun a hf=>?_
     obtain ⟨j3,iz,hF⟩:=aC hF
     obtain ⟨i3,iv⟩:=jX hc m1 iz
     refine zP hf rfl (pIA Tryz.underlying35 fS rfl rfl i3) fun a hf=>zP hf rfl (pFA fQ rfl) fun a hf=>zE hf hc rfl (cV aX rfl (eI (sz:=2) (i:=ag.toNat) (j:=1) m1 iv rfl)) fun a w hf hc=>zP hf rfl (aAk rfl rfl) fun a hf=>sp 1 hf rfl fun a hf=>aQ ?_
     refine km _ _ ?_
     refine cX ?_
     refine sp 2 hf rfl fun a hf=>aQ ?_
     exact jf (max most j3.Hi,W (ag + 1)) _ _ (sj hF).symm ⟨(some ⟨cc,0,none⟩),a2,(some ⟨g,0,none⟩),bc,hf.kp rfl,hc⟩
   ·refine wp_exit ?_
    refine bI ?_
    refine bI ?_
    have he:=sj hF
    rw [← he] at br
    refine fB ?_
    exact g0 _ _ _ br ⟨b2,a2,b3,bc,hf.kp rfl,hc⟩
 have kr:∀ r,x8=.out r→r=cz:=by
  rintro r rfl
  exact sj hF
 replace hc:=hc.nilRow 51 5
 replace hc:=hc.nilRow 51 5
 replace hc:=hc.nilRow 53 2
 replace hc:=(((hc.drop k9).drop k8).drop k7).drop k4
 refine dQ N (dP (S:=S8) (x:=x8) ?_ N (([]:List aI),([]:List aI),([]:List aR),0,a7.2.1,a7.2.2) _ _ ⟨none,0,none,0,none,0,hf.kp rfl,hc⟩ jy)
 clear hF hf hc
 rintro ⟨Y,J,B,x,gv,gx⟩ j7 a w KB8 ⟨a8,a9,ar,aq,s,t,hf,hc⟩ hF b0 ky
 unfold kF at hF
 refine zS fun K h=>sp 1 hf rfl fun a hf=>zT h ?_
 refine wp_seq_k fun K36 kt=>zI hf rfl hF ?_ ?_ <;> clear hF <;> intro hF
 ·refine wp_skip ?_
  refine kt _ _ ?_
  refine wp_seq_k fun K37 ma=>?_
  have c5:∀ (bg:List aI) (av:List aI) (a3:List aR) (db:Int) (c6:Int) (cu:Option Addr) (cr:Nat) (ct:Option Addr) (cq:Nat) (cx:Option Addr) (cn:Nat) a w,Has 283 a [(2,.int .u8 up),(3,.int .u8 O),(9,pq ab),(10,pq ad),(14,.slice cu bg.length cr),(15,.slice ct av.length cq),(16,.slice cx a3.length cn),(47,i6 a7.1),(48,i6 x)]→Ctx G (.box ab [.slice k X.length m,i6 db,i6 c6] 66::.row cx cn (a3.map bY) 53 2::.row ct cq (av.map aZ) 51 5::.row cu cr (bg.map aZ) 51 5::.box ad [.slice ap q.1.Table.length an,i6 q.1.Credit] 27::.row ap an (q.1.Table.map bK) 69 2::Lf) w→jK N x bg av a3 db c6=some j7→K37 a w:=by
   repeat (clear hF)
   repeat (clear hc)
   repeat (clear hf)
   intro bg av a3 db c6 cu cr ct cq cx cn a w hf hc hF
   unfold jK at hF
   refine ma _ _ ?_
   refine cX ?_
   refine sp 2 hf rfl fun a hf=>aQ ?_
   replace hc:=(((hc.pick k0).pick k3).pick k3).pick k3
   exact ky (bg,av,a3,W (x + 1),db,c6) _ _ (sj hF).symm ⟨cu,cr,ct,cq,cx,cn,hf.kp rfl,hc⟩
  refine wp_block ?_
  refine zS fun K h=>sp 1 hf rfl fun a hf=>?_
  obtain ⟨D,d0,hF⟩:=aC hF
  refine zC hf en_7 rfl (aEo (⟨X,gv,gx⟩:aV) 5 bb (hc.pick k3) d0) ?_
  rintro _ w ⟨cp,cm,ms,bu,mn,y,am,aj,rfl,hc⟩
  refine ⟨_,rfl,fun a hf=>?_⟩
  refine sp 3 hf rfl fun a hf=>zA hf hc aK5 rfl fun b8 a w hf hc=>zA hf hc aHm rfl fun au a w hf hc=>zW hf hc aOl u1 rfl fun w hc=>zW hf hc aIz u0 rfl fun w hc=>zT h ?_
  refine wp_seq_k fun K39 j5=>cX ?_
  refine zN hf hc aBg m1 rfl fun a w hf hc=>?_
  obtain ⟨H,gq,hF⟩:=aC hF
  obtain ⟨G1,b6,ay,hc,az⟩:=lend hc k2
  obtain ⟨G2,bm,bk,hc,bn⟩:=lend hc k2
  refine zC hf en_8 rfl (aA3 D.1 (ay.mono bm) bk hc gq) ?_
  rintro _ w ⟨bt,ax,mq,mj,rfl,hc⟩
  refine ⟨_,rfl,fun a hf=>?_⟩
  replace hc:=bn _ _ hc
  replace hc:=az _ _ hc
  refine sp 7 hf rfl fun a hf=>aQ ?_
  replace hc:=hc.drop k3
  refine j5 _ _ ?_
  refine wp_seq_k fun K40 kv=>zS fun K h=>sp 3 hf rfl fun a hf=>fL 7 (fun a=>Has 283 a [(2,.int .u8 up),(3,.int .u8 O),(9,pq ab),(10,pq ad),(14,.slice a8 Y.length a9),(15,.slice ar J.length aq),(16,.slice s B.length t),(47,i6 a7.1),(48,i6 x),(17,pq b8),(18,pq au),(19,.slice bt H.1.length ax),(21,i6 H.2.2),(61,i6 H.2.2),(62,.bool (H.2.2 != 0)),(63,.bool (H.2.2 != 0)),(70,.bool ((H.2.2 != 0) || (((H.1.length:Nat):Int) != ((D.1.Reaches.length:Nat):Int))))]) hc ?_ ?_
  ·cases hb:(H.2.2 != 0)
   ·rw [hb] at hf
    refine sp 1 hf rfl fun a hf=>zP hf rfl (cP Tryz.underlying35 rfl) fun a hf=>zP hf rfl (pFA rA rfl) fun a hf=>zL hf hc yX m4 rfl fun a w hf hc=>zP hf rfl (cP Tryz.underlying36 rfl) fun a hf=>sp 2 hf rfl fun a hf=>aQ ⟨hf.kp rfl,hc⟩
   ·rw [hb] at hf
    refine stS hf rfl rfl rfl fun a hf=>stS hf rfl rfl rfl fun a hf=>stS hf rfl rfl rfl fun a hf=>stS hf rfl rfl rfl fun a hf=>stS hf rfl rfl rfl fun a hf=>stS hf rfl rfl rfl fun a hf=>sp 1 hf rfl fun a hf=>aQ ⟨hf.kp rfl,hc⟩
  intro a w ⟨hf,hc⟩
  refine zT h ?_
  refine zI hf rfl hF ?_ ?_ <;> clear hF <;> intro hF
  ·refine wp_seq_k fun K42 kj=>cX ?_
   refine sp 1 hf rfl fun a hf=>aQ ?_
   replace hc:=((((((((((((hc.drop k12).drop k11).drop k10).drop k9).drop k8).drop k7).drop k6).drop k5).drop k4).drop k3).drop k2).drop k1).drop k0
   refine kj _ _ ?_
   refine wp_ret ?_
   refine aU ?_
   refine cI ?_
   refine aU ?_
   refine aU ?_
   have he:=sj hF
   rw [← he] at b0
   replace hF:=kr _ b0
   refine cI ?_
   refine aU ?_
   obtain rfl:=hF
   exact zO1 Tryz.results3 hf rfl ⟨rfl,hc⟩
  ·refine wp_skip ?_
   refine kv _ _ ?_
   refine wp_seq_k fun K43 ku=>zS fun K h=>sp 1 hf rfl fun a hf=>zP hf rfl (cP Tryz.underlying35 rfl) fun a hf=>sp 1 hf rfl fun a hf=>zT h ?_
   refine zI hf rfl hF ?_ ?_ <;> clear hF <;> intro hF
   ·refine wp_exit ?_
    refine bI ?_
    refine fB ?_
    replace hc:=((((((hc.drop k6).drop k5).drop k4).drop k3).drop k2).drop k1).drop k0
    exact c5 Y J B D.2.2.1 D.2.2.2 a8 a9 ar aq s t _ _  (hf.kp rfl) hc hF
   ·refine wp_skip ?_
    refine ku _ _ ?_
    refine wp_seq_k fun K45 kf=>?_
    obtain ⟨mk,gr,hF⟩:=aC hF
    obtain ⟨mg,gb,hF⟩:=aC hF
    refine cQ hc aT (by kernel_rfl) ?_
    refine qE hf rfl rfl rfl (Pu.ev (pM rfl)) fun a hf=>qE hf rfl rfl rfl (Pu.ev (pCv Tryz.underlying5 Tryz.underlying3 rfl)) fun a hf=>qE hf rfl rfl rfl (Pu.ev (pM rfl)) fun a hf=>qE hf rfl rfl rfl (Pu.ev (cP Tryz.underlying35 rfl)) fun a hf=>qE hf rfl rfl rfl (Pu.ev (aKp rfl rfl (tV gr))) fun a hf=>qE hf rfl rfl rfl (Pu.ev (pM rfl)) fun a hf=>qE hf rfl rfl rfl (Pu.ev (pCv Tryz.underlying5 Tryz.underlying3 rfl)) fun a hf=>qE hf rfl rfl rfl (Pu.ev (pM rfl)) fun a hf=>qE hf rfl rfl rfl (Pu.ev (cP Tryz.underlying35 rfl)) fun a hf=>qE hf rfl rfl rfl (Pu.ev (aKp rfl rfl (tV gb))) fun a hf=>qE hf rfl rfl rfl (Pu.ev (pA rfl)) fun a hf=>qE hf rfl rfl rfl (Pu.ev (pA rfl)) fun a hf=>?_
    intro w hc
    refine kf _ _ ?_
    refine wp_seq_k fun K46 mb=>zS fun K h=>zP hf rfl (pFA tY rfl) fun a hf=>zL hf hc uA m3 rfl fun a w hf hc=>sp 1 hf rfl fun a hf=>?_
    obtain ⟨c8,g1,hF⟩:=aC hF
    have a4:=hf
    obtain ⟨ac,rfl,ip,jp⟩:=iJ hc m5 g1
    have hf:=a4
    refine zP hf rfl (pIA Tryz.underlying39 fD rfl rfl ip) fun a hf=>zE hf hc rfl (cV aX rfl (eI (sz:=1) (i:=((W (up)).tmod ((H.1.length:Nat):Int)).toNat) (j:=0) m5 jp rfl)) fun a w hf hc=>sp 2 hf rfl fun a hf=>?_
    obtain ⟨kk,dd,hF⟩:=aC hF
    refine fL 7 (fun a=>Has 283 a [(2,.int .u8 up),(3,.int .u8 O),(9,pq ab),(10,pq ad),(14,.slice a8 Y.length a9),(15,.slice ar J.length aq),(16,.slice s B.length t),(47,i6 a7.1),(48,i6 x),(17,pq b8),(18,pq au),(19,.slice bt H.1.length ax),(22,i6 ((W (up)).tmod ((H.1.length:Nat):Int))),(23,i6 ((W (O)).tmod ((H.1.length:Nat):Int))),(84,pq au),(85,.slice (some ⟨ac,0,none⟩) D.2.1.Flows.length y),(86,i6 ((W (up)).tmod ((H.1.length:Nat):Int))),(87,.pointer (some ⟨ac,((W (up)).tmod ((H.1.length:Nat):Int)).toNat * 1,none⟩)),(88,i6 c8),(89,.bool (decide (c8 < 0))),(90,.bool (decide (c8 < 0))),(97,.bool kk)]) hc ?_ ?_
    ·cases hb:(decide (c8 < 0))
     ·rw [hb] at hf
      have hF:=nU hb dd
      refine zP hf rfl (pFA tY rfl) fun a hf=>zL hf hc uA m3 rfl fun a w hf hc=>sp 1 hf rfl fun a hf=>?_
      obtain ⟨m9,jk,hF⟩:=aC hF
      obtain ⟨i2,ia⟩:=jX hc m5 jk
      refine zP hf rfl (pIA Tryz.underlying39 fD rfl rfl i2) fun a hf=>zE hf hc rfl (cV aX rfl (eI (sz:=1) (i:=((W (O)).tmod ((H.1.length:Nat):Int)).toNat) (j:=0) m5 ia rfl)) fun a w hf hc=>sp 2 hf rfl fun a hf=>?_
      obtain rfl:=sj hF
      exact aQ ⟨hf.kp rfl,hc⟩
     ·rw [hb] at hf
      have hF:=gI hb dd
      obtain rfl:=sj hF
      refine stS hf rfl rfl rfl fun a hf=>stS hf rfl rfl rfl fun a hf=>stS hf rfl rfl rfl fun a hf=>stS hf rfl rfl rfl fun a hf=>stS hf rfl rfl rfl fun a hf=>stS hf rfl rfl rfl fun a hf=>sp 1 hf rfl fun a hf=>aQ ⟨hf.kp rfl,hc⟩
    intro a w ⟨hf,hc⟩
    refine zT h ?_
    refine zI hf rfl hF ?_ ?_ <;> clear hF <;> intro hF
    ·refine wp_exit ?_
     refine bI ?_
     refine fB ?_
     replace hc:=((((((hc.drop k6).drop k5).drop k4).drop k3).drop k2).drop k1).drop k0
     exact c5 Y J B D.2.2.1 D.2.2.2 a8 a9 ar aq s t _ _  (hf.kp rfl) hc hF
    ·refine wp_skip ?_
     refine mb _ _ ?_
     refine zS fun K h=>sp 1 hf rfl fun a hf=>zT h ?_
     refine wp_seq_k fun K49 kd=>?_
     obtain ⟨b9,dy,hF⟩:=aC hF
     have a4:=hf
     obtain ⟨bj,rfl,g4,i0⟩:=iJ hc m1 dy
     have hf:=a4
     obtain ⟨U,d1,hF⟩:=aC hF
     obtain ⟨cf,d3,hF⟩:=aC hF
     obtain ⟨d2,d7⟩:=jX hc m1 d3
     obtain ⟨R,dx,hF⟩:=aC hF
     obtain ⟨md,d4,hF⟩:=aC hF
     replace hc:=hc.nilRow 0 0
     refine cU (fun θ=>(⟨none,none,2,.int .u8 up⟩::⟨none,none,3,.int .u8 O⟩::⟨none,none,9,pq ab⟩::⟨none,none,10,pq ad⟩::⟨none,some 20,14,.slice a8 Y.length a9⟩::⟨none,none,15,.slice ar J.length aq⟩::⟨none,none,16,.slice s B.length t⟩::⟨none,none,17,pq b8⟩::⟨none,none,18,pq au⟩::⟨none,none,19,.slice bt H.1.length ax⟩::⟨none,none,22,i6 ((W (up)).tmod ((H.1.length:Nat):Int))⟩::⟨none,none,23,i6 ((W (O)).tmod ((H.1.length:Nat):Int))⟩::⟨none,none,24,.func (.func 9) #[] #[]⟩::⟨none,none,47,i6 a7.1⟩::⟨none,none,48,i6 x⟩::⟨some 0,none,98,.slice a8 Y.length a9⟩::⟨some 1,none,99,.func (.func 9) #[] #[]⟩::⟨some 2,none,100,.pointer (some ⟨b8,1,none⟩)⟩::⟨some 3,none,101,.slice (some ⟨bj,0,none⟩) D.1.Reaches.length bu⟩::⟨some 4,none,102,i6 ((W (up)).tmod ((H.1.length:Nat):Int))⟩::⟨some 5,none,103,.pointer (some ⟨bj,((W (up)).tmod ((H.1.length:Nat):Int)).toNat * 4,none⟩)⟩::⟨some 6,none,104,.pointer (some ⟨bj,((W (up)).tmod ((H.1.length:Nat):Int)).toNat * 4 + 2,none⟩)⟩::⟨some 7,none,105,.agg #[i6 b9.Flow.Lo,i6 b9.Flow.Hi]⟩::⟨some 8,none,106,.agg #[i6 U.Lo,i6 U.Hi]⟩::⟨some 9,none,107,.func (.func 9) #[] #[]⟩::⟨some 10,none,108,.pointer (some ⟨b8,1,none⟩)⟩::⟨some 11,none,109,.slice (some ⟨bj,0,none⟩) D.1.Reaches.length bu⟩::⟨some 12,none,110,i6 ((W (O)).tmod ((H.1.length:Nat):Int))⟩::⟨some 13,none,111,.pointer (some ⟨bj,((W (O)).tmod ((H.1.length:Nat):Int)).toNat * 4,none⟩)⟩::⟨some 14,none,112,.pointer (some ⟨bj,((W (O)).tmod ((H.1.length:Nat):Int)).toNat * 4 + 2,none⟩)⟩::⟨some 15,none,113,.agg #[i6 cf.Flow.Lo,i6 cf.Flow.Hi]⟩::⟨some 16,none,114,.agg #[i6 R.Lo,i6 R.Hi]⟩::⟨some 17,none,115,.agg #[i6 U.Lo,i6 U.Hi,i6 R.Lo,i6 R.Hi,.bool false]⟩::⟨some 18,none,116,.slice (some ⟨(θ 144).b,0,none⟩) 1 1⟩::⟨some 19,none,117,.slice ((θ 152).p) ((Y++[(⟨U,R,false⟩:aI)]).length) ((θ 152).c)⟩::⟨some 20,none,14,.slice ((θ 152).p) ((Y++[(⟨U,R,false⟩:aI)]).length) ((θ 152).c)⟩::[])) (fun E θ=>(bif E 18 then .row (some ⟨(θ 144).b,0,none⟩) 1 (([(⟨U,R,false⟩:aI)]:List aI).map aZ) 51 5 else .row none 0 [] 0 0)::.row cp cm (D.1.Gains.map aJ) 29 2::.row (some ⟨bj,0,none⟩) bu (D.1.Reaches.map bH) 49 4::.row bt ax (H.1.map aJ) 29 2::.box au [.slice (some ⟨ac,0,none⟩) D.2.1.Flows.length y,.slice am D.2.1.Gains.length aj] 41::.box b8 [.slice cp D.1.Gains.length cm,.slice (some ⟨bj,0,none⟩) D.1.Reaches.length bu] 38::.row (some ⟨ac,0,none⟩) y (D.2.1.Flows.map aD) 3 1::.row am aj (D.2.1.Gains.map aD) 3 1::.box ab [.slice k X.length m,i6 D.2.2.1,i6 D.2.2.2] 66::.row s t (B.map bY) 53 2::.row ar aq (J.map aZ) 51 5::(bif E 19 then .row ((θ 152).p) ((θ 152).c) ((Y++[(⟨U,R,false⟩:aI)]).map aZ) 51 5 else .row a8 a9 (Y.map aZ) 51 5)::.box ad [.slice ap q.1.Table.length an,i6 q.1.Credit] 27::.row ap an (q.1.Table.map bK) 69 2::Lf) [(20,0),(20,19)] (fun a w=>∃ (ai:Option Addr) (ak:Nat) (dg:Nat),Has 283 a [(2,.int .u8 up),(3,.int .u8 O),(9,pq ab),(10,pq ad),(15,.slice ar J.length aq),(16,.slice s B.length t),(18,pq au),(19,.slice bt H.1.length ax),(22,i6 ((W (up)).tmod ((H.1.length:Nat):Int))),(23,i6 ((W (O)).tmod ((H.1.length:Nat):Int))),(24,.func (.func 9) #[] #[]),(47,i6 a7.1),(48,i6 x),(14,.slice ai ((Y++[(⟨U,R,false⟩:aI)]).length) ak)]∧Ctx G (.row (some ⟨dg,0,none⟩) 1 (([(⟨U,R,false⟩:aI)]:List aI).map aZ) 51 5::.row cp cm (D.1.Gains.map aJ) 29 2::.row (some ⟨bj,0,none⟩) bu (D.1.Reaches.map bH) 49 4::.row bt ax (H.1.map aJ) 29 2::.box au [.slice (some ⟨ac,0,none⟩) D.2.1.Flows.length y,.slice am D.2.1.Gains.length aj] 41::.box b8 [.slice cp D.1.Gains.length cm,.slice (some ⟨bj,0,none⟩) D.1.Reaches.length bu] 38::.row (some ⟨ac,0,none⟩) y (D.2.1.Flows.map aD) 3 1::.row am aj (D.2.1.Gains.map aD) 3 1::.box ab [.slice k X.length m,i6 D.2.2.1,i6 D.2.2.2] 66::.row s t (B.map bY) 53 2::.row ar aq (J.map aZ) 51 5::.row ai ak ((Y++[(⟨U,R,false⟩:aI)]).map aZ) 51 5::.box ad [.slice ap q.1.Table.length an,i6 q.1.Credit] 27::.row ap an (q.1.Table.map bK) 69 2::Lf) w) aT (by kernel_rfl) (by kernel_rfl) (dL.of hf ⟨rfl,rfl,rfl,rfl,rfl,rfl,rfl,rfl,rfl,rfl,rfl,rfl,rfl,rfl,rfl,trivial,trivial,trivial,trivial,trivial,trivial,trivial,trivial,trivial,trivial,trivial,trivial,trivial,trivial,trivial,trivial,trivial,trivial,trivial,trivial,trivial,trivial⟩) hc ⟨?_,?_,?_,?_,?_,?_,?_,?_,?_,?_,?_,?_,?_,?_,?_,?_,?_,?_,?_,?_,?_,trivial⟩ ?_ ?_
     ·intro E θ a w hD hi hp he hc
      have c3:=hD.f 0 rfl hi
      have hf:=he.h0.mN he 4 rfl c3
      refine sp 1 hf rfl fun a hf=>zD θ he hi hf 15 rfl rfl rfl hc
     ·intro E θ a w hD hi hp he hc
      have hf:=he.h0.mT he 12 rfl
      refine sp 1 hf rfl fun a hf=>zD θ he hi hf 16 rfl rfl rfl hc
     ·intro E θ a w hD hi hp he hc
      have hf:=he.h0.mT he 7 rfl
      refine zP hf rfl (pFA rA rfl) fun a hf=>zD θ he hi hf 17 rfl rfl rfl hc
     ·intro E θ a w hD hi hp he hc
      have e2:=hp.o 2 rfl
      have hf:=he.h0.mP he 17 rfl e2
      refine zL hf hc yX m5 rfl fun a w hf hc=>zD θ he hi hf 18 rfl rfl rfl hc
     ·intro E θ a w hD hi hp he hc
      have hf:=he.h0.mT he 10 rfl
      refine sp 1 hf rfl fun a hf=>zD θ he hi hf 19 rfl rfl rfl hc
     ·intro E θ a w hD hi hp he hc
      have e3:=hp.o 3 rfl
      have e4:=hp.o 4 rfl
      have hf:=(he.h0.mP he 18 rfl e3).mP he 19 rfl e4
      refine zP hf rfl (pIA Tryz.underlying36 zY rfl rfl g4) fun a hf=>zD θ he hi hf 20 rfl rfl rfl hc
     ·intro E θ a w hD hi hp he hc
      have e5:=hp.o 5 rfl
      have hf:=he.h0.mP he 20 rfl e5
      refine zP hf rfl (pFA yB rfl) fun a hf=>zD θ he hi hf 21 rfl rfl rfl hc
     ·intro E θ a w hD hi hp he hc
      have e6:=hp.o 6 rfl
      have hf:=he.h0.mP he 21 rfl e6
      refine zE hf hc rfl (kK (vs:=[i6 b9.Flow.Lo,i6 b9.Flow.Hi]) eY rfl rfl (pP (sz:=4) (i:=((W (up)).tmod ((H.1.length:Nat):Int)).toNat) m2 i0 (n:=2) (o':=2) rfl)) fun a w hf hc=>zD θ he hi hf 22 rfl rfl rfl hc
     ·intro E θ a w hD hi hp he hc
      have e1:=hp.o 1 rfl
      have e7:=hp.o 7 rfl
      have hf:=(he.h0.mP he 16 rfl e1).mP he 22 rfl e7
      refine zQ (v:=.agg #[i6 U.Lo,i6 U.Hi]) hf hc en_9 rfl (fun w hc=>oG b9.Flow hc d1) fun a w hf hc=>zD θ he hi hf 23 rfl rfl rfl hc
     ·intro E θ a w hD hi hp he hc
      have hf:=he.h0.mT he 12 rfl
      refine sp 1 hf rfl fun a hf=>zD θ he hi hf 24 rfl rfl rfl hc
     ·intro E θ a w hD hi hp he hc
      have hf:=he.h0.mT he 7 rfl
      refine zP hf rfl (pFA rA rfl) fun a hf=>zD θ he hi hf 25 rfl rfl rfl hc
     ·intro E θ a w hD hi hp he hc
      have c2:=hp.o 10 rfl
      have hf:=he.h0.mP he 25 rfl c2
      refine zL hf hc yX m5 rfl fun a w hf hc=>zD θ he hi hf 26 rfl rfl rfl hc
     ·intro E θ a w hD hi hp he hc
      have hf:=he.h0.mT he 11 rfl
      refine sp 1 hf rfl fun a hf=>zD θ he hi hf 27 rfl rfl rfl hc
     ·intro E θ a w hD hi hp he hc
      have c0:=hp.o 11 rfl
      have bs:=hp.o 12 rfl
      have hf:=(he.h0.mP he 26 rfl c0).mP he 27 rfl bs
      refine zP hf rfl (pIA Tryz.underlying36 zY rfl rfl d2) fun a hf=>zD θ he hi hf 28 rfl rfl rfl hc
     ·intro E θ a w hD hi hp he hc
      have b7:=hp.o 13 rfl
      have hf:=he.h0.mP he 28 rfl b7
      refine zP hf rfl (pFA yB rfl) fun a hf=>zD θ he hi hf 29 rfl rfl rfl hc
     ·intro E θ a w hD hi hp he hc
      have a5:=hp.o 14 rfl
      have hf:=he.h0.mP he 29 rfl a5
      refine zE hf hc rfl (kK (vs:=[i6 cf.Flow.Lo,i6 cf.Flow.Hi]) eY rfl rfl (pP (sz:=4) (i:=((W (O)).tmod ((H.1.length:Nat):Int)).toNat) m2 d7 (n:=2) (o':=2) rfl)) fun a w hf hc=>zD θ he hi hf 30 rfl rfl rfl hc
     ·intro E θ a w hD hi hp he hc
      have e9:=hp.o 9 rfl
      have c1:=hp.o 15 rfl
      have hf:=(he.h0.mP he 24 rfl e9).mP he 30 rfl c1
      refine zQ (v:=.agg #[i6 R.Lo,i6 R.Hi]) hf hc en_9 rfl (fun w hc=>oG cf.Flow hc dx) fun a w hf hc=>zD θ he hi hf 31 rfl rfl rfl hc
     ·intro E θ a w hD hi hp he hc
      have e8:=hp.o 8 rfl
      have b1:=hp.o 16 rfl
      have hf:=(he.h0.mP he 23 rfl e8).mP he 31 rfl b1
      refine zP hf rfl (bJ (cells:=[i6 U.Lo,i6 U.Hi,i6 R.Lo,i6 R.Hi,.bool false]) aLx rfl rfl) fun a hf=>zD θ he hi hf 32 rfl rfl rfl hc
     ·intro E θ a w hD hi hp he hc
      have kc:=hp.o 17 rfl
      try dsimp only at hc
      rw [hi] at hc
      have hf:=he.h0.mP he 32 rfl kc
      refine oJ (rows:=([(⟨U,R,false⟩:aI)]:List aI).map aZ) (vs:=[(0,.agg #[i6 U.Lo,i6 U.Hi,i6 R.Lo,i6 R.Hi,.bool false])]) hf hc rfl rfl aE7 rfl ⟨rfl,rfl,rfl,trivial⟩ rfl rfl fun kg a w hf hc=>aQ ?_
      refine bV ?_
      intro ds u bi
      replace hc:=hc.drop k1
      refine ⟨(hZ θ 144 ⟨kg,none,0,(fun _=>(none,0))⟩),he.put hi bi hf rfl [] trivial ⟨qq,qq,qq,qq,qq,qq,qq,qq,qq,qq,qq,qq,qq,qq,qq,qq,qq,qq,qq,qq,qq,qq,qq,qq,qq,qq,qq,qq,qq,qq,qq,qq,qq,qq,qq,qq,trivial⟩,?_⟩
      try dsimp only
      rw [aN E 18]
      exact hc
     ·intro E θ a w hD hi hp he hc
      have e0:=hp.o 0 rfl
      have cy:=hp.o 18 rfl
      have c3:=hD.f 1 rfl hi
      try dsimp only at hc
      rw [cy,hi] at hc
      have hf:=(he.h0.mP he 15 rfl e0).mP he 33 rfl cy
      refine lO (xs:=Y) (ys:=([(⟨U,R,false⟩:aI)]:List aI)) hf hc rfl rfl aE7 rfl rfl rfl rfl rfl pC (fM hc m0) (fun _ _=>u11) (by simpa using dB d4) fun jm jr a w hf hc=>aQ ?_
      refine bV ?_
      intro ds u bi
      refine ⟨(hZ θ 152 ⟨0,jm,jr,(fun _=>(none,0))⟩),he.put hi bi hf rfl [20] ⟨⟨c3,rfl⟩,trivial⟩ ⟨qq,qq,qq,qq,qq,qq,qq,qq,qq,qq,qq,qq,qq,qq,qq,qq,qq,qq,qq,qq,qq,qq,qq,qq,qq,qq,qq,qq,qq,qq,qq,qq,qq,qq,qq,trivial,trivial⟩,?_⟩
      try dsimp only
      rw [cB 19 cy,aN E 19]
      exact hc
     ·intro E θ a w hD hi hp he hc
      have dr:=hp.o 19 rfl
      have hf:=he.h0.mP he 34 rfl dr
      refine sp 1 hf rfl fun a hf=>zD θ he hi hf 35 rfl rfl rfl hc
     ·intro E θ a w a0 he hc
      have hf:=he.h0
      have cy:=a0 18 rfl
      have dr:=a0 19 rfl
      have c3:=a0 20 rfl
      replace hf:=hf.more he 35 rfl (onP c3)
      replace hf:=hf.more he 14 rfl (onT)
      replace hf:=hf.more he 13 rfl (onT)
      replace hf:=hf.more he 12 rfl (onT)
      replace hf:=hf.more he 11 rfl (onT)
      replace hf:=hf.more he 10 rfl (onT)
      replace hf:=hf.more he 9 rfl (onT)
      replace hf:=hf.more he 8 rfl (onT)
      replace hf:=hf.more he 6 rfl (onT)
      replace hf:=hf.more he 5 rfl (onT)
      replace hf:=hf.more he 3 rfl (onT)
      replace hf:=hf.more he 2 rfl (onT)
      replace hf:=hf.more he 1 rfl (onT)
      replace hf:=hf.more he 0 rfl (onT)
      try dsimp only at hc
      rw [cy,dr] at hc
      exact ⟨(θ 152).p,(θ 152).c,(θ 144).b,hf.kp rfl,hc⟩
     rintro a w ⟨ai,ak,dg,hf,hc⟩
     replace hc:=(((hc.drop k5).drop k2).drop k1).drop k0
     refine kd _ _ ?_
     refine wp_seq_k fun K50 j9=>?_
     obtain ⟨b5,d9,hF⟩:=aC hF
     have a4:=hf
     obtain ⟨cb,rfl,gd,gk⟩:=iJ hc m0 d9
     have hf:=a4
     obtain ⟨d,d5,hF⟩:=aC hF
     obtain ⟨cd,gn,hF⟩:=aC hF
     obtain ⟨gf,dv⟩:=jX hc m0 gn
     obtain ⟨Z,gg,hF⟩:=aC hF
     obtain ⟨mc,d8,hF⟩:=aC hF
     replace hc:=hc.nilRow 0 0
     refine cU (fun θ=>(⟨none,none,2,.int .u8 up⟩::⟨none,none,3,.int .u8 O⟩::⟨none,none,9,pq ab⟩::⟨none,none,10,pq ad⟩::⟨none,none,14,.slice ai ((Y++[(⟨U,R,false⟩:aI)]).length) ak⟩::⟨none,some 16,15,.slice ar J.length aq⟩::⟨none,none,16,.slice s B.length t⟩::⟨none,none,18,pq au⟩::⟨none,none,19,.slice (some ⟨cb,0,none⟩) H.1.length ax⟩::⟨none,none,22,i6 ((W (up)).tmod ((H.1.length:Nat):Int))⟩::⟨none,none,23,i6 ((W (O)).tmod ((H.1.length:Nat):Int))⟩::⟨none,none,24,.func (.func 9) #[] #[]⟩::⟨none,none,47,i6 a7.1⟩::⟨none,none,48,i6 x⟩::⟨some 0,none,118,.slice ar J.length aq⟩::⟨some 1,none,119,.func (.func 9) #[] #[]⟩::⟨some 2,none,120,.slice (some ⟨cb,0,none⟩) H.1.length ax⟩::⟨some 3,none,121,i6 ((W (up)).tmod ((H.1.length:Nat):Int))⟩::⟨some 4,none,122,.pointer (some ⟨cb,((W (up)).tmod ((H.1.length:Nat):Int)).toNat * 2,none⟩)⟩::⟨some 5,none,123,.agg #[i6 b5.Lo,i6 b5.Hi]⟩::⟨some 6,none,124,.agg #[i6 d.Lo,i6 d.Hi]⟩::⟨some 7,none,125,.func (.func 9) #[] #[]⟩::⟨some 8,none,126,.slice (some ⟨cb,0,none⟩) H.1.length ax⟩::⟨some 9,none,127,i6 ((W (O)).tmod ((H.1.length:Nat):Int))⟩::⟨some 10,none,128,.pointer (some ⟨cb,((W (O)).tmod ((H.1.length:Nat):Int)).toNat * 2,none⟩)⟩::⟨some 11,none,129,.agg #[i6 cd.Lo,i6 cd.Hi]⟩::⟨some 12,none,130,.agg #[i6 Z.Lo,i6 Z.Hi]⟩::⟨some 13,none,131,.agg #[i6 d.Lo,i6 d.Hi,i6 Z.Lo,i6 Z.Hi,.bool false]⟩::⟨some 14,none,132,.slice (some ⟨(θ 112).b,0,none⟩) 1 1⟩::⟨some 15,none,133,.slice ((θ 120).p) ((J++[(⟨d,Z,false⟩:aI)]).length) ((θ 120).c)⟩::⟨some 16,none,15,.slice ((θ 120).p) ((J++[(⟨d,Z,false⟩:aI)]).length) ((θ 120).c)⟩::[])) (fun E θ=>(bif E 14 then .row (some ⟨(θ 112).b,0,none⟩) 1 (([(⟨d,Z,false⟩:aI)]:List aI).map aZ) 51 5 else .row none 0 [] 0 0)::.row (some ⟨cb,0,none⟩) ax (H.1.map aJ) 29 2::.box au [.slice (some ⟨ac,0,none⟩) D.2.1.Flows.length y,.slice am D.2.1.Gains.length aj] 41::.row (some ⟨ac,0,none⟩) y (D.2.1.Flows.map aD) 3 1::.row am aj (D.2.1.Gains.map aD) 3 1::.box ab [.slice k X.length m,i6 D.2.2.1,i6 D.2.2.2] 66::.row s t (B.map bY) 53 2::(bif E 15 then .row ((θ 120).p) ((θ 120).c) ((J++[(⟨d,Z,false⟩:aI)]).map aZ) 51 5 else .row ar aq (J.map aZ) 51 5)::.row ai ak ((Y++[(⟨U,R,false⟩:aI)]).map aZ) 51 5::.box ad [.slice ap q.1.Table.length an,i6 q.1.Credit] 27::.row ap an (q.1.Table.map bK) 69 2::Lf) [(16,0),(16,15)] (fun a w=>∃ (bf:Option Addr) (bd:Nat) (dn:Nat),Has 283 a [(2,.int .u8 up),(3,.int .u8 O),(9,pq ab),(10,pq ad),(14,.slice ai ((Y++[(⟨U,R,false⟩:aI)]).length) ak),(16,.slice s B.length t),(18,pq au),(22,i6 ((W (up)).tmod ((H.1.length:Nat):Int))),(23,i6 ((W (O)).tmod ((H.1.length:Nat):Int))),(47,i6 a7.1),(48,i6 x),(15,.slice bf ((J++[(⟨d,Z,false⟩:aI)]).length) bd)]∧Ctx G (.row (some ⟨dn,0,none⟩) 1 (([(⟨d,Z,false⟩:aI)]:List aI).map aZ) 51 5::.row (some ⟨cb,0,none⟩) ax (H.1.map aJ) 29 2::.box au [.slice (some ⟨ac,0,none⟩) D.2.1.Flows.length y,.slice am D.2.1.Gains.length aj] 41::.row (some ⟨ac,0,none⟩) y (D.2.1.Flows.map aD) 3 1::.row am aj (D.2.1.Gains.map aD) 3 1::.box ab [.slice k X.length m,i6 D.2.2.1,i6 D.2.2.2] 66::.row s t (B.map bY) 53 2::.row bf bd ((J++[(⟨d,Z,false⟩:aI)]).map aZ) 51 5::.row ai ak ((Y++[(⟨U,R,false⟩:aI)]).map aZ) 51 5::.box ad [.slice ap q.1.Table.length an,i6 q.1.Credit] 27::.row ap an (q.1.Table.map bK) 69 2::Lf) w) aT (by kernel_rfl) (by kernel_rfl) (dL.of hf ⟨rfl,rfl,rfl,rfl,rfl,rfl,rfl,rfl,rfl,rfl,rfl,rfl,rfl,rfl,trivial,trivial,trivial,trivial,trivial,trivial,trivial,trivial,trivial,trivial,trivial,trivial,trivial,trivial,trivial,trivial,trivial,trivial⟩) hc ⟨?_,?_,?_,?_,?_,?_,?_,?_,?_,?_,?_,?_,?_,?_,?_,?_,?_,trivial⟩ ?_ ?_
     ·intro E θ a w hD hi hp he hc
      have b1:=hD.f 0 rfl hi
      have hf:=he.h0.mN he 5 rfl b1
      refine sp 1 hf rfl fun a hf=>zD θ he hi hf 14 rfl rfl rfl hc
     ·intro E θ a w hD hi hp he hc
      have hf:=he.h0.mT he 11 rfl
      refine sp 1 hf rfl fun a hf=>zD θ he hi hf 15 rfl rfl rfl hc
     ·intro E θ a w hD hi hp he hc
      have hf:=he.h0.mT he 8 rfl
      refine sp 1 hf rfl fun a hf=>zD θ he hi hf 16 rfl rfl rfl hc
     ·intro E θ a w hD hi hp he hc
      have hf:=he.h0.mT he 9 rfl
      refine sp 1 hf rfl fun a hf=>zD θ he hi hf 17 rfl rfl rfl hc
     ·intro E θ a w hD hi hp he hc
      have e2:=hp.o 2 rfl
      have e3:=hp.o 3 rfl
      have hf:=(he.h0.mP he 16 rfl e2).mP he 17 rfl e3
      refine zP hf rfl (pIA Tryz.underlying35 fS rfl rfl gd) fun a hf=>zD θ he hi hf 18 rfl rfl rfl hc
     ·intro E θ a w hD hi hp he hc
      have e4:=hp.o 4 rfl
      have hf:=he.h0.mP he 18 rfl e4
      refine zE hf hc rfl (kK (vs:=[i6 b5.Lo,i6 b5.Hi]) eY rfl rfl (pP (sz:=2) (i:=((W (up)).tmod ((H.1.length:Nat):Int)).toNat) m1 gk (n:=2) (o':=0) rfl)) fun a w hf hc=>zD θ he hi hf 19 rfl rfl rfl hc
     ·intro E θ a w hD hi hp he hc
      have e1:=hp.o 1 rfl
      have e5:=hp.o 5 rfl
      have hf:=(he.h0.mP he 15 rfl e1).mP he 19 rfl e5
      refine zQ (v:=.agg #[i6 d.Lo,i6 d.Hi]) hf hc en_9 rfl (fun w hc=>oG b5 hc d5) fun a w hf hc=>zD θ he hi hf 20 rfl rfl rfl hc
     ·intro E θ a w hD hi hp he hc
      have hf:=he.h0.mT he 11 rfl
      refine sp 1 hf rfl fun a hf=>zD θ he hi hf 21 rfl rfl rfl hc
     ·intro E θ a w hD hi hp he hc
      have hf:=he.h0.mT he 8 rfl
      refine sp 1 hf rfl fun a hf=>zD θ he hi hf 22 rfl rfl rfl hc
     ·intro E θ a w hD hi hp he hc
      have hf:=he.h0.mT he 10 rfl
      refine sp 1 hf rfl fun a hf=>zD θ he hi hf 23 rfl rfl rfl hc
     ·intro E θ a w hD hi hp he hc
      have e8:=hp.o 8 rfl
      have e9:=hp.o 9 rfl
      have hf:=(he.h0.mP he 22 rfl e8).mP he 23 rfl e9
      refine zP hf rfl (pIA Tryz.underlying35 fS rfl rfl gf) fun a hf=>zD θ he hi hf 24 rfl rfl rfl hc
     ·intro E θ a w hD hi hp he hc
      have c2:=hp.o 10 rfl
      have hf:=he.h0.mP he 24 rfl c2
      refine zE hf hc rfl (kK (vs:=[i6 cd.Lo,i6 cd.Hi]) eY rfl rfl (pP (sz:=2) (i:=((W (O)).tmod ((H.1.length:Nat):Int)).toNat) m1 dv (n:=2) (o':=0) rfl)) fun a w hf hc=>zD θ he hi hf 25 rfl rfl rfl hc
     ·intro E θ a w hD hi hp he hc
      have e7:=hp.o 7 rfl
      have c0:=hp.o 11 rfl
      have hf:=(he.h0.mP he 21 rfl e7).mP he 25 rfl c0
      refine zQ (v:=.agg #[i6 Z.Lo,i6 Z.Hi]) hf hc en_9 rfl (fun w hc=>oG cd hc gg) fun a w hf hc=>zD θ he hi hf 26 rfl rfl rfl hc
     ·intro E θ a w hD hi hp he hc
      have e6:=hp.o 6 rfl
      have bs:=hp.o 12 rfl
      have hf:=(he.h0.mP he 20 rfl e6).mP he 26 rfl bs
      refine zP hf rfl (bJ (cells:=[i6 d.Lo,i6 d.Hi,i6 Z.Lo,i6 Z.Hi,.bool false]) aLx rfl rfl) fun a hf=>zD θ he hi hf 27 rfl rfl rfl hc
     ·intro E θ a w hD hi hp he hc
      have b7:=hp.o 13 rfl
      try dsimp only at hc
      rw [hi] at hc
      have hf:=he.h0.mP he 27 rfl b7
      refine oJ (rows:=([(⟨d,Z,false⟩:aI)]:List aI).map aZ) (vs:=[(0,.agg #[i6 d.Lo,i6 d.Hi,i6 Z.Lo,i6 Z.Hi,.bool false])]) hf hc rfl rfl aE7 rfl ⟨rfl,rfl,rfl,trivial⟩ rfl rfl fun ib a w hf hc=>aQ ?_
      refine bV ?_
      intro ds u bi
      replace hc:=hc.drop k1
      refine ⟨(hZ θ 112 ⟨ib,none,0,(fun _=>(none,0))⟩),he.put hi bi hf rfl [] trivial ⟨qq,qq,qq,qq,qq,qq,qq,qq,qq,qq,qq,qq,qq,qq,qq,qq,qq,qq,qq,qq,qq,qq,qq,qq,qq,qq,qq,qq,qq,qq,qq,trivial⟩,?_⟩
      try dsimp only
      rw [aN E 14]
      exact hc
     ·intro E θ a w hD hi hp he hc
      have e0:=hp.o 0 rfl
      have a5:=hp.o 14 rfl
      have b1:=hD.f 1 rfl hi
      try dsimp only at hc
      rw [a5,hi] at hc
      have hf:=(he.h0.mP he 14 rfl e0).mP he 28 rfl a5
      refine lO (xs:=J) (ys:=([(⟨d,Z,false⟩:aI)]:List aI)) hf hc rfl rfl aE7 rfl rfl rfl rfl rfl pC (fM hc m0) (fun _ _=>u7) (by simpa using dB d8) fun jt i5 a w hf hc=>aQ ?_
      refine bV ?_
      intro ds u bi
      refine ⟨(hZ θ 120 ⟨0,jt,i5,(fun _=>(none,0))⟩),he.put hi bi hf rfl [16] ⟨⟨b1,rfl⟩,trivial⟩ ⟨qq,qq,qq,qq,qq,qq,qq,qq,qq,qq,qq,qq,qq,qq,qq,qq,qq,qq,qq,qq,qq,qq,qq,qq,qq,qq,qq,qq,qq,qq,trivial,trivial⟩,?_⟩
      try dsimp only
      rw [cB 15 a5,aN E 15]
      exact hc
     ·intro E θ a w hD hi hp he hc
      have c1:=hp.o 15 rfl
      have hf:=he.h0.mP he 29 rfl c1
      refine sp 1 hf rfl fun a hf=>zD θ he hi hf 30 rfl rfl rfl hc
     ·intro E θ a w a0 he hc
      have hf:=he.h0
      have a5:=a0 14 rfl
      have c1:=a0 15 rfl
      have b1:=a0 16 rfl
      replace hf:=hf.more he 30 rfl (onP b1)
      replace hf:=hf.more he 13 rfl (onT)
      replace hf:=hf.more he 12 rfl (onT)
      replace hf:=hf.more he 10 rfl (onT)
      replace hf:=hf.more he 9 rfl (onT)
      replace hf:=hf.more he 7 rfl (onT)
      replace hf:=hf.more he 6 rfl (onT)
      replace hf:=hf.more he 4 rfl (onT)
      replace hf:=hf.more he 3 rfl (onT)
      replace hf:=hf.more he 2 rfl (onT)
      replace hf:=hf.more he 1 rfl (onT)
      replace hf:=hf.more he 0 rfl (onT)
      try dsimp only at hc
      rw [a5,c1] at hc
      exact ⟨(θ 120).p,(θ 120).c,(θ 112).b,hf.kp rfl,hc⟩
     rintro a w ⟨bf,bd,dn,hf,hc⟩
     replace hc:=(hc.drop k1).drop k0
     refine j9 _ _ ?_
     obtain ⟨aa,gi,hF⟩:=aC hF
     obtain ⟨d6,dz⟩:=jX hc m1 gi
     obtain ⟨z,gc,hF⟩:=aC hF
     obtain ⟨gj,ga⟩:=jX hc m1 gc
     obtain ⟨mi,gp,hF⟩:=aC hF
     replace hc:=hc.nilRow 0 0
     refine cU (fun θ=>[⟨none,none,2,.int .u8 up⟩,⟨none,none,3,.int .u8 O⟩,⟨none,none,9,pq ab⟩,⟨none,none,10,pq ad⟩,⟨none,none,14,.slice ai ((Y++[(⟨U,R,false⟩:aI)]).length) ak⟩,⟨none,none,15,.slice bf ((J++[(⟨d,Z,false⟩:aI)]).length) bd⟩,⟨none,some 14,16,.slice s B.length t⟩,⟨none,none,18,pq au⟩,⟨none,none,22,i6 ((W (up)).tmod ((H.1.length:Nat):Int))⟩,⟨none,none,23,i6 ((W (O)).tmod ((H.1.length:Nat):Int))⟩,⟨none,none,47,i6 a7.1⟩,⟨none,none,48,i6 x⟩,⟨some 0,none,134,.slice s B.length t⟩,⟨some 1,none,135,pq au⟩,⟨some 2,none,136,.slice (some ⟨ac,0,none⟩) D.2.1.Flows.length y⟩,⟨some 3,none,137,i6 ((W (up)).tmod ((H.1.length:Nat):Int))⟩,⟨some 4,none,138,.pointer (some ⟨ac,((W (up)).tmod ((H.1.length:Nat):Int)).toNat * 1,none⟩)⟩,⟨some 5,none,139,i6 aa⟩,⟨some 6,none,140,pq au⟩,⟨some 7,none,141,.slice (some ⟨ac,0,none⟩) D.2.1.Flows.length y⟩,⟨some 8,none,142,i6 ((W (O)).tmod ((H.1.length:Nat):Int))⟩,⟨some 9,none,143,.pointer (some ⟨ac,((W (O)).tmod ((H.1.length:Nat):Int)).toNat * 1,none⟩)⟩,⟨some 10,none,144,i6 z⟩,⟨some 11,none,145,.agg #[i6 aa,i6 z]⟩,⟨some 12,none,146,.slice (some ⟨(θ 96).b,0,none⟩) 1 1⟩,⟨some 13,none,147,.slice ((θ 104).p) ((B++[(⟨aa,z⟩:aR)]).length) ((θ 104).c)⟩,⟨some 14,none,16,.slice ((θ 104).p) ((B++[(⟨aa,z⟩:aR)]).length) ((θ 104).c)⟩]) (fun E θ=>(bif E 12 then .row (some ⟨(θ 96).b,0,none⟩) 1 (([(⟨aa,z⟩:aR)]:List aR).map bY) 53 2 else .row none 0 [] 0 0)::.box au [.slice (some ⟨ac,0,none⟩) D.2.1.Flows.length y,.slice am D.2.1.Gains.length aj] 41::.row (some ⟨ac,0,none⟩) y (D.2.1.Flows.map aD) 3 1::.row am aj (D.2.1.Gains.map aD) 3 1::.box ab [.slice k X.length m,i6 D.2.2.1,i6 D.2.2.2] 66::(bif E 13 then .row ((θ 104).p) ((θ 104).c) ((B++[(⟨aa,z⟩:aR)]).map bY) 53 2 else .row s t (B.map bY) 53 2)::.row bf bd ((J++[(⟨d,Z,false⟩:aI)]).map aZ) 51 5::.row ai ak ((Y++[(⟨U,R,false⟩:aI)]).map aZ) 51 5::.box ad [.slice ap q.1.Table.length an,i6 q.1.Credit] 27::.row ap an (q.1.Table.map bK) 69 2::Lf) [(14,0),(14,13)] (fun a w=>∃ (cs:Option Addr) (cv:Nat) (dj:Nat),Has 283 a [(2,.int .u8 up),(3,.int .u8 O),(9,pq ab),(10,pq ad),(14,.slice ai ((Y++[(⟨U,R,false⟩:aI)]).length) ak),(15,.slice bf ((J++[(⟨d,Z,false⟩:aI)]).length) bd),(47,i6 a7.1),(48,i6 x),(16,.slice cs ((B++[(⟨aa,z⟩:aR)]).length) cv)]∧Ctx G (.row (some ⟨dj,0,none⟩) 1 (([(⟨aa,z⟩:aR)]:List aR).map bY) 53 2::.box au [.slice (some ⟨ac,0,none⟩) D.2.1.Flows.length y,.slice am D.2.1.Gains.length aj] 41::.row (some ⟨ac,0,none⟩) y (D.2.1.Flows.map aD) 3 1::.row am aj (D.2.1.Gains.map aD) 3 1::.box ab [.slice k X.length m,i6 D.2.2.1,i6 D.2.2.2] 66::.row cs cv ((B++[(⟨aa,z⟩:aR)]).map bY) 53 2::.row bf bd ((J++[(⟨d,Z,false⟩:aI)]).map aZ) 51 5::.row ai ak ((Y++[(⟨U,R,false⟩:aI)]).map aZ) 51 5::.box ad [.slice ap q.1.Table.length an,i6 q.1.Credit] 27::.row ap an (q.1.Table.map bK) 69 2::Lf) w) aT (by kernel_rfl) (by kernel_rfl) (dL.of hf ⟨rfl,rfl,rfl,rfl,rfl,rfl,rfl,rfl,rfl,rfl,rfl,rfl,trivial,trivial,trivial,trivial,trivial,trivial,trivial,trivial,trivial,trivial,trivial,trivial,trivial,trivial,trivial,trivial⟩) hc ⟨?_,?_,?_,?_,?_,?_,?_,?_,?_,?_,?_,?_,?_,?_,?_,trivial⟩ ?_ ?_
     ·intro E θ a w hD hi hp he hc
      have a5:=hD.f 0 rfl hi
      have hf:=he.h0.mN he 6 rfl a5
      refine sp 1 hf rfl fun a hf=>zD θ he hi hf 12 rfl rfl rfl hc
     ·intro E θ a w hD hi hp he hc
      have hf:=he.h0.mT he 7 rfl
      refine zP hf rfl (pFA tY rfl) fun a hf=>zD θ he hi hf 13 rfl rfl rfl hc
     ·intro E θ a w hD hi hp he hc
      have e1:=hp.o 1 rfl
      have hf:=he.h0.mP he 13 rfl e1
      refine zL hf hc uA m1 rfl fun a w hf hc=>zD θ he hi hf 14 rfl rfl rfl hc
     ·intro E θ a w hD hi hp he hc
      have hf:=he.h0.mT he 8 rfl
      refine sp 1 hf rfl fun a hf=>zD θ he hi hf 15 rfl rfl rfl hc
     ·intro E θ a w hD hi hp he hc
      have e2:=hp.o 2 rfl
      have e3:=hp.o 3 rfl
      have hf:=(he.h0.mP he 14 rfl e2).mP he 15 rfl e3
      refine zP hf rfl (pIA Tryz.underlying39 fD rfl rfl d6) fun a hf=>zD θ he hi hf 16 rfl rfl rfl hc
     ·intro E θ a w hD hi hp he hc
      have e4:=hp.o 4 rfl
      have hf:=he.h0.mP he 16 rfl e4
      refine zE hf hc rfl (cV aX rfl (eI (sz:=1) (i:=((W (up)).tmod ((H.1.length:Nat):Int)).toNat) (j:=0) m2 dz rfl)) fun a w hf hc=>zD θ he hi hf 17 rfl rfl rfl hc
     ·intro E θ a w hD hi hp he hc
      have hf:=he.h0.mT he 7 rfl
      refine zP hf rfl (pFA tY rfl) fun a hf=>zD θ he hi hf 18 rfl rfl rfl hc
     ·intro E θ a w hD hi hp he hc
      have e6:=hp.o 6 rfl
      have hf:=he.h0.mP he 18 rfl e6
      refine zL hf hc uA m1 rfl fun a w hf hc=>zD θ he hi hf 19 rfl rfl rfl hc
     ·intro E θ a w hD hi hp he hc
      have hf:=he.h0.mT he 9 rfl
      refine sp 1 hf rfl fun a hf=>zD θ he hi hf 20 rfl rfl rfl hc
     ·intro E θ a w hD hi hp he hc
      have e7:=hp.o 7 rfl
      have e8:=hp.o 8 rfl
      have hf:=(he.h0.mP he 19 rfl e7).mP he 20 rfl e8
      refine zP hf rfl (pIA Tryz.underlying39 fD rfl rfl gj) fun a hf=>zD θ he hi hf 21 rfl rfl rfl hc
     ·intro E θ a w hD hi hp he hc
      have e9:=hp.o 9 rfl
      have hf:=he.h0.mP he 21 rfl e9
      refine zE hf hc rfl (cV aX rfl (eI (sz:=1) (i:=((W (O)).tmod ((H.1.length:Nat):Int)).toNat) (j:=0) m2 ga rfl)) fun a w hf hc=>zD θ he hi hf 22 rfl rfl rfl hc
     ·intro E θ a w hD hi hp he hc
      have e5:=hp.o 5 rfl
      have c2:=hp.o 10 rfl
      have hf:=(he.h0.mP he 17 rfl e5).mP he 22 rfl c2
      refine zP hf rfl (bJ (cells:=[i6 aa,i6 z]) aJl rfl rfl) fun a hf=>zD θ he hi hf 23 rfl rfl rfl hc
     ·intro E θ a w hD hi hp he hc
      have c0:=hp.o 11 rfl
      try dsimp only at hc
      rw [hi] at hc
      have hf:=he.h0.mP he 23 rfl c0
      refine oJ (rows:=([(⟨aa,z⟩:aR)]:List aR).map bY) (vs:=[(0,.agg #[i6 aa,i6 z])]) hf hc rfl rfl aJk rfl ⟨rfl,rfl,rfl,trivial⟩ rfl rfl fun ig a w hf hc=>aQ ?_
      refine bV ?_
      intro ds u bi
      replace hc:=hc.drop k1
      refine ⟨(hZ θ 96 ⟨ig,none,0,(fun _=>(none,0))⟩),he.put hi bi hf rfl [] trivial ⟨qq,qq,qq,qq,qq,qq,qq,qq,qq,qq,qq,qq,qq,qq,qq,qq,qq,qq,qq,qq,qq,qq,qq,qq,qq,qq,qq,trivial⟩,?_⟩
      try dsimp only
      rw [aN E 12]
      exact hc
     ·intro E θ a w hD hi hp he hc
      have e0:=hp.o 0 rfl
      have bs:=hp.o 12 rfl
      have a5:=hD.f 1 rfl hi
      try dsimp only at hc
      rw [bs,hi] at hc
      have hf:=(he.h0.mP he 12 rfl e0).mP he 24 rfl bs
      refine lO (xs:=B) (ys:=([(⟨aa,z⟩:aR)]:List aR)) hf hc rfl rfl aJk rfl rfl rfl rfl rfl rZ (fM hc m0) (fun _ _=>u5) (by simpa using dB gp) fun jq iq a w hf hc=>aQ ?_
      refine bV ?_
      intro ds u bi
      refine ⟨(hZ θ 104 ⟨0,jq,iq,(fun _=>(none,0))⟩),he.put hi bi hf rfl [14] ⟨⟨a5,rfl⟩,trivial⟩ ⟨qq,qq,qq,qq,qq,qq,qq,qq,qq,qq,qq,qq,qq,qq,qq,qq,qq,qq,qq,qq,qq,qq,qq,qq,qq,qq,trivial,trivial⟩,?_⟩
      try dsimp only
      rw [cB 13 bs,aN E 13]
      exact hc
     ·intro E θ a w hD hi hp he hc
      have b7:=hp.o 13 rfl
      have hf:=he.h0.mP he 25 rfl b7
      refine sp 1 hf rfl fun a hf=>zD θ he hi hf 26 rfl rfl rfl hc
     ·intro E θ a w a0 he hc
      have hf:=he.h0
      have bs:=a0 12 rfl
      have b7:=a0 13 rfl
      have a5:=a0 14 rfl
      replace hf:=hf.more he 26 rfl (onP a5)
      replace hf:=hf.more he 11 rfl (onT)
      replace hf:=hf.more he 10 rfl (onT)
      replace hf:=hf.more he 5 rfl (onT)
      replace hf:=hf.more he 4 rfl (onT)
      replace hf:=hf.more he 3 rfl (onT)
      replace hf:=hf.more he 2 rfl (onT)
      replace hf:=hf.more he 1 rfl (onT)
      replace hf:=hf.more he 0 rfl (onT)
      try dsimp only at hc
      rw [bs,b7] at hc
      exact ⟨(θ 104).p,(θ 104).c,(θ 96).b,hf.kp rfl,hc⟩
     rintro a w ⟨cs,cv,dj,hf,hc⟩
     replace hc:=(((hc.drop k3).drop k2).drop k1).drop k0
     exact c5 (Y++[(⟨U,R,false⟩:aI)]) (J++[(⟨d,Z,false⟩:aI)]) (B++[(⟨aa,z⟩:aR)]) D.2.2.1 D.2.2.2 ai ak bf bd cs cv _ _  (hf.kp rfl) hc hF
 ·refine wp_exit ?_
  refine bI ?_
  refine bI ?_
  have he:=sj hF
  rw [← he] at b0
  refine fB ?_
  exact kn _ _ _ b0 ⟨a8,a9,ar,aq,s,t,hf.kp rfl,hc⟩

end Go.Nilo
