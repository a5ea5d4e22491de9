/-
 What functions of the Go text compute, as plain functions, and that they do, part 2 of 5. Conditions: what each theorem names.
-/
import Derived.Test.YtmkacilcbfiieaaGreatSm1
import Derived.Test.YtmkacilcbfiieaaGreatProg
set_option linter.unusedVariables false
set_option linter.unusedSimpArgs false
set_option maxRecDepth 100000
set_option maxHeartbeats 4000000
namespace Go.Nilo
open Go.Proofs


def mE (N:Nat) (H:Int) (B:Int) (I:Int) (D:Int):Option (bH (Int × Int × Int × Int) (bH ((List Int) × Int) ((List Int) × Int))) :=
 some (.cont (B,W (H + 1),I,D))
def fK (N:Nat) (D:List Int) (rule:Int) (out:List Int) (M:Int) (B:Int) (J:Int) (I:Int):Option (bH (Int × Int × Int × Int) (bH ((List Int) × Int) ((List Int) × Int))) :=
 cond (decide (B < ((D.length:Nat):Int)))
 (Option.bind (aZ D B) fun O=>
 Option.bind (aZ out B) fun R=>
 Option.bind (dL N rule O (W (R + 1))) fun H=>
 cond ((!(H.claim == J && H.by_ == I)) && (aV H (⟨J,I⟩:aR)))
 (mE N B B H.claim H.by_)
 (mE N B M J I))
 (some (.brk (M,B,J,I)))
def iO (N:Nat) (D:List Int) (days:Int) (rule:Int) (out:List Int) (x:Int):Option (bH ((List Int) × Int) ((List Int) × Int)) :=
 cond (decide (x < days))
 (Option.bind (aZ D 0) fun J=>
 Option.bind (aZ out 0) fun I=>
 Option.bind (dL N rule J (W (I + 1))) fun H=>
 Option.bind (aT (fun B=>fK N D rule out B.1 B.2.1 B.2.2.1 B.2.2.2) N (0,0,H.claim,H.by_)) fun M=>
 exK M (fun B=>Option.bind (aZ out B.1) fun O=>
 Option.bind (aZ out B.1) fun R=>
 some (.cont ((out.set B.1.toNat (W (O + 1))),W (x + 1)))) some)
 (some (.brk (out,x)))
def fG (N:Nat) (B:List Int) (days:Int) (rule:Int):Option ((List Int) × Int) :=
 Option.bind (mF N B) fun r=>
 cond (r != 0)
 (some (([]:List Int),r))
 (cond (!(aQ days 1 366))
 (some (([]:List Int),4))
 (cond (!(dW rule))
 (some (([]:List Int),2))
 (cond ((rule == 2) && (decide (days < ((B.length:Nat):Int))))
 (some (([]:List Int),6))
 (Option.bind (inM ((B.length:Nat):Int)) fun un=>
 Option.bind (aT (fun D=>iO N B days rule D.1 D.2) N ((List.replicate ((B.length:Nat):Int).toNat (0:Int)),0)) fun H=>
 exK H (fun D=>some (D.1,0)) some))))
theorem oW {N:Nat} {G:bA} {Lf:List Ent} {w:World} (B:List Int) (days:Int) (rule:Int) {H:Option Addr} {D:Nat} (X:Rd G 1 H D (B.map aD)) (hc:Ctx G (Lf) w) {p:(List Int) × Int} (hF:fG N B days rule=some p):Calls Tryz.prog 13 #[.slice H B.length D,i6 days,i6 rule] w (fun e w=>∃ (ak:Option Addr) (am:Nat),e=.returned (.tuple #[.slice ak p.1.length am,i6 p.2])∧Ctx G (.row ak am (p.1.map aD) 3 1::Lf) w):=by
 unfold fG at hF
 refine cG Tryz.func13 rfl Tryz.ntmps13 rfl fun a hf=>zS fun K h=>sp 2 hf rfl fun a hf=>zT h ?_
 refine zS fun K h=>sp 1 hf rfl fun a hf=>?_
 obtain ⟨r,hr,hF⟩:=aA hF
 refine zQ (v:=i6 r) hf hc aKl rfl (fun w hc=>sX B X hc hr) fun a w hf hc=>sp 1 hf rfl fun a hf=>zT h ?_
 refine wp_seq_k fun K3 h3=>wp_block ?_
 refine zS fun K h=>sp 3 hf rfl fun a hf=>zT h ?_
 refine zI hf rfl hF ?_ ?_ <;> clear hF <;> intro hF
 ·refine zS fun K h=>sp 3 hf rfl fun a hf=>zT h ?_
  refine wp_ret ?_
  refine bI ?_
  refine aN ?_
  obtain rfl:=sj hF
  replace hc:=hc.nilRow 3 1
  exact zO2 Tryz.results13 hf rfl rfl ⟨none,0,rfl,hc⟩
 ·refine zS fun K h=>sp 1 hf rfl fun a hf=>zQ (v:=.bool (aQ days 1 366)) hf hc pD rfl (fun w hc=>dO days 1 366 hc rfl) fun a w hf hc=>sp 2 hf rfl fun a hf=>zT h ?_
  refine zI hf rfl hF ?_ ?_ <;> clear hF <;> intro hF
  ·refine zS fun K h=>sp 2 hf rfl fun a hf=>zT h ?_
   refine wp_ret ?_
   refine bI ?_
   refine aN ?_
   obtain rfl:=sj hF
   replace hc:=hc.nilRow 3 1
   exact zO2 Tryz.results13 hf rfl rfl ⟨none,0,rfl,hc⟩
  ·refine zS fun K h=>sp 1 hf rfl fun a hf=>zQ (v:=.bool (dW rule)) hf hc aK6 rfl (fun w hc=>qL rule hc rfl) fun a w hf hc=>sp 2 hf rfl fun a hf=>zT h ?_
   refine zI hf rfl hF ?_ ?_ <;> clear hF <;> intro hF
   ·refine zS fun K h=>sp 2 hf rfl fun a hf=>zT h ?_
    refine wp_ret ?_
    refine bI ?_
    refine aN ?_
    obtain rfl:=sj hF
    replace hc:=hc.nilRow 3 1
    exact zO2 Tryz.results13 hf rfl rfl ⟨none,0,rfl,hc⟩
   ·refine zS fun K h=>sp 3 hf rfl fun a hf=>cP 5 (fun a=>Has 87 a [(0,.slice H B.length D),(1,i6 days),(2,i6 rule),(30,i6 rule),(31,.bool (rule == 2)),(32,.bool (rule == 2)),(37,.bool ((rule == 2) && (decide (days < ((B.length:Nat):Int)))))]) hc ?_ ?_
    ·cases hb:(rule == 2)
     ·rw [hb] at hf
      refine stS hf rfl rfl rfl fun a hf=>stS hf rfl rfl rfl fun a hf=>stS hf rfl rfl rfl fun a hf=>stS hf rfl rfl rfl fun a hf=>sp 1 hf rfl fun a hf=>aP ⟨hf.kp rfl,hc⟩
     ·rw [hb] at hf
      refine sp 2 hf rfl fun a hf=>zP hf rfl (bL Tryz.underlying22 rfl) fun a hf=>sp 2 hf rfl fun a hf=>aP ⟨hf.kp rfl,hc⟩
    intro a w ⟨hf,hc⟩
    refine sp 1 hf rfl fun a hf=>zT h ?_
    refine zI hf rfl hF ?_ ?_ <;> clear hF <;> intro hF
    ·refine zS fun K h=>sp 2 hf rfl fun a hf=>zT h ?_
     refine wp_ret ?_
     refine bI ?_
     refine aN ?_
     obtain rfl:=sj hF
     replace hc:=hc.nilRow 3 1
     exact zO2 Tryz.results13 hf rfl rfl ⟨none,0,rfl,hc⟩
    ·refine wp_skip ?_
     refine h3 _ _ ?_
     refine zS fun K h=>sp 1 hf rfl fun a hf=>zP hf rfl (bL Tryz.underlying22 rfl) fun a hf=>?_
     obtain ⟨un,br,hF⟩:=aA hF
     refine aJx (m:=(List.replicate ((B.length:Nat):Int).toNat (0:Int)).length) (rows:=(List.replicate ((B.length:Nat):Int).toNat (0:Int)).map aD) hf hc rfl rfl fC rfl rfl (uN br) rfl rfl (by simp [List.map_replicate,Value.cells]) (by simp) fun bq a w hf hc=>sp 1 hf rfl fun a hf=>zT h ?_
     refine wp_seq_k fun K13 bz=>zS fun K h=>sp 2 hf rfl fun a hf=>zT h ?_
     refine wp_block ?_
     obtain ⟨ad,bc,hF⟩:=aA hF
     let S15:((List Int) × Int)→Act→World→Prop:=(fun (zz:(List Int) × Int) a w=>∃ (n:Option Addr) (J:Nat),Has 87 a [(0,.slice H B.length D),(2,i6 rule),(9,.slice n zz.1.length J),(41,i6 days),(42,i6 zz.2)]∧Ctx G (.row n J (zz.1.map aD) 3 1::Lf) w)
     have bb:∀ (zz:(List Int) × Int) a w,ad=.go zz→S15 zz a w→K13 a w:=by
      rintro ⟨out,x⟩ a w rfl ⟨n,J,hf,hc⟩
      replace hF:=bQ hF
      refine bz _ _ ?_
      refine zS fun K h=>sp 3 hf rfl fun a hf=>zT h ?_
      refine wp_ret ?_
      obtain rfl:=sj hF
      exact zO2 Tryz.results13 hf rfl rfl ⟨n,J,rfl,hc⟩
     have b2:∀ r,ad=.out r→r=p:=by
      rintro r rfl
      exact sj hF
     refine cX N (cV (S:=S15) (x:=ad) ?_ N ((List.replicate ((B.length:Nat):Int).toNat (0:Int)),0) _ _ ⟨(some ⟨bq,0,none⟩),((B.length:Nat):Int).toNat,hf.kp rfl,hc⟩ bc)
     clear hF hf hc
     rintro ⟨out,x⟩ az a w KB15 ⟨n,J,hf,hc⟩ hF q ap
     unfold iO at hF
     refine zS fun K h=>sp 1 hf rfl fun a hf=>zT h ?_
     refine wp_seq_k fun K18 bk=>zI hf rfl hF ?_ ?_ <;> clear hF <;> intro hF
     ·refine wp_skip ?_
      refine bk _ _ ?_
      refine wp_seq_k fun K19 bp=>wp_block ?_
      refine wp_seq_k fun K20 bt=>?_
      obtain ⟨an,a2,hF⟩:=aA hF
      obtain ⟨bi,o,qa,qp⟩:=X.atm a2
      obtain ⟨aj,a3,hF⟩:=aA hF
      obtain ⟨g,rfl,a7,qr⟩:=nT hc m0 a3
      obtain ⟨V,aq,hF⟩:=aA hF
      replace hc:=hc.nilRow 0 0
      refine dJ (fun θ=>[⟨none,none,0,.slice H B.length D⟩,⟨none,none,2,i6 rule⟩,⟨none,none,9,.slice (some ⟨g,0,none⟩) out.length J⟩,⟨none,none,41,i6 days⟩,⟨none,none,42,i6 x⟩,⟨some 0,none,44,i6 rule⟩,⟨some 1,none,45,.slice H B.length D⟩,⟨some 2,none,46,.pointer (some ⟨bi,o,none⟩)⟩,⟨some 3,none,47,i6 an⟩,⟨some 4,none,48,.slice (some ⟨g,0,none⟩) out.length J⟩,⟨some 5,none,49,.pointer (some ⟨g,(0:Int).toNat * 1,none⟩)⟩,⟨some 6,none,50,i6 aj⟩,⟨some 7,none,51,i6 (W (aj + 1))⟩,⟨some 8,none,52,.agg #[i6 V.claim,i6 V.by_]⟩,⟨some 9,none,11,.pointer (some ⟨(θ 72).b,0,none⟩)⟩,⟨some 10,none,10,i6 0⟩]) (fun E θ=>(bif E 11 then .box (θ 72).b [i6 V.claim,i6 V.by_] 122 else bif E 9 then .box (θ 72).b [i6 0,i6 0] 122 else .row none 0 [] 0 0)::.row (some ⟨g,0,none⟩) J (out.map aD) 3 1::Lf) [(11,9)] (fun a w=>∃ (O:Nat),Has 87 a [(0,.slice H B.length D),(2,i6 rule),(9,.slice (some ⟨g,0,none⟩) out.length J),(41,i6 days),(42,i6 x),(11,pq O),(10,i6 0)]∧Ctx G (.box O [i6 V.claim,i6 V.by_] 122::.row (some ⟨g,0,none⟩) J (out.map aD) 3 1::Lf) w) aY (by kernel_rfl) (by kernel_rfl) (eY.of hf ⟨rfl,rfl,rfl,rfl,rfl,trivial,trivial,trivial,trivial,trivial,trivial,trivial,trivial,trivial,trivial,trivial,trivial⟩) hc ⟨?_,?_,?_,?_,?_,?_,?_,?_,?_,?_,?_,?_,trivial⟩ ?_ ?_
      ·intro E θ a w hD hi hp he hc
       have hf:=he.h0.mT he 1 rfl
       refine sp 1 hf rfl fun a hf=>zD θ he hi hf 5 rfl rfl rfl hc
      ·intro E θ a w hD hi hp he hc
       have hf:=he.h0.mT he 0 rfl
       refine sp 1 hf rfl fun a hf=>zD θ he hi hf 6 rfl rfl rfl hc
      ·intro E θ a w hD hi hp he hc
       have e1:=hp.o 1 rfl
       have hf:=he.h0.mP he 6 rfl e1
       refine zP hf rfl (pIA Tryz.underlying22 cY rfl rfl qa) fun a hf=>zD θ he hi hf 7 rfl rfl rfl hc
      ·intro E θ a w hD hi hp he hc
       have e2:=hp.o 2 rfl
       have hf:=he.h0.mP he 7 rfl e2
       refine zE hf hc rfl (bP bB rfl (bK (j:=0) qp rfl)) fun a w hf hc=>zD θ he hi hf 8 rfl rfl rfl hc
      ·intro E θ a w hD hi hp he hc
       have hf:=he.h0.mT he 2 rfl
       refine sp 1 hf rfl fun a hf=>zD θ he hi hf 9 rfl rfl rfl hc
      ·intro E θ a w hD hi hp he hc
       have e4:=hp.o 4 rfl
       have hf:=he.h0.mP he 9 rfl e4
       refine zP hf rfl (pIA Tryz.underlying22 cY rfl rfl a7) fun a hf=>zD θ he hi hf 10 rfl rfl rfl hc
      ·intro E θ a w hD hi hp he hc
       have e5:=hp.o 5 rfl
       have hf:=he.h0.mP he 10 rfl e5
       refine zE hf hc rfl (bP bB rfl (bX (sz:=1) (i:=(0:Int).toNat) (j:=0) m1 qr rfl)) fun a w hf hc=>zD θ he hi hf 11 rfl rfl rfl hc
      ·intro E θ a w hD hi hp he hc
       have e6:=hp.o 6 rfl
       have hf:=he.h0.mP he 11 rfl e6
       refine sp 1 hf rfl fun a hf=>zD θ he hi hf 12 rfl rfl rfl hc
      ·intro E θ a w hD hi hp he hc
       have e0:=hp.o 0 rfl
       have e3:=hp.o 3 rfl
       have e7:=hp.o 7 rfl
       have hf:=((he.h0.mP he 5 rfl e0).mP he 8 rfl e3).mP he 12 rfl e7
       refine zQ (v:=.agg #[i6 V.claim,i6 V.by_]) hf hc yX rfl (fun w hc=>fF rule an (W (aj + 1)) hc aq) fun a w hf hc=>zD θ he hi hf 13 rfl rfl rfl hc
      ·intro E θ a w hD hi hp he hc
       have t:=hD.f 0 rfl hi
       try dsimp only at hc
       rw [hi,t] at hc
       have hf:=he.h0
       refine zA hf hc sM rfl fun bg a w hf hc=>aP ?_
       refine bV ?_
       intro ds u bv
       replace hc:=hc.drop k1
       refine ⟨(fY θ 72 ⟨bg,none,0,(fun _=>(none,0))⟩),he.put hi bv hf rfl [] trivial ⟨qq,qq,qq,qq,qq,qq,qq,qq,qq,qq,qq,qq,qq,qq,qq,qq,trivial⟩,?_⟩
       try dsimp only
       rw [aU E 9,eO 9 t rfl]
       exact hc
      ·intro E θ a w hD hi hp he hc
       have hf:=he.h0
       refine sp 1 hf rfl fun a hf=>zD θ he hi hf 15 rfl rfl rfl hc
      ·intro E θ a w hD hi hp he hc
       have e8:=hp.o 8 rfl
       have e9:=hp.o 9 rfl
       try dsimp only at hc
       rw [e9,hi] at hc
       have hf:=(he.h0.mP he 13 rfl e8).mP he 14 rfl e9
       refine zW hf hc mJ u0 rfl fun w hc=>zG θ he hi hf rfl ?_
       try dsimp only
       rw [dH 11 e9,aU E 11]
       exact hc
      ·intro E θ a w Y he hc
       have hf:=he.h0
       have e9:=Y 9 rfl
       have bn:=Y 10 rfl
       have t:=Y 11 rfl
       replace hf:=hf.more he 15 rfl (onP bn)
       replace hf:=hf.more he 14 rfl (onP e9)
       replace hf:=hf.more he 4 rfl (onT)
       replace hf:=hf.more he 3 rfl (onT)
       replace hf:=hf.more he 2 rfl (onT)
       replace hf:=hf.more he 1 rfl (onT)
       replace hf:=hf.more he 0 rfl (onT)
       try dsimp only at hc
       rw [e9,t] at hc
       exact ⟨(θ 72).b,hf.kp rfl,hc⟩
      rintro a w ⟨O,hf,hc⟩
      refine bt _ _ ?_
      refine wp_seq_k fun K21 bs=>zS fun K h=>sp 1 hf rfl fun a hf=>zP hf rfl (bL Tryz.underlying22 rfl) fun a hf=>sp 1 hf rfl fun a hf=>zT h ?_
      refine wp_block ?_
      obtain ⟨ai,a6,hF⟩:=aA hF
      let S23:(Int × Int × Int × Int)→Act→World→Prop:=(fun (zz:Int × Int × Int × Int) a w=>Has 87 a [(0,.slice H B.length D),(2,i6 rule),(9,.slice (some ⟨g,0,none⟩) out.length J),(10,i6 zz.1),(11,pq O),(41,i6 days),(42,i6 x),(53,.slice H B.length D),(54,i6 ((B.length:Nat):Int)),(55,i6 zz.2.1)]∧Ctx G (.box O [i6 zz.2.2.1,i6 zz.2.2.2] 122::.row (some ⟨g,0,none⟩) J (out.map aD) 3 1::Lf) w)
      have au:∀ (zz:Int × Int × Int × Int) a w,ai=.go zz→S23 zz a w→K21 a w:=by
       rintro ⟨d,M,U,R⟩ a w rfl ⟨hf,hc⟩
       replace hF:=bQ hF
       refine bs _ _ ?_
       refine bR ?_
       refine sp 2 hf rfl fun a hf=>?_
       obtain ⟨ab,a0,hF⟩:=aA hF
       obtain ⟨a9,bf⟩:=cC hc m1 a0
       refine zP hf rfl (pIA Tryz.underlying22 cY rfl rfl a9) fun a hf=>zE hf hc rfl (bP bB rfl (bX (sz:=1) (i:=d.toNat) (j:=0) m1 bf rfl)) fun a w hf hc=>sp 1 hf rfl fun a hf=>?_
       obtain ⟨b4,af,hF⟩:=aA hF
       obtain ⟨ax,b0⟩:=cC hc m1 af
       refine zP hf rfl (pIA Tryz.underlying22 cY rfl rfl ax) fun a hf=>wY (sz:=1) (vs:=[i6 (W (ab + 1))]) (o':=0) (z:=W (ab + 1)) (xs:=out) hf hc rfl rfl rfl rfl cY rfl (fun x=>(cM x).1) (mK af) (fun _ _=>rfl) rfl u1 fun w hc=>aP ?_
       refine bp _ _ ?_
       refine bR ?_
       refine sp 2 hf rfl fun a hf=>aP ?_
       replace hf:=hf.castAt 9 (v':=.slice (some ⟨g,0,none⟩) ((out.set d.toNat (W (ab + 1))).length) J) rfl (congrArg (fun k=>Value.slice (some ⟨g,0,none⟩) k J) (by simp))
       replace hc:=hc.drop k0
       exact ap ((out.set d.toNat (W (ab + 1))),W (x + 1)) _ _ (sj hF).symm ⟨(some ⟨g,0,none⟩),J,hf.kp rfl,hc⟩
      have b1:∀ r,ai=.out r→r=az:=by
       rintro r rfl
       exact sj hF
      refine cX N (cV (S:=S23) (x:=ai) ?_ N (0,0,V.claim,V.by_) _ _ ⟨hf.kp rfl,hc⟩ a6)
      clear hF hf hc
      rintro ⟨d,M,U,R⟩ a1 a w KB23 ⟨hf,hc⟩ hF s ar
      unfold fK at hF
      refine zS fun K h=>sp 1 hf rfl fun a hf=>zT h ?_
      refine wp_seq_k fun K25 bu=>zI hf rfl hF ?_ ?_ <;> clear hF <;> intro hF
      ·refine wp_skip ?_
       refine bu _ _ ?_
       refine wp_seq_k fun K26 bx=>?_
       have ag:∀ (Z:Int) (y:Int) (ac:Int) a w,Has 87 a [(0,.slice H B.length D),(2,i6 rule),(9,.slice (some ⟨g,0,none⟩) out.length J),(10,i6 Z),(11,pq O),(41,i6 days),(42,i6 x),(53,.slice H B.length D),(54,i6 ((B.length:Nat):Int)),(55,i6 M)]→Ctx G (.box O [i6 y,i6 ac] 122::.row (some ⟨g,0,none⟩) J (out.map aD) 3 1::Lf) w→mE N M Z y ac=some a1→K26 a w:=by
        repeat (clear hF)
        repeat (clear hc)
        repeat (clear hf)
        intro Z y ac a w hf hc hF
        unfold mE at hF
        refine bx _ _ ?_
        refine bR ?_
        refine sp 2 hf rfl fun a hf=>aP ?_
        exact ar (Z,W (M + 1),y,ac) _ _ (sj hF).symm ⟨hf.kp rfl,hc⟩
       refine wp_block ?_
       refine zS fun K h=>sp 1 hf rfl fun a hf=>?_
       obtain ⟨bj,bd,hF⟩:=aA hF
       obtain ⟨b5,b3,ay,av⟩:=X.atm bd
       refine zP hf rfl (pIA Tryz.underlying22 cY rfl rfl ay) fun a hf=>zE hf hc rfl (bP bB rfl (bK (j:=0) av rfl)) fun a w hf hc=>sp 2 hf rfl fun a hf=>zT h ?_
       refine zS fun K h=>sp 4 hf rfl fun a hf=>?_
       obtain ⟨bm,a5,hF⟩:=aA hF
       obtain ⟨a4,a8⟩:=cC hc m1 a5
       refine zP hf rfl (pIA Tryz.underlying22 cY rfl rfl a4) fun a hf=>zE hf hc rfl (bP bB rfl (bX (sz:=1) (i:=M.toNat) (j:=0) m1 a8 rfl)) fun a w hf hc=>sp 1 hf rfl fun a hf=>?_
       obtain ⟨I,ba,hF⟩:=aA hF
       refine zQ (v:=.agg #[i6 I.claim,i6 I.by_]) hf hc yX rfl (fun w hc=>fF rule bj (W (bm + 1)) hc ba) fun a w hf hc=>zA hf hc sM rfl fun aa a w hf hc=>zW hf hc mJ u0 rfl fun w hc=>zT h ?_
       refine zS fun K h=>zN hf hc hO m0 rfl fun a w hf hc=>zN hf hc hO m1 rfl fun a w hf hc=>zP hf rfl (aEi aMq rfl rfl (aJ5 _ _ _ _)) fun a hf=>sp 1 hf rfl fun a hf=>cP 4 (fun a=>Has 87 a [(0,.slice H B.length D),(2,i6 rule),(9,.slice (some ⟨g,0,none⟩) out.length J),(10,i6 d),(11,pq O),(41,i6 days),(42,i6 x),(53,.slice H B.length D),(54,i6 ((B.length:Nat):Int)),(55,i6 M),(12,i6 M),(14,pq aa),(68,.agg #[i6 I.claim,i6 I.by_]),(69,.agg #[i6 U,i6 R]),(70,.bool (!(I.claim == U && I.by_ == R))),(71,.bool (!(I.claim == U && I.by_ == R))),(75,.bool ((!(I.claim == U && I.by_ == R)) && (aV I (⟨U,R⟩:aR))))]) hc ?_ ?_
       ·cases hb:(!(I.claim == U && I.by_ == R))
        ·rw [hb] at hf
         refine stS hf rfl rfl rfl fun a hf=>stS hf rfl rfl rfl fun a hf=>stS hf rfl rfl rfl fun a hf=>sp 1 hf rfl fun a hf=>aP ⟨hf.kp rfl,hc⟩
        ·rw [hb] at hf
         refine zN hf hc hO m0 rfl fun a w hf hc=>zN hf hc hO m1 rfl fun a w hf hc=>zQ (v:=.bool (aV I (⟨U,R⟩:aR))) hf hc aBj rfl (fun w hc=>eG I (⟨U,R⟩:aR) hc rfl) fun a w hf hc=>sp 1 hf rfl fun a hf=>aP ⟨hf.kp rfl,hc⟩
       intro a w ⟨hf,hc⟩
       refine zT h ?_
       refine zI hf rfl hF ?_ ?_ <;> clear hF <;> intro hF
       ·refine dJ (fun θ=>[⟨none,none,0,.slice H B.length D⟩,⟨none,none,2,i6 rule⟩,⟨none,none,9,.slice (some ⟨g,0,none⟩) out.length J⟩,⟨none,some 2,10,i6 d⟩,⟨none,none,11,pq O⟩,⟨none,none,12,i6 M⟩,⟨none,none,14,pq aa⟩,⟨none,none,41,i6 days⟩,⟨none,none,42,i6 x⟩,⟨none,none,53,.slice H B.length D⟩,⟨none,none,54,i6 ((B.length:Nat):Int)⟩,⟨none,none,55,i6 M⟩,⟨some 0,none,76,i6 M⟩,⟨some 1,none,77,.agg #[i6 I.claim,i6 I.by_]⟩,⟨some 2,none,10,i6 M⟩]) (fun E θ=>.box aa [i6 I.claim,i6 I.by_] 122::(bif E 3 then .box O [i6 I.claim,i6 I.by_] 122 else .box O [i6 U,i6 R] 122)::.row (some ⟨g,0,none⟩) J (out.map aD) 3 1::Lf) [] (fun a w=>Has 87 a [(0,.slice H B.length D),(2,i6 rule),(9,.slice (some ⟨g,0,none⟩) out.length J),(11,pq O),(41,i6 days),(42,i6 x),(53,.slice H B.length D),(54,i6 ((B.length:Nat):Int)),(55,i6 M),(10,i6 M)]∧Ctx G (.box aa [i6 I.claim,i6 I.by_] 122::.box O [i6 I.claim,i6 I.by_] 122::.row (some ⟨g,0,none⟩) J (out.map aD) 3 1::Lf) w) aY (by kernel_rfl) (by kernel_rfl) (eY.of hf ⟨rfl,rfl,rfl,rfl,rfl,rfl,rfl,rfl,rfl,rfl,rfl,rfl,trivial,trivial,trivial,trivial⟩) hc ⟨?_,?_,?_,?_,trivial⟩ ?_ ?_
        ·intro E θ a w hD hi hp he hc
         have hf:=he.h0.mT he 5 rfl
         refine sp 1 hf rfl fun a hf=>zD θ he hi hf 12 rfl rfl rfl hc
        ·intro E θ a w hD hi hp he hc
         have hf:=he.h0.mT he 6 rfl
         refine zN hf hc hO m0 rfl fun a w hf hc=>zD θ he hi hf 13 rfl rfl rfl hc
        ·intro E θ a w hD hi hp he hc
         have e0:=hp.o 0 rfl
         have hf:=he.h0.mP he 12 rfl e0
         refine sp 1 hf rfl fun a hf=>zD θ he hi hf 14 rfl rfl rfl hc
        ·intro E θ a w hD hi hp he hc
         have e1:=hp.o 1 rfl
         try dsimp only at hc
         rw [hi] at hc
         have hf:=(he.h0.mT he 4 rfl).mP he 13 rfl e1
         refine zW hf hc mJ u1 rfl fun w hc=>zG θ he hi hf rfl ?_
         try dsimp only
         rw [aU E 3]
         exact hc
        ·intro E θ a w Y he hc
         have hf:=he.h0
         have e2:=Y 2 rfl
         have e3:=Y 3 rfl
         replace hf:=hf.more he 14 rfl (onP e2)
         replace hf:=hf.more he 11 rfl (onT)
         replace hf:=hf.more he 10 rfl (onT)
         replace hf:=hf.more he 9 rfl (onT)
         replace hf:=hf.more he 8 rfl (onT)
         replace hf:=hf.more he 7 rfl (onT)
         replace hf:=hf.more he 4 rfl (onT)
         replace hf:=hf.more he 2 rfl (onT)
         replace hf:=hf.more he 1 rfl (onT)
         replace hf:=hf.more he 0 rfl (onT)
         try dsimp only at hc
         rw [e3] at hc
         exact ⟨hf.kp rfl,hc⟩
        rintro a w ⟨hf,hc⟩
        replace hc:=hc.drop k0
        exact ag M I.claim I.by_ _ _  (hf.kp rfl) hc hF
       ·refine wp_skip ?_
        replace hc:=hc.drop k0
        exact ag d U R _ _  (hf.kp rfl) hc hF
      ·refine wp_exit ?_
       refine bE ?_
       refine bE ?_
       have he:=sj hF
       rw [← he] at s
       refine eX ?_
       exact au _ _ _ s ⟨hf.kp rfl,hc⟩
     ·refine wp_exit ?_
      refine bE ?_
      refine bE ?_
      have he:=sj hF
      rw [← he] at q
      refine eX ?_
      exact bb _ _ _ q ⟨n,J,hf.kp rfl,hc⟩

def oS (n:Int):Bool :=
 (aQ n 0 366)
theorem xS {G:bA} {Lf:List Ent} {w:World} (n:Int)   (hc:Ctx G (Lf) w) {B:Bool} (hF:oS n=B):Calls Tryz.prog 105 #[i6 n] w (fun e w=>e=.returned (.bool B)∧Ctx G (Lf) w):=by
 unfold oS at hF
 refine cG Tryz.func105 rfl Tryz.ntmps105 rfl fun a hf=>zS fun K h=>sp 1 hf rfl fun a hf=>zT h ?_
 refine zS fun K h=>sp 1 hf rfl fun a hf=>zQ (v:=.bool (aQ n 0 366)) hf hc pD rfl (fun w hc=>dO n 0 366 hc rfl) fun a w hf hc=>sp 1 hf rfl fun a hf=>zT h ?_
 refine wp_ret ?_
 obtain rfl:=hF
 exact zO1 Tryz.results105 hf rfl ⟨rfl,hc⟩

def iF (x:Int):Bool :=
 (!(oS x))
theorem tI {G:bA} {Lf:List Ent} {w:World} (x:Int) {b_:Nat}  (hc:Ctx G (.box b_ [.func (.func 105) #[] #[]] 113::Lf) w) {B:Bool} (hF:iF x=B):Calls Tryz.prog 88 #[i6 x,pq b_] w (fun e w=>e=.returned (.bool B)∧Ctx G (.box b_ [.func (.func 105) #[] #[]] 113::Lf) w):=by
 unfold iF at hF
 refine cG Tryz.func88 rfl Tryz.ntmps88 rfl fun a hf=>zS fun K h=>sp 1 hf rfl fun a hf=>zT h ?_
 refine zS fun K h=>zL hf hc aF7 m0 rfl fun a w hf hc=>sp 1 hf rfl fun a hf=>zQ (v:=.bool (oS x)) hf hc aL9 rfl (fun w hc=>xS x hc rfl) fun a w hf hc=>sp 2 hf rfl fun a hf=>zT h ?_
 refine wp_ret ?_
 obtain rfl:=hF
 exact zO1 Tryz.results88 hf rfl ⟨rfl,hc⟩

def kU (N:Nat) (s_:List Int) (x:Int):Option (bH (Int) (Int)) :=
 cond (decide (x < ((s_.length:Nat):Int)))
 (Option.bind (aZ s_ x) fun B=>
 cond (iF B)
 (some (.ret x))
 (some (.cont (W (x + 1)))))
 (some (.brk x))
def fM (N:Nat) (s_:List Int):Option (Int) :=
 Option.bind (aT (fun s4=>kU N s_ s4) N 0) fun x4=>
 exK x4 (fun s4=>some (-1)) some
theorem oZ {N:Nat} {G:bA} {Lf:List Ent} {w:World} (s_:List Int) {D:Option Addr} {H:Nat} {b_:Nat} (O:Rd G 1 D H (s_.map aD)) (hc:Ctx G (.box b_ [.func (.func 105) #[] #[]] 113::Lf) w) {I:Int} (hF:fM N s_=some I):Calls Tryz.prog 106 #[.slice D s_.length H,.func (.func 88) #[] #[pq b_]] w (fun e w=>e=.returned (i6 I)∧Ctx G (.box b_ [.func (.func 105) #[] #[]] 113::Lf) w):=by
 unfold fM at hF
 refine cG Tryz.func106 rfl Tryz.ntmps106 rfl fun a hf=>zS fun K h=>sp 1 hf rfl fun a hf=>zT h ?_
 refine wp_seq_k fun K2 h2=>zS fun K h=>sp 1 hf rfl fun a hf=>zP hf rfl (bL Tryz.underlying22 rfl) fun a hf=>sp 1 hf rfl fun a hf=>zT h ?_
 refine wp_block ?_
 obtain ⟨x4,R,hF⟩:=aA hF
 let S4:Int→Act→World→Prop:=(fun (zz:Int) a w=>Has 19 a [(0,.slice D s_.length H),(1,.func (.func 88) #[] #[pq b_]),(7,i6 ((s_.length:Nat):Int)),(8,i6 zz)]∧Ctx G (.box b_ [.func (.func 105) #[] #[]] 113::Lf) w)
 have V:∀ (zz:Int) a w,x4=.go zz→S4 zz a w→K2 a w:=by
  rintro x a w rfl ⟨hf,hc⟩
  replace hF:=bQ hF
  refine h2 _ _ ?_
  refine zS fun K h=>sp 1 hf rfl fun a hf=>zT h ?_
  refine wp_ret ?_
  obtain rfl:=sj hF
  exact zO1 Tryz.results106 hf rfl ⟨rfl,hc⟩
 have X:∀ r,x4=.out r→r=I:=by
  rintro r rfl
  exact sj hF
 refine cX N (cV (S:=S4) (x:=x4) ?_ N 0 _ _ ⟨hf.kp rfl,hc⟩ R)
 clear hF hf hc
 rintro x Z a w KB4 ⟨hf,hc⟩ hF B U
 unfold kU at hF
 refine zS fun K h=>sp 1 hf rfl fun a hf=>zT h ?_
 refine wp_seq_k fun K7 h7=>zI hf rfl hF ?_ ?_ <;> clear hF <;> intro hF
 ·refine wp_skip ?_
  refine h7 _ _ ?_
  refine wp_seq_k fun K8 h8=>wp_block ?_
  refine zS fun K h=>sp 2 hf rfl fun a hf=>zT h ?_
  refine zS fun K h=>sp 3 hf rfl fun a hf=>?_
  obtain ⟨J,M,hF⟩:=aA hF
  obtain ⟨Y,o,qa,qp⟩:=O.atm M
  refine zP hf rfl (pIA Tryz.underlying22 cY rfl rfl qa) fun a hf=>zE hf hc rfl (bP bB rfl (bK (j:=0) qp rfl)) fun a w hf hc=>zQ (v:=.bool (iF J)) hf hc aJn rfl (fun w hc=>(tI J (hc.pick k0) rfl).mono fun e w h=>⟨h.1,(h.2.unpick k0)⟩) fun a w hf hc=>zT h ?_
  refine zI hf rfl hF ?_ ?_ <;> clear hF <;> intro hF
  ·refine zS fun K h=>sp 2 hf rfl fun a hf=>zT h ?_
   refine wp_ret ?_
   refine bI ?_
   refine aN ?_
   refine aN ?_
   have he:=sj hF
   rw [← he] at B
   replace hF:=X _ B
   refine bI ?_
   refine aN ?_
   obtain rfl:=hF
   exact zO1 Tryz.results106 hf rfl ⟨rfl,hc⟩
  ·refine wp_skip ?_
   refine h8 _ _ ?_
   refine bR ?_
   refine sp 2 hf rfl fun a hf=>aP ?_
   exact U (W (x + 1)) _ _ (sj hF).symm ⟨hf.kp rfl,hc⟩
 ·refine wp_exit ?_
  refine bE ?_
  refine bE ?_
  have he:=sj hF
  rw [← he] at B
  refine eX ?_
  exact V _ _ _ B ⟨hf.kp rfl,hc⟩

def eM (N:Nat) (s_:List Int):Option (Bool) :=
 Option.bind (fM N s_) fun r=>
 some (decide (0≤r))
theorem nZ {N:Nat} {G:bA} {Lf:List Ent} {w:World} (s_:List Int) {D:Option Addr} {B:Nat} {b_:Nat} (I:Rd G 1 D B (s_.map aD)) (hc:Ctx G (.box b_ [.func (.func 105) #[] #[]] 113::Lf) w) {H:Bool} (hF:eM N s_=some H):Calls Tryz.prog 87 #[.slice D s_.length B,.func (.func 88) #[] #[pq b_]] w (fun e w=>e=.returned (.bool H)∧Ctx G (.box b_ [.func (.func 105) #[] #[]] 113::Lf) w):=by
 unfold eM at hF
 refine cG Tryz.func87 rfl Tryz.ntmps87 rfl fun a hf=>zS fun K h=>sp 1 hf rfl fun a hf=>zT h ?_
 refine zS fun K h=>sp 2 hf rfl fun a hf=>?_
 obtain ⟨r,hr,hF⟩:=aA hF
 refine zQ (v:=i6 r) hf hc aF9 rfl (fun w hc=>(oZ s_ I (hc.pick k0) hr).mono fun e w h=>⟨h.1,(h.2.unpick k0)⟩) fun a w hf hc=>sp 2 hf rfl fun a hf=>zT h ?_
 refine wp_ret ?_
 obtain rfl:=sj hF
 exact zO1 Tryz.results87 hf rfl ⟨rfl,hc⟩

def jR (N:Nat) (l:List Int):Option (Bool) :=
 Option.bind (eM N l) fun r=>
 some (!r)
theorem uC {N:Nat} {G:bA} {Lf:List Ent} {w:World} (l:List Int) {H:Option Addr} {B:Nat} (J:Rd G 1 H B (l.map aD)) (hc:Ctx G (Lf) w) {D:Bool} (hF:jR N l=some D):Calls Tryz.prog 53 #[.slice H l.length B,.func (.func 105) #[] #[]] w (fun e w=>e=.returned (.bool D)∧Ctx G (Lf) w):=by
 unfold jR at hF
 refine cG Tryz.func53 rfl Tryz.ntmps53 rfl fun a hf=>zS fun K h=>zB hf hc rfl fun I a w hf hc=>sp 1 hf rfl fun a hf=>zT h ?_
 refine zS fun K h=>sp 1 hf rfl fun a hf=>zP hf rfl (pMF (us:=[pq I]) rfl rfl) fun a hf=>?_
 obtain ⟨r,hr,hF⟩:=aA hF
 refine zQ (v:=.bool r) hf hc aJc rfl (fun w hc=>(nZ l J (hc.pick k0) hr).mono fun e w h=>⟨h.1,(h.2.unpick k0)⟩) fun a w hf hc=>sp 2 hf rfl fun a hf=>zT h ?_
 refine wp_ret ?_
 obtain rfl:=sj hF
 replace hc:=hc.drop k0
 exact zO1 Tryz.results53 hf rfl ⟨rfl,hc⟩

def lP (N:Nat) (B:List Int) (D:List Int) (rule:Int):Option (Int) :=
 Option.bind (mF N B) fun r=>
 cond (r != 0)
 (some r)
 (cond (((D.length:Nat):Int) != ((B.length:Nat):Int))
 (some 2)
 (Option.bind (jR N D) fun H=>
 cond (!H)
 (some 4)
 (cond (!(dW rule))
 (some 2)
 (some 0))))
theorem qH {N:Nat} {G:bA} {Lf:List Ent} {w:World} (B:List Int) (D:List Int) (rule:Int) {H:Option Addr} {I:Nat} {J:Option Addr} {M:Nat} (R:Rd G 1 H I (B.map aD)) (O:Rd G 1 J M (D.map aD)) (hc:Ctx G (Lf) w) {S:Int} (hF:lP N B D rule=some S):Calls Tryz.prog 81 #[.slice H B.length I,.slice J D.length M,i6 rule] w (fun e w=>e=.returned (i6 S)∧Ctx G (Lf) w):=by
 unfold lP at hF
 refine cG Tryz.func81 rfl Tryz.ntmps81 rfl fun a hf=>zS fun K h=>sp 1 hf rfl fun a hf=>zT h ?_
 refine zS fun K h=>sp 1 hf rfl fun a hf=>?_
 obtain ⟨r,hr,hF⟩:=aA hF
 refine zQ (v:=i6 r) hf hc aKl rfl (fun w hc=>sX B R hc hr) fun a w hf hc=>sp 1 hf rfl fun a hf=>zT h ?_
 refine wp_seq_k fun K3 h3=>wp_block ?_
 refine zS fun K h=>sp 3 hf rfl fun a hf=>zT h ?_
 refine zI hf rfl hF ?_ ?_ <;> clear hF <;> intro hF
 ·refine zS fun K h=>sp 2 hf rfl fun a hf=>zT h ?_
  refine wp_ret ?_
  refine bI ?_
  refine aN ?_
  obtain rfl:=sj hF
  exact zO1 Tryz.results81 hf rfl ⟨rfl,hc⟩
 ·refine zS fun K h=>sp 1 hf rfl fun a hf=>zP hf rfl (bL Tryz.underlying22 rfl) fun a hf=>sp 1 hf rfl fun a hf=>zP hf rfl (bL Tryz.underlying22 rfl) fun a hf=>sp 2 hf rfl fun a hf=>zT h ?_
  refine zI hf rfl hF ?_ ?_ <;> clear hF <;> intro hF
  ·refine zS fun K h=>sp 1 hf rfl fun a hf=>zT h ?_
   refine wp_ret ?_
   refine bI ?_
   refine aN ?_
   obtain rfl:=sj hF
   exact zO1 Tryz.results81 hf rfl ⟨rfl,hc⟩
  ·refine zS fun K h=>sp 1 hf rfl fun a hf=>?_
   obtain ⟨V,U,hF⟩:=aA hF
   refine zQ (v:=.bool V) hf hc aI1 rfl (fun w hc=>uC D O hc U) fun a w hf hc=>sp 2 hf rfl fun a hf=>zT h ?_
   refine zI hf rfl hF ?_ ?_ <;> clear hF <;> intro hF
   ·refine zS fun K h=>sp 1 hf rfl fun a hf=>zT h ?_
    refine wp_ret ?_
    refine bI ?_
    refine aN ?_
    obtain rfl:=sj hF
    exact zO1 Tryz.results81 hf rfl ⟨rfl,hc⟩
   ·refine zS fun K h=>sp 1 hf rfl fun a hf=>zQ (v:=.bool (dW rule)) hf hc aK6 rfl (fun w hc=>qL rule hc rfl) fun a w hf hc=>sp 2 hf rfl fun a hf=>zT h ?_
    refine zI hf rfl hF ?_ ?_ <;> clear hF <;> intro hF
    ·refine zS fun K h=>sp 1 hf rfl fun a hf=>zT h ?_
     refine wp_ret ?_
     refine bI ?_
     refine aN ?_
     obtain rfl:=sj hF
     exact zO1 Tryz.results81 hf rfl ⟨rfl,hc⟩
    ·refine wp_skip ?_
     refine h3 _ _ ?_
     refine zS fun K h=>sp 1 hf rfl fun a hf=>zT h ?_
     refine wp_ret ?_
     obtain rfl:=sj hF
     exact zO1 Tryz.results81 hf rfl ⟨rfl,hc⟩

def jZ (N:Nat) (x:Int) (B:Int) (D:Int):Option (bH (Int × Int × Int) (aR)) :=
 some (.cont (W (x + 1),B,D))
def gG (N:Nat) (l:List aR) (x:Int) (B:Int) (H:Int):Option (bH (Int × Int × Int) (aR)) :=
 cond (decide (x < ((l.length:Nat):Int)))
 (Option.bind (aZ l x) fun D=>
 cond (aV D (⟨B,H⟩:aR))
 (jZ N x D.claim D.by_)
 (jZ N x B H))
 (some (.brk (x,B,H)))
def lC (N:Nat) (first:aR) (l:List aR):Option (aR) :=
 Option.bind (aT (fun s4=>gG N l s4.1 s4.2.1 s4.2.2) N (0,first.claim,first.by_)) fun x4=>
 exK x4 (fun s4=>some (⟨s4.2.1,s4.2.2⟩:aR)) some
theorem wX {N:Nat} {G:bA} {Lf:List Ent} {w:World} (first:aR) (l:List aR) {X:Option Addr} {I:Nat} (b:Rd G 2 X I (l.map dN)) (hc:Ctx G (Lf) w) {J:aR} (hF:lC N first l=some J):Calls Tryz.prog 83 #[.agg #[i6 first.claim,i6 first.by_],.slice X l.length I] w (fun e w=>e=.returned (.agg #[i6 J.claim,i6 J.by_])∧Ctx G (Lf) w):=by
 unfold lC at hF
 refine cG Tryz.func83 rfl Tryz.ntmps83 rfl fun a hf=>zS fun K h=>zB hf hc rfl fun U a w hf hc=>zA hf hc sM rfl fun M a w hf hc=>zT h ?_
 refine wp_seq_k fun K2 h2=>zS fun K h=>sp 1 hf rfl fun a hf=>zP hf rfl (bL Tryz.underlying157 rfl) fun a hf=>sp 1 hf rfl fun a hf=>zT h ?_
 refine wp_block ?_
 obtain ⟨x4,d,hF⟩:=aA hF
 let S4:(Int × Int × Int)→Act→World→Prop:=(fun (zz:Int × Int × Int) a w=>Has 19 a [(2,pq U),(4,pq M),(7,.slice X l.length I),(8,i6 ((l.length:Nat):Int)),(9,i6 zz.1)]∧Ctx G (.box M [i6 0,i6 0] 122::.box U [i6 zz.2.1,i6 zz.2.2] 122::Lf) w)
 have i:∀ (zz:Int × Int × Int) a w,x4=.go zz→S4 zz a w→K2 a w:=by
  rintro ⟨x,D,H⟩ a w rfl ⟨hf,hc⟩
  replace hF:=bQ hF
  refine h2 _ _ ?_
  refine zS fun K h=>zN hf hc hO m1 rfl fun a w hf hc=>zW hf hc mJ u0 rfl fun w hc=>zT h ?_
  refine wp_ret ?_
  obtain rfl:=sj hF
  replace hc:=hc.drop k1
  exact oO (by simp) rfl Tryz.results83 hf hc (dQ (vs:=[i6 D,i6 H]) hO rfl rfl (cA (n:=2) m0 rfl)) ⟨rfl,(hc.drop k0)⟩
 have p:∀ r,x4=.out r→r=J:=by
  rintro r rfl
  exact sj hF
 refine cX N (cV (S:=S4) (x:=x4) ?_ N (0,first.claim,first.by_) _ _ ⟨hf.kp rfl,hc⟩ d)
 clear hF hf hc
 rintro ⟨x,D,H⟩ j a w KB4 ⟨hf,hc⟩ hF O g
 unfold gG at hF
 refine zS fun K h=>sp 1 hf rfl fun a hf=>zT h ?_
 refine wp_seq_k fun K7 h7=>zI hf rfl hF ?_ ?_ <;> clear hF <;> intro hF
 ·refine wp_skip ?_
  refine h7 _ _ ?_
  refine wp_seq_k fun K8 h8=>?_
  have Y:∀ (V:Int) (R:Int) a w,Has 19 a [(2,pq U),(4,pq M),(7,.slice X l.length I),(8,i6 ((l.length:Nat):Int)),(9,i6 x)]→Ctx G (.box M [i6 0,i6 0] 122::.box U [i6 V,i6 R] 122::Lf) w→jZ N x V R=some j→K8 a w:=by
   repeat (clear hF)
   repeat (clear hc)
   repeat (clear hf)
   intro V R a w hf hc hF
   unfold jZ at hF
   refine h8 _ _ ?_
   refine bR ?_
   refine sp 2 hf rfl fun a hf=>aP ?_
   exact g (W (x + 1),V,R) _ _ (sj hF).symm ⟨hf.kp rfl,hc⟩
  refine wp_block ?_
  refine zS fun K h=>?_
  obtain ⟨B,Z,hF⟩:=aA hF
  obtain ⟨k,o,qa,qp⟩:=b.atm Z
  refine zP hf rfl (pIA Tryz.underlying157 mJ rfl rfl qa) fun a hf=>zE hf hc rfl (kG (vs:=[i6 B.claim,i6 B.by_]) hO rfl rfl (cR qp (n:=2) (o':=0) rfl)) fun a w hf hc=>zA hf hc sM rfl fun m a w hf hc=>zW hf hc mJ u0 rfl fun w hc=>zT h ?_
  refine zS fun K h=>zN hf hc hO m0 rfl fun a w hf hc=>zN hf hc hO m2 rfl fun a w hf hc=>zQ (v:=.bool (aV B (⟨D,H⟩:aR))) hf hc aBj rfl (fun w hc=>eG B (⟨D,H⟩:aR) hc rfl) fun a w hf hc=>zT h ?_
  refine zI hf rfl hF ?_ ?_ <;> clear hF <;> intro hF
  ·refine bR ?_
   refine zN hf hc hO m0 rfl fun a w hf hc=>zW hf hc mJ u2 rfl fun w hc=>aP ?_
   replace hc:=hc.drop k0
   exact Y B.claim B.by_ _ _  (hf.kp rfl) hc hF
  ·refine wp_skip ?_
   replace hc:=hc.drop k0
   exact Y D H _ _  (hf.kp rfl) hc hF
 ·refine wp_exit ?_
  refine bE ?_
  refine bE ?_
  have he:=sj hF
  rw [← he] at O
  refine eX ?_
  exact i _ _ _ O ⟨hf.kp rfl,hc⟩

def fW (N:Nat) (D:Int) (B:Int):Option (bH (Int × Int) (aM)) :=
 cond (B != 0)
 (Option.bind (nz B) fun H=>
 some (.cont (B,D.tmod B)))
 (some (.brk (D,B)))
def eD (N:Nat) (q:aR):Option (aM) :=
 Option.bind (aT (fun s4=>fW N s4.1 s4.2) N (q.claim,q.by_)) fun x4=>
 exK x4 (fun s4=>Option.bind (nz s4.1) fun un=>
 Option.bind (nz s4.1) fun B=>
 some (⟨W (q.claim.tdiv s4.1),W (q.by_.tdiv s4.1)⟩:aM)) some
theorem oI {N:Nat} {G:bA} {Lf:List Ent} {w:World} (q:aR)   (hc:Ctx G (Lf) w) {J:aM} (hF:eD N q=some J):Calls Tryz.prog 84 #[.agg #[i6 q.claim,i6 q.by_]] w (fun e w=>e=.returned (.agg #[i6 J.N,i6 J.D])∧Ctx G (Lf) w):=by
 unfold eD at hF
 refine cG Tryz.func84 rfl Tryz.ntmps84 rfl fun a hf=>zS fun K h=>zB hf hc rfl fun I a w hf hc=>zA hf hc rA rfl fun H a w hf hc=>zT h ?_
 refine wp_seq_k fun K2 h2=>cQ hc aY (by kernel_rfl) ?_
 refine qE hf rfl rfl rfl (Pu.ev (pFA xM rfl)) fun a hf=>qE hf rfl rfl rfl (bP bB rfl (bZ m1 rfl)) fun a hf=>qE hf rfl rfl rfl (Pu.ev (pFA sT rfl)) fun a hf=>qE hf rfl rfl rfl (bP bB rfl (bZ m1 rfl)) fun a hf=>qE hf rfl rfl rfl (Pu.ev (pA rfl)) fun a hf=>qE hf rfl rfl rfl (Pu.ev (pA rfl)) fun a hf=>?_
 intro w hc
 refine h2 _ _ ?_
 refine wp_seq_k fun K3 h3=>wp_block ?_
 obtain ⟨x4,X,hF⟩:=aA hF
 let S4:(Int × Int)→Act→World→Prop:=(fun (zz:Int × Int) a w=>Has 24 a [(1,pq I),(2,pq H),(3,i6 zz.1),(4,i6 zz.2)]∧Ctx G (.box H [i6 0,i6 0] 43::.box I [i6 q.claim,i6 q.by_] 122::Lf) w)
 have Z:∀ (zz:Int × Int) a w,x4=.go zz→S4 zz a w→K3 a w:=by
  rintro ⟨B,O⟩ a w rfl ⟨hf,hc⟩
  replace hF:=bQ hF
  refine h3 _ _ ?_
  refine wp_seq_k fun K5 h5=>?_
  obtain ⟨un,b,hF⟩:=aA hF
  obtain ⟨d,U,hF⟩:=aA hF
  refine dJ (fun θ=>[⟨none,none,1,pq I⟩,⟨none,none,2,pq H⟩,⟨none,none,3,i6 B⟩,⟨some 0,none,15,pq I⟩,⟨some 1,none,16,i6 q.claim⟩,⟨some 2,none,17,i6 B⟩,⟨some 3,none,18,i6 (W (q.claim.tdiv B))⟩,⟨some 4,none,19,.pointer (some ⟨I,1,none⟩)⟩,⟨some 5,none,20,i6 q.by_⟩,⟨some 6,none,21,i6 B⟩,⟨some 7,none,22,i6 (W (q.by_.tdiv B))⟩,⟨some 8,none,23,.agg #[i6 (W (q.claim.tdiv B)),i6 (W (q.by_.tdiv B))]⟩]) (fun E θ=>(bif E 9 then .box H [i6 (W (q.claim.tdiv B)),i6 (W (q.by_.tdiv B))] 43 else .box H [i6 0,i6 0] 43)::.box I [i6 q.claim,i6 q.by_] 122::Lf) [] (fun a w=>Has 24 a [(2,pq H)]∧Ctx G (.box H [i6 (W (q.claim.tdiv B)),i6 (W (q.by_.tdiv B))] 43::.box I [i6 q.claim,i6 q.by_] 122::Lf) w) aY (by kernel_rfl) (by kernel_rfl) (eY.of hf ⟨rfl,rfl,rfl,trivial,trivial,trivial,trivial,trivial,trivial,trivial,trivial,trivial,trivial⟩) hc ⟨?_,?_,?_,?_,?_,?_,?_,?_,?_,?_,trivial⟩ ?_ ?_
  ·intro E θ a w hD hi hp he hc
   have hf:=he.h0.mT he 0 rfl
   refine zP hf rfl (pFA xM rfl) fun a hf=>zD θ he hi hf 3 rfl rfl rfl hc
  ·intro E θ a w hD hi hp he hc
   have e0:=hp.o 0 rfl
   have hf:=he.h0.mP he 3 rfl e0
   refine zL hf hc bB m1 rfl fun a w hf hc=>zD θ he hi hf 4 rfl rfl rfl hc
  ·intro E θ a w hD hi hp he hc
   have hf:=he.h0.mT he 2 rfl
   refine sp 1 hf rfl fun a hf=>zD θ he hi hf 5 rfl rfl rfl hc
  ·intro E θ a w hD hi hp he hc
   have e1:=hp.o 1 rfl
   have e2:=hp.o 2 rfl
   have hf:=(he.h0.mP he 4 rfl e1).mP he 5 rfl e2
   refine zP hf rfl (nE rfl rfl (eZ b)) fun a hf=>zD θ he hi hf 6 rfl rfl rfl hc
  ·intro E θ a w hD hi hp he hc
   have hf:=he.h0.mT he 0 rfl
   refine zP hf rfl (pFA sT rfl) fun a hf=>zD θ he hi hf 7 rfl rfl rfl hc
  ·intro E θ a w hD hi hp he hc
   have e4:=hp.o 4 rfl
   have hf:=he.h0.mP he 7 rfl e4
   refine zL hf hc bB m1 rfl fun a w hf hc=>zD θ he hi hf 8 rfl rfl rfl hc
  ·intro E θ a w hD hi hp he hc
   have hf:=he.h0.mT he 2 rfl
   refine sp 1 hf rfl fun a hf=>zD θ he hi hf 9 rfl rfl rfl hc
  ·intro E θ a w hD hi hp he hc
   have e5:=hp.o 5 rfl
   have e6:=hp.o 6 rfl
   have hf:=(he.h0.mP he 8 rfl e5).mP he 9 rfl e6
   refine zP hf rfl (nE rfl rfl (eZ U)) fun a hf=>zD θ he hi hf 10 rfl rfl rfl hc
  ·intro E θ a w hD hi hp he hc
   have e3:=hp.o 3 rfl
   have e7:=hp.o 7 rfl
   have hf:=(he.h0.mP he 6 rfl e3).mP he 10 rfl e7
   refine zP hf rfl (bG (cells:=[i6 (W (q.claim.tdiv B)),i6 (W (q.by_.tdiv B))]) qN rfl rfl) fun a hf=>zD θ he hi hf 11 rfl rfl rfl hc
  ·intro E θ a w hD hi hp he hc
   have e8:=hp.o 8 rfl
   try dsimp only at hc
   rw [hi] at hc
   have hf:=(he.h0.mT he 1 rfl).mP he 11 rfl e8
   refine zW hf hc jU u0 rfl fun w hc=>zG θ he hi hf rfl ?_
   try dsimp only
   rw [aU E 9]
   exact hc
  ·intro E θ a w V he hc
   have hf:=he.h0
   have e9:=V 9 rfl
   replace hf:=hf.more he 1 rfl (onT)
   try dsimp only at hc
   rw [e9] at hc
   exact ⟨hf.kp rfl,hc⟩
  rintro a w ⟨hf,hc⟩
  refine h5 _ _ ?_
  refine wp_ret ?_
  obtain rfl:=sj hF
  replace hc:=hc.drop k1
  exact oO (by simp) rfl Tryz.results84 hf hc (dQ (vs:=[i6 (W (q.claim.tdiv B)),i6 (W (q.by_.tdiv B))]) jW rfl rfl (cA (n:=2) m0 rfl)) ⟨rfl,(hc.drop k0)⟩
 have i:∀ r,x4=.out r→r=J:=by
  rintro r rfl
  exact sj hF
 refine cX N (cV (S:=S4) (x:=x4) ?_ N (q.claim,q.by_) _ _ ⟨hf.kp rfl,hc⟩ X)
 clear hF hf hc
 rintro ⟨B,O⟩ j a w KB4 ⟨hf,hc⟩ hF M Y
 unfold fW at hF
 refine wp_seq_k fun K6 h6=>zS fun K h=>sp 2 hf rfl fun a hf=>zT h ?_
 refine zI hf rfl hF ?_ ?_ <;> clear hF <;> intro hF
 ·refine wp_skip ?_
  refine h6 _ _ ?_
  refine oV fun K8 h8=>wp_block ?_
  obtain ⟨g,R,hF⟩:=aA hF
  refine cQ hc aY (by kernel_rfl) ?_
  refine qE hf rfl rfl rfl (Pu.ev (pM rfl)) fun a hf=>qE hf rfl rfl rfl (Pu.ev (pM rfl)) fun a hf=>qE hf rfl rfl rfl (Pu.ev (pM rfl)) fun a hf=>qE hf rfl rfl rfl (Pu.ev (lH rfl rfl (eZ R))) fun a hf=>qE hf rfl rfl rfl (Pu.ev (pA rfl)) fun a hf=>qE hf rfl rfl rfl (Pu.ev (pA rfl)) fun a hf=>?_
  intro w hc
  refine h8 _ _ ?_
  exact Y (O,B.tmod O) _ _ (sj hF).symm ⟨hf.kp rfl,hc⟩
 ·refine wp_exit ?_
  refine bE ?_
  refine bE ?_
  have he:=sj hF
  rw [← he] at M
  refine eX ?_
  exact Z _ _ _ M ⟨hf.kp rfl,hc⟩

def jO (N:Nat) (x:Int) (B:List aR) (D:Int) (H:Int):Option (bH ((List aR) × Int × Int × Int) (aM × aM × Int)) :=
 some (.cont (B,W (x + 1),D,H))
def fQ (N:Nat) (D:List Int) (H:List Int) (rule:Int) (B:List aR) (x:Int) (J:Int) (O:Int):Option (bH ((List aR) × Int × Int × Int) (aM × aM × Int)) :=
 cond (decide (x < ((H.length:Nat):Int)))
 (Option.bind (aZ H x) fun R=>
 Option.bind (aZ D x) fun S=>
 Option.bind (dL N rule S (W (R + 1))) fun M=>
 Option.bind (jE ((B++[M])).length) fun un=>
 Option.bind (aZ D x) fun U=>
 Option.bind (dL N rule U R) fun I=>
 cond ((decide (0 < I.by_)) && (aV (⟨J,O⟩:aR) I))
 (jO N x (B++[M]) I.claim I.by_)
 (jO N x (B++[M]) J O))
 (some (.brk (B,x,J,O)))
def lD (N:Nat) (D:List Int) (H:List Int) (rule:Int):Option (aM × aM × Int) :=
 Option.bind (lP N D H rule) fun r=>
 cond (r != 0)
 (some ((⟨0,0⟩:aM),(⟨0,0⟩:aM),r))
 (Option.bind (aT (fun B=>fQ N D H rule B.1 B.2.1 B.2.2.1 B.2.2.2) N (([]:List aR),0,2000000,1)) fun R=>
 exK R (fun B=>Option.bind (aZ B.1 0) fun M=>
 Option.bind (uX B.1 1 ((B.1.length:Nat):Int)) fun sub=>
 Option.bind (lC N M sub) fun I=>
 cond (aV I (⟨B.2.2.1,B.2.2.2⟩:aR))
 (some ((⟨0,0⟩:aM),(⟨0,0⟩:aM),7))
 (Option.bind (eD N I) fun O=>
 Option.bind (eD N (⟨B.2.2.1,B.2.2.2⟩:aR)) fun J=>
 some (O,J,0))) some)
theorem sK {N:Nat} {G:bA} {Lf:List Ent} {w:World} (R:List Int) (B:List Int) (rule:Int) {U:Option Addr} {J:Nat} {M:Option Addr} {O:Nat} (t:Rd G 1 U J (R.map aD)) (ab:Rd G 1 M O (B.map aD)) (hc:Ctx G (Lf) w) {aa:aM × aM × Int} (hF:lD N R B rule=some aa):Calls Tryz.prog 47 #[.slice U R.length J,.slice M B.length O,i6 rule] w (fun e w=>e=.returned (.tuple #[.agg #[i6 aa.1.N,i6 aa.1.D],.agg #[i6 aa.2.1.N,i6 aa.2.1.D],i6 aa.2.2])∧Ctx G (Lf) w):=by
 unfold lD at hF
 refine cG Tryz.func47 rfl Tryz.ntmps47 rfl fun a hf=>zS fun K h=>zA hf hc rA rfl fun Y a w hf hc=>zA hf hc rA rfl fun V a w hf hc=>sp 1 hf rfl fun a hf=>zT h ?_
 refine wp_seq_k fun K2 h2=>zS fun K h=>sp 3 hf rfl fun a hf=>?_
 obtain ⟨r,hr,hF⟩:=aA hF
 refine zQ (v:=i6 r) hf hc aJd rfl (fun w hc=>qH R B rule t ab hc hr) fun a w hf hc=>sp 1 hf rfl fun a hf=>zT h ?_
 refine zS fun K h=>sp 2 hf rfl fun a hf=>zT h ?_
 refine zI hf rfl hF ?_ ?_ <;> clear hF <;> intro hF
 ·refine zS fun K h=>zP hf rfl (bG (cells:=[i6 0,i6 0]) qN rfl rfl) fun a hf=>zP hf rfl (bG (cells:=[i6 0,i6 0]) qN rfl rfl) fun a hf=>sp 1 hf rfl fun a hf=>zW hf hc jU u1 rfl fun w hc=>zW hf hc jU u0 rfl fun w hc=>sp 1 hf rfl fun a hf=>zT h ?_
  refine wp_ret ?_
  refine aN ?_
  obtain rfl:=sj hF
  replace hc:=(hc.pick k0).pick k1
  exact yE (by simp) rfl Tryz.results47 hf hc (dQ (vs:=[i6 0,i6 0]) jW rfl rfl (cA (n:=2) m0 rfl)) (dQ (vs:=[i6 0,i6 0]) jW rfl rfl (cA (n:=2) m1 rfl)) (show jV _ 8=_ from rfl) ⟨rfl,((hc.drop k1).drop k0)⟩
 ·refine wp_skip ?_
  refine h2 _ _ ?_
  refine zS fun K h=>sp 1 hf rfl fun a hf=>zT h ?_
  refine zS fun K h=>zP hf rfl (bG (cells:=[i6 2000000,i6 1]) aA8 rfl rfl) fun a hf=>zA hf hc sM rfl fun m a w hf hc=>zW hf hc mJ u0 rfl fun w hc=>zT h ?_
  refine wp_seq_k fun K8 h8=>zS fun K h=>sp 1 hf rfl fun a hf=>zP hf rfl (bL Tryz.underlying22 rfl) fun a hf=>sp 1 hf rfl fun a hf=>zT h ?_
  refine wp_block ?_
  obtain ⟨av,a6,hF⟩:=aA hF
  let S10:((List aR) × Int × Int × Int)→Act→World→Prop:=(fun (zz:(List aR) × Int × Int × Int) a w=>∃ (ag:Option Addr) (X:Nat),Has 76 a [(0,.slice U R.length J),(2,i6 rule),(6,pq Y),(7,pq V),(10,.slice ag zz.1.length X),(11,pq m),(26,.slice M B.length O),(27,i6 ((B.length:Nat):Int)),(28,i6 zz.2.1)]∧Ctx G (.row ag X (zz.1.map dN) 122 2::.box m [i6 zz.2.2.1,i6 zz.2.2.2] 122::.box V [i6 0,i6 0] 43::.box Y [i6 0,i6 0] 43::Lf) w)
  have a7:∀ (zz:(List aR) × Int × Int × Int) a w,av=.go zz→S10 zz a w→K8 a w:=by
   rintro ⟨H,x,d,Z⟩ a w rfl ⟨ag,X,hf,hc⟩
   replace hF:=bQ hF
   refine h8 _ _ ?_
   refine wp_seq_k fun K11 bp=>?_
   obtain ⟨af,bc,hF⟩:=aA hF
   obtain ⟨g,rfl,qa,qr⟩:=nT hc m0 bc
   have qc:=aKc hc m0
   obtain ⟨sub,ap,hF⟩:=aA hF
   obtain ⟨I,ay,hF⟩:=aA hF
   replace hc:=hc.nilRow 0 0
   refine dJ (fun θ=>[⟨none,none,6,pq Y⟩,⟨none,none,7,pq V⟩,⟨none,none,10,.slice (some ⟨g,0,none⟩) H.length X⟩,⟨none,none,11,pq m⟩,⟨some 0,none,61,.slice (some ⟨g,0,none⟩) H.length X⟩,⟨some 1,none,62,.pointer (some ⟨g,(0:Int).toNat * 2,none⟩)⟩,⟨some 2,none,63,.agg #[i6 af.claim,i6 af.by_]⟩,⟨some 3,none,64,.slice (some ⟨g,0,none⟩) H.length X⟩,⟨some 4,none,65,.slice (aB3 (some ⟨g,0,none⟩) X (1:Int).toNat 2) sub.length (X - (1:Int).toNat)⟩,⟨some 5,none,66,.agg #[i6 I.claim,i6 I.by_]⟩,⟨some 6,none,15,.pointer (some ⟨(θ 48).b,0,none⟩)⟩]) (fun E θ=>(bif E 7 then .box (θ 48).b [i6 I.claim,i6 I.by_] 122 else bif E 6 then .box (θ 48).b [i6 0,i6 0] 122 else .row none 0 [] 0 0)::.row (some ⟨g,0,none⟩) X (H.map dN) 122 2::.box m [i6 d,i6 Z] 122::.box V [i6 0,i6 0] 43::.box Y [i6 0,i6 0] 43::Lf) [(7,6)] (fun a w=>∃ (ac:Nat),Has 76 a [(6,pq Y),(7,pq V),(11,pq m),(15,pq ac)]∧Ctx G (.box ac [i6 I.claim,i6 I.by_] 122::.row (some ⟨g,0,none⟩) X (H.map dN) 122 2::.box m [i6 d,i6 Z] 122::.box V [i6 0,i6 0] 43::.box Y [i6 0,i6 0] 43::Lf) w) aY (by kernel_rfl) (by kernel_rfl) (eY.of hf ⟨rfl,rfl,rfl,rfl,trivial,trivial,trivial,trivial,trivial,trivial,trivial,trivial⟩) hc ⟨?_,?_,?_,?_,?_,?_,?_,?_,trivial⟩ ?_ ?_
   ·intro E θ a w hD hi hp he hc
    have hf:=he.h0.mT he 2 rfl
    refine sp 1 hf rfl fun a hf=>zD θ he hi hf 4 rfl rfl rfl hc
   ·intro E θ a w hD hi hp he hc
    have e0:=hp.o 0 rfl
    have hf:=he.h0.mP he 4 rfl e0
    refine zP hf rfl (pIA Tryz.underlying157 mJ rfl rfl qa) fun a hf=>zD θ he hi hf 5 rfl rfl rfl hc
   ·intro E θ a w hD hi hp he hc
    have e1:=hp.o 1 rfl
    have hf:=he.h0.mP he 5 rfl e1
    refine zE hf hc rfl (kG (vs:=[i6 af.claim,i6 af.by_]) hO rfl rfl (xO (sz:=2) (i:=(0:Int).toNat) m1 qr (n:=2) (o':=0) rfl)) fun a w hf hc=>zD θ he hi hf 6 rfl rfl rfl hc
   ·intro E θ a w hD hi hp he hc
    have hf:=he.h0.mT he 2 rfl
    refine sp 1 hf rfl fun a hf=>zD θ he hi hf 7 rfl rfl rfl hc
   ·intro E θ a w hD hi hp he hc
    have e3:=hp.o 3 rfl
    have hf:=he.h0.mP he 7 rfl e3
    refine zP hf rfl (pSl Tryz.underlying157 mJ rfl rfl qc rfl rfl ap) fun a hf=>zD θ he hi hf 8 rfl rfl rfl hc
   ·intro E θ a w hD hi hp he hc
    have e2:=hp.o 2 rfl
    have e4:=hp.o 4 rfl
    have hf:=(he.h0.mP he 6 rfl e2).mP he 8 rfl e4
    refine zQ (v:=.agg #[i6 I.claim,i6 I.by_]) hf hc en_83 rfl (fun w hc=>by obtain ⟨G1,bx,az,hc,a2⟩:=lend hc k1; exact (wX af sub (Rd.sub az ap) hc ay).mono fun e w h=>⟨h.1,((a2 _ _ h.2).unpick k1)⟩) fun a w hf hc=>zD θ he hi hf 9 rfl rfl rfl hc
   ·intro E θ a w hD hi hp he hc
    have e7:=hD.f 0 rfl hi
    try dsimp only at hc
    rw [hi,e7] at hc
    have hf:=he.h0
    refine zA hf hc sM rfl fun bv a w hf hc=>aP ?_
    refine bV ?_
    intro ds u bu
    replace hc:=hc.drop k1
    refine ⟨(fY θ 48 ⟨bv,none,0,(fun _=>(none,0))⟩),he.put hi bu hf rfl [] trivial ⟨qq,qq,qq,qq,qq,qq,qq,qq,qq,qq,qq,trivial⟩,?_⟩
    try dsimp only
    rw [aU E 6,eO 6 e7 rfl]
    exact hc
   ·intro E θ a w hD hi hp he hc
    have e5:=hp.o 5 rfl
    have e6:=hp.o 6 rfl
    try dsimp only at hc
    rw [e6,hi] at hc
    have hf:=(he.h0.mP he 9 rfl e5).mP he 10 rfl e6
    refine zW hf hc mJ u0 rfl fun w hc=>zG θ he hi hf rfl ?_
    try dsimp only
    rw [dH 7 e6,aU E 7]
    exact hc
   ·intro E θ a w z he hc
    have hf:=he.h0
    have e6:=z 6 rfl
    have e7:=z 7 rfl
    replace hf:=hf.more he 10 rfl (onP e6)
    replace hf:=hf.more he 3 rfl (onT)
    replace hf:=hf.more he 1 rfl (onT)
    replace hf:=hf.more he 0 rfl (onT)
    try dsimp only at hc
    rw [e6,e7] at hc
    exact ⟨(θ 48).b,hf.kp rfl,hc⟩
   rintro a w ⟨ac,hf,hc⟩
   refine bp _ _ ?_
   refine wp_seq_k fun K12 bq=>zS fun K h=>zN hf hc hO m0 rfl fun a w hf hc=>zN hf hc hO m2 rfl fun a w hf hc=>zQ (v:=.bool (aV I (⟨d,Z⟩:aR))) hf hc aBj rfl (fun w hc=>eG I (⟨d,Z⟩:aR) hc rfl) fun a w hf hc=>zT h ?_
   refine zI hf rfl hF ?_ ?_ <;> clear hF <;> intro hF
   ·refine zS fun K h=>zP hf rfl (bG (cells:=[i6 0,i6 0]) qN rfl rfl) fun a hf=>zP hf rfl (bG (cells:=[i6 0,i6 0]) qN rfl rfl) fun a hf=>zW hf hc jU u4 rfl fun w hc=>zW hf hc jU u3 rfl fun w hc=>sp 1 hf rfl fun a hf=>zT h ?_
    refine wp_ret ?_
    refine aN ?_
    obtain rfl:=sj hF
    replace hc:=((((hc.drop k2).drop k1).drop k0).pick k0).pick k1
    exact yE (by simp) rfl Tryz.results47 hf hc (dQ (vs:=[i6 0,i6 0]) jW rfl rfl (cA (n:=2) m0 rfl)) (dQ (vs:=[i6 0,i6 0]) jW rfl rfl (cA (n:=2) m1 rfl)) (show jV _ 8=_ from rfl) ⟨rfl,((hc.drop k1).drop k0)⟩
   ·refine wp_skip ?_
    refine bq _ _ ?_
    refine wp_seq_k fun K15 bn=>?_
    obtain ⟨s,bi,hF⟩:=aA hF
    obtain ⟨q,ba,hF⟩:=aA hF
    refine dJ (fun θ=>[⟨none,none,6,pq Y⟩,⟨none,none,7,pq V⟩,⟨none,none,11,pq m⟩,⟨none,none,15,pq ac⟩,⟨some 0,none,72,.agg #[i6 I.claim,i6 I.by_]⟩,⟨some 1,none,73,.agg #[i6 s.N,i6 s.D]⟩,⟨some 2,none,74,.agg #[i6 d,i6 Z]⟩,⟨some 3,none,75,.agg #[i6 q.N,i6 q.D]⟩,⟨some 6,none,8,i6 0⟩]) (fun E θ=>.box ac [i6 I.claim,i6 I.by_] 122::.row (some ⟨g,0,none⟩) X (H.map dN) 122 2::.box m [i6 d,i6 Z] 122::(bif E 5 then .box V [i6 q.N,i6 q.D] 43 else .box V [i6 0,i6 0] 43)::(bif E 4 then .box Y [i6 s.N,i6 s.D] 43 else .box Y [i6 0,i6 0] 43)::Lf) [] (fun a w=>Has 76 a [(6,pq Y),(7,pq V),(8,i6 0)]∧Ctx G (.box ac [i6 I.claim,i6 I.by_] 122::.row (some ⟨g,0,none⟩) X (H.map dN) 122 2::.box m [i6 d,i6 Z] 122::.box V [i6 q.N,i6 q.D] 43::.box Y [i6 s.N,i6 s.D] 43::Lf) w) aY (by kernel_rfl) (by kernel_rfl) (eY.of hf ⟨rfl,rfl,rfl,rfl,trivial,trivial,trivial,trivial,trivial,trivial⟩) hc ⟨?_,?_,?_,?_,?_,?_,?_,trivial⟩ ?_ ?_
    ·intro E θ a w hD hi hp he hc
     have hf:=he.h0.mT he 3 rfl
     refine zN hf hc hO m0 rfl fun a w hf hc=>zD θ he hi hf 4 rfl rfl rfl hc
    ·intro E θ a w hD hi hp he hc
     have e0:=hp.o 0 rfl
     have hf:=he.h0.mP he 4 rfl e0
     refine zQ (v:=.agg #[i6 s.N,i6 s.D]) hf hc aLc rfl (fun w hc=>oI I hc bi) fun a w hf hc=>zD θ he hi hf 5 rfl rfl rfl hc
    ·intro E θ a w hD hi hp he hc
     have hf:=he.h0.mT he 2 rfl
     refine zN hf hc hO m2 rfl fun a w hf hc=>zD θ he hi hf 6 rfl rfl rfl hc
    ·intro E θ a w hD hi hp he hc
     have e2:=hp.o 2 rfl
     have hf:=he.h0.mP he 6 rfl e2
     refine zQ (v:=.agg #[i6 q.N,i6 q.D]) hf hc aLc rfl (fun w hc=>oI (⟨d,Z⟩:aR) hc ba) fun a w hf hc=>zD θ he hi hf 7 rfl rfl rfl hc
    ·intro E θ a w hD hi hp he hc
     have e1:=hp.o 1 rfl
     try dsimp only at hc
     rw [hi] at hc
     have hf:=(he.h0.mT he 0 rfl).mP he 5 rfl e1
     refine zW hf hc jU u4 rfl fun w hc=>zG θ he hi hf rfl ?_
     try dsimp only
     rw [aU E 4]
     exact hc
    ·intro E θ a w hD hi hp he hc
     have e3:=hp.o 3 rfl
     try dsimp only at hc
     rw [hi] at hc
     have hf:=(he.h0.mT he 1 rfl).mP he 7 rfl e3
     refine zW hf hc jU u3 rfl fun w hc=>zG θ he hi hf rfl ?_
     try dsimp only
     rw [aU E 5]
     exact hc
    ·intro E θ a w hD hi hp he hc
     have hf:=he.h0
     refine sp 1 hf rfl fun a hf=>zD θ he hi hf 8 rfl rfl rfl hc
    ·intro E θ a w z he hc
     have hf:=he.h0
     have e4:=z 4 rfl
     have e5:=z 5 rfl
     have e6:=z 6 rfl
     replace hf:=hf.more he 8 rfl (onP e6)
     replace hf:=hf.more he 1 rfl (onT)
     replace hf:=hf.more he 0 rfl (onT)
     try dsimp only at hc
     rw [e4,e5] at hc
     exact ⟨hf.kp rfl,hc⟩
    rintro a w ⟨hf,hc⟩
    refine bn _ _ ?_
    refine wp_ret ?_
    obtain rfl:=sj hF
    replace hc:=((((hc.drop k2).drop k1).drop k0).pick k0).pick k1
    exact yE (by simp) rfl Tryz.results47 hf hc (dQ (vs:=[i6 s.N,i6 s.D]) jW rfl rfl (cA (n:=2) m0 rfl)) (dQ (vs:=[i6 q.N,i6 q.D]) jW rfl rfl (cA (n:=2) m1 rfl)) (show jV _ 8=_ from rfl) ⟨rfl,((hc.drop k1).drop k0)⟩
  have bz:∀ r,av=.out r→r=aa:=by
   rintro r rfl
   exact sj hF
  replace hc:=hc.nilRow 122 2
  refine cX N (cV (S:=S10) (x:=av) ?_ N (([]:List aR),0,2000000,1) _ _ ⟨none,0,hf.kp rfl,hc⟩ a6)
  clear hF hf hc
  rintro ⟨H,x,d,Z⟩ a4 a w KB10 ⟨ag,X,hf,hc⟩ hF ad a1
  unfold fQ at hF
  refine zS fun K h=>sp 1 hf rfl fun a hf=>zT h ?_
  refine wp_seq_k fun K17 bs=>zI hf rfl hF ?_ ?_ <;> clear hF <;> intro hF
  ·refine wp_skip ?_
   refine bs _ _ ?_
   refine wp_seq_k fun K18 bk=>?_
   have ar:∀ (k:List aR) (aj:Int) (ai:Int) (am:Option Addr) (ak:Nat) a w,Has 76 a [(0,.slice U R.length J),(2,i6 rule),(6,pq Y),(7,pq V),(10,.slice am k.length ak),(11,pq m),(26,.slice M B.length O),(27,i6 ((B.length:Nat):Int)),(28,i6 x)]→Ctx G (.row am ak (k.map dN) 122 2::.box m [i6 aj,i6 ai] 122::.box V [i6 0,i6 0] 43::.box Y [i6 0,i6 0] 43::Lf) w→jO N x k aj ai=some a4→K18 a w:=by
    repeat (clear hF)
    repeat (clear hc)
    repeat (clear hf)
    intro k aj ai am ak a w hf hc hF
    unfold jO at hF
    refine bk _ _ ?_
    refine bR ?_
    refine sp 2 hf rfl fun a hf=>aP ?_
    exact a1 (k,W (x + 1),aj,ai) _ _ (sj hF).symm ⟨am,ak,hf.kp rfl,hc⟩
   refine wp_block ?_
   refine zS fun K h=>sp 1 hf rfl fun a hf=>?_
   obtain ⟨ax,bd,hF⟩:=aA hF
   obtain ⟨b3,o,bf,qp⟩:=ab.atm bd
   refine zP hf rfl (pIA Tryz.underlying22 cY rfl rfl bf) fun a hf=>zE hf hc rfl (bP bB rfl (bK (j:=0) qp rfl)) fun a w hf hc=>sp 2 hf rfl fun a hf=>zT h ?_
   refine zS fun K h=>sp 4 hf rfl fun a hf=>?_
   obtain ⟨br,a8,hF⟩:=aA hF
   obtain ⟨b5,b1,bg,a3⟩:=t.atm a8
   refine zP hf rfl (pIA Tryz.underlying22 cY rfl rfl bg) fun a hf=>zE hf hc rfl (bP bB rfl (bK (j:=0) a3 rfl)) fun a w hf hc=>sp 2 hf rfl fun a hf=>?_
   obtain ⟨y,a0,hF⟩:=aA hF
   refine zQ (v:=.agg #[i6 y.claim,i6 y.by_]) hf hc yX rfl (fun w hc=>fF rule br (W (ax + 1)) hc a0) fun a w hf hc=>gV (rows:=([y]:List aR).map dN) (vs:=[(0,.agg #[i6 y.claim,i6 y.by_])]) hf hc rfl rfl aIb rfl ⟨rfl,rfl,rfl,trivial⟩ rfl rfl fun b2 a w hf hc=>?_
   obtain ⟨un,bm,hF⟩:=aA hF
   refine iV (xs:=H) (ys:=([y]:List aR)) hf hc rfl rfl aIb rfl rfl rfl rfl rfl tR (fA hc m0) (fun _ _=>u1) (by simpa using cB bm) fun au aq a w hf hc=>sp 1 hf rfl fun a hf=>zT h ?_
   refine zS fun K h=>sp 3 hf rfl fun a hf=>?_
   obtain ⟨bt,a9,hF⟩:=aA hF
   obtain ⟨b0,b4,a5,bj⟩:=t.atm a9
   refine zP hf rfl (pIA Tryz.underlying22 cY rfl rfl a5) fun a hf=>zE hf hc rfl (bP bB rfl (bK (j:=0) bj rfl)) fun a w hf hc=>sp 1 hf rfl fun a hf=>?_
   obtain ⟨p,bb,hF⟩:=aA hF
   refine zQ (v:=.agg #[i6 p.claim,i6 p.by_]) hf hc yX rfl (fun w hc=>fF rule bt ax hc bb) fun a w hf hc=>zA hf hc sM rfl fun an a w hf hc=>zW hf hc mJ u0 rfl fun w hc=>zT h ?_
   refine zS fun K h=>zP hf rfl (pFA sT rfl) fun a hf=>zL hf hc bB m0 rfl fun a w hf hc=>sp 2 hf rfl fun a hf=>cP 4 (fun a=>Has 76 a [(0,.slice U R.length J),(2,i6 rule),(6,pq Y),(7,pq V),(10,.slice au ((H++[y]).length) aq),(11,pq m),(26,.slice M B.length O),(27,i6 ((B.length:Nat):Int)),(28,i6 x),(14,pq an),(51,.pointer (some ⟨an,1,none⟩)),(52,i6 p.by_),(53,.bool (decide (0 < p.by_))),(54,.bool (decide (0 < p.by_))),(58,.bool ((decide (0 < p.by_)) && (aV (⟨d,Z⟩:aR) p)))]) hc ?_ ?_
   ·cases hb:(decide (0 < p.by_))
    ·rw [hb] at hf
     refine stS hf rfl rfl rfl fun a hf=>stS hf rfl rfl rfl fun a hf=>stS hf rfl rfl rfl fun a hf=>sp 1 hf rfl fun a hf=>aP ⟨hf.kp rfl,hc⟩
    ·rw [hb] at hf
     refine zN hf hc hO m3 rfl fun a w hf hc=>zN hf hc hO m0 rfl fun a w hf hc=>zQ (v:=.bool (aV (⟨d,Z⟩:aR) p)) hf hc aBj rfl (fun w hc=>eG (⟨d,Z⟩:aR) p hc rfl) fun a w hf hc=>sp 1 hf rfl fun a hf=>aP ⟨hf.kp rfl,hc⟩
   intro a w ⟨hf,hc⟩
   refine zT h ?_
   refine zI hf rfl hF ?_ ?_ <;> clear hF <;> intro hF
   ·refine bR ?_
    refine zN hf hc hO m0 rfl fun a w hf hc=>zW hf hc mJ u3 rfl fun w hc=>aP ?_
    replace hc:=(hc.drop k1).drop k0
    exact ar (H++[y]) p.claim p.by_ au aq _ _  (hf.kp rfl) hc hF
   ·refine wp_skip ?_
    replace hc:=(hc.drop k1).drop k0
    exact ar (H++[y]) d Z au aq _ _  (hf.kp rfl) hc hF
  ·refine wp_exit ?_
   refine bE ?_
   refine bE ?_
   have he:=sj hF
   rw [← he] at ad
   refine eX ?_
   exact a7 _ _ _ ad ⟨ag,X,hf.kp rfl,hc⟩

def fU (N:Nat) (D:List Int) (H:List Int) (rule:Int) (x:Int) (I:Int) (B:Int):Option (bH (Int) (bH (Int × Int × Int × Int) (Int × Int × Int))) :=
 cond (decide (B < ((H.length:Nat):Int)))
 (Option.bind (aZ H B) fun O=>
 Option.bind (cond ((decide (0 < I)) && (B != x)) (Option.bind (aZ D B) fun U=>
 Option.bind (dL N rule U (W (O + 1))) fun R=>
 Option.bind (aZ D x) fun M=>
 Option.bind (dL N rule M I) fun S=>
 some (aV R S)) (some false)) fun J=>
 cond J
 (some (.ret (.brk (x,B,0,x))))
 (some (.cont (W (B + 1)))))
 (some (.brk B))
def gW (N:Nat) (D:List Int) (B:List Int) (rule:Int) (M:Int) (J:Int) (H:Int) (x:Int):Option (bH (Int × Int × Int × Int) (Int × Int × Int)) :=
 cond (decide (x < ((B.length:Nat):Int)))
 (Option.bind (aZ B x) fun O=>
 Option.bind (aT (fun I=>fU N D B rule x O I) N 0) fun R=>
 exK R (fun I=>some (.cont (M,J,H,W (x + 1)))) some)
 (some (.brk (M,J,H,x)))
def nJ (N:Nat) (D:List Int) (H:List Int) (rule:Int):Option (Int × Int × Int) :=
 Option.bind (lP N D H rule) fun r=>
 cond (r != 0)
 (some (0,0,r))
 (Option.bind (aT (fun B=>gW N D H rule B.1 B.2.1 B.2.2.1 B.2.2.2) N (0,0,5,0)) fun I=>
 exK I (fun B=>some (B.1,B.2.1,B.2.2.1)) some)
theorem tW {N:Nat} {G:bA} {Lf:List Ent} {w:World} (M:List Int) (B:List Int) (rule:Int) {J:Option Addr} {I:Nat} {D:Option Addr} {H:Nat} (V:Rd G 1 J I (M.map aD)) (U:Rd G 1 D H (B.map aD)) (hc:Ctx G (Lf) w) {d:Int × Int × Int} (hF:nJ N M B rule=some d):Calls Tryz.prog 45 #[.slice J M.length I,.slice D B.length H,i6 rule] w (fun e w=>e=.returned (.tuple #[i6 d.1,i6 d.2.1,i6 d.2.2])∧Ctx G (Lf) w):=by
 unfold nJ at hF
 refine cG Tryz.func45 rfl Tryz.ntmps45 rfl fun a hf=>zS fun K h=>sp 3 hf rfl fun a hf=>zT h ?_
 refine wp_scope_straight ?_
 refine wp_seq_k fun K2 h2=>zS fun K h=>sp 3 hf rfl fun a hf=>?_
 obtain ⟨r,hr,hF⟩:=aA hF
 refine zQ (v:=i6 r) hf hc aJd rfl (fun w hc=>qH M B rule V U hc hr) fun a w hf hc=>sp 1 hf rfl fun a hf=>zT h ?_
 refine zS fun K h=>sp 2 hf rfl fun a hf=>zT h ?_
 refine zI hf rfl hF ?_ ?_ <;> clear hF <;> intro hF
 ·refine zS fun K h=>sp 4 hf rfl fun a hf=>zT h ?_
  refine wp_ret ?_
  refine aN ?_
  refine aHg ?_
  obtain rfl:=sj hF
  exact zO3 Tryz.results45 hf rfl rfl rfl ⟨rfl,hc⟩
 ·refine wp_skip ?_
  refine h2 _ _ ?_
  refine zS fun K h=>sp 3 hf rfl fun a hf=>zT h ?_
  refine wp_seq_k fun K7 h7=>wp_label ?_
  refine h7 _ _ ?_
  refine wp_seq_k fun K8 h8=>zS fun K h=>sp 1 hf rfl fun a hf=>zP hf rfl (bL Tryz.underlying22 rfl) fun a hf=>sp 1 hf rfl fun a hf=>zT h ?_
  refine wp_block ?_
  obtain ⟨s,ag,hF⟩:=aA hF
  let S10:(Int × Int × Int × Int)→Act→World→Prop:=(fun (zz:Int × Int × Int × Int) a w=>Has 70 a [(0,.slice J M.length I),(1,.slice D B.length H),(2,i6 rule),(10,i6 zz.1),(11,i6 zz.2.1),(12,i6 zz.2.2.1),(24,.slice D B.length H),(25,i6 ((B.length:Nat):Int)),(26,i6 zz.2.2.2)]∧Ctx G (Lf) w)
  have n:∀ (zz:Int × Int × Int × Int) a w,s=.go zz→S10 zz a w→K8 a w:=by
   rintro ⟨k,g,i,x⟩ a w rfl ⟨hf,hc⟩
   replace hF:=bQ hF
   refine h8 _ _ ?_
   refine zS fun K h=>sp 6 hf rfl fun a hf=>zT h ?_
   refine wp_ret ?_
   refine aHg ?_
   obtain rfl:=sj hF
   exact zO3 Tryz.results45 hf rfl rfl rfl ⟨rfl,hc⟩
  have a6:∀ r,s=.out r→r=d:=by
   rintro r rfl
   exact sj hF
  refine cX N (cV (S:=S10) (x:=s) ?_ N (0,0,5,0) _ _ ⟨hf.kp rfl,hc⟩ ag)
  clear hF hf hc
  rintro ⟨k,g,i,x⟩ ac a w KB10 ⟨hf,hc⟩ hF Y z
  unfold gW at hF
  refine zS fun K h=>sp 1 hf rfl fun a hf=>zT h ?_
  refine wp_seq_k fun K13 a4=>zI hf rfl hF ?_ ?_ <;> clear hF <;> intro hF
  ·refine wp_skip ?_
   refine a4 _ _ ?_
   refine wp_seq_k fun K14 ay=>wp_block ?_
   refine zS fun K h=>sp 1 hf rfl fun a hf=>?_
   obtain ⟨O,an,hF⟩:=aA hF
   obtain ⟨a8,o,qa,qp⟩:=U.atm an
   refine zP hf rfl (pIA Tryz.underlying22 cY rfl rfl qa) fun a hf=>zE hf hc rfl (bP bB rfl (bK (j:=0) qp rfl)) fun a w hf hc=>sp 2 hf rfl fun a hf=>zT h ?_
   refine zS fun K h=>sp 1 hf rfl fun a hf=>zP hf rfl (bL Tryz.underlying22 rfl) fun a hf=>sp 1 hf rfl fun a hf=>zT h ?_
   refine oV fun K17 a2=>wp_block ?_
   obtain ⟨q,am,hF⟩:=aA hF
   let S18:Int→Act→World→Prop:=(fun (zz:Int) a w=>Has 70 a [(0,.slice J M.length I),(1,.slice D B.length H),(2,i6 rule),(10,i6 k),(11,i6 g),(12,i6 i),(13,i6 x),(14,i6 O),(24,.slice D B.length H),(25,i6 ((B.length:Nat):Int)),(26,i6 x),(31,.slice D B.length H),(32,i6 ((B.length:Nat):Int)),(33,i6 zz)]∧Ctx G (Lf) w)
   have af:∀ (zz:Int) a w,q=.go zz→S18 zz a w→K17 a w:=by
    rintro R a w rfl ⟨hf,hc⟩
    replace hF:=bQ hF
    refine a2 _ _ ?_
    refine ay _ _ ?_
    refine bR ?_
    refine sp 2 hf rfl fun a hf=>aP ?_
    exact z (k,g,i,W (x + 1)) _ _ (sj hF).symm ⟨hf.kp rfl,hc⟩
   have ap:∀ r,q=.out r→r=ac:=by
    rintro r rfl
    exact sj hF
   refine cX N (cV (S:=S18) (x:=q) ?_ N 0 _ _ ⟨hf.kp rfl,hc⟩ am)
   clear hF hf hc
   rintro R a5 a w KB18 ⟨hf,hc⟩ hF X aa
   unfold fU at hF
   refine zS fun K h=>sp 1 hf rfl fun a hf=>zT h ?_
   refine wp_seq_k fun K20 a1=>zI hf rfl hF ?_ ?_ <;> clear hF <;> intro hF
   ·refine wp_skip ?_
    refine a1 _ _ ?_
    refine wp_seq_k fun K21 a0=>wp_block ?_
    refine zS fun K h=>sp 1 hf rfl fun a hf=>?_
    obtain ⟨m,aj,hF⟩:=aA hF
    obtain ⟨a7,a9,aq,ab⟩:=U.atm aj
    refine zP hf rfl (pIA Tryz.underlying22 cY rfl rfl aq) fun a hf=>zE hf hc rfl (bP bB rfl (bK (j:=0) ab rfl)) fun a w hf hc=>sp 2 hf rfl fun a hf=>zT h ?_
    refine wp_seq_k fun K23 a3=>?_
    obtain ⟨az,p,hF⟩:=aA hF
    refine cQ hc aY (by kernel_rfl) ?_
    refine qE hf rfl rfl rfl (Pu.ev (pM rfl)) fun a hf=>qE hf rfl rfl rfl (Pu.ev (pGt rfl rfl)) fun a hf=>qE hf rfl rfl rfl (Pu.ev (pM rfl)) fun a hf=>aBd 4 (fun a=>Has 70 a [(0,.slice J M.length I),(1,.slice D B.length H),(2,i6 rule),(10,i6 k),(11,i6 g),(12,i6 i),(13,i6 x),(14,i6 O),(24,.slice D B.length H),(25,i6 ((B.length:Nat):Int)),(26,i6 x),(31,.slice D B.length H),(32,i6 ((B.length:Nat):Int)),(33,i6 R),(15,i6 R),(16,i6 m),(38,i6 O),(39,.bool (decide (0 < O))),(40,.bool (decide (0 < O))),(44,.bool ((decide (0 < O)) && (R != x)))]) ?_ ?_
    ·cases hb:(decide (0 < O))
     ·rw [hb] at hf
      refine qS hf rfl rfl rfl fun a hf=>qS hf rfl rfl rfl fun a hf=>qS hf rfl rfl rfl fun a hf=>qE hf rfl rfl rfl (Pu.ev (pPf rfl rfl)) fun a hf=>rU (hf.kp rfl)
     ·rw [hb] at hf
      refine qE hf rfl rfl rfl (Pu.ev (pM rfl)) fun a hf=>qE hf rfl rfl rfl (Pu.ev (pM rfl)) fun a hf=>qE hf rfl rfl rfl (Pu.ev (pNe rfl rfl)) fun a hf=>qE hf rfl rfl rfl (Pu.ev (pPt rfl rfl)) fun a hf=>rU (hf.kp rfl)
    intro a hf
    refine qE hf rfl rfl rfl (Pu.ev (pM rfl)) fun a hf=>aBd 17 (fun a=>Has 70 a [(0,.slice J M.length I),(1,.slice D B.length H),(2,i6 rule),(10,i6 k),(11,i6 g),(12,i6 i),(13,i6 x),(14,i6 O),(24,.slice D B.length H),(25,i6 ((B.length:Nat):Int)),(26,i6 x),(31,.slice D B.length H),(32,i6 ((B.length:Nat):Int)),(33,i6 R),(15,i6 R),(16,i6 m),(38,i6 O),(39,.bool (decide (0 < O))),(40,.bool (decide (0 < O))),(44,.bool ((decide (0 < O)) && (R != x))),(45,.bool ((decide (0 < O)) && (R != x))),(62,.bool az)]) ?_ ?_
    ·cases hb:((decide (0 < O)) && (R != x))
     ·rw [hb] at hf
      have hF:=fN hb p
      obtain rfl:=sj hF
      refine qS hf rfl rfl rfl fun a hf=>qS hf rfl rfl rfl fun a hf=>qS hf rfl rfl rfl fun a hf=>qS hf rfl rfl rfl fun a hf=>qS hf rfl rfl rfl fun a hf=>qS hf rfl rfl rfl fun a hf=>qS hf rfl rfl rfl fun a hf=>qS hf rfl rfl rfl fun a hf=>qS hf rfl rfl rfl fun a hf=>qS hf rfl rfl rfl fun a hf=>qS hf rfl rfl rfl fun a hf=>qS hf rfl rfl rfl fun a hf=>qS hf rfl rfl rfl fun a hf=>?_
      refine qS hf rfl rfl rfl fun a hf=>qS hf rfl rfl rfl fun a hf=>qS hf rfl rfl rfl fun a hf=>qE hf rfl rfl rfl (Pu.ev (pPf rfl rfl)) fun a hf=>rU (hf.kp rfl)
     ·rw [hb] at hf
      have hF:=fO hb p
      obtain ⟨u,ak,hF⟩:=aA hF
      obtain ⟨bc,bb,ar,ax⟩:=V.atm ak
      obtain ⟨Z,y,hF⟩:=aA hF
      obtain ⟨t,av,hF⟩:=aA hF
      obtain ⟨bd,ba,ad,ai⟩:=V.atm av
      obtain ⟨b,au,hF⟩:=aA hF
      refine qE hf rfl rfl rfl (Pu.ev (pM rfl)) fun a hf=>qE hf rfl rfl rfl (Pu.ev (pM rfl)) fun a hf=>qE hf rfl rfl rfl (Pu.ev (pM rfl)) fun a hf=>qE hf rfl rfl rfl (Pu.ev (pIA Tryz.underlying22 cY rfl rfl ar)) fun a hf=>qE hf rfl rfl rfl (bP bB rfl (bK (j:=0) ax rfl)) fun a hf=>qE hf rfl rfl rfl (Pu.ev (pM rfl)) fun a hf=>qE hf rfl rfl rfl (Pu.ev (wZ rfl rfl)) fun a hf=>qE hf rfl rfl rfl (eC (v:=.agg #[i6 Z.claim,i6 Z.by_]) (vs:=[i6 rule,i6 u,i6 (W (m + 1))]) (caps:=[]) yX rfl rfl rfl rfl (fun w hc=>fF rule u (W (m + 1)) hc y)) fun a hf=>qE hf rfl rfl rfl (Pu.ev (pM rfl)) fun a hf=>qE hf rfl rfl rfl (Pu.ev (pM rfl)) fun a hf=>qE hf rfl rfl rfl (Pu.ev (pM rfl)) fun a hf=>qE hf rfl rfl rfl (Pu.ev (pIA Tryz.underlying22 cY rfl rfl ad)) fun a hf=>qE hf rfl rfl rfl (bP bB rfl (bK (j:=0) ai rfl)) fun a hf=>?_
      refine qE hf rfl rfl rfl (Pu.ev (pM rfl)) fun a hf=>qE hf rfl rfl rfl (eC (v:=.agg #[i6 b.claim,i6 b.by_]) (vs:=[i6 rule,i6 t,i6 O]) (caps:=[]) yX rfl rfl rfl rfl (fun w hc=>fF rule t O hc au)) fun a hf=>qE hf rfl rfl rfl (eC (v:=.bool (aV Z b)) (vs:=[.agg #[i6 Z.claim,i6 Z.by_],.agg #[i6 b.claim,i6 b.by_]]) (caps:=[]) aBj rfl rfl rfl rfl (fun w hc=>eG Z b hc rfl)) fun a hf=>qE hf rfl rfl rfl (Pu.ev (pPt rfl rfl)) fun a hf=>?_
      obtain rfl:=sj hF
      exact rU (hf.kp rfl)
    intro a hf
    intro w hc
    refine a3 _ _ ?_
    refine zI hf rfl hF ?_ ?_ <;> clear hF <;> intro hF
    ·refine zS fun K h=>sp 5 hf rfl fun a hf=>zT h ?_
     refine wp_exit ?_
     refine aG4 rfl ?_
     refine bE ?_
     refine bE ?_
     have he:=sj hF
     rw [← he] at X
     replace hF:=ap _ X
     refine aG4 rfl ?_
     refine bE ?_
     refine aG4 rfl ?_
     refine bE ?_
     refine bE ?_
     have he:=hF
     rw [← he] at Y
     refine eX ?_
     exact n _ _ _ Y ⟨hf.kp rfl,hc⟩
    ·refine wp_skip ?_
     refine a0 _ _ ?_
     refine bR ?_
     refine sp 2 hf rfl fun a hf=>aP ?_
     exact aa (W (R + 1)) _ _ (sj hF).symm ⟨hf.kp rfl,hc⟩
   ·refine wp_exit ?_
    refine bE ?_
    refine bE ?_
    have he:=sj hF
    rw [← he] at X
    refine eX ?_
    exact af _ _ _ X ⟨hf.kp rfl,hc⟩
  ·refine wp_exit ?_
   refine bE ?_
   refine bE ?_
   have he:=sj hF
   rw [← he] at Y
   refine eX ?_
   exact n _ _ _ Y ⟨hf.kp rfl,hc⟩

def fR (N:Nat)  : Option (Bool) :=
 Option.bind (pK N) fun r=>
 Option.bind (pF N r 120) fun O=>
 Option.bind (pK N) fun n=>
 Option.bind (eE N 90 185) fun o=>
 Option.bind (nK N n o) fun S=>
 Option.bind (pK N) fun s=>
 Option.bind (oE N s 120) fun V=>
 Option.bind (rJ N) fun R=>
 Option.bind (oD N R.1 (⟨0,0⟩:aE) R.2) fun U=>
 Option.bind (cond ((((O.2 != 0) || (S.2 != 0)) || (V.2 != 0)) || (U.2 != 0)) (some true) (Option.bind (cK N O.1 ([95,18]:List Int)) fun m=>
 some (!m))) fun j=>
 Option.bind (cond j (some true) (Option.bind (dY N S.1 ([(⟨85,120⟩:aE),(⟨0,54⟩:aE)]:List aE)) fun d=>
 some (!d))) fun g=>
 Option.bind (cond (g || (V.1 != 1)) (some true) (Option.bind (dY N U.1 ([(⟨(-2),8⟩:aE),(⟨(-15),(-12)⟩:aE),(⟨0,0⟩:aE)]:List aE)) fun X=>
 some (!X))) fun p=>
 cond p
 (some false)
 (Option.bind (fZ N 100 (⟨15,4,([20,30,30,40,40,40]:List Int)⟩:bU)) fun M=>
 Option.bind (fG N ([60,30,10]:List Int) 9 0) fun J=>
 Option.bind (fG N ([60,30,10]:List Int) 9 1) fun I=>
 Option.bind (lD N ([60,30,10]:List Int) ([6,3,0]:List Int) 0) fun B=>
 Option.bind (nJ N ([60,30,10]:List Int) ([7,2,0]:List Int) 0) fun H=>
 Option.bind (cond (((((M.2 == 0) && (J.2 == 0)) && (I.2 == 0)) && (B.2.2 == 0)) && (H.2.2 == 0)) (Option.bind (cK N M.1 ([20,20,15,15,15,15]:List Int)) fun Y=>
 some Y) (some false)) fun i=>
 Option.bind (cond i (Option.bind (cK N J.1 ([6,3,0]:List Int)) fun Z=>
 some Z) (some false)) fun q=>
 Option.bind (cond q (Option.bind (cK N I.1 ([5,3,1]:List Int)) fun b=>
 some b) (some false)) fun k=>
 some ((((k && (B.1.N == 10 && B.1.D == 1)) && (B.2.1.N == B.1.N && B.2.1.D == B.1.D)) && (H.1 == 0)) && (H.2.1 == 1)))
theorem jT {N:Nat} {G:bA} {Lf:List Ent} {w:World}    (hc:Ctx G (Lf) w) {a2:Bool} (hF:fR N=some a2):Calls Tryz.prog 15 #[] w (fun e w=>e=.returned (.bool a2)∧Ctx G (Lf) w):=by
 unfold fR at hF
 refine cG Tryz.func15 rfl Tryz.ntmps15 rfl fun a hf=>zS fun K h=>sp 1 hf rfl fun a hf=>zT h ?_
 refine zS fun K h=>?_
 obtain ⟨r,hr,hF⟩:=aA hF
 refine zC hf en_4 rfl (qU hc hr) ?_
 rintro _ w ⟨ca,b3,rfl,hc⟩
 refine ⟨_,rfl,fun a hf=>?_⟩
 obtain ⟨O,a4,hF⟩:=aA hF
 obtain ⟨G1,g,U,hc,V⟩:=lend hc k0
 refine zC hf aKz rfl (wH r 120 U hc a4) ?_
 rintro _ w ⟨ad,ab,rfl,hc⟩
 refine ⟨_,rfl,fun a hf=>?_⟩
 replace hc:=V _ _ hc
 refine sp 5 hf rfl fun a hf=>zT h ?_
 refine zS fun K h=>?_
 obtain ⟨br,bf,hF⟩:=aA hF
 refine zC hf en_4 rfl (qU hc bf) ?_
 rintro _ w ⟨cf,b9,rfl,hc⟩
 refine ⟨_,rfl,fun a hf=>?_⟩
 obtain ⟨ag,a9,hF⟩:=aA hF
 refine zQ (v:=.agg #[i6 ag.Lo,i6 ag.Hi]) hf hc tQ rfl (fun w hc=>cJ 90 185 hc a9) fun a w hf hc=>?_
 obtain ⟨R,a5,hF⟩:=aA hF
 obtain ⟨G1,g,U,hc,V⟩:=lend hc k0
 refine zC hf aLa rfl (tX br ag U hc a5) ?_
 rintro _ w ⟨ac,z,rfl,hc⟩
 refine ⟨_,rfl,fun a hf=>?_⟩
 replace hc:=V _ _ hc
 refine sp 5 hf rfl fun a hf=>zT h ?_
 refine zS fun K h=>?_
 obtain ⟨bn,bb,hF⟩:=aA hF
 refine zC hf en_4 rfl (qU hc bb) ?_
 rintro _ w ⟨cj,b5,rfl,hc⟩
 refine ⟨_,rfl,fun a hf=>?_⟩
 obtain ⟨S,bj,hF⟩:=aA hF
 refine zQ (v:=.tuple #[i6 S.1,i6 S.2]) hf hc aKt rfl (fun w hc=>by obtain ⟨G1,g,U,hc,V⟩:=lend hc k0; exact (vJ bn 120 U hc bj).mono fun e w h=>⟨h.1,((V _ _ h.2).unpick k0)⟩) fun a w hf hc=>sp 5 hf rfl fun a hf=>zT h ?_
 refine zS fun K h=>?_
 obtain ⟨a3,ba,hF⟩:=aA hF
 refine zC hf en_6 rfl (wC hc ba) ?_
 rintro _ w ⟨ci,cc,cd,b4,rfl,hc⟩
 refine ⟨_,rfl,fun a hf=>?_⟩
 refine sp 3 hf rfl fun a hf=>zA hf hc aAv rfl fun b7 a w hf hc=>zW hf hc aEa u0 rfl fun w hc=>sp 1 hf rfl fun a hf=>zT h ?_
 refine wp_seq_k fun K6 h6=>bR ?_
 refine zN hf hc lE m0 rfl fun a w hf hc=>zP hf rfl (bG (cells:=[i6 0,i6 0]) tF rfl rfl) fun a hf=>sp 1 hf rfl fun a hf=>?_
 obtain ⟨Y,bi,hF⟩:=aA hF
 obtain ⟨G1,g,U,hc,V⟩:=lend hc k1
 obtain ⟨G2,b,Z,hc,d⟩:=lend hc k1
 refine zC hf aK8 rfl (vA a3.1 (⟨0,0⟩:aE) a3.2 (U.mono b) Z hc bi) ?_
 rintro _ w ⟨aa,y,rfl,hc⟩
 refine ⟨_,rfl,fun a hf=>?_⟩
 replace hc:=d _ _ hc
 replace hc:=V _ _ hc
 refine sp 5 hf rfl fun a hf=>aP ?_
 replace hc:=(((((hc.drop k7).drop k5).drop k4).drop k3).drop k1).drop k0
 refine h6 _ _ ?_
 refine wp_seq_k fun K7 h7=>zS fun K h=>sp 3 hf rfl fun a hf=>cP 3 (fun a=>Has 168 a [(1,.slice ad O.1.length ab),(2,i6 O.2),(3,.slice ac R.1.length z),(4,i6 R.2),(5,i6 S.1),(6,i6 S.2),(9,.slice aa Y.1.length y),(10,i6 Y.2),(46,i6 O.2),(47,.bool (O.2 != 0)),(48,.bool (O.2 != 0)),(51,.bool ((O.2 != 0) || (R.2 != 0)))]) hc ?_ ?_
 ·cases hb:(O.2 != 0)
  ·rw [hb] at hf
   refine sp 3 hf rfl fun a hf=>aP ⟨hf.kp rfl,hc⟩
  ·rw [hb] at hf
   refine stS hf rfl rfl rfl fun a hf=>stS hf rfl rfl rfl fun a hf=>sp 1 hf rfl fun a hf=>aP ⟨hf.kp rfl,hc⟩
 intro a w ⟨hf,hc⟩
 refine sp 1 hf rfl fun a hf=>cP 3 (fun a=>Has 168 a [(1,.slice ad O.1.length ab),(2,i6 O.2),(3,.slice ac R.1.length z),(4,i6 R.2),(5,i6 S.1),(6,i6 S.2),(9,.slice aa Y.1.length y),(10,i6 Y.2),(46,i6 O.2),(47,.bool (O.2 != 0)),(48,.bool (O.2 != 0)),(51,.bool ((O.2 != 0) || (R.2 != 0))),(52,.bool ((O.2 != 0) || (R.2 != 0))),(55,.bool (((O.2 != 0) || (R.2 != 0)) || (S.2 != 0)))]) hc ?_ ?_
 ·cases hb:((O.2 != 0) || (R.2 != 0))
  ·rw [hb] at hf
   refine sp 3 hf rfl fun a hf=>aP ⟨hf.kp rfl,hc⟩
  ·rw [hb] at hf
   refine stS hf rfl rfl rfl fun a hf=>stS hf rfl rfl rfl fun a hf=>sp 1 hf rfl fun a hf=>aP ⟨hf.kp rfl,hc⟩
 intro a w ⟨hf,hc⟩
 refine sp 1 hf rfl fun a hf=>cP 3 (fun a=>Has 168 a [(1,.slice ad O.1.length ab),(2,i6 O.2),(3,.slice ac R.1.length z),(4,i6 R.2),(5,i6 S.1),(6,i6 S.2),(9,.slice aa Y.1.length y),(10,i6 Y.2),(46,i6 O.2),(47,.bool (O.2 != 0)),(48,.bool (O.2 != 0)),(51,.bool ((O.2 != 0) || (R.2 != 0))),(52,.bool ((O.2 != 0) || (R.2 != 0))),(55,.bool (((O.2 != 0) || (R.2 != 0)) || (S.2 != 0))),(56,.bool (((O.2 != 0) || (R.2 != 0)) || (S.2 != 0))),(59,.bool ((((O.2 != 0) || (R.2 != 0)) || (S.2 != 0)) || (Y.2 != 0)))]) hc ?_ ?_
 ·cases hb:(((O.2 != 0) || (R.2 != 0)) || (S.2 != 0))
  ·rw [hb] at hf
   refine sp 3 hf rfl fun a hf=>aP ⟨hf.kp rfl,hc⟩
  ·rw [hb] at hf
   refine stS hf rfl rfl rfl fun a hf=>stS hf rfl rfl rfl fun a hf=>sp 1 hf rfl fun a hf=>aP ⟨hf.kp rfl,hc⟩
 intro a w ⟨hf,hc⟩
 refine sp 1 hf rfl fun a hf=>?_
 obtain ⟨x,am,hF⟩:=aA hF
 refine cP 5 (fun a=>Has 168 a [(1,.slice ad O.1.length ab),(2,i6 O.2),(3,.slice ac R.1.length z),(4,i6 R.2),(5,i6 S.1),(6,i6 S.2),(9,.slice aa Y.1.length y),(10,i6 Y.2),(46,i6 O.2),(47,.bool (O.2 != 0)),(48,.bool (O.2 != 0)),(51,.bool ((O.2 != 0) || (R.2 != 0))),(52,.bool ((O.2 != 0) || (R.2 != 0))),(55,.bool (((O.2 != 0) || (R.2 != 0)) || (S.2 != 0))),(56,.bool (((O.2 != 0) || (R.2 != 0)) || (S.2 != 0))),(59,.bool ((((O.2 != 0) || (R.2 != 0)) || (S.2 != 0)) || (Y.2 != 0))),(60,.bool ((((O.2 != 0) || (R.2 != 0)) || (S.2 != 0)) || (Y.2 != 0))),(65,.bool x)]) hc ?_ ?_
 ·cases hb:((((O.2 != 0) || (R.2 != 0)) || (S.2 != 0)) || (Y.2 != 0))
  ·rw [hb] at hf
   have hF:=fN hb am
   refine sp 1 hf rfl fun a hf=>gV (rows:=([95,18]:List Int).map aD) (vs:=[(0,i6 95),(1,i6 18)]) hf hc rfl rfl fC rfl ⟨rfl,rfl,rfl,rfl,rfl,rfl,trivial⟩ rfl rfl fun b1 a w hf hc=>?_
   obtain ⟨bp,a6,hF⟩:=aA hF
   refine zQ (v:=.bool bp) hf hc tY rfl (fun w hc=>by obtain ⟨G1,g,U,hc,V⟩:=lend hc k3; obtain ⟨G2,b,Z,hc,d⟩:=lend hc k0; exact (dP O.1 ([95,18]:List Int) (U.mono b) Z hc a6).mono fun e w h=>⟨h.1,((V _ _ ((d _ _ h.2).unpick k0)).unpick k3)⟩) fun a w hf hc=>sp 2 hf rfl fun a hf=>?_
   replace hc:=hc.drop k0
   obtain rfl:=sj hF
   exact aP ⟨hf.kp rfl,hc⟩
  ·rw [hb] at hf
   have hF:=fO hb am
   obtain rfl:=sj hF
   refine stS hf rfl rfl rfl fun a hf=>stS hf rfl rfl rfl fun a hf=>stS hf rfl rfl rfl fun a hf=>stS hf rfl rfl rfl fun a hf=>sp 1 hf rfl fun a hf=>aP ⟨hf.kp rfl,hc⟩
 intro a w ⟨hf,hc⟩
 refine sp 1 hf rfl fun a hf=>?_
 obtain ⟨u,af,hF⟩:=aA hF
 refine cP 7 (fun a=>Has 168 a [(1,.slice ad O.1.length ab),(2,i6 O.2),(3,.slice ac R.1.length z),(4,i6 R.2),(5,i6 S.1),(6,i6 S.2),(9,.slice aa Y.1.length y),(10,i6 Y.2),(46,i6 O.2),(47,.bool (O.2 != 0)),(48,.bool (O.2 != 0)),(51,.bool ((O.2 != 0) || (R.2 != 0))),(52,.bool ((O.2 != 0) || (R.2 != 0))),(55,.bool (((O.2 != 0) || (R.2 != 0)) || (S.2 != 0))),(56,.bool (((O.2 != 0) || (R.2 != 0)) || (S.2 != 0))),(59,.bool ((((O.2 != 0) || (R.2 != 0)) || (S.2 != 0)) || (Y.2 != 0))),(60,.bool ((((O.2 != 0) || (R.2 != 0)) || (S.2 != 0)) || (Y.2 != 0))),(65,.bool x),(66,.bool x),(73,.bool u)]) hc ?_ ?_
 ·cases hb:x
  ·rw [hb] at hf
   try rw [hb] at hc
   have hF:=fN hb af
   refine sp 1 hf rfl fun a hf=>zP hf rfl (bG (cells:=[i6 85,i6 120]) tF rfl rfl) fun a hf=>zP hf rfl (bG (cells:=[i6 0,i6 54]) tF rfl rfl) fun a hf=>gV (rows:=([(⟨85,120⟩:aE),(⟨0,54⟩:aE)]:List aE).map bC) (vs:=[(0,.agg #[i6 85,i6 120]),(1,.agg #[i6 0,i6 54])]) hf hc rfl rfl wF rfl ⟨rfl,rfl,rfl,rfl,rfl,rfl,trivial⟩ rfl rfl fun b0 a w hf hc=>?_
   obtain ⟨a7,ay,hF⟩:=aA hF
   refine zQ (v:=.bool a7) hf hc aGg rfl (fun w hc=>by obtain ⟨G1,g,U,hc,V⟩:=lend hc k2; obtain ⟨G2,b,Z,hc,d⟩:=lend hc k0; exact (kL R.1 ([(⟨85,120⟩:aE),(⟨0,54⟩:aE)]:List aE) (U.mono b) Z hc ay).mono fun e w h=>⟨h.1,((V _ _ ((d _ _ h.2).unpick k0)).unpick k2)⟩) fun a w hf hc=>sp 2 hf rfl fun a hf=>?_
   replace hc:=hc.drop k0
   obtain rfl:=sj hF
   exact aP ⟨hf.kp rfl,hc⟩
  ·rw [hb] at hf
   try rw [hb] at hc
   have hF:=fO hb af
   obtain rfl:=sj hF
   refine stS hf rfl rfl rfl fun a hf=>stS hf rfl rfl rfl fun a hf=>stS hf rfl rfl rfl fun a hf=>stS hf rfl rfl rfl fun a hf=>stS hf rfl rfl rfl fun a hf=>stS hf rfl rfl rfl fun a hf=>sp 1 hf rfl fun a hf=>aP ⟨hf.kp rfl,hc⟩
 intro a w ⟨hf,hc⟩
 refine sp 1 hf rfl fun a hf=>cP 3 (fun a=>Has 168 a [(1,.slice ad O.1.length ab),(2,i6 O.2),(3,.slice ac R.1.length z),(4,i6 R.2),(5,i6 S.1),(6,i6 S.2),(9,.slice aa Y.1.length y),(10,i6 Y.2),(46,i6 O.2),(47,.bool (O.2 != 0)),(48,.bool (O.2 != 0)),(51,.bool ((O.2 != 0) || (R.2 != 0))),(52,.bool ((O.2 != 0) || (R.2 != 0))),(55,.bool (((O.2 != 0) || (R.2 != 0)) || (S.2 != 0))),(56,.bool (((O.2 != 0) || (R.2 != 0)) || (S.2 != 0))),(59,.bool ((((O.2 != 0) || (R.2 != 0)) || (S.2 != 0)) || (Y.2 != 0))),(60,.bool ((((O.2 != 0) || (R.2 != 0)) || (S.2 != 0)) || (Y.2 != 0))),(65,.bool x),(66,.bool x),(73,.bool u),(74,.bool u),(77,.bool (u || (S.1 != 1)))]) hc ?_ ?_
 ·cases hb:u
  ·rw [hb] at hf
   try rw [hb] at hc
   refine sp 3 hf rfl fun a hf=>aP ⟨hf.kp rfl,hc⟩
  ·rw [hb] at hf
   try rw [hb] at hc
   refine stS hf rfl rfl rfl fun a hf=>stS hf rfl rfl rfl fun a hf=>sp 1 hf rfl fun a hf=>aP ⟨hf.kp rfl,hc⟩
 intro a w ⟨hf,hc⟩
 refine sp 1 hf rfl fun a hf=>?_
 obtain ⟨bm,aj,hF⟩:=aA hF
 refine cP 8 (fun a=>Has 168 a [(1,.slice ad O.1.length ab),(2,i6 O.2),(3,.slice ac R.1.length z),(4,i6 R.2),(5,i6 S.1),(6,i6 S.2),(9,.slice aa Y.1.length y),(10,i6 Y.2),(46,i6 O.2),(47,.bool (O.2 != 0)),(48,.bool (O.2 != 0)),(51,.bool ((O.2 != 0) || (R.2 != 0))),(52,.bool ((O.2 != 0) || (R.2 != 0))),(55,.bool (((O.2 != 0) || (R.2 != 0)) || (S.2 != 0))),(56,.bool (((O.2 != 0) || (R.2 != 0)) || (S.2 != 0))),(59,.bool ((((O.2 != 0) || (R.2 != 0)) || (S.2 != 0)) || (Y.2 != 0))),(60,.bool ((((O.2 != 0) || (R.2 != 0)) || (S.2 != 0)) || (Y.2 != 0))),(65,.bool x),(66,.bool x),(73,.bool u),(74,.bool u),(77,.bool (u || (S.1 != 1))),(78,.bool (u || (S.1 != 1))),(86,.bool bm)]) hc ?_ ?_
 ·cases hb:(u || (S.1 != 1))
  ·rw [hb] at hf
   have hF:=fN hb aj
   refine sp 1 hf rfl fun a hf=>zP hf rfl (bG (cells:=[i6 (-2),i6 8]) tF rfl rfl) fun a hf=>zP hf rfl (bG (cells:=[i6 (-15),i6 (-12)]) tF rfl rfl) fun a hf=>zP hf rfl (bG (cells:=[i6 0,i6 0]) tF rfl rfl) fun a hf=>gV (rows:=([(⟨(-2),8⟩:aE),(⟨(-15),(-12)⟩:aE),(⟨0,0⟩:aE)]:List aE).map bC) (vs:=[(0,.agg #[i6 (-2),i6 8]),(1,.agg #[i6 (-15),i6 (-12)]),(2,.agg #[i6 0,i6 0])]) hf hc rfl rfl wF rfl ⟨rfl,rfl,rfl,rfl,rfl,rfl,rfl,rfl,rfl,trivial⟩ rfl rfl fun cg a w hf hc=>?_
   obtain ⟨bc,au,hF⟩:=aA hF
   refine zQ (v:=.bool bc) hf hc aGg rfl (fun w hc=>by obtain ⟨G1,g,U,hc,V⟩:=lend hc k1; obtain ⟨G2,b,Z,hc,d⟩:=lend hc k0; exact (kL Y.1 ([(⟨(-2),8⟩:aE),(⟨(-15),(-12)⟩:aE),(⟨0,0⟩:aE)]:List aE) (U.mono b) Z hc au).mono fun e w h=>⟨h.1,((V _ _ ((d _ _ h.2).unpick k0)).unpick k1)⟩) fun a w hf hc=>sp 2 hf rfl fun a hf=>?_
   replace hc:=hc.drop k0
   obtain rfl:=sj hF
   exact aP ⟨hf.kp rfl,hc⟩
  ·rw [hb] at hf
   have hF:=fO hb aj
   obtain rfl:=sj hF
   refine stS hf rfl rfl rfl fun a hf=>stS hf rfl rfl rfl fun a hf=>stS hf rfl rfl rfl fun a hf=>stS hf rfl rfl rfl fun a hf=>stS hf rfl rfl rfl fun a hf=>stS hf rfl rfl rfl fun a hf=>stS hf rfl rfl rfl fun a hf=>sp 1 hf rfl fun a hf=>aP ⟨hf.kp rfl,hc⟩
 intro a w ⟨hf,hc⟩
 refine zT h ?_
 refine zI hf rfl hF ?_ ?_ <;> clear hF <;> intro hF
 ·refine zS fun K h=>sp 1 hf rfl fun a hf=>zT h ?_
  refine wp_ret ?_
  refine aN ?_
  obtain rfl:=sj hF
  replace hc:=((hc.drop k2).drop k1).drop k0
  exact zO1 Tryz.results15 hf rfl ⟨rfl,hc⟩
 ·refine wp_skip ?_
  refine h7 _ _ ?_
  refine zS fun K h=>gV (rows:=([20,30,30,40,40,40]:List Int).map aD) (vs:=[(0,i6 20),(1,i6 30),(2,i6 30),(3,i6 40),(4,i6 40),(5,i6 40)]) hf hc rfl rfl fC rfl ⟨rfl,rfl,rfl,rfl,rfl,rfl,rfl,rfl,rfl,rfl,rfl,rfl,rfl,rfl,rfl,rfl,rfl,rfl,trivial⟩ rfl rfl fun bs a w hf hc=>zP hf rfl (bG (cells:=[i6 15,i6 4,.slice (some ⟨bs,0,none⟩) 6 6]) aCt rfl rfl) fun a hf=>?_
  obtain ⟨B,av,hF⟩:=aA hF
  obtain ⟨G1,g,U,hc,V⟩:=lend hc k0
  refine zC hf aIh rfl (pJ 100 (⟨15,4,([20,30,30,40,40,40]:List Int)⟩:bU) U hc av) ?_
  rintro _ w ⟨t,s,rfl,hc⟩
  refine ⟨_,rfl,fun a hf=>?_⟩
  replace hc:=V _ _ hc
  refine sp 5 hf rfl fun a hf=>zT h ?_
  refine zS fun K h=>gV (rows:=([60,30,10]:List Int).map aD) (vs:=[(0,i6 60),(1,i6 30),(2,i6 10)]) hf hc rfl rfl fC rfl ⟨rfl,rfl,rfl,rfl,rfl,rfl,rfl,rfl,rfl,trivial⟩ rfl rfl fun b8 a w hf hc=>?_
  obtain ⟨I,aq,hF⟩:=aA hF
  obtain ⟨G1,g,U,hc,V⟩:=lend hc k0
  refine zC hf aGs rfl (oW ([60,30,10]:List Int) 9 0 U hc aq) ?_
  rintro _ w ⟨k,n,rfl,hc⟩
  refine ⟨_,rfl,fun a hf=>?_⟩
  replace hc:=V _ _ hc
  refine sp 5 hf rfl fun a hf=>zT h ?_
  refine wp_seq_k fun K12 bq=>bR ?_
  refine gV (rows:=([60,30,10]:List Int).map aD) (vs:=[(0,i6 60),(1,i6 30),(2,i6 10)]) hf hc rfl rfl fC rfl ⟨rfl,rfl,rfl,rfl,rfl,rfl,rfl,rfl,rfl,trivial⟩ rfl rfl fun cb a w hf hc=>?_
  obtain ⟨J,a0,hF⟩:=aA hF
  obtain ⟨G1,g,U,hc,V⟩:=lend hc k0
  refine zC hf aGs rfl (oW ([60,30,10]:List Int) 9 1 U hc a0) ?_
  rintro _ w ⟨m,o,rfl,hc⟩
  refine ⟨_,rfl,fun a hf=>?_⟩
  replace hc:=V _ _ hc
  refine sp 5 hf rfl fun a hf=>aP ?_
  replace hc:=(((((hc.drop k8).drop k7).drop k6).drop k4).drop k2).drop k0
  refine bq _ _ ?_
  refine zS fun K h=>gV (rows:=([60,30,10]:List Int).map aD) (vs:=[(0,i6 60),(1,i6 30),(2,i6 10)]) hf hc rfl rfl fC rfl ⟨rfl,rfl,rfl,rfl,rfl,rfl,rfl,rfl,rfl,trivial⟩ rfl rfl fun b6 a w hf hc=>gV (rows:=([6,3,0]:List Int).map aD) (vs:=[(0,i6 6),(1,i6 3),(2,i6 0)]) hf hc rfl rfl fC rfl ⟨rfl,rfl,rfl,rfl,rfl,rfl,rfl,rfl,rfl,trivial⟩ rfl rfl fun b2 a w hf hc=>?_
  obtain ⟨H,ax,hF⟩:=aA hF
  refine zQ (v:=.tuple #[.agg #[i6 H.1.N,i6 H.1.D],.agg #[i6 H.2.1.N,i6 H.2.1.D],i6 H.2.2]) hf hc aKn rfl (fun w hc=>by obtain ⟨G1,g,U,hc,V⟩:=lend hc k1; obtain ⟨G2,b,Z,hc,d⟩:=lend hc k0; exact (sK ([60,30,10]:List Int) ([6,3,0]:List Int) 0 (U.mono b) Z hc ax).mono fun e w h=>⟨h.1,((V _ _ ((d _ _ h.2).unpick k0)).unpick k1)⟩) fun a w hf hc=>sp 4 hf rfl fun a hf=>zA hf hc rA rfl fun i a w hf hc=>zA hf hc rA rfl fun j a w hf hc=>zW hf hc jU u1 rfl fun w hc=>zW hf hc jU u0 rfl fun w hc=>sp 1 hf rfl fun a hf=>zT h ?_
  refine wp_seq_k fun K14 bk=>bR ?_
  refine gV (rows:=([60,30,10]:List Int).map aD) (vs:=[(0,i6 60),(1,i6 30),(2,i6 10)]) hf hc rfl rfl fC rfl ⟨rfl,rfl,rfl,rfl,rfl,rfl,rfl,rfl,rfl,trivial⟩ rfl rfl fun bt a w hf hc=>gV (rows:=([7,2,0]:List Int).map aD) (vs:=[(0,i6 7),(1,i6 2),(2,i6 0)]) hf hc rfl rfl fC rfl ⟨rfl,rfl,rfl,rfl,rfl,rfl,rfl,rfl,rfl,trivial⟩ rfl rfl fun bx a w hf hc=>?_
  obtain ⟨M,ap,hF⟩:=aA hF
  refine zQ (v:=.tuple #[i6 M.1,i6 M.2.1,i6 M.2.2]) hf hc aLb rfl (fun w hc=>by obtain ⟨G1,g,U,hc,V⟩:=lend hc k1; obtain ⟨G2,b,Z,hc,d⟩:=lend hc k0; exact (tW ([60,30,10]:List Int) ([7,2,0]:List Int) 0 (U.mono b) Z hc ap).mono fun e w h=>⟨h.1,((V _ _ ((d _ _ h.2).unpick k0)).unpick k1)⟩) fun a w hf hc=>sp 7 hf rfl fun a hf=>aP ?_
  replace hc:=(((hc.drop k5).drop k4).drop k1).drop k0
  refine bk _ _ ?_
  refine zS fun K h=>sp 3 hf rfl fun a hf=>cP 3 (fun a=>Has 168 a [(2,i6 B.2),(4,i6 I.2),(6,i6 J.2),(10,i6 H.2.2),(11,.slice t B.1.length s),(12,.slice k I.1.length n),(13,.slice m J.1.length o),(14,pq i),(15,pq j),(16,i6 M.1),(17,i6 M.2.1),(18,i6 M.2.2),(117,i6 B.2),(118,.bool (B.2 == 0)),(119,.bool (B.2 == 0)),(122,.bool ((B.2 == 0) && (I.2 == 0)))]) hc ?_ ?_
  ·cases hb:(B.2 == 0)
   ·rw [hb] at hf
    refine stS hf rfl rfl rfl fun a hf=>stS hf rfl rfl rfl fun a hf=>sp 1 hf rfl fun a hf=>aP ⟨hf.kp rfl,hc⟩
   ·rw [hb] at hf
    refine sp 3 hf rfl fun a hf=>aP ⟨hf.kp rfl,hc⟩
  intro a w ⟨hf,hc⟩
  refine sp 1 hf rfl fun a hf=>cP 3 (fun a=>Has 168 a [(2,i6 B.2),(4,i6 I.2),(6,i6 J.2),(10,i6 H.2.2),(11,.slice t B.1.length s),(12,.slice k I.1.length n),(13,.slice m J.1.length o),(14,pq i),(15,pq j),(16,i6 M.1),(17,i6 M.2.1),(18,i6 M.2.2),(117,i6 B.2),(118,.bool (B.2 == 0)),(119,.bool (B.2 == 0)),(122,.bool ((B.2 == 0) && (I.2 == 0))),(123,.bool ((B.2 == 0) && (I.2 == 0))),(126,.bool (((B.2 == 0) && (I.2 == 0)) && (J.2 == 0)))]) hc ?_ ?_
  ·cases hb:((B.2 == 0) && (I.2 == 0))
   ·rw [hb] at hf
    refine stS hf rfl rfl rfl fun a hf=>stS hf rfl rfl rfl fun a hf=>sp 1 hf rfl fun a hf=>aP ⟨hf.kp rfl,hc⟩
   ·rw [hb] at hf
    refine sp 3 hf rfl fun a hf=>aP ⟨hf.kp rfl,hc⟩
  intro a w ⟨hf,hc⟩
  refine sp 1 hf rfl fun a hf=>cP 3 (fun a=>Has 168 a [(2,i6 B.2),(4,i6 I.2),(6,i6 J.2),(10,i6 H.2.2),(11,.slice t B.1.length s),(12,.slice k I.1.length n),(13,.slice m J.1.length o),(14,pq i),(15,pq j),(16,i6 M.1),(17,i6 M.2.1),(18,i6 M.2.2),(117,i6 B.2),(118,.bool (B.2 == 0)),(119,.bool (B.2 == 0)),(122,.bool ((B.2 == 0) && (I.2 == 0))),(123,.bool ((B.2 == 0) && (I.2 == 0))),(126,.bool (((B.2 == 0) && (I.2 == 0)) && (J.2 == 0))),(127,.bool (((B.2 == 0) && (I.2 == 0)) && (J.2 == 0))),(130,.bool ((((B.2 == 0) && (I.2 == 0)) && (J.2 == 0)) && (H.2.2 == 0)))]) hc ?_ ?_
  ·cases hb:(((B.2 == 0) && (I.2 == 0)) && (J.2 == 0))
   ·rw [hb] at hf
    refine stS hf rfl rfl rfl fun a hf=>stS hf rfl rfl rfl fun a hf=>sp 1 hf rfl fun a hf=>aP ⟨hf.kp rfl,hc⟩
   ·rw [hb] at hf
    refine sp 3 hf rfl fun a hf=>aP ⟨hf.kp rfl,hc⟩
  intro a w ⟨hf,hc⟩
  refine sp 1 hf rfl fun a hf=>cP 3 (fun a=>Has 168 a [(2,i6 B.2),(4,i6 I.2),(6,i6 J.2),(10,i6 H.2.2),(11,.slice t B.1.length s),(12,.slice k I.1.length n),(13,.slice m J.1.length o),(14,pq i),(15,pq j),(16,i6 M.1),(17,i6 M.2.1),(18,i6 M.2.2),(117,i6 B.2),(118,.bool (B.2 == 0)),(119,.bool (B.2 == 0)),(122,.bool ((B.2 == 0) && (I.2 == 0))),(123,.bool ((B.2 == 0) && (I.2 == 0))),(126,.bool (((B.2 == 0) && (I.2 == 0)) && (J.2 == 0))),(127,.bool (((B.2 == 0) && (I.2 == 0)) && (J.2 == 0))),(130,.bool ((((B.2 == 0) && (I.2 == 0)) && (J.2 == 0)) && (H.2.2 == 0))),(131,.bool ((((B.2 == 0) && (I.2 == 0)) && (J.2 == 0)) && (H.2.2 == 0))),(134,.bool (((((B.2 == 0) && (I.2 == 0)) && (J.2 == 0)) && (H.2.2 == 0)) && (M.2.2 == 0)))]) hc ?_ ?_
  ·cases hb:((((B.2 == 0) && (I.2 == 0)) && (J.2 == 0)) && (H.2.2 == 0))
   ·rw [hb] at hf
    refine stS hf rfl rfl rfl fun a hf=>stS hf rfl rfl rfl fun a hf=>sp 1 hf rfl fun a hf=>aP ⟨hf.kp rfl,hc⟩
   ·rw [hb] at hf
    refine sp 3 hf rfl fun a hf=>aP ⟨hf.kp rfl,hc⟩
  intro a w ⟨hf,hc⟩
  refine sp 1 hf rfl fun a hf=>?_
  obtain ⟨p,ak,hF⟩:=aA hF
  refine cP 4 (fun a=>Has 168 a [(2,i6 B.2),(4,i6 I.2),(6,i6 J.2),(10,i6 H.2.2),(11,.slice t B.1.length s),(12,.slice k I.1.length n),(13,.slice m J.1.length o),(14,pq i),(15,pq j),(16,i6 M.1),(17,i6 M.2.1),(18,i6 M.2.2),(117,i6 B.2),(118,.bool (B.2 == 0)),(119,.bool (B.2 == 0)),(122,.bool ((B.2 == 0) && (I.2 == 0))),(123,.bool ((B.2 == 0) && (I.2 == 0))),(126,.bool (((B.2 == 0) && (I.2 == 0)) && (J.2 == 0))),(127,.bool (((B.2 == 0) && (I.2 == 0)) && (J.2 == 0))),(130,.bool ((((B.2 == 0) && (I.2 == 0)) && (J.2 == 0)) && (H.2.2 == 0))),(131,.bool ((((B.2 == 0) && (I.2 == 0)) && (J.2 == 0)) && (H.2.2 == 0))),(134,.bool (((((B.2 == 0) && (I.2 == 0)) && (J.2 == 0)) && (H.2.2 == 0)) && (M.2.2 == 0))),(135,.bool (((((B.2 == 0) && (I.2 == 0)) && (J.2 == 0)) && (H.2.2 == 0)) && (M.2.2 == 0))),(139,.bool p)]) hc ?_ ?_
  ·cases hb:(((((B.2 == 0) && (I.2 == 0)) && (J.2 == 0)) && (H.2.2 == 0)) && (M.2.2 == 0))
   ·rw [hb] at hf
    have hF:=fN hb ak
    obtain rfl:=sj hF
    refine stS hf rfl rfl rfl fun a hf=>stS hf rfl rfl rfl fun a hf=>stS hf rfl rfl rfl fun a hf=>sp 1 hf rfl fun a hf=>aP ⟨hf.kp rfl,hc⟩
   ·rw [hb] at hf
    have hF:=fO hb ak
    refine sp 1 hf rfl fun a hf=>gV (rows:=([20,20,15,15,15,15]:List Int).map aD) (vs:=[(0,i6 20),(1,i6 20),(2,i6 15),(3,i6 15),(4,i6 15),(5,i6 15)]) hf hc rfl rfl fC rfl ⟨rfl,rfl,rfl,rfl,rfl,rfl,rfl,rfl,rfl,rfl,rfl,rfl,rfl,rfl,rfl,rfl,rfl,rfl,trivial⟩ rfl rfl fun bz a w hf hc=>?_
    obtain ⟨a8,az,hF⟩:=aA hF
    refine zQ (v:=.bool a8) hf hc tY rfl (fun w hc=>by obtain ⟨G1,g,U,hc,V⟩:=lend hc k5; obtain ⟨G2,b,Z,hc,d⟩:=lend hc k0; exact (dP B.1 ([20,20,15,15,15,15]:List Int) (U.mono b) Z hc az).mono fun e w h=>⟨h.1,((V _ _ ((d _ _ h.2).unpick k0)).unpick k5)⟩) fun a w hf hc=>sp 1 hf rfl fun a hf=>?_
    replace hc:=hc.drop k0
    obtain rfl:=sj hF
    exact aP ⟨hf.kp rfl,hc⟩
  intro a w ⟨hf,hc⟩
  refine sp 1 hf rfl fun a hf=>?_
  obtain ⟨q,ai,hF⟩:=aA hF
  refine cP 4 (fun a=>Has 168 a [(2,i6 B.2),(4,i6 I.2),(6,i6 J.2),(10,i6 H.2.2),(11,.slice t B.1.length s),(12,.slice k I.1.length n),(13,.slice m J.1.length o),(14,pq i),(15,pq j),(16,i6 M.1),(17,i6 M.2.1),(18,i6 M.2.2),(117,i6 B.2),(118,.bool (B.2 == 0)),(119,.bool (B.2 == 0)),(122,.bool ((B.2 == 0) && (I.2 == 0))),(123,.bool ((B.2 == 0) && (I.2 == 0))),(126,.bool (((B.2 == 0) && (I.2 == 0)) && (J.2 == 0))),(127,.bool (((B.2 == 0) && (I.2 == 0)) && (J.2 == 0))),(130,.bool ((((B.2 == 0) && (I.2 == 0)) && (J.2 == 0)) && (H.2.2 == 0))),(131,.bool ((((B.2 == 0) && (I.2 == 0)) && (J.2 == 0)) && (H.2.2 == 0))),(134,.bool (((((B.2 == 0) && (I.2 == 0)) && (J.2 == 0)) && (H.2.2 == 0)) && (M.2.2 == 0))),(135,.bool (((((B.2 == 0) && (I.2 == 0)) && (J.2 == 0)) && (H.2.2 == 0)) && (M.2.2 == 0))),(139,.bool p),(140,.bool p),(144,.bool q)]) hc ?_ ?_
  ·cases hb:p
   ·rw [hb] at hf
    try rw [hb] at hc
    have hF:=fN hb ai
    obtain rfl:=sj hF
    refine stS hf rfl rfl rfl fun a hf=>stS hf rfl rfl rfl fun a hf=>stS hf rfl rfl rfl fun a hf=>sp 1 hf rfl fun a hf=>aP ⟨hf.kp rfl,hc⟩
   ·rw [hb] at hf
    try rw [hb] at hc
    have hF:=fO hb ai
    refine sp 1 hf rfl fun a hf=>gV (rows:=([6,3,0]:List Int).map aD) (vs:=[(0,i6 6),(1,i6 3),(2,i6 0)]) hf hc rfl rfl fC rfl ⟨rfl,rfl,rfl,rfl,rfl,rfl,rfl,rfl,rfl,trivial⟩ rfl rfl fun bv a w hf hc=>?_
    obtain ⟨bg,ar,hF⟩:=aA hF
    refine zQ (v:=.bool bg) hf hc tY rfl (fun w hc=>by obtain ⟨G1,g,U,hc,V⟩:=lend hc k4; obtain ⟨G2,b,Z,hc,d⟩:=lend hc k0; exact (dP I.1 ([6,3,0]:List Int) (U.mono b) Z hc ar).mono fun e w h=>⟨h.1,((V _ _ ((d _ _ h.2).unpick k0)).unpick k4)⟩) fun a w hf hc=>sp 1 hf rfl fun a hf=>?_
    replace hc:=hc.drop k0
    obtain rfl:=sj hF
    exact aP ⟨hf.kp rfl,hc⟩
  intro a w ⟨hf,hc⟩
  refine sp 1 hf rfl fun a hf=>?_
  obtain ⟨X,an,hF⟩:=aA hF
  refine cP 4 (fun a=>Has 168 a [(2,i6 B.2),(4,i6 I.2),(6,i6 J.2),(10,i6 H.2.2),(11,.slice t B.1.length s),(12,.slice k I.1.length n),(13,.slice m J.1.length o),(14,pq i),(15,pq j),(16,i6 M.1),(17,i6 M.2.1),(18,i6 M.2.2),(117,i6 B.2),(118,.bool (B.2 == 0)),(119,.bool (B.2 == 0)),(122,.bool ((B.2 == 0) && (I.2 == 0))),(123,.bool ((B.2 == 0) && (I.2 == 0))),(126,.bool (((B.2 == 0) && (I.2 == 0)) && (J.2 == 0))),(127,.bool (((B.2 == 0) && (I.2 == 0)) && (J.2 == 0))),(130,.bool ((((B.2 == 0) && (I.2 == 0)) && (J.2 == 0)) && (H.2.2 == 0))),(131,.bool ((((B.2 == 0) && (I.2 == 0)) && (J.2 == 0)) && (H.2.2 == 0))),(134,.bool (((((B.2 == 0) && (I.2 == 0)) && (J.2 == 0)) && (H.2.2 == 0)) && (M.2.2 == 0))),(135,.bool (((((B.2 == 0) && (I.2 == 0)) && (J.2 == 0)) && (H.2.2 == 0)) && (M.2.2 == 0))),(139,.bool p),(140,.bool p),(144,.bool q),(145,.bool q),(149,.bool X)]) hc ?_ ?_
  ·cases hb:q
   ·rw [hb] at hf
    try rw [hb] at hc
    have hF:=fN hb an
    obtain rfl:=sj hF
    refine stS hf rfl rfl rfl fun a hf=>stS hf rfl rfl rfl fun a hf=>stS hf rfl rfl rfl fun a hf=>sp 1 hf rfl fun a hf=>aP ⟨hf.kp rfl,hc⟩
   ·rw [hb] at hf
    try rw [hb] at hc
    have hF:=fO hb an
    refine sp 1 hf rfl fun a hf=>gV (rows:=([5,3,1]:List Int).map aD) (vs:=[(0,i6 5),(1,i6 3),(2,i6 1)]) hf hc rfl rfl fC rfl ⟨rfl,rfl,rfl,rfl,rfl,rfl,rfl,rfl,rfl,trivial⟩ rfl rfl fun bu a w hf hc=>?_
    obtain ⟨bd,a1,hF⟩:=aA hF
    refine zQ (v:=.bool bd) hf hc tY rfl (fun w hc=>by obtain ⟨G1,g,U,hc,V⟩:=lend hc k3; obtain ⟨G2,b,Z,hc,d⟩:=lend hc k0; exact (dP J.1 ([5,3,1]:List Int) (U.mono b) Z hc a1).mono fun e w h=>⟨h.1,((V _ _ ((d _ _ h.2).unpick k0)).unpick k3)⟩) fun a w hf hc=>sp 1 hf rfl fun a hf=>?_
    replace hc:=hc.drop k0
    obtain rfl:=sj hF
    exact aP ⟨hf.kp rfl,hc⟩
  intro a w ⟨hf,hc⟩
  refine sp 1 hf rfl fun a hf=>cP 4 (fun a=>Has 168 a ((2,i6 B.2)::(4,i6 I.2)::(6,i6 J.2)::(10,i6 H.2.2)::(11,.slice t B.1.length s)::(12,.slice k I.1.length n)::(13,.slice m J.1.length o)::(14,pq i)::(15,pq j)::(16,i6 M.1)::(17,i6 M.2.1)::(18,i6 M.2.2)::(117,i6 B.2)::(118,.bool (B.2 == 0))::(119,.bool (B.2 == 0))::(122,.bool ((B.2 == 0) && (I.2 == 0)))::(123,.bool ((B.2 == 0) && (I.2 == 0)))::(126,.bool (((B.2 == 0) && (I.2 == 0)) && (J.2 == 0)))::(127,.bool (((B.2 == 0) && (I.2 == 0)) && (J.2 == 0)))::(130,.bool ((((B.2 == 0) && (I.2 == 0)) && (J.2 == 0)) && (H.2.2 == 0)))::(131,.bool ((((B.2 == 0) && (I.2 == 0)) && (J.2 == 0)) && (H.2.2 == 0)))::(134,.bool (((((B.2 == 0) && (I.2 == 0)) && (J.2 == 0)) && (H.2.2 == 0)) && (M.2.2 == 0)))::(135,.bool (((((B.2 == 0) && (I.2 == 0)) && (J.2 == 0)) && (H.2.2 == 0)) && (M.2.2 == 0)))::(139,.bool p)::(140,.bool p)::(144,.bool q)::(145,.bool q)::(149,.bool X)::(150,.bool X)::(154,.bool (X && (H.1.N == 10 && H.1.D == 1)))::[])) hc ?_ ?_
  ·cases hb:X
   ·rw [hb] at hf
    try rw [hb] at hc
    refine stS hf rfl rfl rfl fun a hf=>stS hf rfl rfl rfl fun a hf=>stS hf rfl rfl rfl fun a hf=>sp 1 hf rfl fun a hf=>aP ⟨hf.kp rfl,hc⟩
   ·rw [hb] at hf
    try rw [hb] at hc
    refine zN hf hc jW m1 rfl fun a w hf hc=>zP hf rfl (bG (cells:=[i6 10,i6 1]) qN rfl rfl) fun a hf=>zP hf rfl (pEqA aGn rfl rfl (aC6 _ _ _ _)) fun a hf=>sp 1 hf rfl fun a hf=>aP ⟨hf.kp rfl,hc⟩
  intro a w ⟨hf,hc⟩
  refine sp 1 hf rfl fun a hf=>cP 4 (fun a=>Has 168 a ((2,i6 B.2)::(4,i6 I.2)::(6,i6 J.2)::(10,i6 H.2.2)::(11,.slice t B.1.length s)::(12,.slice k I.1.length n)::(13,.slice m J.1.length o)::(14,pq i)::(15,pq j)::(16,i6 M.1)::(17,i6 M.2.1)::(18,i6 M.2.2)::(117,i6 B.2)::(118,.bool (B.2 == 0))::(119,.bool (B.2 == 0))::(122,.bool ((B.2 == 0) && (I.2 == 0)))::(123,.bool ((B.2 == 0) && (I.2 == 0)))::(126,.bool (((B.2 == 0) && (I.2 == 0)) && (J.2 == 0)))::(127,.bool (((B.2 == 0) && (I.2 == 0)) && (J.2 == 0)))::(130,.bool ((((B.2 == 0) && (I.2 == 0)) && (J.2 == 0)) && (H.2.2 == 0)))::(131,.bool ((((B.2 == 0) && (I.2 == 0)) && (J.2 == 0)) && (H.2.2 == 0)))::(134,.bool (((((B.2 == 0) && (I.2 == 0)) && (J.2 == 0)) && (H.2.2 == 0)) && (M.2.2 == 0)))::(135,.bool (((((B.2 == 0) && (I.2 == 0)) && (J.2 == 0)) && (H.2.2 == 0)) && (M.2.2 == 0)))::(139,.bool p)::(140,.bool p)::(144,.bool q)::(145,.bool q)::(149,.bool X)::(150,.bool X)::(154,.bool (X && (H.1.N == 10 && H.1.D == 1)))::(155,.bool (X && (H.1.N == 10 && H.1.D == 1)))::(159,.bool ((X && (H.1.N == 10 && H.1.D == 1)) && (H.2.1.N == H.1.N && H.2.1.D == H.1.D)))::[])) hc ?_ ?_
  ·cases hb:(X && (H.1.N == 10 && H.1.D == 1))
   ·rw [hb] at hf
    refine stS hf rfl rfl rfl fun a hf=>stS hf rfl rfl rfl fun a hf=>stS hf rfl rfl rfl fun a hf=>sp 1 hf rfl fun a hf=>aP ⟨hf.kp rfl,hc⟩
   ·rw [hb] at hf
    refine zN hf hc jW m0 rfl fun a w hf hc=>zN hf hc jW m1 rfl fun a w hf hc=>zP hf rfl (pEqA aGn rfl rfl (aC6 _ _ _ _)) fun a hf=>sp 1 hf rfl fun a hf=>aP ⟨hf.kp rfl,hc⟩
  intro a w ⟨hf,hc⟩
  refine sp 1 hf rfl fun a hf=>cP 3 (fun a=>Has 168 a ((2,i6 B.2)::(4,i6 I.2)::(6,i6 J.2)::(10,i6 H.2.2)::(11,.slice t B.1.length s)::(12,.slice k I.1.length n)::(13,.slice m J.1.length o)::(14,pq i)::(15,pq j)::(16,i6 M.1)::(17,i6 M.2.1)::(18,i6 M.2.2)::(117,i6 B.2)::(118,.bool (B.2 == 0))::(119,.bool (B.2 == 0))::(122,.bool ((B.2 == 0) && (I.2 == 0)))::(123,.bool ((B.2 == 0) && (I.2 == 0)))::(126,.bool (((B.2 == 0) && (I.2 == 0)) && (J.2 == 0)))::(127,.bool (((B.2 == 0) && (I.2 == 0)) && (J.2 == 0)))::(130,.bool ((((B.2 == 0) && (I.2 == 0)) && (J.2 == 0)) && (H.2.2 == 0)))::(131,.bool ((((B.2 == 0) && (I.2 == 0)) && (J.2 == 0)) && (H.2.2 == 0)))::(134,.bool (((((B.2 == 0) && (I.2 == 0)) && (J.2 == 0)) && (H.2.2 == 0)) && (M.2.2 == 0)))::(135,.bool (((((B.2 == 0) && (I.2 == 0)) && (J.2 == 0)) && (H.2.2 == 0)) && (M.2.2 == 0)))::(139,.bool p)::(140,.bool p)::(144,.bool q)::(145,.bool q)::(149,.bool X)::(150,.bool X)::(154,.bool (X && (H.1.N == 10 && H.1.D == 1)))::(155,.bool (X && (H.1.N == 10 && H.1.D == 1)))::(159,.bool ((X && (H.1.N == 10 && H.1.D == 1)) && (H.2.1.N == H.1.N && H.2.1.D == H.1.D)))::(160,.bool ((X && (H.1.N == 10 && H.1.D == 1)) && (H.2.1.N == H.1.N && H.2.1.D == H.1.D)))::(163,.bool (((X && (H.1.N == 10 && H.1.D == 1)) && (H.2.1.N == H.1.N && H.2.1.D == H.1.D)) && (M.1 == 0)))::[])) hc ?_ ?_
  ·cases hb:((X && (H.1.N == 10 && H.1.D == 1)) && (H.2.1.N == H.1.N && H.2.1.D == H.1.D))
   ·rw [hb] at hf
    refine stS hf rfl rfl rfl fun a hf=>stS hf rfl rfl rfl fun a hf=>sp 1 hf rfl fun a hf=>aP ⟨hf.kp rfl,hc⟩
   ·rw [hb] at hf
    refine sp 3 hf rfl fun a hf=>aP ⟨hf.kp rfl,hc⟩
  intro a w ⟨hf,hc⟩
  refine sp 1 hf rfl fun a hf=>cP 3 (fun a=>Has 168 a ((2,i6 B.2)::(4,i6 I.2)::(6,i6 J.2)::(10,i6 H.2.2)::(11,.slice t B.1.length s)::(12,.slice k I.1.length n)::(13,.slice m J.1.length o)::(14,pq i)::(15,pq j)::(16,i6 M.1)::(17,i6 M.2.1)::(18,i6 M.2.2)::(117,i6 B.2)::(118,.bool (B.2 == 0))::(119,.bool (B.2 == 0))::(122,.bool ((B.2 == 0) && (I.2 == 0)))::(123,.bool ((B.2 == 0) && (I.2 == 0)))::(126,.bool (((B.2 == 0) && (I.2 == 0)) && (J.2 == 0)))::(127,.bool (((B.2 == 0) && (I.2 == 0)) && (J.2 == 0)))::(130,.bool ((((B.2 == 0) && (I.2 == 0)) && (J.2 == 0)) && (H.2.2 == 0)))::(131,.bool ((((B.2 == 0) && (I.2 == 0)) && (J.2 == 0)) && (H.2.2 == 0)))::(134,.bool (((((B.2 == 0) && (I.2 == 0)) && (J.2 == 0)) && (H.2.2 == 0)) && (M.2.2 == 0)))::(135,.bool (((((B.2 == 0) && (I.2 == 0)) && (J.2 == 0)) && (H.2.2 == 0)) && (M.2.2 == 0)))::(139,.bool p)::(140,.bool p)::(144,.bool q)::(145,.bool q)::(149,.bool X)::(150,.bool X)::(154,.bool (X && (H.1.N == 10 && H.1.D == 1)))::(155,.bool (X && (H.1.N == 10 && H.1.D == 1)))::(159,.bool ((X && (H.1.N == 10 && H.1.D == 1)) && (H.2.1.N == H.1.N && H.2.1.D == H.1.D)))::(160,.bool ((X && (H.1.N == 10 && H.1.D == 1)) && (H.2.1.N == H.1.N && H.2.1.D == H.1.D)))::(163,.bool (((X && (H.1.N == 10 && H.1.D == 1)) && (H.2.1.N == H.1.N && H.2.1.D == H.1.D)) && (M.1 == 0)))::(164,.bool (((X && (H.1.N == 10 && H.1.D == 1)) && (H.2.1.N == H.1.N && H.2.1.D == H.1.D)) && (M.1 == 0)))::(167,.bool ((((X && (H.1.N == 10 && H.1.D == 1)) && (H.2.1.N == H.1.N && H.2.1.D == H.1.D)) && (M.1 == 0)) && (M.2.1 == 1)))::[])) hc ?_ ?_
  ·cases hb:(((X && (H.1.N == 10 && H.1.D == 1)) && (H.2.1.N == H.1.N && H.2.1.D == H.1.D)) && (M.1 == 0))
   ·rw [hb] at hf
    refine stS hf rfl rfl rfl fun a hf=>stS hf rfl rfl rfl fun a hf=>sp 1 hf rfl fun a hf=>aP ⟨hf.kp rfl,hc⟩
   ·rw [hb] at hf
    refine sp 3 hf rfl fun a hf=>aP ⟨hf.kp rfl,hc⟩
  intro a w ⟨hf,hc⟩
  refine sp 1 hf rfl fun a hf=>zT h ?_
  refine wp_ret ?_
  obtain rfl:=sj hF
  replace hc:=((((hc.drop k4).drop k3).drop k2).drop k1).drop k0
  exact zO1 Tryz.results15 hf rfl ⟨rfl,hc⟩

def kE (N:Nat) (l:List aG):Option ((List aG)) :=
 Option.bind (jE (l).length) fun un=>
 some l
theorem sV {N:Nat} {G:bA} {Lf:List Ent} {w:World} (l:List aG) {J:Option Addr} {D:Nat} (R:Rd G 3 J D (l.map aK)) (hc:Ctx G (Lf) w) {B:(List aG)} (hF:kE N l=some B):Calls Tryz.prog 62 #[.slice J l.length D] w (fun e w=>∃ (I:Option Addr) (H:Nat),e=.returned (.slice I B.length H)∧Ctx G (.row I H (B.map aK) 46 3::Lf) w):=by
 unfold kE at hF
 refine cG Tryz.func62 rfl Tryz.ntmps62 rfl fun a hf=>zS fun K h=>sp 1 hf rfl fun a hf=>zT h ?_
 refine zS fun K h=>sp 1 hf rfl fun a hf=>zT h ?_
 refine zS fun K h=>sp 2 hf rfl fun a hf=>?_
 replace hc:=hc.nilRow 46 3
 obtain ⟨un,S,hF⟩:=aA hF
 refine iV (xs:=([]:List aG)) (ys:=l) hf hc rfl rfl aCy rfl rfl rfl rfl rfl gI (yM hc R) (fun _ _=>u0) (by simpa using cB S) fun M O a w hf hc=>sp 1 hf rfl fun a hf=>zT h ?_
 refine wp_ret ?_
 obtain rfl:=sj hF
 exact zO1 Tryz.results62 hf rfl ⟨M,O,rfl,hc⟩

def kD (N:Nat) (c_:aJ):Option (aJ) :=
 Option.bind (kE N c_.Rights) fun r=>
 some (⟨c_.States,r⟩:aJ)
theorem uS {N:Nat} {G:bA} {Lf:List Ent} {w:World} (c_:aJ) {B:Option Addr} {D:Nat} (H:Rd G 3 B D (c_.Rights.map aK)) (hc:Ctx G (Lf) w) {I:aJ} (hF:kD N c_=some I):Calls Tryz.prog 16 #[.agg #[i6 c_.States,.slice B c_.Rights.length D]] w (fun e w=>∃ (R:Option Addr) (O:Nat),e=.returned (.agg #[i6 I.States,.slice R I.Rights.length O])∧Ctx G (.row R O (I.Rights.map aK) 46 3::Lf) w):=by
 unfold kD at hF
 refine cG Tryz.func16 rfl Tryz.ntmps16 rfl fun a hf=>zS fun K h=>zB hf hc rfl fun U a w hf hc=>zA hf hc aCo rfl fun S a w hf hc=>zT h ?_
 refine zS fun K h=>zP hf rfl (pFA kN rfl) fun a hf=>zL hf hc sD m1 rfl fun a w hf hc=>?_
 obtain ⟨r,hr,hF⟩:=aA hF
 refine zC hf en_62 rfl (sV c_.Rights H hc hr) ?_
 rintro _ w ⟨J,M,rfl,hc⟩
 refine ⟨_,rfl,fun a hf=>?_⟩
 refine zP hf rfl (pFA kN rfl) fun a hf=>zW hf hc aJf u2 rfl fun w hc=>zT h ?_
 refine zS fun K h=>zN hf hc lN m2 rfl fun a w hf hc=>zW hf hc aCa u1 rfl fun w hc=>zT h ?_
 refine wp_ret ?_
 obtain rfl:=sj hF
 replace hc:=hc.drop k2
 exact oO (by simp) rfl Tryz.results16 hf hc (dQ (vs:=[i6 c_.States,.slice J r.length M]) lN rfl rfl (cA (n:=2) m1 rfl)) ⟨J,M,rfl,(hc.drop k1)⟩

def gS (N:Nat) (c_:aJ) (x:Int) (D:List dF):Option (bH (Int × (List dF)) (cH)) :=
 cond (decide (x < ((c_.Rights.length:Nat):Int)))
 (Option.bind (aZ c_.Rights x) fun B=>
 Option.bind (jE ((D++[(⟨B.State,B.Amount,B.Loss⟩:dF)])).length) fun un=>
 some (.cont (W (x + 1),(D++[(⟨B.State,B.Amount,B.Loss⟩:dF)]))))
 (some (.brk (x,D)))
def jC (N:Nat) (c_:aJ):Option (cH) :=
 Option.bind (aT (fun s5=>gS N c_ s5.1 s5.2) N (0,([]:List dF))) fun x5=>
 exK x5 (fun s5=>some (⟨c_.States,s5.2⟩:cH)) some
theorem nL {N:Nat} {G:bA} {Lf:List Ent} {w:World} (c_:aJ) {H:Option Addr} {D:Nat} (M:Rd G 3 H D (c_.Rights.map aK)) (hc:Ctx G (Lf) w) {O:cH} (hF:jC N c_=some O):Calls Tryz.prog 18 #[.agg #[i6 c_.States,.slice H c_.Rights.length D]] w (fun e w=>∃ (Y:Option Addr) (Z:Nat),e=.returned (.agg #[i6 O.States,.slice Y O.Rights.length Z])∧Ctx G (.row Y Z (O.Rights.map dA) 126 3::Lf) w):=by
 unfold jC at hF
 refine cG Tryz.func18 rfl Tryz.ntmps18 rfl fun a hf=>zS fun K h=>zB hf hc rfl fun t a w hf hc=>zA hf hc aKv rfl fun X a w hf hc=>zT h ?_
 refine zS fun K h=>zP hf rfl (pFA qP rfl) fun a hf=>zL hf hc bB m1 rfl fun a w hf hc=>zP hf rfl (bG (cells:=[i6 c_.States,.slice none 0 0]) bt_67 rfl rfl) fun a hf=>zA hf hc aKv rfl fun V a w hf hc=>zW hf hc aK7 u0 rfl fun w hc=>zT h ?_
 refine wp_seq_k fun K3 h3=>zS fun K h=>zP hf rfl (pFA kN rfl) fun a hf=>zL hf hc sD m2 rfl fun a w hf hc=>zP hf rfl (bL Tryz.underlying23 rfl) fun a hf=>sp 1 hf rfl fun a hf=>zT h ?_
 refine wp_block ?_
 obtain ⟨x5,d,hF⟩:=aA hF
 let S5:(Int × (List dF))→Act→World→Prop:=(fun (zz:Int × (List dF)) a w=>∃ (I:Option Addr) (J:Nat),Has 24 a [(2,pq X),(3,pq V),(10,.slice H c_.Rights.length D),(11,i6 ((c_.Rights.length:Nat):Int)),(12,i6 zz.1)]∧Ctx G (.row I J (zz.2.map dA) 126 3::.box V [i6 c_.States,.slice I zz.2.length J] 67::.box X [i6 0,.slice none 0 0] 67::Lf) w)
 have m:∀ (zz:Int × (List dF)) a w,x5=.go zz→S5 zz a w→K3 a w:=by
  rintro ⟨x,R⟩ a w rfl ⟨I,J,hf,hc⟩
  replace hF:=bQ hF
  refine h3 _ _ ?_
  refine zS fun K h=>zN hf hc xF m1 rfl fun a w hf hc=>zW hf hc aK7 u2 rfl fun w hc=>zT h ?_
  refine wp_ret ?_
  obtain rfl:=sj hF
  replace hc:=hc.drop k1
  exact oO (by simp) rfl Tryz.results18 hf hc (dQ (vs:=[i6 c_.States,.slice I R.length J]) xF rfl rfl (cA (n:=2) m1 rfl)) ⟨I,J,rfl,(hc.drop k1)⟩
 have p:∀ r,x5=.out r→r=O:=by
  rintro r rfl
  exact sj hF
 replace hc:=hc.nilRow 126 3
 replace hc:=hc.drop k3
 refine cX N (cV (S:=S5) (x:=x5) ?_ N (0,([]:List dF)) _ _ ⟨none,0,hf.kp rfl,hc⟩ d)
 clear hF hf hc
 rintro ⟨x,R⟩ q a w KB5 ⟨I,J,hf,hc⟩ hF U k
 unfold gS at hF
 refine zS fun K h=>sp 1 hf rfl fun a hf=>zT h ?_
 refine wp_seq_k fun K8 h8=>zI hf rfl hF ?_ ?_ <;> clear hF <;> intro hF
 ·refine wp_skip ?_
  refine h8 _ _ ?_
  refine wp_seq_k fun K9 h9=>wp_block ?_
  refine zS fun K h=>?_
  obtain ⟨B,b,hF⟩:=aA hF
  obtain ⟨s,o,qa,qp⟩:=M.atm b
  refine zP hf rfl (pIA Tryz.underlying23 sG rfl rfl qa) fun a hf=>zE hf hc rfl (kG (vs:=[i6 B.State,i6 B.Amount,i6 B.Loss]) wG rfl rfl (cR qp (n:=3) (o':=0) rfl)) fun a w hf hc=>zA hf hc aEm rfl fun v a w hf hc=>zW hf hc sG u0 rfl fun w hc=>zT h ?_
  refine bR ?_
  refine zP hf rfl (pFA nA rfl) fun a hf=>zL hf hc tZ m2 rfl fun a w hf hc=>zN hf hc wG m0 rfl fun a w hf hc=>gV (rows:=([(⟨B.State,B.Amount,B.Loss⟩:dF)]:List dF).map dA) (vs:=[(0,.agg #[i6 B.State,i6 B.Amount,i6 B.Loss])]) hf hc rfl rfl aK4 rfl ⟨rfl,rfl,rfl,trivial⟩ rfl rfl fun u a w hf hc=>?_
  obtain ⟨un,j,hF⟩:=aA hF
  refine iV (xs:=R) (ys:=([(⟨B.State,B.Amount,B.Loss⟩:dF)]:List dF)) hf hc rfl rfl aK4 rfl rfl rfl rfl rfl wB (fA hc m0) (fun _ _=>u2) (by simpa using cB j) fun i g a w hf hc=>zP hf rfl (pFA nA rfl) fun a hf=>zW hf hc sz_65 u3 rfl fun w hc=>aP ?_
  refine h9 _ _ ?_
  refine bR ?_
  refine sp 2 hf rfl fun a hf=>aP ?_
  replace hc:=(hc.drop k1).drop k0
  exact k (W (x + 1),(R++[(⟨B.State,B.Amount,B.Loss⟩:dF)])) _ _ (sj hF).symm ⟨i,g,hf.kp rfl,hc⟩
 ·refine wp_exit ?_
  refine bE ?_
  refine bE ?_
  have he:=sj hF
  rw [← he] at U
  refine eX ?_
  exact m _ _ _ U ⟨I,J,hf.kp rfl,hc⟩

def aC (n:Int) (a_:Int) (b_:Int):Bool :=
 ((decide (n < a_)) || (decide (b_ < n)))
theorem bJ {G:bA} {Lf:List Ent} {w:World} (n:Int) (a_:Int) (b_:Int)   (hc:Ctx G (Lf) w) {B:Bool} (hF:aC n a_ b_=B):Calls Tryz.prog 63 #[i6 n,i6 a_,i6 b_] w (fun e w=>e=.returned (.bool B)∧Ctx G (Lf) w):=by
 unfold aC at hF
 refine cG Tryz.func63 rfl Tryz.ntmps63 rfl fun a hf=>zS fun K h=>sp 1 hf rfl fun a hf=>zT h ?_
 refine zS fun K h=>sp 4 hf rfl fun a hf=>cP 4 (fun a=>Has 15 a [(0,i6 n),(1,i6 a_),(2,i6 b_),(6,.bool false),(7,i6 n),(8,i6 a_),(9,.bool (decide (n < a_))),(10,.bool (decide (n < a_))),(14,.bool ((decide (n < a_)) || (decide (b_ < n))))]) hc ?_ ?_
 ·cases hb:(decide (n < a_))
  ·rw [hb] at hf
   refine sp 4 hf rfl fun a hf=>aP ⟨hf.kp rfl,hc⟩
  ·rw [hb] at hf
   refine stS hf rfl rfl rfl fun a hf=>stS hf rfl rfl rfl fun a hf=>stS hf rfl rfl rfl fun a hf=>sp 1 hf rfl fun a hf=>aP ⟨hf.kp rfl,hc⟩
 intro a w ⟨hf,hc⟩
 refine sp 1 hf rfl fun a hf=>zT h ?_
 refine wp_ret ?_
 obtain rfl:=hF
 exact zO1 Tryz.results63 hf rfl ⟨rfl,hc⟩

def jQ (N:Nat) (c_:cH) (B:Int):Option (bH (Int) (Int)) :=
 cond (decide (B < ((c_.Rights.length:Nat):Int)))
 (Option.bind (aZ c_.Rights B) fun D=>
 cond (((aC D.State 0 (W (c_.States - 1))) || (aC D.Amount 0 1000000000)) || (aC D.Loss 0 1000))
 (some (.ret 100))
 (some (.cont (W (B + 1)))))
 (some (.brk B))
def mZ (N:Nat) (c_:cH):Option (Int) :=
 cond (((aC c_.States 1 12) || (decide (((c_.Rights.length:Nat):Int) < 1))) || (decide (30 < ((c_.Rights.length:Nat):Int))))
 (some 3)
 (Option.bind (aT (fun s7=>jQ N c_ s7) N 0) fun x7=>
 exK x7 (fun s7=>some 0) some)
theorem rB {N:Nat} {G:bA} {Lf:List Ent} {w:World} (c_:cH) {H:Option Addr} {D:Nat} (M:Rd G 3 H D (c_.Rights.map dA)) (hc:Ctx G (Lf) w) {U:Int} (hF:mZ N c_=some U):Calls Tryz.prog 17 #[.agg #[i6 c_.States,.slice H c_.Rights.length D]] w (fun e w=>e=.returned (i6 U)∧Ctx G (Lf) w):=by
 unfold mZ at hF
 refine cG Tryz.func17 rfl Tryz.ntmps17 rfl fun a hf=>zS fun K h=>zB hf hc rfl fun I a w hf hc=>sp 1 hf rfl fun a hf=>zT h ?_
 refine wp_seq_k fun K2 h2=>zS fun K h=>zP hf rfl (pFA aDz rfl) fun a hf=>zL hf hc bB m0 rfl fun a w hf hc=>zQ (v:=.bool (aC c_.States 1 12)) hf hc nM rfl (fun w hc=>bJ c_.States 1 12 hc rfl) fun a w hf hc=>sp 1 hf rfl fun a hf=>cP 5 (fun a=>Has 48 a [(1,pq I),(5,pq I),(6,i6 c_.States),(7,.bool (aC c_.States 1 12)),(8,.bool (aC c_.States 1 12)),(13,.bool ((aC c_.States 1 12) || (decide (((c_.Rights.length:Nat):Int) < 1))))]) hc ?_ ?_
 ·cases hb:(aC c_.States 1 12)
  ·rw [hb] at hf
   refine zP hf rfl (pFA nA rfl) fun a hf=>zL hf hc tZ m0 rfl fun a w hf hc=>zP hf rfl (bL Tryz.underlying65 rfl) fun a hf=>sp 2 hf rfl fun a hf=>aP ⟨hf.kp rfl,hc⟩
  ·rw [hb] at hf
   refine stS hf rfl rfl rfl fun a hf=>stS hf rfl rfl rfl fun a hf=>stS hf rfl rfl rfl fun a hf=>stS hf rfl rfl rfl fun a hf=>sp 1 hf rfl fun a hf=>aP ⟨hf.kp rfl,hc⟩
 intro a w ⟨hf,hc⟩
 refine sp 1 hf rfl fun a hf=>cP 5 (fun a=>Has 48 a [(1,pq I),(5,pq I),(6,i6 c_.States),(7,.bool (aC c_.States 1 12)),(8,.bool (aC c_.States 1 12)),(13,.bool ((aC c_.States 1 12) || (decide (((c_.Rights.length:Nat):Int) < 1)))),(14,.bool ((aC c_.States 1 12) || (decide (((c_.Rights.length:Nat):Int) < 1)))),(19,.bool (((aC c_.States 1 12) || (decide (((c_.Rights.length:Nat):Int) < 1))) || (decide (30 < ((c_.Rights.length:Nat):Int)))))]) hc ?_ ?_
 ·cases hb:((aC c_.States 1 12) || (decide (((c_.Rights.length:Nat):Int) < 1)))
  ·rw [hb] at hf
   refine zP hf rfl (pFA nA rfl) fun a hf=>zL hf hc tZ m0 rfl fun a w hf hc=>zP hf rfl (bL Tryz.underlying65 rfl) fun a hf=>sp 2 hf rfl fun a hf=>aP ⟨hf.kp rfl,hc⟩
  ·rw [hb] at hf
   refine stS hf rfl rfl rfl fun a hf=>stS hf rfl rfl rfl fun a hf=>stS hf rfl rfl rfl fun a hf=>stS hf rfl rfl rfl fun a hf=>sp 1 hf rfl fun a hf=>aP ⟨hf.kp rfl,hc⟩
 intro a w ⟨hf,hc⟩
 refine zT h ?_
 refine zI hf rfl hF ?_ ?_ <;> clear hF <;> intro hF
 ·refine zS fun K h=>sp 1 hf rfl fun a hf=>zT h ?_
  refine wp_ret ?_
  refine aN ?_
  obtain rfl:=sj hF
  replace hc:=hc.drop k0
  exact zO1 Tryz.results17 hf rfl ⟨rfl,hc⟩
 ·refine wp_skip ?_
  refine h2 _ _ ?_
  refine wp_seq_k fun K5 h5=>zS fun K h=>sp 1 hf rfl fun a hf=>zT h ?_
  refine wp_block ?_
  obtain ⟨x7,b,hF⟩:=aA hF
  let S7:Int→Act→World→Prop:=(fun (zz:Int) a w=>Has 48 a [(1,pq I),(3,i6 zz)]∧Ctx G (.box I [i6 c_.States,.slice H c_.Rights.length D] 67::Lf) w)
  have Z:∀ (zz:Int) a w,x7=.go zz→S7 zz a w→K5 a w:=by
   rintro R a w rfl ⟨hf,hc⟩
   replace hF:=bQ hF
   refine h5 _ _ ?_
   refine zS fun K h=>sp 1 hf rfl fun a hf=>zT h ?_
   refine wp_ret ?_
   obtain rfl:=sj hF
   replace hc:=hc.drop k0
   exact zO1 Tryz.results17 hf rfl ⟨rfl,hc⟩
  have d:∀ r,x7=.out r→r=U:=by
   rintro r rfl
   exact sj hF
  refine cX N (cV (S:=S7) (x:=x7) ?_ N 0 _ _ ⟨hf.kp rfl,hc⟩ b)
  clear hF hf hc
  rintro R i a w KB7 ⟨hf,hc⟩ hF J Y
  unfold jQ at hF
  refine wp_seq_k fun K9 h9=>zS fun K h=>sp 1 hf rfl fun a hf=>zP hf rfl (pFA nA rfl) fun a hf=>zL hf hc tZ m0 rfl fun a w hf hc=>zP hf rfl (bL Tryz.underlying65 rfl) fun a hf=>sp 1 hf rfl fun a hf=>zT h ?_
  refine zI hf rfl hF ?_ ?_ <;> clear hF <;> intro hF
  ·refine wp_skip ?_
   refine h9 _ _ ?_
   refine wp_seq_k fun K11 X=>wp_block ?_
   refine zS fun K h=>zP hf rfl (pFA nA rfl) fun a hf=>zL hf hc tZ m0 rfl fun a w hf hc=>sp 1 hf rfl fun a hf=>?_
   obtain ⟨B,V,hF⟩:=aA hF
   obtain ⟨g,o,qa,qp⟩:=M.atm V
   refine zP hf rfl (pIA Tryz.underlying65 wP rfl rfl qa) fun a hf=>zE hf hc rfl (kG (vs:=[i6 B.State,i6 B.Amount,i6 B.Loss]) aL4 rfl rfl (cR qp (n:=3) (o':=0) rfl)) fun a w hf hc=>zA hf hc aLr rfl fun O a w hf hc=>zW hf hc wP u0 rfl fun w hc=>zT h ?_
   refine zS fun K h=>zP hf rfl (pFA aE9 rfl) fun a hf=>zL hf hc bB m0 rfl fun a w hf hc=>zP hf rfl (pFA aDz rfl) fun a hf=>zL hf hc bB m1 rfl fun a w hf hc=>sp 1 hf rfl fun a hf=>zQ (v:=.bool (aC B.State 0 (W (c_.States - 1)))) hf hc nM rfl (fun w hc=>bJ B.State 0 (W (c_.States - 1)) hc rfl) fun a w hf hc=>sp 1 hf rfl fun a hf=>cP 4 (fun a=>Has 48 a [(1,pq I),(3,i6 R),(4,pq O),(32,pq O),(33,i6 B.State),(34,pq I),(35,i6 c_.States),(36,i6 (W (c_.States - 1))),(37,.bool (aC B.State 0 (W (c_.States - 1)))),(38,.bool (aC B.State 0 (W (c_.States - 1)))),(42,.bool ((aC B.State 0 (W (c_.States - 1))) || (aC B.Amount 0 1000000000)))]) hc ?_ ?_
   ·cases hb:(aC B.State 0 (W (c_.States - 1)))
    ·rw [hb] at hf
     refine zP hf rfl (pFA wT rfl) fun a hf=>zL hf hc bB m0 rfl fun a w hf hc=>zQ (v:=.bool (aC B.Amount 0 1000000000)) hf hc nM rfl (fun w hc=>bJ B.Amount 0 1000000000 hc rfl) fun a w hf hc=>sp 1 hf rfl fun a hf=>aP ⟨hf.kp rfl,hc⟩
    ·rw [hb] at hf
     refine stS hf rfl rfl rfl fun a hf=>stS hf rfl rfl rfl fun a hf=>stS hf rfl rfl rfl fun a hf=>sp 1 hf rfl fun a hf=>aP ⟨hf.kp rfl,hc⟩
   intro a w ⟨hf,hc⟩
   refine sp 1 hf rfl fun a hf=>cP 4 (fun a=>Has 48 a [(1,pq I),(3,i6 R),(4,pq O),(32,pq O),(33,i6 B.State),(34,pq I),(35,i6 c_.States),(36,i6 (W (c_.States - 1))),(37,.bool (aC B.State 0 (W (c_.States - 1)))),(38,.bool (aC B.State 0 (W (c_.States - 1)))),(42,.bool ((aC B.State 0 (W (c_.States - 1))) || (aC B.Amount 0 1000000000))),(43,.bool ((aC B.State 0 (W (c_.States - 1))) || (aC B.Amount 0 1000000000))),(47,.bool (((aC B.State 0 (W (c_.States - 1))) || (aC B.Amount 0 1000000000)) || (aC B.Loss 0 1000)))]) hc ?_ ?_
   ·cases hb:((aC B.State 0 (W (c_.States - 1))) || (aC B.Amount 0 1000000000))
    ·rw [hb] at hf
     refine zP hf rfl (pFA aEk rfl) fun a hf=>zL hf hc bB m0 rfl fun a w hf hc=>zQ (v:=.bool (aC B.Loss 0 1000)) hf hc nM rfl (fun w hc=>bJ B.Loss 0 1000 hc rfl) fun a w hf hc=>sp 1 hf rfl fun a hf=>aP ⟨hf.kp rfl,hc⟩
    ·rw [hb] at hf
     refine stS hf rfl rfl rfl fun a hf=>stS hf rfl rfl rfl fun a hf=>stS hf rfl rfl rfl fun a hf=>sp 1 hf rfl fun a hf=>aP ⟨hf.kp rfl,hc⟩
   intro a w ⟨hf,hc⟩
   refine zT h ?_
   refine zI hf rfl hF ?_ ?_ <;> clear hF <;> intro hF
   ·refine zS fun K h=>sp 1 hf rfl fun a hf=>zT h ?_
    refine wp_ret ?_
    refine bI ?_
    refine aN ?_
    refine aN ?_
    have he:=sj hF
    rw [← he] at J
    replace hF:=d _ J
    refine bI ?_
    refine aN ?_
    obtain rfl:=hF
    replace hc:=(hc.drop k1).drop k0
    exact zO1 Tryz.results17 hf rfl ⟨rfl,hc⟩
   ·refine wp_skip ?_
    refine X _ _ ?_
    refine bR ?_
    refine sp 3 hf rfl fun a hf=>aP ?_
    replace hc:=hc.drop k0
    exact Y (W (R + 1)) _ _ (sj hF).symm ⟨hf.kp rfl,hc⟩
  ·refine wp_exit ?_
   refine bE ?_
   refine bE ?_
   have he:=sj hF
   rw [← he] at J
   refine eX ?_
   exact Z _ _ _ J ⟨hf.kp rfl,hc⟩

def jH (N:Nat) (c_:cH) (i_:Int) (B:Int) (k:Int):Option (bH (Int × Int) (Int)) :=
 cond (decide (k < i_))
 (Option.bind (aZ c_.Rights k) fun D=>
 some (.cont (W (B + D.Amount),W (k + 1))))
 (some (.brk (B,k)))
def oC (N:Nat) (c_:cH) (flow:Int) (i_:Int):Option (Int) :=
 Option.bind (aT (fun s5=>jH N c_ i_ s5.1 s5.2) N (0,0)) fun x5=>
 exK x5 (fun s5=>Option.bind (aZ c_.Rights i_) fun B=>
 some (min B.Amount (max 0 (W (flow - s5.1))))) some
theorem uI {N:Nat} {G:bA} {Lf:List Ent} {w:World} (c_:cH) (flow:Int) (i_:Int) {D:Option Addr} {B:Nat} (H:Rd G 3 D B (c_.Rights.map dA)) (hc:Ctx G (Lf) w) {M:Int} (hF:oC N c_ flow i_=some M):Calls Tryz.prog 65 #[.agg #[i6 c_.States,.slice D c_.Rights.length B],i6 flow,i6 i_] w (fun e w=>e=.returned (i6 M)∧Ctx G (Lf) w):=by
 unfold oC at hF
 refine cG Tryz.func65 rfl Tryz.ntmps65 rfl fun a hf=>zS fun K h=>zB hf hc rfl fun O a w hf hc=>sp 1 hf rfl fun a hf=>zT h ?_
 refine zS fun K h=>sp 1 hf rfl fun a hf=>zT h ?_
 refine wp_seq_k fun K3 h3=>zS fun K h=>sp 1 hf rfl fun a hf=>zT h ?_
 refine wp_block ?_
 obtain ⟨x5,Y,hF⟩:=aA hF
 let S5:(Int × Int)→Act→World→Prop:=(fun (zz:Int × Int) a w=>Has 33 a [(1,i6 flow),(2,i6 i_),(3,pq O),(7,i6 zz.1),(8,i6 zz.2)]∧Ctx G (.box O [i6 c_.States,.slice D c_.Rights.length B] 67::Lf) w)
 have d:∀ (zz:Int × Int) a w,x5=.go zz→S5 zz a w→K3 a w:=by
  rintro ⟨I,k⟩ a w rfl ⟨hf,hc⟩
  replace hF:=bQ hF
  refine h3 _ _ ?_
  refine zS fun K h=>zP hf rfl (pFA nA rfl) fun a hf=>zL hf hc tZ m0 rfl fun a w hf hc=>sp 1 hf rfl fun a hf=>?_
  obtain ⟨q,R,hF⟩:=aA hF
  obtain ⟨i,o,qa,qp⟩:=H.atm R
  refine zP hf rfl (pIA Tryz.underlying65 wP rfl rfl qa) fun a hf=>zP hf rfl (pFA wT rfl) fun a hf=>zE hf hc rfl (bP bB rfl (bK (j:=1) qp rfl)) fun a w hf hc=>sp 3 hf rfl fun a hf=>zP hf rfl (aG6 rfl rfl) fun a hf=>zP hf rfl (aG8 rfl rfl) fun a hf=>sp 1 hf rfl fun a hf=>zT h ?_
  refine wp_ret ?_
  obtain rfl:=sj hF
  replace hc:=hc.drop k0
  exact zO1 Tryz.results65 hf rfl ⟨rfl,hc⟩
 have m:∀ r,x5=.out r→r=M:=by
  rintro r rfl
  exact sj hF
 refine cX N (cV (S:=S5) (x:=x5) ?_ N (0,0) _ _ ⟨hf.kp rfl,hc⟩ Y)
 clear hF hf hc
 rintro ⟨I,k⟩ p a w KB5 ⟨hf,hc⟩ hF J b
 unfold jH at hF
 refine wp_seq_k fun K7 h7=>zS fun K h=>sp 3 hf rfl fun a hf=>zT h ?_
 refine zI hf rfl hF ?_ ?_ <;> clear hF <;> intro hF
 ·refine wp_skip ?_
  refine h7 _ _ ?_
  refine wp_seq_k fun K9 h9=>wp_block ?_
  refine bR ?_
  refine sp 1 hf rfl fun a hf=>zP hf rfl (pFA nA rfl) fun a hf=>zL hf hc tZ m0 rfl fun a w hf hc=>sp 1 hf rfl fun a hf=>?_
  obtain ⟨Z,U,hF⟩:=aA hF
  obtain ⟨g,n,X,V⟩:=H.atm U
  refine zP hf rfl (pIA Tryz.underlying65 wP rfl rfl X) fun a hf=>zP hf rfl (pFA wT rfl) fun a hf=>zE hf hc rfl (bP bB rfl (bK (j:=1) V rfl)) fun a w hf hc=>sp 2 hf rfl fun a hf=>aP ?_
  refine h9 _ _ ?_
  refine bR ?_
  refine sp 3 hf rfl fun a hf=>aP ?_
  exact b (W (I + Z.Amount),W (k + 1)) _ _ (sj hF).symm ⟨hf.kp rfl,hc⟩
 ·refine wp_exit ?_
  refine bE ?_
  refine bE ?_
  have he:=sj hF
  rw [← he] at J
  refine eX ?_
  exact d _ _ _ J ⟨hf.kp rfl,hc⟩

def mW (N:Nat) (D:Int) (B:Int):Option (bH (Int × Int) (bH ((List Int) × Int) ((List Int) × Int))) :=
 some (.cont (B,W (D + 1)))
def iA (N:Nat) (c_:cH) (flow:Int) (D:Int) (n:Int) (B:Int):Option (bH (Int × Int) (bH ((List Int) × Int) ((List Int) × Int))) :=
 cond (decide (B < ((c_.Rights.length:Nat):Int)))
 (Option.bind (aZ c_.Rights B) fun I=>
 cond (I.State == D)
 (Option.bind (oC N c_ flow B) fun J=>
 Option.bind (aZ c_.Rights B) fun H=>
 mW N B (W (n + (W ((W (J * (W (1000 - H.Loss)))).tdiv 1000)))))
 (mW N B n))
 (some (.brk (n,B)))
def hZ (N:Nat) (c_:cH) (flow:Int) (out:List Int) (D:Int):Option (bH ((List Int) × Int) ((List Int) × Int)) :=
 cond (decide (D < c_.States))
 (Option.bind (aT (fun B=>iA N c_ flow D B.1 B.2) N (0,0)) fun H=>
 exK H (fun B=>Option.bind (jE ((out++[B.1])).length) fun un=>
 some (.cont ((out++[B.1]),W (D + 1)))) some)
 (some (.brk (out,D)))
def mY (N:Nat) (c_:cH) (flow:Int):Option ((List Int) × Int) :=
 Option.bind (mZ N c_) fun r=>
 cond (r != 0)
 (some (([]:List Int),r))
 (cond (aC flow 0 1000000000)
 (some (([]:List Int),4))
 (Option.bind (aT (fun B=>hZ N c_ flow B.1 B.2) N (([]:List Int),0)) fun D=>
 exK D (fun B=>some (B.1,0)) some))
theorem pR {N:Nat} {G:bA} {Lf:List Ent} {w:World} (c_:cH) (flow:Int) {B:Option Addr} {D:Nat} (H:Rd G 3 B D (c_.Rights.map dA)) (hc:Ctx G (Lf) w) {R:(List Int) × Int} (hF:mY N c_ flow=some R):Calls Tryz.prog 20 #[.agg #[i6 c_.States,.slice B c_.Rights.length D],i6 flow] w (fun e w=>∃ (g:Option Addr) (i:Nat),e=.returned (.tuple #[.slice g R.1.length i,i6 R.2])∧Ctx G (.row g i (R.1.map aD) 3 1::Lf) w):=by
 unfold mY at hF
 refine cG Tryz.func20 rfl Tryz.ntmps20 rfl fun a hf=>zS fun K h=>zB hf hc rfl fun M a w hf hc=>sp 2 hf rfl fun a hf=>zT h ?_
 refine wp_seq_k fun K2 h2=>zS fun K h=>zN hf hc xF m0 rfl fun a w hf hc=>?_
 obtain ⟨r,hr,hF⟩:=aA hF
 refine zQ (v:=i6 r) hf hc aJw rfl (fun w hc=>rB c_ H hc hr) fun a w hf hc=>sp 1 hf rfl fun a hf=>zT h ?_
 refine zS fun K h=>sp 2 hf rfl fun a hf=>zT h ?_
 refine zI hf rfl hF ?_ ?_ <;> clear hF <;> intro hF
 ·refine zS fun K h=>sp 3 hf rfl fun a hf=>zT h ?_
  refine wp_ret ?_
  refine aN ?_
  obtain rfl:=sj hF
  replace hc:=hc.nilRow 3 1
  replace hc:=hc.drop k1
  exact zO2 Tryz.results20 hf rfl rfl ⟨none,0,rfl,hc⟩
 ·refine wp_skip ?_
  refine h2 _ _ ?_
  refine wp_seq_k fun K6 h6=>zS fun K h=>sp 1 hf rfl fun a hf=>zQ (v:=.bool (aC flow 0 1000000000)) hf hc nM rfl (fun w hc=>bJ flow 0 1000000000 hc rfl) fun a w hf hc=>zT h ?_
  refine zI hf rfl hF ?_ ?_ <;> clear hF <;> intro hF
  ·refine zS fun K h=>sp 2 hf rfl fun a hf=>zT h ?_
   refine wp_ret ?_
   refine aN ?_
   obtain rfl:=sj hF
   replace hc:=hc.nilRow 3 1
   replace hc:=hc.drop k1
   exact zO2 Tryz.results20 hf rfl rfl ⟨none,0,rfl,hc⟩
  ·refine wp_skip ?_
   refine h6 _ _ ?_
   refine zS fun K h=>sp 1 hf rfl fun a hf=>zT h ?_
   refine wp_seq_k fun K10 ag=>zS fun K h=>sp 1 hf rfl fun a hf=>zT h ?_
   refine wp_block ?_
   obtain ⟨Z,af,hF⟩:=aA hF
   let S12:((List Int) × Int)→Act→World→Prop:=(fun (zz:(List Int) × Int) a w=>∃ (J:Option Addr) (I:Nat),Has 59 a [(1,i6 flow),(2,pq M),(7,.slice J zz.1.length I),(8,i6 zz.2)]∧Ctx G (.row J I (zz.1.map aD) 3 1::.box M [i6 c_.States,.slice B c_.Rights.length D] 67::Lf) w)
   have t:∀ (zz:(List Int) × Int) a w,Z=.go zz→S12 zz a w→K10 a w:=by
    rintro ⟨out,Y⟩ a w rfl ⟨J,I,hf,hc⟩
    replace hF:=bQ hF
    refine ag _ _ ?_
    refine zS fun K h=>sp 3 hf rfl fun a hf=>zT h ?_
    refine wp_ret ?_
    obtain rfl:=sj hF
    replace hc:=hc.drop k1
    exact zO2 Tryz.results20 hf rfl rfl ⟨J,I,rfl,hc⟩
   have ax:∀ r,Z=.out r→r=R:=by
    rintro r rfl
    exact sj hF
   replace hc:=hc.nilRow 3 1
   refine cX N (cV (S:=S12) (x:=Z) ?_ N (([]:List Int),0) _ _ ⟨none,0,hf.kp rfl,hc⟩ af)
   clear hF hf hc
   rintro ⟨out,Y⟩ u a w KB12 ⟨J,I,hf,hc⟩ hF V ab
   unfold hZ at hF
   refine wp_seq_k fun K14 ai=>zS fun K h=>sp 1 hf rfl fun a hf=>zP hf rfl (pFA aDz rfl) fun a hf=>zL hf hc bB m1 rfl fun a w hf hc=>sp 1 hf rfl fun a hf=>zT h ?_
   refine zI hf rfl hF ?_ ?_ <;> clear hF <;> intro hF
   ·refine wp_skip ?_
    refine ai _ _ ?_
    refine wp_seq_k fun K16 aj=>wp_block ?_
    refine zS fun K h=>sp 1 hf rfl fun a hf=>zT h ?_
    refine wp_seq_k fun K18 ak=>zS fun K h=>sp 1 hf rfl fun a hf=>zT h ?_
    refine wp_block ?_
    obtain ⟨d,y,hF⟩:=aA hF
    let S20:(Int × Int)→Act→World→Prop:=(fun (zz:Int × Int) a w=>Has 59 a [(1,i6 flow),(2,pq M),(7,.slice J out.length I),(8,i6 Y),(9,i6 zz.1),(10,i6 zz.2)]∧Ctx G (.row J I (out.map aD) 3 1::.box M [i6 c_.States,.slice B c_.Rights.length D] 67::Lf) w)
    have s:∀ (zz:Int × Int) a w,d=.go zz→S20 zz a w→K18 a w:=by
     rintro ⟨n,O⟩ a w rfl ⟨hf,hc⟩
     replace hF:=bQ hF
     refine ak _ _ ?_
     refine bR ?_
     refine sp 2 hf rfl fun a hf=>gV (rows:=([n]:List Int).map aD) (vs:=[(0,i6 n)]) hf hc rfl rfl fC rfl ⟨rfl,rfl,rfl,trivial⟩ rfl rfl fun az a w hf hc=>?_
     obtain ⟨un,am,hF⟩:=aA hF
     refine iV (xs:=out) (ys:=([n]:List Int)) hf hc rfl rfl fC rfl rfl rfl rfl rfl cM (fA hc m0) (fun _ _=>u1) (by simpa using cB am) fun ar ap a w hf hc=>sp 1 hf rfl fun a hf=>aP ?_
     refine aj _ _ ?_
     refine bR ?_
     refine sp 3 hf rfl fun a hf=>aP ?_
     replace hc:=hc.drop k0
     exact ab ((out++[n]),W (Y + 1)) _ _ (sj hF).symm ⟨ar,ap,hf.kp rfl,hc⟩
    have av:∀ r,d=.out r→r=u:=by
     rintro r rfl
     exact sj hF
    refine cX N (cV (S:=S20) (x:=d) ?_ N (0,0) _ _ ⟨hf.kp rfl,hc⟩ y)
    clear hF hf hc
    rintro ⟨n,O⟩ ac a w KB20 ⟨hf,hc⟩ hF U p
    unfold iA at hF
    refine wp_seq_k fun K21 an=>zS fun K h=>sp 1 hf rfl fun a hf=>zP hf rfl (pFA nA rfl) fun a hf=>zL hf hc tZ m1 rfl fun a w hf hc=>zP hf rfl (bL Tryz.underlying65 rfl) fun a hf=>sp 1 hf rfl fun a hf=>zT h ?_
    refine zI hf rfl hF ?_ ?_ <;> clear hF <;> intro hF
    ·refine wp_skip ?_
     refine an _ _ ?_
     refine wp_seq_k fun K23 aq=>?_
     have b:∀ (X:Int) a w,Has 59 a [(1,i6 flow),(2,pq M),(7,.slice J out.length I),(8,i6 Y),(9,i6 X),(10,i6 O)]→Ctx G (.row J I (out.map aD) 3 1::.box M [i6 c_.States,.slice B c_.Rights.length D] 67::Lf) w→mW N O X=some ac→K23 a w:=by
      repeat (clear hF)
      repeat (clear hc)
      repeat (clear hf)
      intro X a w hf hc hF
      unfold mW at hF
      refine aq _ _ ?_
      refine bR ?_
      refine sp 3 hf rfl fun a hf=>aP ?_
      exact p (X,W (O + 1)) _ _ (sj hF).symm ⟨hf.kp rfl,hc⟩
     refine wp_block ?_
     refine zS fun K h=>zP hf rfl (pFA nA rfl) fun a hf=>zL hf hc tZ m1 rfl fun a w hf hc=>sp 1 hf rfl fun a hf=>?_
     obtain ⟨a1,z,hF⟩:=aA hF
     obtain ⟨ay,o,qa,qp⟩:=H.atm z
     refine zP hf rfl (pIA Tryz.underlying65 wP rfl rfl qa) fun a hf=>zP hf rfl (pFA aE9 rfl) fun a hf=>zE hf hc rfl (bP bB rfl (bK (j:=0) qp rfl)) fun a w hf hc=>sp 2 hf rfl fun a hf=>zT h ?_
     refine zI hf rfl hF ?_ ?_ <;> clear hF <;> intro hF
     ·obtain ⟨k,m,hF⟩:=aA hF
      obtain ⟨au,aa,hF⟩:=aA hF
      obtain ⟨a2,a0,ad,q⟩:=H.atm aa
      refine cQ hc aY (by kernel_rfl) ?_
      refine qE hf rfl rfl rfl (Pu.ev (pM rfl)) fun a hf=>qE hf rfl rfl rfl (kG (vs:=[i6 c_.States,.slice B c_.Rights.length D]) xF rfl rfl (cA (n:=2) m1 rfl)) fun a hf=>qE hf rfl rfl rfl (Pu.ev (pM rfl)) fun a hf=>qE hf rfl rfl rfl (Pu.ev (pM rfl)) fun a hf=>qE hf rfl rfl rfl (eC (v:=i6 k) (vs:=[.agg #[i6 c_.States,.slice B c_.Rights.length D],i6 flow,i6 O]) (caps:=[]) aK2 rfl rfl rfl rfl (fun w hc=>uI c_ flow O H hc m)) fun a hf=>qE hf rfl rfl rfl (Pu.ev (pFA nA rfl)) fun a hf=>qE hf rfl rfl rfl (bP tZ rfl (bZ m1 rfl)) fun a hf=>qE hf rfl rfl rfl (Pu.ev (pM rfl)) fun a hf=>qE hf rfl rfl rfl (Pu.ev (pIA Tryz.underlying65 wP rfl rfl ad)) fun a hf=>qE hf rfl rfl rfl (Pu.ev (pFA aEk rfl)) fun a hf=>qE hf rfl rfl rfl (bP bB rfl (bK (j:=2) q rfl)) fun a hf=>qE hf rfl rfl rfl (Pu.ev (aB0 rfl rfl)) fun a hf=>qE hf rfl rfl rfl (Pu.ev (yJ rfl rfl)) fun a hf=>?_
      refine qE hf rfl rfl rfl (Pu.ev (nE rfl rfl (by decide))) fun a hf=>qE hf rfl rfl rfl (Pu.ev (wZ rfl rfl)) fun a hf=>qE hf rfl rfl rfl (Pu.ev (pA rfl)) fun a hf=>?_
      intro w hc
      exact b (W (n + (W ((W (k * (W (1000 - au.Loss)))).tdiv 1000)))) _ _  (hf.kp rfl) hc hF
     ·refine wp_skip ?_
      exact b n _ _  (hf.kp rfl) hc hF
    ·refine wp_exit ?_
     refine bE ?_
     refine bE ?_
     have he:=sj hF
     rw [← he] at U
     refine eX ?_
     exact s _ _ _ U ⟨hf.kp rfl,hc⟩
   ·refine wp_exit ?_
    refine bE ?_
    refine bE ?_
    have he:=sj hF
    rw [← he] at V
    refine eX ?_
    exact t _ _ _ V ⟨J,I,hf.kp rfl,hc⟩

def cS (s_:aE) (a_:Int) (b_:Int):Bool :=
 (((decide (s_.Lo < a_)) || (decide (b_ < s_.Hi))) || (decide (s_.Hi < s_.Lo)))
theorem oL {G:bA} {Lf:List Ent} {w:World} (s_:aE) (a_:Int) (b_:Int)   (hc:Ctx G (Lf) w) {D:Bool} (hF:cS s_ a_ b_=D):Calls Tryz.prog 67 #[.agg #[i6 s_.Lo,i6 s_.Hi],i6 a_,i6 b_] w (fun e w=>e=.returned (.bool D)∧Ctx G (Lf) w):=by
 unfold cS at hF
 refine cG Tryz.func67 rfl Tryz.ntmps67 rfl fun a hf=>zS fun K h=>zB hf hc rfl fun B a w hf hc=>sp 1 hf rfl fun a hf=>zT h ?_
 refine zS fun K h=>zP hf rfl (pFA hC rfl) fun a hf=>zL hf hc bB m0 rfl fun a w hf hc=>sp 3 hf rfl fun a hf=>cP 5 (fun a=>Has 24 a [(1,i6 a_),(2,i6 b_),(3,pq B),(6,.bool false),(7,pq B),(8,i6 s_.Lo),(9,i6 a_),(10,.bool (decide (s_.Lo < a_))),(11,.bool (decide (s_.Lo < a_))),(16,.bool ((decide (s_.Lo < a_)) || (decide (b_ < s_.Hi))))]) hc ?_ ?_
 ·cases hb:(decide (s_.Lo < a_))
  ·rw [hb] at hf
   refine zP hf rfl (pFA hI rfl) fun a hf=>zL hf hc bB m0 rfl fun a w hf hc=>sp 3 hf rfl fun a hf=>aP ⟨hf.kp rfl,hc⟩
  ·rw [hb] at hf
   refine stS hf rfl rfl rfl fun a hf=>stS hf rfl rfl rfl fun a hf=>stS hf rfl rfl rfl fun a hf=>stS hf rfl rfl rfl fun a hf=>sp 1 hf rfl fun a hf=>aP ⟨hf.kp rfl,hc⟩
 intro a w ⟨hf,hc⟩
 refine sp 1 hf rfl fun a hf=>cP 6 (fun a=>Has 24 a [(1,i6 a_),(2,i6 b_),(3,pq B),(6,.bool false),(7,pq B),(8,i6 s_.Lo),(9,i6 a_),(10,.bool (decide (s_.Lo < a_))),(11,.bool (decide (s_.Lo < a_))),(16,.bool ((decide (s_.Lo < a_)) || (decide (b_ < s_.Hi)))),(17,.bool ((decide (s_.Lo < a_)) || (decide (b_ < s_.Hi)))),(23,.bool (((decide (s_.Lo < a_)) || (decide (b_ < s_.Hi))) || (decide (s_.Hi < s_.Lo))))]) hc ?_ ?_
 ·cases hb:((decide (s_.Lo < a_)) || (decide (b_ < s_.Hi)))
  ·rw [hb] at hf
   refine zP hf rfl (pFA hC rfl) fun a hf=>zL hf hc bB m0 rfl fun a w hf hc=>zP hf rfl (pFA hI rfl) fun a hf=>zL hf hc bB m0 rfl fun a w hf hc=>sp 2 hf rfl fun a hf=>aP ⟨hf.kp rfl,hc⟩
  ·rw [hb] at hf
   refine stS hf rfl rfl rfl fun a hf=>stS hf rfl rfl rfl fun a hf=>stS hf rfl rfl rfl fun a hf=>stS hf rfl rfl rfl fun a hf=>stS hf rfl rfl rfl fun a hf=>sp 1 hf rfl fun a hf=>aP ⟨hf.kp rfl,hc⟩
 intro a w ⟨hf,hc⟩
 refine sp 1 hf rfl fun a hf=>zT h ?_
 refine wp_ret ?_
 obtain rfl:=hF
 replace hc:=hc.drop k0
 exact zO1 Tryz.results67 hf rfl ⟨rfl,hc⟩

def gQ (N:Nat) (I:(List Int) × Int) (J:(List Int) × Int) (out:List aE) (B:Int):Option (bH ((List aE) × Int) ((List aE) × Int)) :=
 cond (decide (B < ((I.1.length:Nat):Int)))
 (Option.bind (aZ I.1 B) fun H=>
 Option.bind (aZ J.1 B) fun D=>
 Option.bind (jE ((out++[(⟨H,D⟩:aE)])).length) fun un=>
 some (.cont ((out++[(⟨H,D⟩:aE)]),W (B + 1))))
 (some (.brk (out,B)))
def oM (N:Nat) (c_:cH) (flow:aE):Option ((List aE) × Int) :=
 Option.bind (mZ N c_) fun r=>
 cond (r != 0)
 (some (([]:List aE),r))
 (cond (cS flow 0 1000000000)
 (some (([]:List aE),4))
 (Option.bind (mY N c_ flow.Lo) fun D=>
 Option.bind (mY N c_ flow.Hi) fun H=>
 Option.bind (aT (fun B=>gQ N D H B.1 B.2) N (([]:List aE),0)) fun I=>
 exK I (fun B=>some (B.1,0)) some))
theorem zY {N:Nat} {G:bA} {Lf:List Ent} {w:World} (c_:cH) (flow:aE) {M:Option Addr} {O:Nat} (H:Rd G 3 M O (c_.Rights.map dA)) (hc:Ctx G (Lf) w) {d:(List aE) × Int} (hF:oM N c_ flow=some d):Calls Tryz.prog 22 #[.agg #[i6 c_.States,.slice M c_.Rights.length O],.agg #[i6 flow.Lo,i6 flow.Hi]] w (fun e w=>∃ (ad:Option Addr) (af:Nat),e=.returned (.tuple #[.slice ad d.1.length af,i6 d.2])∧Ctx G (.row ad af (d.1.map bC) 28 2::Lf) w):=by
 unfold oM at hF
 refine cG Tryz.func22 rfl Tryz.ntmps22 rfl fun a hf=>zS fun K h=>zB hf hc rfl fun ba a w hf hc=>zB hf hc rfl fun a9 a w hf hc=>sp 2 hf rfl fun a hf=>zT h ?_
 refine wp_seq_k fun K2 h2=>zS fun K h=>zN hf hc xF m1 rfl fun a w hf hc=>?_
 obtain ⟨r,hr,hF⟩:=aA hF
 refine zQ (v:=i6 r) hf hc aJw rfl (fun w hc=>rB c_ H hc hr) fun a w hf hc=>sp 1 hf rfl fun a hf=>zT h ?_
 refine zS fun K h=>sp 2 hf rfl fun a hf=>zT h ?_
 refine zI hf rfl hF ?_ ?_ <;> clear hF <;> intro hF
 ·refine zS fun K h=>sp 3 hf rfl fun a hf=>zT h ?_
  refine wp_ret ?_
  refine aN ?_
  obtain rfl:=sj hF
  replace hc:=hc.nilRow 28 2
  replace hc:=(hc.drop k2).drop k1
  exact zO2 Tryz.results22 hf rfl rfl ⟨none,0,rfl,hc⟩
 ·refine wp_skip ?_
  refine h2 _ _ ?_
  refine wp_seq_k fun K6 h6=>zS fun K h=>zN hf hc mL m0 rfl fun a w hf hc=>zQ (v:=.bool (cS flow 0 1000000000)) hf hc aGj rfl (fun w hc=>oL flow 0 1000000000 hc rfl) fun a w hf hc=>zT h ?_
  refine zI hf rfl hF ?_ ?_ <;> clear hF <;> intro hF
  ·refine zS fun K h=>sp 2 hf rfl fun a hf=>zT h ?_
   refine wp_ret ?_
   refine aN ?_
   obtain rfl:=sj hF
   replace hc:=hc.nilRow 28 2
   replace hc:=(hc.drop k2).drop k1
   exact zO2 Tryz.results22 hf rfl rfl ⟨none,0,rfl,hc⟩
  ·refine wp_skip ?_
   refine h6 _ _ ?_
   refine zS fun K h=>zN hf hc xF m1 rfl fun a w hf hc=>zP hf rfl (pFA hC rfl) fun a hf=>zL hf hc bB m0 rfl fun a w hf hc=>?_
   obtain ⟨X,ai,hF⟩:=aA hF
   refine zC hf aGm rfl (pR c_ flow.Lo H hc ai) ?_
   rintro _ w ⟨a1,ax,rfl,hc⟩
   refine ⟨_,rfl,fun a hf=>?_⟩
   refine sp 5 hf rfl fun a hf=>zT h ?_
   refine zS fun K h=>zN hf hc xF m2 rfl fun a w hf hc=>zP hf rfl (pFA hI rfl) fun a hf=>zL hf hc bB m1 rfl fun a w hf hc=>?_
   obtain ⟨Y,ar,hF⟩:=aA hF
   refine zC hf aGm rfl (pR c_ flow.Hi H hc ar) ?_
   rintro _ w ⟨a5,a4,rfl,hc⟩
   refine ⟨_,rfl,fun a hf=>?_⟩
   refine sp 5 hf rfl fun a hf=>zT h ?_
   refine zS fun K h=>sp 1 hf rfl fun a hf=>zT h ?_
   refine wp_seq_k fun K12 a2=>zS fun K h=>sp 1 hf rfl fun a hf=>zT h ?_
   refine wp_block ?_
   obtain ⟨ac,au,hF⟩:=aA hF
   let S14:((List aE) × Int)→Act→World→Prop:=(fun (zz:(List aE) × Int) a w=>∃ (q:Option Addr) (I:Nat) (s:Option Addr) (J:Nat) (U:Option Addr) (V:Nat),Has 53 a [(7,.slice q X.1.length I),(9,.slice s Y.1.length J),(11,.slice U zz.1.length V),(12,i6 zz.2)]∧Ctx G (.row U V (zz.1.map bC) 28 2::.row s J (Y.1.map aD) 3 1::.row q I (X.1.map aD) 3 1::Lf) w)
   have aj:∀ (zz:(List aE) × Int) a w,ac=.go zz→S14 zz a w→K12 a w:=by
    rintro ⟨out,R⟩ a w rfl ⟨q,I,s,J,U,V,hf,hc⟩
    replace hF:=bQ hF
    refine a2 _ _ ?_
    refine zS fun K h=>sp 3 hf rfl fun a hf=>zT h ?_
    refine wp_ret ?_
    obtain rfl:=sj hF
    replace hc:=(hc.drop k2).drop k1
    exact zO2 Tryz.results22 hf rfl rfl ⟨U,V,rfl,hc⟩
   have a8:∀ r,ac=.out r→r=d:=by
    rintro r rfl
    exact sj hF
   replace hc:=hc.nilRow 28 2
   replace hc:=(hc.drop k4).drop k3
   refine cX N (cV (S:=S14) (x:=ac) ?_ N (([]:List aE),0) _ _ ⟨a1,ax,a5,a4,none,0,hf.kp rfl,hc⟩ au)
   clear hF hf hc
   rintro ⟨out,R⟩ a7 a w KB14 ⟨q,I,s,J,U,V,hf,hc⟩ hF m am
   unfold gQ at hF
   refine wp_seq_k fun K16 ay=>zS fun K h=>sp 2 hf rfl fun a hf=>zP hf rfl (bL Tryz.underlying22 rfl) fun a hf=>sp 1 hf rfl fun a hf=>zT h ?_
   refine zI hf rfl hF ?_ ?_ <;> clear hF <;> intro hF
   ·refine wp_skip ?_
    refine ay _ _ ?_
    refine wp_seq_k fun K18 az=>wp_block ?_
    obtain ⟨B,an,hF⟩:=aA hF
    obtain ⟨g,rfl,qa,qr⟩:=nT hc m2 an
    obtain ⟨D,ap,hF⟩:=aA hF
    obtain ⟨Z,rfl,aq,ak⟩:=nT hc m1 ap
    obtain ⟨un,a0,hF⟩:=aA hF
    replace hc:=hc.nilRow 0 0
    refine dJ (fun θ=>[⟨none,none,7,.slice (some ⟨g,0,none⟩) X.1.length I⟩,⟨none,none,9,.slice (some ⟨Z,0,none⟩) Y.1.length J⟩,⟨none,some 12,11,.slice U out.length V⟩,⟨none,none,12,i6 R⟩,⟨some 0,none,40,.slice U out.length V⟩,⟨some 1,none,41,.slice (some ⟨g,0,none⟩) X.1.length I⟩,⟨some 2,none,42,i6 R⟩,⟨some 3,none,43,.pointer (some ⟨g,R.toNat * 1,none⟩)⟩,⟨some 4,none,44,i6 B⟩,⟨some 5,none,45,.slice (some ⟨Z,0,none⟩) Y.1.length J⟩,⟨some 6,none,46,i6 R⟩,⟨some 7,none,47,.pointer (some ⟨Z,R.toNat * 1,none⟩)⟩,⟨some 8,none,48,i6 D⟩,⟨some 9,none,49,.agg #[i6 B,i6 D]⟩,⟨some 10,none,50,.slice (some ⟨(θ 80).b,0,none⟩) 1 1⟩,⟨some 11,none,51,.slice ((θ 88).p) ((out++[(⟨B,D⟩:aE)]).length) ((θ 88).c)⟩,⟨some 12,none,11,.slice ((θ 88).p) ((out++[(⟨B,D⟩:aE)]).length) ((θ 88).c)⟩]) (fun E θ=>(bif E 10 then .row (some ⟨(θ 80).b,0,none⟩) 1 (([(⟨B,D⟩:aE)]:List aE).map bC) 28 2 else .row none 0 [] 0 0)::(bif E 11 then .row ((θ 88).p) ((θ 88).c) ((out++[(⟨B,D⟩:aE)]).map bC) 28 2 else .row U V (out.map bC) 28 2)::.row (some ⟨Z,0,none⟩) J (Y.1.map aD) 3 1::.row (some ⟨g,0,none⟩) I (X.1.map aD) 3 1::Lf) [(12,0),(12,11)] (fun a w=>∃ (z:Option Addr) (y:Nat) (ag:Nat),Has 53 a [(7,.slice (some ⟨g,0,none⟩) X.1.length I),(9,.slice (some ⟨Z,0,none⟩) Y.1.length J),(12,i6 R),(11,.slice z ((out++[(⟨B,D⟩:aE)]).length) y)]∧Ctx G (.row (some ⟨ag,0,none⟩) 1 (([(⟨B,D⟩:aE)]:List aE).map bC) 28 2::.row z y ((out++[(⟨B,D⟩:aE)]).map bC) 28 2::.row (some ⟨Z,0,none⟩) J (Y.1.map aD) 3 1::.row (some ⟨g,0,none⟩) I (X.1.map aD) 3 1::Lf) w) aY (by kernel_rfl) (by kernel_rfl) (eY.of hf ⟨rfl,rfl,rfl,rfl,trivial,trivial,trivial,trivial,trivial,trivial,trivial,trivial,trivial,trivial,trivial,trivial,trivial,trivial⟩) hc ⟨?_,?_,?_,?_,?_,?_,?_,?_,?_,?_,?_,?_,?_,trivial⟩ ?_ ?_
    ·intro E θ a w hD hi hp he hc
     have n:=hD.f 0 rfl hi
     have hf:=he.h0.mN he 2 rfl n
     refine sp 1 hf rfl fun a hf=>zD θ he hi hf 4 rfl rfl rfl hc
    ·intro E θ a w hD hi hp he hc
     have hf:=he.h0.mT he 0 rfl
     refine sp 1 hf rfl fun a hf=>zD θ he hi hf 5 rfl rfl rfl hc
    ·intro E θ a w hD hi hp he hc
     have hf:=he.h0.mT he 3 rfl
     refine sp 1 hf rfl fun a hf=>zD θ he hi hf 6 rfl rfl rfl hc
    ·intro E θ a w hD hi hp he hc
     have e1:=hp.o 1 rfl
     have e2:=hp.o 2 rfl
     have hf:=(he.h0.mP he 5 rfl e1).mP he 6 rfl e2
     refine zP hf rfl (pIA Tryz.underlying22 cY rfl rfl qa) fun a hf=>zD θ he hi hf 7 rfl rfl rfl hc
    ·intro E θ a w hD hi hp he hc
     have e3:=hp.o 3 rfl
     have hf:=he.h0.mP he 7 rfl e3
     refine zE hf hc rfl (bP bB rfl (bX (sz:=1) (i:=R.toNat) (j:=0) m3 qr rfl)) fun a w hf hc=>zD θ he hi hf 8 rfl rfl rfl hc
    ·intro E θ a w hD hi hp he hc
     have hf:=he.h0.mT he 1 rfl
     refine sp 1 hf rfl fun a hf=>zD θ he hi hf 9 rfl rfl rfl hc
    ·intro E θ a w hD hi hp he hc
     have hf:=he.h0.mT he 3 rfl
     refine sp 1 hf rfl fun a hf=>zD θ he hi hf 10 rfl rfl rfl hc
    ·intro E θ a w hD hi hp he hc
     have e5:=hp.o 5 rfl
     have e6:=hp.o 6 rfl
     have hf:=(he.h0.mP he 9 rfl e5).mP he 10 rfl e6
     refine zP hf rfl (pIA Tryz.underlying22 cY rfl rfl aq) fun a hf=>zD θ he hi hf 11 rfl rfl rfl hc
    ·intro E θ a w hD hi hp he hc
     have e7:=hp.o 7 rfl
     have hf:=he.h0.mP he 11 rfl e7
     refine zE hf hc rfl (bP bB rfl (bX (sz:=1) (i:=R.toNat) (j:=0) m2 ak rfl)) fun a w hf hc=>zD θ he hi hf 12 rfl rfl rfl hc
    ·intro E θ a w hD hi hp he hc
     have e4:=hp.o 4 rfl
     have e8:=hp.o 8 rfl
     have hf:=(he.h0.mP he 8 rfl e4).mP he 12 rfl e8
     refine zP hf rfl (bG (cells:=[i6 B,i6 D]) tF rfl rfl) fun a hf=>zD θ he hi hf 13 rfl rfl rfl hc
    ·intro E θ a w hD hi hp he hc
     have e9:=hp.o 9 rfl
     try dsimp only at hc
     rw [hi] at hc
     have hf:=he.h0.mP he 13 rfl e9
     refine gV (rows:=([(⟨B,D⟩:aE)]:List aE).map bC) (vs:=[(0,.agg #[i6 B,i6 D])]) hf hc rfl rfl wF rfl ⟨rfl,rfl,rfl,trivial⟩ rfl rfl fun av a w hf hc=>aP ?_
     refine bV ?_
     intro ds u ab
     replace hc:=hc.drop k1
     refine ⟨(fY θ 80 ⟨av,none,0,(fun _=>(none,0))⟩),he.put hi ab hf rfl [] trivial ⟨qq,qq,qq,qq,qq,qq,qq,qq,qq,qq,qq,qq,qq,qq,qq,qq,qq,trivial⟩,?_⟩
     try dsimp only
     rw [aU E 10]
     exact hc
    ·intro E θ a w hD hi hp he hc
     have e0:=hp.o 0 rfl
     have k:=hp.o 10 rfl
     have n:=hD.f 1 rfl hi
     try dsimp only at hc
     rw [k,hi] at hc
     have hf:=(he.h0.mP he 4 rfl e0).mP he 14 rfl k
     refine iV (xs:=out) (ys:=([(⟨B,D⟩:aE)]:List aE)) hf hc rfl rfl wF rfl rfl rfl rfl rfl nH (fA hc m0) (fun _ _=>u1) (by simpa using cB a0) fun a6 a3 a w hf hc=>aP ?_
     refine bV ?_
     intro ds u ab
     refine ⟨(fY θ 88 ⟨0,a6,a3,(fun _=>(none,0))⟩),he.put hi ab hf rfl [12] ⟨⟨n,rfl⟩,trivial⟩ ⟨qq,qq,qq,qq,qq,qq,qq,qq,qq,qq,qq,qq,qq,qq,qq,qq,trivial,trivial⟩,?_⟩
     try dsimp only
     rw [dH 11 k,aU E 11]
     exact hc
    ·intro E θ a w hD hi hp he hc
     have aa:=hp.o 11 rfl
     have hf:=he.h0.mP he 15 rfl aa
     refine sp 1 hf rfl fun a hf=>zD θ he hi hf 16 rfl rfl rfl hc
    ·intro E θ a w t he hc
     have hf:=he.h0
     have k:=t 10 rfl
     have aa:=t 11 rfl
     have n:=t 12 rfl
     replace hf:=hf.more he 16 rfl (onP n)
     replace hf:=hf.more he 3 rfl (onT)
     replace hf:=hf.more he 1 rfl (onT)
     replace hf:=hf.more he 0 rfl (onT)
     try dsimp only at hc
     rw [k,aa] at hc
     exact ⟨(θ 88).p,(θ 88).c,(θ 80).b,hf.kp rfl,hc⟩
    rintro a w ⟨z,y,ag,hf,hc⟩
    refine az _ _ ?_
    refine bR ?_
    refine sp 3 hf rfl fun a hf=>aP ?_
    replace hc:=hc.drop k0
    exact am ((out++[(⟨B,D⟩:aE)]),W (R + 1)) _ _ (sj hF).symm ⟨(some ⟨g,0,none⟩),I,(some ⟨Z,0,none⟩),J,z,y,hf.kp rfl,hc⟩
   ·refine wp_exit ?_
    refine bE ?_
    refine bE ?_
    have he:=sj hF
    rw [← he] at m
    refine eX ?_
    exact aj _ _ _ m ⟨q,I,s,J,U,V,hf.kp rfl,hc⟩

def jM (N:Nat) (c_:cH) (flow:Int) (B:Int):Option (bH (Int) (Int × Int)) :=
 cond (decide (B < ((c_.Rights.length:Nat):Int)))
 (Option.bind (oC N c_ flow B) fun H=>
 Option.bind (aZ c_.Rights B) fun D=>
 cond (decide (H < D.Amount))
 (some (.ret (B,0)))
 (some (.cont (W (B + 1)))))
 (some (.brk B))
def pT (N:Nat) (c_:cH) (flow:Int):Option (Int × Int) :=
 Option.bind (mY N c_ flow) fun r=>
 cond (r.2 != 0)
 (some (0,r.2))
 (Option.bind (aT (fun s8=>jM N c_ flow s8) N 0) fun x8=>
 exK x8 (fun s8=>some ((-1),0)) some)
theorem aBg {N:Nat} {G:bA} {Lf:List Ent} {w:World} (c_:cH) (flow:Int) {D:Option Addr} {B:Nat} (H:Rd G 3 D B (c_.Rights.map dA)) (hc:Ctx G (Lf) w) {J:Int × Int} (hF:pT N c_ flow=some J):Calls Tryz.prog 25 #[.agg #[i6 c_.States,.slice D c_.Rights.length B],i6 flow] w (fun e w=>e=.returned (.tuple #[i6 J.1,i6 J.2])∧Ctx G (Lf) w):=by
 unfold pT at hF
 refine cG Tryz.func25 rfl Tryz.ntmps25 rfl fun a hf=>zS fun K h=>zB hf hc rfl fun O a w hf hc=>sp 2 hf rfl fun a hf=>zT h ?_
 refine wp_seq_k fun K2 h2=>zS fun K h=>zN hf hc xF m0 rfl fun a w hf hc=>sp 1 hf rfl fun a hf=>?_
 obtain ⟨r,hr,hF⟩:=aA hF
 refine zC hf aGm rfl (pR c_ flow H hc hr) ?_
 rintro _ w ⟨k,p,rfl,hc⟩
 refine ⟨_,rfl,fun a hf=>?_⟩
 refine sp 5 hf rfl fun a hf=>zT h ?_
 refine zS fun K h=>sp 2 hf rfl fun a hf=>zT h ?_
 refine zI hf rfl hF ?_ ?_ <;> clear hF <;> intro hF
 ·refine zS fun K h=>sp 3 hf rfl fun a hf=>zT h ?_
  refine wp_ret ?_
  refine aN ?_
  obtain rfl:=sj hF
  replace hc:=(hc.drop k1).drop k0
  exact zO2 Tryz.results25 hf rfl rfl ⟨rfl,hc⟩
 ·refine wp_skip ?_
  refine h2 _ _ ?_
  refine wp_seq_k fun K6 h6=>zS fun K h=>sp 1 hf rfl fun a hf=>zT h ?_
  refine wp_block ?_
  obtain ⟨x8,Y,hF⟩:=aA hF
  let S8:Int→Act→World→Prop:=(fun (zz:Int) a w=>Has 37 a [(1,i6 flow),(2,pq O),(8,i6 zz)]∧Ctx G (.box O [i6 c_.States,.slice D c_.Rights.length B] 67::Lf) w)
  have g:∀ (zz:Int) a w,x8=.go zz→S8 zz a w→K6 a w:=by
   rintro M a w rfl ⟨hf,hc⟩
   replace hF:=bQ hF
   refine h6 _ _ ?_
   refine zS fun K h=>sp 2 hf rfl fun a hf=>zT h ?_
   refine wp_ret ?_
   obtain rfl:=sj hF
   replace hc:=hc.drop k0
   exact zO2 Tryz.results25 hf rfl rfl ⟨rfl,hc⟩
  have d:∀ r,x8=.out r→r=J:=by
   rintro r rfl
   exact sj hF
  replace hc:=hc.drop k0
  refine cX N (cV (S:=S8) (x:=x8) ?_ N 0 _ _ ⟨hf.kp rfl,hc⟩ Y)
  clear hF hf hc
  rintro M q a w KB8 ⟨hf,hc⟩ hF I b
  unfold jM at hF
  refine wp_seq_k fun K10 V=>zS fun K h=>sp 1 hf rfl fun a hf=>zP hf rfl (pFA nA rfl) fun a hf=>zL hf hc tZ m0 rfl fun a w hf hc=>zP hf rfl (bL Tryz.underlying65 rfl) fun a hf=>sp 1 hf rfl fun a hf=>zT h ?_
  refine zI hf rfl hF ?_ ?_ <;> clear hF <;> intro hF
  ·refine wp_skip ?_
   refine V _ _ ?_
   refine wp_seq_k fun K12 X=>wp_block ?_
   refine wp_seq_k fun K13 i=>?_
   obtain ⟨Z,R,hF⟩:=aA hF
   obtain ⟨s,U,hF⟩:=aA hF
   obtain ⟨m,o,qa,qp⟩:=H.atm U
   refine cQ hc aY (by kernel_rfl) ?_
   refine qE hf rfl rfl rfl (kG (vs:=[i6 c_.States,.slice D c_.Rights.length B]) xF rfl rfl (cA (n:=2) m0 rfl)) fun a hf=>qE hf rfl rfl rfl (Pu.ev (pM rfl)) fun a hf=>qE hf rfl rfl rfl (Pu.ev (pM rfl)) fun a hf=>qE hf rfl rfl rfl (eC (v:=i6 Z) (vs:=[.agg #[i6 c_.States,.slice D c_.Rights.length B],i6 flow,i6 M]) (caps:=[]) aK2 rfl rfl rfl rfl (fun w hc=>uI c_ flow M H hc R)) fun a hf=>qE hf rfl rfl rfl (Pu.ev (pFA nA rfl)) fun a hf=>qE hf rfl rfl rfl (bP tZ rfl (bZ m0 rfl)) fun a hf=>qE hf rfl rfl rfl (Pu.ev (pM rfl)) fun a hf=>qE hf rfl rfl rfl (Pu.ev (pIA Tryz.underlying65 wP rfl rfl qa)) fun a hf=>qE hf rfl rfl rfl (Pu.ev (pFA wT rfl)) fun a hf=>qE hf rfl rfl rfl (bP bB rfl (bK (j:=1) qp rfl)) fun a hf=>qE hf rfl rfl rfl (Pu.ev (pLt rfl rfl)) fun a hf=>?_
   intro w hc
   refine i _ _ ?_
   refine zI hf rfl hF ?_ ?_ <;> clear hF <;> intro hF
   ·refine zS fun K h=>sp 3 hf rfl fun a hf=>zT h ?_
    refine wp_ret ?_
    refine bI ?_
    refine aN ?_
    refine aN ?_
    have he:=sj hF
    rw [← he] at I
    replace hF:=d _ I
    refine bI ?_
    refine aN ?_
    obtain rfl:=hF
    replace hc:=hc.drop k0
    exact zO2 Tryz.results25 hf rfl rfl ⟨rfl,hc⟩
   ·refine wp_skip ?_
    refine X _ _ ?_
    refine bR ?_
    refine sp 3 hf rfl fun a hf=>aP ?_
    exact b (W (M + 1)) _ _ (sj hF).symm ⟨hf.kp rfl,hc⟩
  ·refine wp_exit ?_
   refine bE ?_
   refine bE ?_
   have he:=sj hF
   rw [← he] at I
   refine eX ?_
   exact g _ _ _ I ⟨hf.kp rfl,hc⟩

def dR (N:Nat) (a_:List aG) (b_:List aG) (B:Int):Option (bH (Int) (Bool)) :=
 cond (decide (B < ((a_.length:Nat):Int)))
 (Option.bind (aZ a_ B) fun H=>
 Option.bind (aZ b_ B) fun D=>
 cond (!(H.State == D.State && H.Amount == D.Amount && H.Loss == D.Loss))
 (some (.ret false))
 (some (.cont (W (B + 1)))))
 (some (.brk B))
def hX (N:Nat) (a_:List aG) (b_:List aG):Option (Bool) :=
 cond (((a_.length:Nat):Int) != ((b_.length:Nat):Int))
 (some false)
 (Option.bind (aT (fun s7=>dR N a_ b_ s7) N 0) fun x7=>
 exK x7 (fun s7=>some true) some)
theorem tB {N:Nat} {G:bA} {Lf:List Ent} {w:World} (a_:List aG) (b_:List aG) {D:Option Addr} {H:Nat} {I:Option Addr} {J:Nat} (d:Rd G 3 D H (a_.map aK)) (Y:Rd G 3 I J (b_.map aK)) (hc:Ctx G (Lf) w) {M:Bool} (hF:hX N a_ b_=some M):Calls Tryz.prog 26 #[.slice D a_.length H,.slice I b_.length J] w (fun e w=>e=.returned (.bool M)∧Ctx G (Lf) w):=by
 unfold hX at hF
 refine cG Tryz.func26 rfl Tryz.ntmps26 rfl fun a hf=>zS fun K h=>sp 1 hf rfl fun a hf=>zT h ?_
 refine wp_seq_k fun K2 h2=>zS fun K h=>sp 1 hf rfl fun a hf=>zP hf rfl (bL Tryz.underlying23 rfl) fun a hf=>sp 1 hf rfl fun a hf=>zP hf rfl (bL Tryz.underlying23 rfl) fun a hf=>sp 1 hf rfl fun a hf=>zT h ?_
 refine zI hf rfl hF ?_ ?_ <;> clear hF <;> intro hF
 ·refine zS fun K h=>sp 1 hf rfl fun a hf=>zT h ?_
  refine wp_ret ?_
  refine aN ?_
  obtain rfl:=sj hF
  exact zO1 Tryz.results26 hf rfl ⟨rfl,hc⟩
 ·refine wp_skip ?_
  refine h2 _ _ ?_
  refine wp_seq_k fun K5 h5=>zS fun K h=>sp 1 hf rfl fun a hf=>zT h ?_
  refine wp_block ?_
  obtain ⟨x7,m,hF⟩:=aA hF
  let S7:Int→Act→World→Prop:=(fun (zz:Int) a w=>Has 26 a [(0,.slice D a_.length H),(1,.slice I b_.length J),(5,i6 zz)]∧Ctx G (Lf) w)
  have k:∀ (zz:Int) a w,x7=.go zz→S7 zz a w→K5 a w:=by
   rintro U a w rfl ⟨hf,hc⟩
   replace hF:=bQ hF
   refine h5 _ _ ?_
   refine zS fun K h=>sp 1 hf rfl fun a hf=>zT h ?_
   refine wp_ret ?_
   obtain rfl:=sj hF
   exact zO1 Tryz.results26 hf rfl ⟨rfl,hc⟩
  have p:∀ r,x7=.out r→r=M:=by
   rintro r rfl
   exact sj hF
  refine cX N (cV (S:=S7) (x:=x7) ?_ N 0 _ _ ⟨hf.kp rfl,hc⟩ m)
  clear hF hf hc
  rintro U t a w KB7 ⟨hf,hc⟩ hF B i
  unfold dR at hF
  refine wp_seq_k fun K9 h9=>zS fun K h=>sp 2 hf rfl fun a hf=>zP hf rfl (bL Tryz.underlying23 rfl) fun a hf=>sp 1 hf rfl fun a hf=>zT h ?_
  refine zI hf rfl hF ?_ ?_ <;> clear hF <;> intro hF
  ·refine wp_skip ?_
   refine h9 _ _ ?_
   refine wp_seq_k fun K11 g=>wp_block ?_
   refine wp_seq_k fun K12 j=>?_
   obtain ⟨R,V,hF⟩:=aA hF
   obtain ⟨u,o,qa,qp⟩:=d.atm V
   obtain ⟨O,X,hF⟩:=aA hF
   obtain ⟨q,s,b,Z⟩:=Y.atm X
   refine cQ hc aY (by kernel_rfl) ?_
   refine qE hf rfl rfl rfl (Pu.ev (pM rfl)) fun a hf=>qE hf rfl rfl rfl (Pu.ev (pM rfl)) fun a hf=>qE hf rfl rfl rfl (Pu.ev (pIA Tryz.underlying23 sG rfl rfl qa)) fun a hf=>qE hf rfl rfl rfl (kG (vs:=[i6 R.State,i6 R.Amount,i6 R.Loss]) wG rfl rfl (cR qp (n:=3) (o':=0) rfl)) fun a hf=>qE hf rfl rfl rfl (Pu.ev (pM rfl)) fun a hf=>qE hf rfl rfl rfl (Pu.ev (pM rfl)) fun a hf=>qE hf rfl rfl rfl (Pu.ev (pIA Tryz.underlying23 sG rfl rfl b)) fun a hf=>qE hf rfl rfl rfl (kG (vs:=[i6 O.State,i6 O.Amount,i6 O.Loss]) wG rfl rfl (cR Z (n:=3) (o':=0) rfl)) fun a hf=>qE hf rfl rfl rfl (Pu.ev (aEi ge_46 rfl rfl (aMk _ _ _ _ _ _))) fun a hf=>?_
   intro w hc
   refine j _ _ ?_
   refine zI hf rfl hF ?_ ?_ <;> clear hF <;> intro hF
   ·refine zS fun K h=>sp 1 hf rfl fun a hf=>zT h ?_
    refine wp_ret ?_
    refine bI ?_
    refine aN ?_
    refine aN ?_
    have he:=sj hF
    rw [← he] at B
    replace hF:=p _ B
    refine bI ?_
    refine aN ?_
    obtain rfl:=hF
    exact zO1 Tryz.results26 hf rfl ⟨rfl,hc⟩
   ·refine wp_skip ?_
    refine g _ _ ?_
    refine bR ?_
    refine sp 3 hf rfl fun a hf=>aP ?_
    exact i (W (U + 1)) _ _ (sj hF).symm ⟨hf.kp rfl,hc⟩
  ·refine wp_exit ?_
   refine bE ?_
   refine bE ?_
   have he:=sj hF
   rw [← he] at B
   refine eX ?_
   exact k _ _ _ B ⟨hf.kp rfl,hc⟩

def gD (N:Nat) (c_:aJ) (flow:Int) (O:aE):Option (Bool) :=
 cond (decide (35 < ((c_.Rights.length:Nat):Int)))
 (Option.bind (fR N) fun r=>
 some r)
 (Option.bind (kD N c_) fun B=>
 Option.bind (hY N B) fun d=>
 Option.bind (jC N c_) fun i=>
 Option.bind (mZ N i) fun g=>
 cond (d != g)
 (some false)
 (Option.bind (pF N B flow) fun R=>
 Option.bind (jC N c_) fun k=>
 Option.bind (mY N k flow) fun J=>
 Option.bind (cK N R.1 J.1) fun j=>
 cond ((!j) || (R.2 != J.2))
 (some false)
 (Option.bind (nK N B O) fun M=>
 Option.bind (jC N c_) fun X=>
 Option.bind (oM N X O) fun D=>
 Option.bind (dY N M.1 D.1) fun Y=>
 cond ((!Y) || (M.2 != D.2))
 (some false)
 (Option.bind (oE N B flow) fun H=>
 Option.bind (jC N c_) fun S=>
 Option.bind (pT N S flow) fun I=>
 Option.bind (cond (((H.1 == I.1) && (H.2 == I.2)) && (B.States == c_.States)) (Option.bind (hX N B.Rights c_.Rights) fun V=>
 some V) (some false)) fun b=>
 Option.bind (cond b (Option.bind (fR N) fun U=>
 some U) (some false)) fun Z=>
 some Z))))
theorem iC {N:Nat} {G:bA} {Lf:List Ent} {w:World} (c_:aJ) (flow:Int) (U:aE) {H:Option Addr} {I:Nat} (R:Rd G 3 H I (c_.Rights.map aK)) (hc:Ctx G (Lf) w) {a0:Bool} (hF:gD N c_ flow U=some a0):Calls Tryz.prog 7 #[.agg #[i6 c_.States,.slice H c_.Rights.length I],i6 flow,.agg #[i6 U.Lo,i6 U.Hi]] w (fun e w=>e=.returned (.bool a0)∧Ctx G (Lf) w):=by
 unfold gD at hF
 refine cG Tryz.func7 rfl Tryz.ntmps7 rfl fun a hf=>zS fun K h=>zB hf hc rfl fun Y a w hf hc=>zB hf hc rfl fun j a w hf hc=>sp 1 hf rfl fun a hf=>zT h ?_
 refine wp_seq_k fun K2 h2=>zS fun K h=>zP hf rfl (pFA kN rfl) fun a hf=>zL hf hc sD m1 rfl fun a w hf hc=>zP hf rfl (bL Tryz.underlying23 rfl) fun a hf=>sp 1 hf rfl fun a hf=>zT h ?_
 refine zI hf rfl hF ?_ ?_ <;> clear hF <;> intro hF
 ·refine zS fun K h=>?_
  obtain ⟨r,hr,hF⟩:=aA hF
  refine zQ (v:=.bool r) hf hc aAh rfl (fun w hc=>jT hc hr) fun a w hf hc=>sp 1 hf rfl fun a hf=>zT h ?_
  refine wp_ret ?_
  refine aN ?_
  obtain rfl:=sj hF
  replace hc:=(hc.drop k1).drop k0
  exact zO1 Tryz.results7 hf rfl ⟨rfl,hc⟩
 ·refine wp_skip ?_
  refine h2 _ _ ?_
  refine zS fun K h=>zN hf hc lN m1 rfl fun a w hf hc=>?_
  obtain ⟨O,a7,hF⟩:=aA hF
  refine zC hf en_16 rfl (uS c_ R hc a7) ?_
  rintro _ w ⟨g,d,rfl,hc⟩
  refine ⟨_,rfl,fun a hf=>?_⟩
  refine zA hf hc aCo rfl fun X a w hf hc=>zW hf hc aCa u0 rfl fun w hc=>zT h ?_
  refine wp_seq_k fun K6 h6=>wp_seq_k fun K7 h7=>?_
  obtain ⟨ai,bi,hF⟩:=aA hF
  obtain ⟨y,bc,hF⟩:=aA hF
  obtain ⟨af,a8,hF⟩:=aA hF
  replace hc:=hc.nilRow 0 0
  refine dJ (fun θ=>[⟨none,none,1,i6 flow⟩,⟨none,none,3,pq Y⟩,⟨none,none,5,pq j⟩,⟨none,none,7,pq X⟩,⟨some 0,none,23,.agg #[i6 O.States,.slice g O.Rights.length d]⟩,⟨some 1,none,24,i6 ai⟩,⟨some 2,none,25,.agg #[i6 c_.States,.slice H c_.Rights.length I]⟩,⟨some 3,none,26,.agg #[i6 y.States,.slice ((θ 24).p) y.Rights.length ((θ 24).c)]⟩,⟨some 4,none,27,i6 af⟩,⟨some 5,none,28,.bool (ai != af)⟩]) (fun E θ=>(bif E 3 then .row ((θ 24).p) ((θ 24).c) (y.Rights.map dA) 126 3 else .row none 0 [] 0 0)::.box X [i6 O.States,.slice g O.Rights.length d] 25::.row g d (O.Rights.map aK) 46 3::.box j [i6 U.Lo,i6 U.Hi] 28::.box Y [i6 c_.States,.slice H c_.Rights.length I] 25::Lf) [] (fun a w=>∃ (a4:Option Addr) (a1:Nat),Has 111 a [(1,i6 flow),(3,pq Y),(5,pq j),(7,pq X),(28,.bool (ai != af))]∧Ctx G (.row a4 a1 (y.Rights.map dA) 126 3::.box X [i6 O.States,.slice g O.Rights.length d] 25::.row g d (O.Rights.map aK) 46 3::.box j [i6 U.Lo,i6 U.Hi] 28::.box Y [i6 c_.States,.slice H c_.Rights.length I] 25::Lf) w) aY (by kernel_rfl) (by kernel_rfl) (eY.of hf ⟨rfl,rfl,rfl,rfl,trivial,trivial,trivial,trivial,trivial,trivial,trivial⟩) hc ⟨?_,?_,?_,?_,?_,?_,trivial⟩ ?_ ?_
  ·intro E θ a w hD hi hp he hc
   have hf:=he.h0.mT he 3 rfl
   refine zN hf hc lN m1 rfl fun a w hf hc=>zD θ he hi hf 4 rfl rfl rfl hc
  ·intro E θ a w hD hi hp he hc
   have e0:=hp.o 0 rfl
   have hf:=he.h0.mP he 4 rfl e0
   refine zQ (v:=i6 ai) hf hc aEr rfl (fun w hc=>by obtain ⟨G1,V,J,hc,M⟩:=lend hc k2; exact (mX O J hc bi).mono fun e w h=>⟨h.1,((M _ _ h.2).unpick k2)⟩) fun a w hf hc=>zD θ he hi hf 5 rfl rfl rfl hc
  ·intro E θ a w hD hi hp he hc
   have hf:=he.h0.mT he 1 rfl
   refine zN hf hc lN m4 rfl fun a w hf hc=>zD θ he hi hf 6 rfl rfl rfl hc
  ·intro E θ a w hD hi hp he hc
   have e2:=hp.o 2 rfl
   try dsimp only at hc
   rw [hi] at hc
   have hf:=he.h0.mP he 6 rfl e2
   refine zC hf aG1 rfl (nL c_ R hc bc) ?_
   rintro _ w ⟨b0,bz,rfl,hc⟩
   refine ⟨_,rfl,fun a hf=>?_⟩
   refine aP ?_
   refine bV ?_
   intro ds u aa
   replace hc:=hc.drop k1
   refine ⟨(fY θ 24 ⟨0,b0,bz,(fun _=>(none,0))⟩),he.put hi aa hf rfl [] trivial ⟨qq,qq,qq,qq,qq,qq,qq,qq,qq,qq,trivial⟩,?_⟩
   try dsimp only
   rw [aU E 3]
   exact hc
  ·intro E θ a w hD hi hp he hc
   have e3:=hp.o 3 rfl
   try dsimp only at hc
   rw [e3] at hc
   have hf:=he.h0.mP he 7 rfl e3
   refine zQ (v:=i6 af) hf hc aJw rfl (fun w hc=>by obtain ⟨G1,V,J,hc,M⟩:=lend hc k0; exact (rB y J hc a8).mono fun e w h=>⟨h.1,((M _ _ h.2).unpick k0)⟩) fun a w hf hc=>zD θ he hi hf 8 rfl rfl rfl ?_
   try dsimp only
   rw [dH 4 e3]
   exact hc
  ·intro E θ a w hD hi hp he hc
   have e1:=hp.o 1 rfl
   have e4:=hp.o 4 rfl
   have hf:=(he.h0.mP he 5 rfl e1).mP he 8 rfl e4
   refine sp 1 hf rfl fun a hf=>zD θ he hi hf 9 rfl rfl rfl hc
  ·intro E θ a w b he hc
   have hf:=he.h0
   have e3:=b 3 rfl
   have e5:=b 5 rfl
   replace hf:=hf.more he 9 rfl (onP e5)
   replace hf:=hf.more he 3 rfl (onT)
   replace hf:=hf.more he 2 rfl (onT)
   replace hf:=hf.more he 1 rfl (onT)
   replace hf:=hf.more he 0 rfl (onT)
   try dsimp only at hc
   rw [e3] at hc
   exact ⟨(θ 24).p,(θ 24).c,hf.kp rfl,hc⟩
  rintro a w ⟨a4,a1,hf,hc⟩
  refine h7 _ _ ?_
  refine zI hf rfl hF ?_ ?_ <;> clear hF <;> intro hF
  ·refine zS fun K h=>sp 1 hf rfl fun a hf=>zT h ?_
   refine wp_ret ?_
   refine aN ?_
   obtain rfl:=sj hF
   replace hc:=((((hc.drop k4).drop k3).drop k2).drop k1).drop k0
   exact zO1 Tryz.results7 hf rfl ⟨rfl,hc⟩
  ·refine wp_skip ?_
   refine h6 _ _ ?_
   refine zS fun K h=>zN hf hc lN m1 rfl fun a w hf hc=>sp 1 hf rfl fun a hf=>?_
   obtain ⟨z,bf,hF⟩:=aA hF
   obtain ⟨G1,V,J,hc,M⟩:=lend hc k2
   refine zC hf aKz rfl (wH O flow J hc bf) ?_
   rintro _ w ⟨a5,a3,rfl,hc⟩
   refine ⟨_,rfl,fun a hf=>?_⟩
   replace hc:=M _ _ hc
   refine sp 5 hf rfl fun a hf=>zT h ?_
   refine zS fun K h=>zN hf hc lN m5 rfl fun a w hf hc=>?_
   obtain ⟨bv,bk,hF⟩:=aA hF
   refine zC hf aG1 rfl (nL c_ R hc bk) ?_
   rintro _ w ⟨b3,b4,rfl,hc⟩
   refine ⟨_,rfl,fun a hf=>?_⟩
   refine sp 1 hf rfl fun a hf=>?_
   obtain ⟨q,bd,hF⟩:=aA hF
   obtain ⟨G1,V,J,hc,M⟩:=lend hc k0
   refine zC hf aGm rfl (pR bv flow J hc bd) ?_
   rintro _ w ⟨a6,a2,rfl,hc⟩
   refine ⟨_,rfl,fun a hf=>?_⟩
   replace hc:=M _ _ hc
   refine sp 5 hf rfl fun a hf=>zT h ?_
   refine wp_seq_k fun K11 bt=>zS fun K h=>sp 2 hf rfl fun a hf=>?_
   obtain ⟨x,bj,hF⟩:=aA hF
   refine zQ (v:=.bool x) hf hc tY rfl (fun w hc=>by obtain ⟨G1,V,J,hc,M⟩:=lend hc k3; obtain ⟨G2,ac,ab,hc,ad⟩:=lend hc k1; exact (dP z.1 q.1 (J.mono ac) ab hc bj).mono fun e w h=>⟨h.1,((M _ _ ((ad _ _ h.2).unpick k1)).unpick k3)⟩) fun a w hf hc=>sp 2 hf rfl fun a hf=>cP 4 (fun a=>Has 111 a [(1,i6 flow),(3,pq Y),(5,pq j),(7,pq X),(8,.slice a5 z.1.length a3),(9,i6 z.2),(10,.slice a6 q.1.length a2),(11,i6 q.2),(42,.slice a5 z.1.length a3),(43,.slice a6 q.1.length a2),(44,.bool x),(45,.bool (!x)),(46,.bool (!x)),(50,.bool ((!x) || (z.2 != q.2)))]) hc ?_ ?_
   ·cases hb:(!x)
    ·rw [hb] at hf
     refine sp 4 hf rfl fun a hf=>aP ⟨hf.kp rfl,hc⟩
    ·rw [hb] at hf
     refine stS hf rfl rfl rfl fun a hf=>stS hf rfl rfl rfl fun a hf=>stS hf rfl rfl rfl fun a hf=>sp 1 hf rfl fun a hf=>aP ⟨hf.kp rfl,hc⟩
   intro a w ⟨hf,hc⟩
   refine zT h ?_
   refine zI hf rfl hF ?_ ?_ <;> clear hF <;> intro hF
   ·refine zS fun K h=>sp 1 hf rfl fun a hf=>zT h ?_
    refine wp_ret ?_
    refine aN ?_
    obtain rfl:=sj hF
    replace hc:=(((((((hc.drop k7).drop k6).drop k5).drop k4).drop k3).drop k2).drop k1).drop k0
    exact zO1 Tryz.results7 hf rfl ⟨rfl,hc⟩
   ·refine wp_skip ?_
    refine bt _ _ ?_
    refine wp_seq_k fun K14 bm=>bR ?_
    refine zN hf hc lN m5 rfl fun a w hf hc=>zN hf hc mL m6 rfl fun a w hf hc=>?_
    obtain ⟨Z,a9,hF⟩:=aA hF
    obtain ⟨G1,V,J,hc,M⟩:=lend hc k2
    refine zC hf aLa rfl (tX O U J hc a9) ?_
    rintro _ w ⟨t,s,rfl,hc⟩
    refine ⟨_,rfl,fun a hf=>?_⟩
    replace hc:=M _ _ hc
    refine sp 5 hf rfl fun a hf=>aP ?_
    replace hc:=(((hc.drop k5).drop k4).drop k3).drop k2
    refine bm _ _ ?_
    refine wp_seq_k fun K15 bs=>?_
    obtain ⟨k,ax,hF⟩:=aA hF
    obtain ⟨S,ar,hF⟩:=aA hF
    replace hc:=hc.nilRow 0 0
    replace hc:=hc.nilRow 0 0
    refine dJ (fun θ=>[⟨none,none,1,i6 flow⟩,⟨none,none,3,pq Y⟩,⟨none,none,5,pq j⟩,⟨none,none,7,pq X⟩,⟨none,none,9,i6 Z.2⟩,⟨none,some 8,11,i6 q.2⟩,⟨none,none,12,.slice t Z.1.length s⟩,⟨some 0,none,58,.agg #[i6 c_.States,.slice H c_.Rights.length I]⟩,⟨some 1,none,59,.agg #[i6 k.States,.slice ((θ 8).p) k.Rights.length ((θ 8).c)]⟩,⟨some 2,none,60,.agg #[i6 U.Lo,i6 U.Hi]⟩,⟨some 3,none,61,.tuple #[.slice ((θ 24).p) S.1.length ((θ 24).c),i6 S.2]⟩,⟨some 4,none,57,.tuple #[.slice ((θ 24).p) S.1.length ((θ 24).c),i6 S.2]⟩,⟨some 5,none,62,.slice ((θ 24).p) S.1.length ((θ 24).c)⟩,⟨some 6,none,63,i6 S.2⟩,⟨some 7,none,13,.slice ((θ 24).p) S.1.length ((θ 24).c)⟩,⟨some 8,none,11,i6 S.2⟩]) (fun E θ=>(bif E 3 then .row ((θ 24).p) ((θ 24).c) (S.1.map bC) 28 2 else .row none 0 [] 0 0)::(bif E 1 then .row ((θ 8).p) ((θ 8).c) (k.Rights.map dA) 126 3 else .row none 0 [] 0 0)::.row g d (O.Rights.map aK) 46 3::.row t s (Z.1.map bC) 28 2::.box X [i6 O.States,.slice g O.Rights.length d] 25::.box j [i6 U.Lo,i6 U.Hi] 28::.box Y [i6 c_.States,.slice H c_.Rights.length I] 25::Lf) [(4,3),(5,4),(7,3)] (fun a w=>∃ (m:Option Addr) (n:Nat) (ak:Option Addr) (an:Nat),Has 111 a [(1,i6 flow),(3,pq Y),(7,pq X),(9,i6 Z.2),(12,.slice t Z.1.length s),(13,.slice m S.1.length n),(11,i6 S.2)]∧Ctx G (.row m n (S.1.map bC) 28 2::.row ak an (k.Rights.map dA) 126 3::.row g d (O.Rights.map aK) 46 3::.row t s (Z.1.map bC) 28 2::.box X [i6 O.States,.slice g O.Rights.length d] 25::.box j [i6 U.Lo,i6 U.Hi] 28::.box Y [i6 c_.States,.slice H c_.Rights.length I] 25::Lf) w) aY (by kernel_rfl) (by kernel_rfl) (eY.of hf ⟨rfl,rfl,rfl,rfl,rfl,rfl,rfl,trivial,trivial,trivial,trivial,trivial,trivial,trivial,trivial,trivial,trivial⟩) hc ⟨?_,?_,?_,?_,?_,?_,?_,?_,?_,trivial⟩ ?_ ?_
    ·intro E θ a w hD hi hp he hc
     have hf:=he.h0.mT he 1 rfl
     refine zN hf hc lN m6 rfl fun a w hf hc=>zD θ he hi hf 7 rfl rfl rfl hc
    ·intro E θ a w hD hi hp he hc
     have e0:=hp.o 0 rfl
     try dsimp only at hc
     rw [hi] at hc
     have hf:=he.h0.mP he 7 rfl e0
     refine zC hf aG1 rfl (nL c_ R hc ax) ?_
     rintro _ w ⟨bu,br,rfl,hc⟩
     refine ⟨_,rfl,fun a hf=>?_⟩
     refine aP ?_
     refine bV ?_
     intro ds u aa
     replace hc:=((hc.drop k2).pick k0).pick k1
     refine ⟨(fY θ 8 ⟨0,bu,br,(fun _=>(none,0))⟩),he.put hi aa hf rfl [] trivial ⟨qq,qq,qq,qq,qq,qq,qq,qq,qq,qq,qq,qq,qq,qq,qq,qq,trivial⟩,?_⟩
     try dsimp only
     rw [aU E 1]
     exact hc
    ·intro E θ a w hD hi hp he hc
     have hf:=he.h0.mT he 2 rfl
     refine zN hf hc mL m5 rfl fun a w hf hc=>zD θ he hi hf 9 rfl rfl rfl hc
    ·intro E θ a w hD hi hp he hc
     have e1:=hp.o 1 rfl
     have e2:=hp.o 2 rfl
     have e4:=hD.f 0 rfl hi
     have e5:=hD.f 1 rfl e4
     have e7:=hD.f 2 rfl hi
     try dsimp only at hc
     rw [hi,e1] at hc
     have hf:=(he.h0.mP he 8 rfl e1).mP he 9 rfl e2
     obtain ⟨G1,V,J,hc,M⟩:=lend hc k1
     refine zC hf en_22 rfl (zY k U J hc ar) ?_
     rintro _ w ⟨bq,bp,rfl,hc⟩
     refine ⟨_,rfl,fun a hf=>?_⟩
     replace hc:=M _ _ hc
     refine aP ?_
     refine bV ?_
     intro ds u aa
     replace hc:=((hc.drop k2).pick k0).pick k1
     refine ⟨(fY θ 24 ⟨0,bq,bp,(fun _=>(none,0))⟩),he.put hi aa hf rfl [4,5,7] ⟨⟨e4,rfl⟩,⟨e5,rfl⟩,⟨e7,rfl⟩,trivial⟩ ⟨qq,qq,qq,qq,qq,qq,qq,qq,qq,qq,qq,trivial,trivial,qq,trivial,qq,trivial⟩,?_⟩
     try dsimp only
     rw [aU E 3,dH 3 e1]
     exact hc
    ·intro E θ a w hD hi hp he hc
     have e3:=hp.o 3 rfl
     have hf:=he.h0.mP he 10 rfl e3
     refine sp 1 hf rfl fun a hf=>zD θ he hi hf 11 rfl rfl rfl hc
    ·intro E θ a w hD hi hp he hc
     have e4:=hp.o 4 rfl
     have hf:=he.h0.mP he 11 rfl e4
     refine sp 1 hf rfl fun a hf=>zD θ he hi hf 12 rfl rfl rfl hc
    ·intro E θ a w hD hi hp he hc
     have e4:=hp.o 4 rfl
     have hf:=he.h0.mP he 11 rfl e4
     refine sp 1 hf rfl fun a hf=>zD θ he hi hf 13 rfl rfl rfl hc
    ·intro E θ a w hD hi hp he hc
     have e5:=hp.o 5 rfl
     have hf:=he.h0.mP he 12 rfl e5
     refine sp 1 hf rfl fun a hf=>zD θ he hi hf 14 rfl rfl rfl hc
    ·intro E θ a w hD hi hp he hc
     have e6:=hp.o 6 rfl
     have hf:=he.h0.mP he 13 rfl e6
     refine sp 1 hf rfl fun a hf=>zD θ he hi hf 15 rfl rfl rfl hc
    ·intro E θ a w b he hc
     have hf:=he.h0
     have e1:=b 1 rfl
     have e3:=b 3 rfl
     have e7:=b 7 rfl
     have e8:=b 8 rfl
     replace hf:=hf.more he 15 rfl (onP e8)
     replace hf:=hf.more he 14 rfl (onP e7)
     replace hf:=hf.more he 6 rfl (onT)
     replace hf:=hf.more he 4 rfl (onT)
     replace hf:=hf.more he 3 rfl (onT)
     replace hf:=hf.more he 1 rfl (onT)
     replace hf:=hf.more he 0 rfl (onT)
     try dsimp only at hc
     rw [e1,e3] at hc
     exact ⟨(θ 24).p,(θ 24).c,(θ 8).p,(θ 8).c,hf.kp rfl,hc⟩
    rintro a w ⟨m,n,ak,an,hf,hc⟩
    refine bs _ _ ?_
    refine wp_seq_k fun K16 bn=>zS fun K h=>sp 2 hf rfl fun a hf=>?_
    obtain ⟨i,au,hF⟩:=aA hF
    refine zQ (v:=.bool i) hf hc aGg rfl (fun w hc=>by obtain ⟨G1,V,J,hc,M⟩:=lend hc k3; obtain ⟨G2,ac,ab,hc,ad⟩:=lend hc k0; exact (kL Z.1 S.1 (J.mono ac) ab hc au).mono fun e w h=>⟨h.1,((M _ _ ((ad _ _ h.2).unpick k0)).unpick k3)⟩) fun a w hf hc=>sp 2 hf rfl fun a hf=>cP 4 (fun a=>Has 111 a [(1,i6 flow),(3,pq Y),(7,pq X),(9,i6 Z.2),(12,.slice t Z.1.length s),(13,.slice m S.1.length n),(11,i6 S.2),(64,.slice t Z.1.length s),(65,.slice m S.1.length n),(66,.bool i),(67,.bool (!i)),(68,.bool (!i)),(72,.bool ((!i) || (Z.2 != S.2)))]) hc ?_ ?_
    ·cases hb:(!i)
     ·rw [hb] at hf
      refine sp 4 hf rfl fun a hf=>aP ⟨hf.kp rfl,hc⟩
     ·rw [hb] at hf
      refine stS hf rfl rfl rfl fun a hf=>stS hf rfl rfl rfl fun a hf=>stS hf rfl rfl rfl fun a hf=>sp 1 hf rfl fun a hf=>aP ⟨hf.kp rfl,hc⟩
    intro a w ⟨hf,hc⟩
    refine zT h ?_
    refine zI hf rfl hF ?_ ?_ <;> clear hF <;> intro hF
    ·refine zS fun K h=>sp 1 hf rfl fun a hf=>zT h ?_
     refine wp_ret ?_
     refine aN ?_
     obtain rfl:=sj hF
     replace hc:=((((((hc.drop k6).drop k5).drop k4).drop k3).drop k2).drop k1).drop k0
     exact zO1 Tryz.results7 hf rfl ⟨rfl,hc⟩
    ·refine wp_skip ?_
     refine bn _ _ ?_
     refine zS fun K h=>zN hf hc lN m4 rfl fun a w hf hc=>sp 1 hf rfl fun a hf=>?_
     obtain ⟨D,aq,hF⟩:=aA hF
     refine zQ (v:=.tuple #[i6 D.1,i6 D.2]) hf hc aKt rfl (fun w hc=>by obtain ⟨G1,V,J,hc,M⟩:=lend hc k2; exact (vJ O flow J hc aq).mono fun e w h=>⟨h.1,((M _ _ h.2).unpick k2)⟩) fun a w hf hc=>sp 5 hf rfl fun a hf=>zT h ?_
     refine zS fun K h=>zN hf hc lN m6 rfl fun a w hf hc=>?_
     obtain ⟨bg,az,hF⟩:=aA hF
     refine zC hf aG1 rfl (nL c_ R hc az) ?_
     rintro _ w ⟨b1,b2,rfl,hc⟩
     refine ⟨_,rfl,fun a hf=>?_⟩
     refine sp 1 hf rfl fun a hf=>?_
     obtain ⟨B,av,hF⟩:=aA hF
     refine zQ (v:=.tuple #[i6 B.1,i6 B.2]) hf hc en_25 rfl (fun w hc=>by obtain ⟨G1,V,J,hc,M⟩:=lend hc k0; exact (aBg bg flow J hc av).mono fun e w h=>⟨h.1,((M _ _ h.2).unpick k0)⟩) fun a w hf hc=>sp 5 hf rfl fun a hf=>zT h ?_
     refine zS fun K h=>sp 4 hf rfl fun a hf=>cP 4 (fun a=>Has 111 a [(3,pq Y),(7,pq X),(9,i6 D.2),(11,i6 B.2),(14,i6 D.1),(15,i6 B.1),(86,i6 D.1),(87,i6 B.1),(88,.bool (D.1 == B.1)),(89,.bool (D.1 == B.1)),(93,.bool ((D.1 == B.1) && (D.2 == B.2)))]) hc ?_ ?_
     ·cases hb:(D.1 == B.1)
      ·rw [hb] at hf
       refine stS hf rfl rfl rfl fun a hf=>stS hf rfl rfl rfl fun a hf=>stS hf rfl rfl rfl fun a hf=>sp 1 hf rfl fun a hf=>aP ⟨hf.kp rfl,hc⟩
      ·rw [hb] at hf
       refine sp 4 hf rfl fun a hf=>aP ⟨hf.kp rfl,hc⟩
     intro a w ⟨hf,hc⟩
     refine sp 1 hf rfl fun a hf=>cP 6 (fun a=>Has 111 a [(3,pq Y),(7,pq X),(9,i6 D.2),(11,i6 B.2),(14,i6 D.1),(15,i6 B.1),(86,i6 D.1),(87,i6 B.1),(88,.bool (D.1 == B.1)),(89,.bool (D.1 == B.1)),(93,.bool ((D.1 == B.1) && (D.2 == B.2))),(94,.bool ((D.1 == B.1) && (D.2 == B.2))),(100,.bool (((D.1 == B.1) && (D.2 == B.2)) && (O.States == c_.States)))]) hc ?_ ?_
     ·cases hb:((D.1 == B.1) && (D.2 == B.2))
      ·rw [hb] at hf
       refine stS hf rfl rfl rfl fun a hf=>stS hf rfl rfl rfl fun a hf=>stS hf rfl rfl rfl fun a hf=>stS hf rfl rfl rfl fun a hf=>stS hf rfl rfl rfl fun a hf=>sp 1 hf rfl fun a hf=>aP ⟨hf.kp rfl,hc⟩
      ·rw [hb] at hf
       refine zP hf rfl (pFA qP rfl) fun a hf=>zL hf hc bB m5 rfl fun a w hf hc=>zP hf rfl (pFA qP rfl) fun a hf=>zL hf hc bB m7 rfl fun a w hf hc=>sp 2 hf rfl fun a hf=>aP ⟨hf.kp rfl,hc⟩
     intro a w ⟨hf,hc⟩
     refine sp 1 hf rfl fun a hf=>?_
     obtain ⟨ag,am,hF⟩:=aA hF
     refine cP 6 (fun a=>Has 111 a [(3,pq Y),(7,pq X),(9,i6 D.2),(11,i6 B.2),(14,i6 D.1),(15,i6 B.1),(86,i6 D.1),(87,i6 B.1),(88,.bool (D.1 == B.1)),(89,.bool (D.1 == B.1)),(93,.bool ((D.1 == B.1) && (D.2 == B.2))),(94,.bool ((D.1 == B.1) && (D.2 == B.2))),(100,.bool (((D.1 == B.1) && (D.2 == B.2)) && (O.States == c_.States))),(101,.bool (((D.1 == B.1) && (D.2 == B.2)) && (O.States == c_.States))),(107,.bool ag)]) hc ?_ ?_
     ·cases hb:(((D.1 == B.1) && (D.2 == B.2)) && (O.States == c_.States))
      ·rw [hb] at hf
       have hF:=fN hb am
       obtain rfl:=sj hF
       refine stS hf rfl rfl rfl fun a hf=>stS hf rfl rfl rfl fun a hf=>stS hf rfl rfl rfl fun a hf=>stS hf rfl rfl rfl fun a hf=>stS hf rfl rfl rfl fun a hf=>sp 1 hf rfl fun a hf=>aP ⟨hf.kp rfl,hc⟩
      ·rw [hb] at hf
       have hF:=fO hb am
       refine zP hf rfl (pFA kN rfl) fun a hf=>zL hf hc sD m5 rfl fun a w hf hc=>zP hf rfl (pFA kN rfl) fun a hf=>zL hf hc sD m7 rfl fun a w hf hc=>?_
       obtain ⟨bb,ap,hF⟩:=aA hF
       refine zQ (v:=.bool bb) hf hc en_26 rfl (fun w hc=>by obtain ⟨G1,V,J,hc,M⟩:=lend hc k3; exact (tB O.Rights c_.Rights J (R.mono V) hc ap).mono fun e w h=>⟨h.1,((M _ _ h.2).unpick k3)⟩) fun a w hf hc=>sp 1 hf rfl fun a hf=>?_
       obtain rfl:=sj hF
       exact aP ⟨hf.kp rfl,hc⟩
     intro a w ⟨hf,hc⟩
     refine sp 1 hf rfl fun a hf=>?_
     obtain ⟨bx,aj,hF⟩:=aA hF
     refine cP 2 (fun a=>Has 111 a [(3,pq Y),(7,pq X),(9,i6 D.2),(11,i6 B.2),(14,i6 D.1),(15,i6 B.1),(86,i6 D.1),(87,i6 B.1),(88,.bool (D.1 == B.1)),(89,.bool (D.1 == B.1)),(93,.bool ((D.1 == B.1) && (D.2 == B.2))),(94,.bool ((D.1 == B.1) && (D.2 == B.2))),(100,.bool (((D.1 == B.1) && (D.2 == B.2)) && (O.States == c_.States))),(101,.bool (((D.1 == B.1) && (D.2 == B.2)) && (O.States == c_.States))),(107,.bool ag),(108,.bool ag),(110,.bool bx)]) hc ?_ ?_
     ·cases hb:ag
      ·rw [hb] at hf
       try rw [hb] at hc
       have hF:=fN hb aj
       obtain rfl:=sj hF
       refine stS hf rfl rfl rfl fun a hf=>sp 1 hf rfl fun a hf=>aP ⟨hf.kp rfl,hc⟩
      ·rw [hb] at hf
       try rw [hb] at hc
       have hF:=fO hb aj
       obtain ⟨ba,ay,hF⟩:=aA hF
       refine zQ (v:=.bool ba) hf hc aAh rfl (fun w hc=>jT hc ay) fun a w hf hc=>sp 1 hf rfl fun a hf=>?_
       obtain rfl:=sj hF
       exact aP ⟨hf.kp rfl,hc⟩
     intro a w ⟨hf,hc⟩
     refine sp 1 hf rfl fun a hf=>zT h ?_
     refine wp_ret ?_
     obtain rfl:=sj hF
     replace hc:=(((((((hc.drop k7).drop k6).drop k5).drop k4).drop k3).drop k2).drop k1).drop k0
     exact zO1 Tryz.results7 hf rfl ⟨rfl,hc⟩

def kS (N:Nat) (l:List aI):Option ((List aI)) :=
 Option.bind (jE (l).length) fun un=>
 some l
theorem tJ {N:Nat} {G:bA} {Lf:List Ent} {w:World} (l:List aI) {J:Option Addr} {D:Nat} (R:Rd G 2 J D (l.map aO)) (hc:Ctx G (Lf) w) {B:(List aI)} (hF:kS N l=some B):Calls Tryz.prog 69 #[.slice J l.length D] w (fun e w=>∃ (I:Option Addr) (H:Nat),e=.returned (.slice I B.length H)∧Ctx G (.row I H (B.map aO) 48 2::Lf) w):=by
 unfold kS at hF
 refine cG Tryz.func69 rfl Tryz.ntmps69 rfl fun a hf=>zS fun K h=>sp 1 hf rfl fun a hf=>zT h ?_
 refine zS fun K h=>sp 1 hf rfl fun a hf=>zT h ?_
 refine zS fun K h=>sp 2 hf rfl fun a hf=>?_
 replace hc:=hc.nilRow 48 2
 obtain ⟨un,S,hF⟩:=aA hF
 refine iV (xs:=([]:List aI)) (ys:=l) hf hc rfl rfl aCk rfl rfl rfl rfl rfl iY (yM hc R) (fun _ _=>u0) (by simpa using cB S) fun M O a w hf hc=>sp 1 hf rfl fun a hf=>zT h ?_
 refine wp_ret ?_
 obtain rfl:=sj hF
 exact zO1 Tryz.results69 hf rfl ⟨M,O,rfl,hc⟩

def lB (N:Nat) (b_:aH):Option (aH) :=
 Option.bind (kS N b_.Table) fun r=>
 some (⟨r,b_.Credit⟩:aH)
theorem vX {N:Nat} {G:bA} {Lf:List Ent} {w:World} (b_:aH) {B:Option Addr} {D:Nat} (H:Rd G 2 B D (b_.Table.map aO)) (hc:Ctx G (Lf) w) {I:aH} (hF:lB N b_=some I):Calls Tryz.prog 27 #[.agg #[.slice B b_.Table.length D,i6 b_.Credit]] w (fun e w=>∃ (R:Option Addr) (O:Nat),e=.returned (.agg #[.slice R I.Table.length O,i6 I.Credit])∧Ctx G (.row R O (I.Table.map aO) 48 2::Lf) w):=by
 unfold lB at hF
 refine cG Tryz.func27 rfl Tryz.ntmps27 rfl fun a hf=>zS fun K h=>zB hf hc rfl fun U a w hf hc=>zA hf hc aAv rfl fun S a w hf hc=>zT h ?_
 refine zS fun K h=>zP hf rfl (pFA gB rfl) fun a hf=>zL hf hc oH m1 rfl fun a w hf hc=>?_
 obtain ⟨r,hr,hF⟩:=aA hF
 refine zC hf en_69 rfl (tJ b_.Table H hc hr) ?_
 rintro _ w ⟨J,M,rfl,hc⟩
 refine ⟨_,rfl,fun a hf=>?_⟩
 refine zP hf rfl (pFA gB rfl) fun a hf=>zW hf hc aIl u2 rfl fun w hc=>zT h ?_
 refine zS fun K h=>zN hf hc lE m2 rfl fun a w hf hc=>zW hf hc aEa u1 rfl fun w hc=>zT h ?_
 refine wp_ret ?_
 obtain rfl:=sj hF
 replace hc:=hc.drop k2
 exact oO (by simp) rfl Tryz.results27 hf hc (dQ (vs:=[.slice J r.length M,i6 b_.Credit]) lE rfl rfl (cA (n:=2) m1 rfl)) ⟨J,M,rfl,(hc.drop k1)⟩

def iX (N:Nat) (l:List aF):Option ((List aF)) :=
 Option.bind (jE (l).length) fun un=>
 some l
theorem tS {N:Nat} {G:bA} {Lf:List Ent} {w:World} (l:List aF) {J:Option Addr} {D:Nat} (R:Rd G 5 J D (l.map aS)) (hc:Ctx G (Lf) w) {B:(List aF)} (hF:iX N l=some B):Calls Tryz.prog 28 #[.slice J l.length D] w (fun e w=>∃ (I:Option Addr) (H:Nat),e=.returned (.slice I B.length H)∧Ctx G (.row I H (B.map aS) 50 5::Lf) w):=by
 unfold iX at hF
 refine cG Tryz.func28 rfl Tryz.ntmps28 rfl fun a hf=>zS fun K h=>sp 1 hf rfl fun a hf=>zT h ?_
 refine zS fun K h=>sp 1 hf rfl fun a hf=>zT h ?_
 refine zS fun K h=>sp 2 hf rfl fun a hf=>?_
 replace hc:=hc.nilRow 50 5
 obtain ⟨un,S,hF⟩:=aA hF
 refine iV (xs:=([]:List aF)) (ys:=l) hf hc rfl rfl aCb rfl rfl rfl rfl rfl jP (yM hc R) (fun _ _=>u0) (by simpa using cB S) fun M O a w hf hc=>sp 1 hf rfl fun a hf=>zT h ?_
 refine wp_ret ?_
 obtain rfl:=sj hF
 exact zO1 Tryz.results28 hf rfl ⟨M,O,rfl,hc⟩

def iD (N:Nat) (l:List aB):Option ((List aB)) :=
 Option.bind (jE (l).length) fun un=>
 some l
theorem sY {N:Nat} {G:bA} {Lf:List Ent} {w:World} (l:List aB) {J:Option Addr} {D:Nat} (R:Rd G 2 J D (l.map aW)) (hc:Ctx G (Lf) w) {B:(List aB)} (hF:iD N l=some B):Calls Tryz.prog 29 #[.slice J l.length D] w (fun e w=>∃ (I:Option Addr) (H:Nat),e=.returned (.slice I B.length H)∧Ctx G (.row I H (B.map aW) 37 2::Lf) w):=by
 unfold iD at hF
 refine cG Tryz.func29 rfl Tryz.ntmps29 rfl fun a hf=>zS fun K h=>sp 1 hf rfl fun a hf=>zT h ?_
 refine zS fun K h=>sp 1 hf rfl fun a hf=>zT h ?_
 refine zS fun K h=>sp 2 hf rfl fun a hf=>?_
 replace hc:=hc.nilRow 37 2
 obtain ⟨un,S,hF⟩:=aA hF
 refine iV (xs:=([]:List aB)) (ys:=l) hf hc rfl rfl aCs rfl rfl rfl rfl rfl kZ (yM hc R) (fun _ _=>u0) (by simpa using cB S) fun M O a w hf hc=>sp 1 hf rfl fun a hf=>zT h ?_
 refine wp_ret ?_
 obtain rfl:=sj hF
 exact zO1 Tryz.results29 hf rfl ⟨M,O,rfl,hc⟩

def jJ (N:Nat) (B:List aB) (I:List cD) (D:Int):Option (bH ((List cD) × Int) ((List bS) × (List cD))) :=
 cond (decide (D < ((B.length:Nat):Int)))
 (Option.bind (aZ B D) fun H=>
 Option.bind (jE ((I++[(⟨H.Index,H.Delivered⟩:cD)])).length) fun un=>
 some (.cont ((I++[(⟨H.Index,H.Delivered⟩:cD)]),W (D + 1))))
 (some (.brk (I,D)))
def jL (N:Nat) (l:List aF) (out:List bS) (x:Int):Option (bH ((List bS) × Int) ((List bS) × (List cD))) :=
 cond (decide (x < ((l.length:Nat):Int)))
 (Option.bind (aZ l x) fun B=>
 Option.bind (jE ((out++[(⟨B.Index,B.Delivered,B.Spill⟩:bS)])).length) fun D=>
 some (.cont ((out++[(⟨B.Index,B.Delivered,B.Spill⟩:bS)]),W (x + 1))))
 (some (.brk (out,x)))
def pY (N:Nat) (l:List aF) (B:List aB):Option ((List bS) × (List cD)) :=
 Option.bind (aT (fun s6=>jL N l s6.1 s6.2) N (([]:List bS),0)) fun x6=>
 exK x6 (fun s6=>Option.bind (aT (fun s9=>jJ N B s9.1 s9.2) N (([]:List cD),0)) fun x9=>
 exK x9 (fun s9=>some (s6.1,s9.1)) some) some
theorem aAo {N:Nat} {G:bA} {Lf:List Ent} {w:World} (l:List aF) (I:List aB) {g:Option Addr} {d:Nat} {H:Option Addr} {D:Nat} (an:Rd G 5 g d (l.map aS)) (Z:Rd G 2 H D (I.map aW)) (hc:Ctx G (Lf) w) {R:(List bS) × (List cD)} (hF:pY N l I=some R):Calls Tryz.prog 30 #[.slice g l.length d,.slice H I.length D] w (fun e w=>∃ (k:Option Addr) (p:Nat) (m:Option Addr) (j:Nat),e=.returned (.tuple #[.slice k R.1.length p,.slice m R.2.length j])∧Ctx G (.row k p (R.1.map dE) 139 5::.row m j (R.2.map eV) 140 2::Lf) w):=by
 unfold pY at hF
 refine cG Tryz.func30 rfl Tryz.ntmps30 rfl fun a hf=>zS fun K h=>sp 2 hf rfl fun a hf=>zT h ?_
 refine zS fun K h=>sp 1 hf rfl fun a hf=>zT h ?_
 refine zS fun K h=>sp 1 hf rfl fun a hf=>zT h ?_
 refine wp_seq_k fun K4 h4=>zS fun K h=>sp 1 hf rfl fun a hf=>zP hf rfl (bL Tryz.underlying33 rfl) fun a hf=>sp 1 hf rfl fun a hf=>zT h ?_
 refine wp_block ?_
 obtain ⟨x6,y,hF⟩:=aA hF
 let S6:((List bS) × Int)→Act→World→Prop:=(fun (zz:(List bS) × Int) a w=>∃ (O:Option Addr) (M:Nat),Has 36 a [(1,.slice H I.length D),(6,.slice O zz.1.length M),(7,.slice none 0 0),(12,.slice g l.length d),(13,i6 ((l.length:Nat):Int)),(14,i6 zz.2)]∧Ctx G (.row O M (zz.1.map dE) 139 5::Lf) w)
 have ac:∀ (zz:(List bS) × Int) a w,x6=.go zz→S6 zz a w→K4 a w:=by
  rintro ⟨out,x⟩ a w rfl ⟨O,M,hf,hc⟩
  replace hF:=bQ hF
  refine h4 _ _ ?_
  refine wp_seq_k fun K7 h7=>zS fun K h=>sp 1 hf rfl fun a hf=>zP hf rfl (bL Tryz.underlying38 rfl) fun a hf=>sp 1 hf rfl fun a hf=>zT h ?_
  refine wp_block ?_
  obtain ⟨x9,am,hF⟩:=aA hF
  let S9:((List cD) × Int)→Act→World→Prop:=(fun (zz:(List cD) × Int) a w=>∃ (V:Option Addr) (U:Nat),Has 36 a [(6,.slice O out.length M),(7,.slice V zz.1.length U),(23,.slice H I.length D),(24,i6 ((I.length:Nat):Int)),(25,i6 zz.2)]∧Ctx G (.row V U (zz.1.map eV) 140 2::.row O M (out.map dE) 139 5::Lf) w)
  have ar:∀ (zz:(List cD) × Int) a w,x9=.go zz→S9 zz a w→K7 a w:=by
   rintro ⟨b,q⟩ a w rfl ⟨V,U,hf,hc⟩
   replace hF:=bQ hF
   refine h7 _ _ ?_
   refine zS fun K h=>sp 4 hf rfl fun a hf=>zT h ?_
   refine wp_ret ?_
   obtain rfl:=sj hF
   replace hc:=(hc.pick k0).pick k1
   exact zO2 Tryz.results30 hf rfl rfl ⟨O,M,V,U,rfl,hc⟩
  have a3:∀ r,x9=.out r→r=R:=by
   rintro r rfl
   exact sj hF
  replace hc:=hc.nilRow 140 2
  refine cX N (cV (S:=S9) (x:=x9) ?_ N (([]:List cD),0) _ _ ⟨none,0,hf.kp rfl,hc⟩ am)
  clear hF hf hc
  rintro ⟨b,q⟩ ay a w KB9 ⟨V,U,hf,hc⟩ hF Y ab
  unfold jJ at hF
  refine zS fun K h=>sp 1 hf rfl fun a hf=>zT h ?_
  refine wp_seq_k fun K12 ag=>zI hf rfl hF ?_ ?_ <;> clear hF <;> intro hF
  ·refine wp_skip ?_
   refine ag _ _ ?_
   refine wp_seq_k fun K13 ap=>wp_block ?_
   refine zS fun K h=>?_
   obtain ⟨J,t,hF⟩:=aA hF
   obtain ⟨a1,o,qa,qp⟩:=Z.atm t
   refine zP hf rfl (pIA Tryz.underlying38 zJ rfl rfl qa) fun a hf=>zE hf hc rfl (kG (vs:=[i6 J.Index,i6 J.Delivered]) aCh rfl rfl (cR qp (n:=2) (o':=0) rfl)) fun a w hf hc=>zA hf hc aLh rfl fun ax a w hf hc=>zW hf hc zJ u0 rfl fun w hc=>zT h ?_
   refine bR ?_
   refine sp 1 hf rfl fun a hf=>zN hf hc aCh m0 rfl fun a w hf hc=>gV (rows:=([(⟨J.Index,J.Delivered⟩:cD)]:List cD).map eV) (vs:=[(0,.agg #[i6 J.Index,i6 J.Delivered])]) hf hc rfl rfl aK1 rfl ⟨rfl,rfl,rfl,trivial⟩ rfl rfl fun av a w hf hc=>?_
   obtain ⟨un,ad,hF⟩:=aA hF
   refine iV (xs:=b) (ys:=([(⟨J.Index,J.Delivered⟩:cD)]:List cD)) hf hc rfl rfl aK1 rfl rfl rfl rfl rfl vY (fA hc m0) (fun _ _=>u2) (by simpa using cB ad) fun ak af a w hf hc=>sp 1 hf rfl fun a hf=>aP ?_
   refine ap _ _ ?_
   refine bR ?_
   refine sp 2 hf rfl fun a hf=>aP ?_
   replace hc:=(hc.drop k1).drop k0
   exact ab ((b++[(⟨J.Index,J.Delivered⟩:cD)]),W (q + 1)) _ _ (sj hF).symm ⟨ak,af,hf.kp rfl,hc⟩
  ·refine wp_exit ?_
   refine bE ?_
   refine bE ?_
   have he:=sj hF
   rw [← he] at Y
   refine eX ?_
   exact ar _ _ _ Y ⟨V,U,hf.kp rfl,hc⟩
 have a0:∀ r,x6=.out r→r=R:=by
  rintro r rfl
  exact sj hF
 replace hc:=hc.nilRow 139 5
 refine cX N (cV (S:=S6) (x:=x6) ?_ N (([]:List bS),0) _ _ ⟨none,0,hf.kp rfl,hc⟩ y)
 clear hF hf hc
 rintro ⟨out,x⟩ a5 a w KB6 ⟨O,M,hf,hc⟩ hF X aa
 unfold jL at hF
 refine zS fun K h=>sp 1 hf rfl fun a hf=>zT h ?_
 refine wp_seq_k fun K16 z=>zI hf rfl hF ?_ ?_ <;> clear hF <;> intro hF
 ·refine wp_skip ?_
  refine z _ _ ?_
  refine wp_seq_k fun K17 ai=>wp_block ?_
  refine zS fun K h=>?_
  obtain ⟨B,u,hF⟩:=aA hF
  obtain ⟨a4,az,v,s⟩:=an.atm u
  refine zP hf rfl (pIA Tryz.underlying33 vD rfl rfl v) fun a hf=>zE hf hc rfl (kG (vs:=[i6 B.Index.Lo,i6 B.Index.Hi,i6 B.Delivered.Lo,i6 B.Delivered.Hi,.bool B.Spill]) zK rfl rfl (cR s (n:=5) (o':=0) rfl)) fun a w hf hc=>zA hf hc aJv rfl fun a6 a w hf hc=>zW hf hc vD u0 rfl fun w hc=>zT h ?_
  refine bR ?_
  refine sp 1 hf rfl fun a hf=>zN hf hc zK m0 rfl fun a w hf hc=>gV (rows:=([(⟨B.Index,B.Delivered,B.Spill⟩:bS)]:List bS).map dE) (vs:=[(0,.agg #[i6 B.Index.Lo,i6 B.Index.Hi,i6 B.Delivered.Lo,i6 B.Delivered.Hi,.bool B.Spill])]) hf hc rfl rfl aKs rfl ⟨rfl,rfl,rfl,trivial⟩ rfl rfl fun a2 a w hf hc=>?_
  obtain ⟨au,i,hF⟩:=aA hF
  refine iV (xs:=out) (ys:=([(⟨B.Index,B.Delivered,B.Spill⟩:bS)]:List bS)) hf hc rfl rfl aKs rfl rfl rfl rfl rfl wM (fA hc m0) (fun _ _=>u2) (by simpa using cB i) fun aq aj a w hf hc=>sp 1 hf rfl fun a hf=>aP ?_
  refine ai _ _ ?_
  refine bR ?_
  refine sp 2 hf rfl fun a hf=>aP ?_
  replace hc:=(hc.drop k1).drop k0
  exact aa ((out++[(⟨B.Index,B.Delivered,B.Spill⟩:bS)]),W (x + 1)) _ _ (sj hF).symm ⟨aq,aj,hf.kp rfl,hc⟩
 ·refine wp_exit ?_
  refine bE ?_
  refine bE ?_
  have he:=sj hF
  rw [← he] at X
  refine eX ?_
  exact ac _ _ _ X ⟨O,M,hf.kp rfl,hc⟩

def iU (N:Nat) (b_:aH) (x:Int) (D:List eB):Option (bH (Int × (List eB)) (bO)) :=
 cond (decide (x < ((b_.Table.length:Nat):Int)))
 (Option.bind (aZ b_.Table x) fun B=>
 Option.bind (jE ((D++[(⟨B.Index,B.Due⟩:eB)])).length) fun un=>
 some (.cont (W (x + 1),(D++[(⟨B.Index,B.Due⟩:eB)]))))
 (some (.brk (x,D)))
def kK (N:Nat) (b_:aH):Option (bO) :=
 Option.bind (aT (fun s5=>iU N b_ s5.1 s5.2) N (0,([]:List eB))) fun x5=>
 exK x5 (fun s5=>some (⟨s5.2,b_.Credit⟩:bO)) some
theorem nS {N:Nat} {G:bA} {Lf:List Ent} {w:World} (b_:aH) {B:Option Addr} {D:Nat} (M:Rd G 2 B D (b_.Table.map aO)) (hc:Ctx G (Lf) w) {O:bO} (hF:kK N b_=some O):Calls Tryz.prog 32 #[.agg #[.slice B b_.Table.length D,i6 b_.Credit]] w (fun e w=>∃ (Y:Option Addr) (Z:Nat),e=.returned (.agg #[.slice Y O.Table.length Z,i6 O.Credit])∧Ctx G (.row Y Z (O.Table.map bW) 141 2::Lf) w):=by
 unfold kK at hF
 refine cG Tryz.func32 rfl Tryz.ntmps32 rfl fun a hf=>zS fun K h=>zB hf hc rfl fun t a w hf hc=>zA hf hc aLg rfl fun X a w hf hc=>zT h ?_
 refine zS fun K h=>zP hf rfl (pFA tN rfl) fun a hf=>zL hf hc bB m1 rfl fun a w hf hc=>zP hf rfl (bG (cells:=[.slice none 0 0,i6 b_.Credit]) bt_90 rfl rfl) fun a hf=>zA hf hc aLg rfl fun V a w hf hc=>zW hf hc aKm u0 rfl fun w hc=>zT h ?_
 refine wp_seq_k fun K3 h3=>zS fun K h=>zP hf rfl (pFA gB rfl) fun a hf=>zL hf hc oH m2 rfl fun a w hf hc=>zP hf rfl (bL Tryz.underlying30 rfl) fun a hf=>sp 1 hf rfl fun a hf=>zT h ?_
 refine wp_block ?_
 obtain ⟨x5,d,hF⟩:=aA hF
 let S5:(Int × (List eB))→Act→World→Prop:=(fun (zz:Int × (List eB)) a w=>∃ (I:Option Addr) (J:Nat),Has 24 a [(2,pq X),(3,pq V),(10,.slice B b_.Table.length D),(11,i6 ((b_.Table.length:Nat):Int)),(12,i6 zz.1)]∧Ctx G (.row I J (zz.2.map bW) 141 2::.box V [.slice I zz.2.length J,i6 b_.Credit] 90::.box X [.slice none 0 0,i6 0] 90::Lf) w)
 have m:∀ (zz:Int × (List eB)) a w,x5=.go zz→S5 zz a w→K3 a w:=by
  rintro ⟨x,R⟩ a w rfl ⟨I,J,hf,hc⟩
  replace hF:=bQ hF
  refine h3 _ _ ?_
  refine zS fun K h=>zN hf hc uL m1 rfl fun a w hf hc=>zW hf hc aKm u2 rfl fun w hc=>zT h ?_
  refine wp_ret ?_
  obtain rfl:=sj hF
  replace hc:=hc.drop k1
  exact oO (by simp) rfl Tryz.results32 hf hc (dQ (vs:=[.slice I R.length J,i6 b_.Credit]) uL rfl rfl (cA (n:=2) m1 rfl)) ⟨I,J,rfl,(hc.drop k1)⟩
 have p:∀ r,x5=.out r→r=O:=by
  rintro r rfl
  exact sj hF
 replace hc:=hc.nilRow 141 2
 replace hc:=hc.drop k3
 refine cX N (cV (S:=S5) (x:=x5) ?_ N (0,([]:List eB)) _ _ ⟨none,0,hf.kp rfl,hc⟩ d)
 clear hF hf hc
 rintro ⟨x,R⟩ q a w KB5 ⟨I,J,hf,hc⟩ hF U k
 unfold iU at hF
 refine zS fun K h=>sp 1 hf rfl fun a hf=>zT h ?_
 refine wp_seq_k fun K8 h8=>zI hf rfl hF ?_ ?_ <;> clear hF <;> intro hF
 ·refine wp_skip ?_
  refine h8 _ _ ?_
  refine wp_seq_k fun K9 h9=>wp_block ?_
  refine zS fun K h=>?_
  obtain ⟨H,b,hF⟩:=aA hF
  obtain ⟨s,o,qa,qp⟩:=M.atm b
  refine zP hf rfl (pIA Tryz.underlying30 oK rfl rfl qa) fun a hf=>zE hf hc rfl (kG (vs:=[i6 H.Index,i6 H.Due]) uZ rfl rfl (cR qp (n:=2) (o':=0) rfl)) fun a w hf hc=>zA hf hc aD9 rfl fun v a w hf hc=>zW hf hc oK u0 rfl fun w hc=>zT h ?_
  refine bR ?_
  refine zP hf rfl (pFA jA rfl) fun a hf=>zL hf hc pE m2 rfl fun a w hf hc=>zN hf hc uZ m0 rfl fun a w hf hc=>gV (rows:=([(⟨H.Index,H.Due⟩:eB)]:List eB).map bW) (vs:=[(0,.agg #[i6 H.Index,i6 H.Due])]) hf hc rfl rfl aLl rfl ⟨rfl,rfl,rfl,trivial⟩ rfl rfl fun u a w hf hc=>?_
  obtain ⟨un,j,hF⟩:=aA hF
  refine iV (xs:=R) (ys:=([(⟨H.Index,H.Due⟩:eB)]:List eB)) hf hc rfl rfl aLl rfl rfl rfl rfl rfl wA (fA hc m0) (fun _ _=>u2) (by simpa using cB j) fun i g a w hf hc=>zP hf rfl (pFA jA rfl) fun a hf=>zW hf hc sz_88 u3 rfl fun w hc=>aP ?_
  refine h9 _ _ ?_
  refine bR ?_
  refine sp 2 hf rfl fun a hf=>aP ?_
  replace hc:=(hc.drop k1).drop k0
  exact k (W (x + 1),(R++[(⟨H.Index,H.Due⟩:eB)])) _ _ (sj hF).symm ⟨i,g,hf.kp rfl,hc⟩
 ·refine wp_exit ?_
  refine bE ?_
  refine bE ?_
  have he:=sj hF
  rw [← he] at U
  refine eX ?_
  exact m _ _ _ U ⟨I,J,hf.kp rfl,hc⟩

def eJ (N:Nat) (b_:bO) (B:Int):Option (bH (Int) (Int)) :=
 cond (decide (B < ((b_.Table.length:Nat):Int)))
 (Option.bind (aZ b_.Table B) fun J=>
 Option.bind (aZ b_.Table (W (B - 1))) fun D=>
 Option.bind (cond (decide (J.Index≤D.Index)) (some true) (Option.bind (aZ b_.Table B) fun M=>
 Option.bind (aZ b_.Table (W (B - 1))) fun I=>
 some (decide (M.Due < I.Due)))) fun H=>
 cond H
 (some (.ret 9))
 (some (.cont (W (B + 1)))))
 (some (.brk B))
def eN (N:Nat) (b_:bO) (D:Bool) (B:Int):Option (bH (Bool × Int) (Int)) :=
 cond (decide (B < ((b_.Table.length:Nat):Int)))
 (Option.bind (cond D (some true) (Option.bind (aZ b_.Table B) fun M=>
 some (aC M.Index 0 1000000000))) fun I=>
 Option.bind (cond I (some true) (Option.bind (aZ b_.Table B) fun H=>
 some (aC H.Due 0 1000000000))) fun J=>
 some (.cont (J,W (B + 1))))
 (some (.brk (D,B)))
def gC (N:Nat) (b_:bO):Option (Int) :=
 cond ((decide (((b_.Table.length:Nat):Int) < 2)) || (decide (12 < ((b_.Table.length:Nat):Int))))
 (some 3)
 (Option.bind (aT (fun s8=>eN N b_ s8.1 s8.2) N ((aC b_.Credit 0 1000000000),0)) fun x8=>
 exK x8 (fun s8=>cond s8.1
 (some 100)
 (Option.bind (aT (fun B=>eJ N b_ B) N 1) fun D=>
 exK D (fun B=>some 0) some)) some)
theorem mS {N:Nat} {G:bA} {Lf:List Ent} {w:World} (b_:bO) {D:Option Addr} {B:Nat} (H:Rd G 2 D B (b_.Table.map bW)) (hc:Ctx G (Lf) w) {R:Int} (hF:gC N b_=some R):Calls Tryz.prog 31 #[.agg #[.slice D b_.Table.length B,i6 b_.Credit]] w (fun e w=>e=.returned (i6 R)∧Ctx G (Lf) w):=by
 unfold gC at hF
 refine cG Tryz.func31 rfl Tryz.ntmps31 rfl fun a hf=>zS fun K h=>zB hf hc rfl fun I a w hf hc=>sp 1 hf rfl fun a hf=>zT h ?_
 refine wp_seq_k fun K2 h2=>zS fun K h=>zP hf rfl (pFA jA rfl) fun a hf=>zL hf hc pE m0 rfl fun a w hf hc=>zP hf rfl (bL Tryz.underlying88 rfl) fun a hf=>sp 2 hf rfl fun a hf=>cP 5 (fun a=>Has 83 a [(1,pq I),(6,pq I),(7,.slice D b_.Table.length B),(8,i6 ((b_.Table.length:Nat):Int)),(9,.bool (decide (((b_.Table.length:Nat):Int) < 2))),(10,.bool (decide (((b_.Table.length:Nat):Int) < 2))),(15,.bool ((decide (((b_.Table.length:Nat):Int) < 2)) || (decide (12 < ((b_.Table.length:Nat):Int)))))]) hc ?_ ?_
 ·cases hb:(decide (((b_.Table.length:Nat):Int) < 2))
  ·rw [hb] at hf
   refine zP hf rfl (pFA jA rfl) fun a hf=>zL hf hc pE m0 rfl fun a w hf hc=>zP hf rfl (bL Tryz.underlying88 rfl) fun a hf=>sp 2 hf rfl fun a hf=>aP ⟨hf.kp rfl,hc⟩
  ·rw [hb] at hf
   refine stS hf rfl rfl rfl fun a hf=>stS hf rfl rfl rfl fun a hf=>stS hf rfl rfl rfl fun a hf=>stS hf rfl rfl rfl fun a hf=>sp 1 hf rfl fun a hf=>aP ⟨hf.kp rfl,hc⟩
 intro a w ⟨hf,hc⟩
 refine zT h ?_
 refine zI hf rfl hF ?_ ?_ <;> clear hF <;> intro hF
 ·refine zS fun K h=>sp 1 hf rfl fun a hf=>zT h ?_
  refine wp_ret ?_
  refine aN ?_
  obtain rfl:=sj hF
  replace hc:=hc.drop k0
  exact zO1 Tryz.results31 hf rfl ⟨rfl,hc⟩
 ·refine wp_skip ?_
  refine h2 _ _ ?_
  refine zS fun K h=>zP hf rfl (pFA aDa rfl) fun a hf=>zL hf hc bB m0 rfl fun a w hf hc=>zQ (v:=.bool (aC b_.Credit 0 1000000000)) hf hc nM rfl (fun w hc=>bJ b_.Credit 0 1000000000 hc rfl) fun a w hf hc=>sp 1 hf rfl fun a hf=>zT h ?_
  refine wp_seq_k fun K6 h6=>zS fun K h=>sp 1 hf rfl fun a hf=>zT h ?_
  refine wp_block ?_
  obtain ⟨x8,a3,hF⟩:=aA hF
  let S8:(Bool × Int)→Act→World→Prop:=(fun (zz:Bool × Int) a w=>Has 83 a [(1,pq I),(3,.bool zz.1),(4,i6 zz.2)]∧Ctx G (.box I [.slice D b_.Table.length B,i6 b_.Credit] 90::Lf) w)
  have az:∀ (zz:Bool × Int) a w,x8=.go zz→S8 zz a w→K6 a w:=by
   rintro ⟨M,X⟩ a w rfl ⟨hf,hc⟩
   replace hF:=bQ hF
   refine h6 _ _ ?_
   refine wp_seq_k fun K9 h9=>zS fun K h=>sp 1 hf rfl fun a hf=>zT h ?_
   refine zI hf rfl hF ?_ ?_ <;> clear hF <;> intro hF
   ·refine zS fun K h=>sp 1 hf rfl fun a hf=>zT h ?_
    refine wp_ret ?_
    refine aN ?_
    obtain rfl:=sj hF
    replace hc:=hc.drop k0
    exact zO1 Tryz.results31 hf rfl ⟨rfl,hc⟩
   ·refine wp_skip ?_
    refine h9 _ _ ?_
    refine wp_seq_k fun K12 a4=>zS fun K h=>sp 1 hf rfl fun a hf=>zT h ?_
    refine wp_block ?_
    obtain ⟨i,av,hF⟩:=aA hF
    let S14:Int→Act→World→Prop:=(fun (zz:Int) a w=>Has 83 a [(1,pq I),(5,i6 zz)]∧Ctx G (.box I [.slice D b_.Table.length B,i6 b_.Credit] 90::Lf) w)
    have t:∀ (zz:Int) a w,i=.go zz→S14 zz a w→K12 a w:=by
     rintro O a w rfl ⟨hf,hc⟩
     replace hF:=bQ hF
     refine a4 _ _ ?_
     refine zS fun K h=>sp 1 hf rfl fun a hf=>zT h ?_
     refine wp_ret ?_
     obtain rfl:=sj hF
     replace hc:=hc.drop k0
     exact zO1 Tryz.results31 hf rfl ⟨rfl,hc⟩
    have ab:∀ r,i=.out r→r=R:=by
     rintro r rfl
     exact sj hF
    refine cX N (cV (S:=S14) (x:=i) ?_ N 1 _ _ ⟨hf.kp rfl,hc⟩ av)
    clear hF hf hc
    rintro O a7 a w KB14 ⟨hf,hc⟩ hF J ag
    unfold eJ at hF
    refine wp_seq_k fun K16 ax=>zS fun K h=>sp 1 hf rfl fun a hf=>zP hf rfl (pFA jA rfl) fun a hf=>zL hf hc pE m0 rfl fun a w hf hc=>zP hf rfl (bL Tryz.underlying88 rfl) fun a hf=>sp 1 hf rfl fun a hf=>zT h ?_
    refine zI hf rfl hF ?_ ?_ <;> clear hF <;> intro hF
    ·refine wp_skip ?_
     refine ax _ _ ?_
     refine wp_seq_k fun K18 ay=>wp_block ?_
     refine wp_seq_k fun K19 a1=>?_
     obtain ⟨V,ai,hF⟩:=aA hF
     obtain ⟨m,o,qa,qp⟩:=H.atm ai
     obtain ⟨Z,aj,hF⟩:=aA hF
     obtain ⟨k,q,an,u⟩:=H.atm aj
     obtain ⟨a0,g,hF⟩:=aA hF
     refine cQ hc aY (by kernel_rfl) ?_
     refine qE hf rfl rfl rfl (Pu.ev (pFA jA rfl)) fun a hf=>qE hf rfl rfl rfl (bP pE rfl (bZ m0 rfl)) fun a hf=>qE hf rfl rfl rfl (Pu.ev (pM rfl)) fun a hf=>qE hf rfl rfl rfl (Pu.ev (pIA Tryz.underlying88 pL rfl rfl qa)) fun a hf=>qE hf rfl rfl rfl (Pu.ev (pFA oR rfl)) fun a hf=>qE hf rfl rfl rfl (bP bB rfl (bK (j:=0) qp rfl)) fun a hf=>qE hf rfl rfl rfl (Pu.ev (pFA jA rfl)) fun a hf=>qE hf rfl rfl rfl (bP pE rfl (bZ m0 rfl)) fun a hf=>qE hf rfl rfl rfl (Pu.ev (pM rfl)) fun a hf=>qE hf rfl rfl rfl (Pu.ev (aB0 rfl rfl)) fun a hf=>qE hf rfl rfl rfl (Pu.ev (pIA Tryz.underlying88 pL rfl rfl an)) fun a hf=>qE hf rfl rfl rfl (Pu.ev (pFA oR rfl)) fun a hf=>qE hf rfl rfl rfl (bP bB rfl (bK (j:=0) u rfl)) fun a hf=>?_
     refine qE hf rfl rfl rfl (Pu.ev (pLe rfl rfl)) fun a hf=>qE hf rfl rfl rfl (Pu.ev (pM rfl)) fun a hf=>aBd 15 (fun a=>Has 83 a [(1,pq I),(5,i6 O),(53,pq I),(54,.slice D b_.Table.length B),(55,i6 O),(56,.pointer (some ⟨m,o,none⟩)),(57,.pointer (some ⟨m,o + 0,none⟩)),(58,i6 V.Index),(59,pq I),(60,.slice D b_.Table.length B),(61,i6 O),(62,i6 (W (O - 1))),(63,.pointer (some ⟨k,q,none⟩)),(64,.pointer (some ⟨k,q + 0,none⟩)),(65,i6 Z.Index),(66,.bool (decide (V.Index≤Z.Index))),(67,.bool (decide (V.Index≤Z.Index))),(82,.bool a0)]) ?_ ?_
     ·cases hb:(decide (V.Index≤Z.Index))
      ·rw [hb] at hf
       have hF:=fN hb g
       obtain ⟨bf,ac,hF⟩:=aA hF
       obtain ⟨bk,bd,aq,au⟩:=H.atm ac
       obtain ⟨bg,ad,hF⟩:=aA hF
       obtain ⟨bm,a9,y,z⟩:=H.atm ad
       refine qE hf rfl rfl rfl (Pu.ev (pFA jA rfl)) fun a hf=>qE hf rfl rfl rfl (bP pE rfl (bZ m0 rfl)) fun a hf=>qE hf rfl rfl rfl (Pu.ev (pM rfl)) fun a hf=>qE hf rfl rfl rfl (Pu.ev (pIA Tryz.underlying88 pL rfl rfl aq)) fun a hf=>qE hf rfl rfl rfl (Pu.ev (pFA rN rfl)) fun a hf=>qE hf rfl rfl rfl (bP bB rfl (bK (j:=1) au rfl)) fun a hf=>qE hf rfl rfl rfl (Pu.ev (pFA jA rfl)) fun a hf=>qE hf rfl rfl rfl (bP pE rfl (bZ m0 rfl)) fun a hf=>qE hf rfl rfl rfl (Pu.ev (pM rfl)) fun a hf=>qE hf rfl rfl rfl (Pu.ev (aB0 rfl rfl)) fun a hf=>qE hf rfl rfl rfl (Pu.ev (pIA Tryz.underlying88 pL rfl rfl y)) fun a hf=>qE hf rfl rfl rfl (Pu.ev (pFA rN rfl)) fun a hf=>qE hf rfl rfl rfl (bP bB rfl (bK (j:=1) z rfl)) fun a hf=>?_
       refine qE hf rfl rfl rfl (Pu.ev (pLt rfl rfl)) fun a hf=>qE hf rfl rfl rfl (Pu.ev (pPf rfl rfl)) fun a hf=>?_
       obtain rfl:=sj hF
       exact rU (hf.kp rfl)
      ·rw [hb] at hf
       have hF:=fO hb g
       obtain rfl:=sj hF
       refine qS hf rfl rfl rfl fun a hf=>qS hf rfl rfl rfl fun a hf=>qS hf rfl rfl rfl fun a hf=>qS hf rfl rfl rfl fun a hf=>qS hf rfl rfl rfl fun a hf=>qS hf rfl rfl rfl fun a hf=>qS hf rfl rfl rfl fun a hf=>qS hf rfl rfl rfl fun a hf=>qS hf rfl rfl rfl fun a hf=>qS hf rfl rfl rfl fun a hf=>qS hf rfl rfl rfl fun a hf=>qS hf rfl rfl rfl fun a hf=>qS hf rfl rfl rfl fun a hf=>?_
       refine qS hf rfl rfl rfl fun a hf=>qE hf rfl rfl rfl (Pu.ev (pPt rfl rfl)) fun a hf=>rU (hf.kp rfl)
     intro a hf
     intro w hc
     refine a1 _ _ ?_
     refine zI hf rfl hF ?_ ?_ <;> clear hF <;> intro hF
     ·refine zS fun K h=>sp 1 hf rfl fun a hf=>zT h ?_
      refine wp_ret ?_
      refine bI ?_
      refine aN ?_
      refine aN ?_
      have he:=sj hF
      rw [← he] at J
      replace hF:=ab _ J
      refine bI ?_
      refine aN ?_
      obtain rfl:=hF
      replace hc:=hc.drop k0
      exact zO1 Tryz.results31 hf rfl ⟨rfl,hc⟩
     ·refine wp_skip ?_
      refine ay _ _ ?_
      refine bR ?_
      refine sp 3 hf rfl fun a hf=>aP ?_
      exact ag (W (O + 1)) _ _ (sj hF).symm ⟨hf.kp rfl,hc⟩
    ·refine wp_exit ?_
     refine bE ?_
     refine bE ?_
     have he:=sj hF
     rw [← he] at J
     refine eX ?_
     exact t _ _ _ J ⟨hf.kp rfl,hc⟩
  have ba:∀ r,x8=.out r→r=R:=by
   rintro r rfl
   exact sj hF
  refine cX N (cV (S:=S8) (x:=x8) ?_ N ((aC b_.Credit 0 1000000000),0) _ _ ⟨hf.kp rfl,hc⟩ a3)
  clear hF hf hc
  rintro ⟨M,X⟩ bb a w KB8 ⟨hf,hc⟩ hF U a5
  unfold eN at hF
  refine wp_seq_k fun K21 a2=>zS fun K h=>sp 1 hf rfl fun a hf=>zP hf rfl (pFA jA rfl) fun a hf=>zL hf hc pE m0 rfl fun a w hf hc=>zP hf rfl (bL Tryz.underlying88 rfl) fun a hf=>sp 1 hf rfl fun a hf=>zT h ?_
  refine zI hf rfl hF ?_ ?_ <;> clear hF <;> intro hF
  ·refine wp_skip ?_
   refine a2 _ _ ?_
   refine wp_seq_k fun K23 a6=>wp_block ?_
   refine bR ?_
   refine sp 2 hf rfl fun a hf=>?_
   obtain ⟨Y,b,hF⟩:=aA hF
   refine cP 8 (fun a=>Has 83 a [(1,pq I),(3,.bool M),(4,i6 X),(26,.bool M),(27,.bool M),(35,.bool Y)]) hc ?_ ?_
   ·cases hb:M
    ·rw [hb] at hf
     try rw [hb] at hc
     have hF:=fN hb b
     refine zP hf rfl (pFA jA rfl) fun a hf=>zL hf hc pE m0 rfl fun a w hf hc=>sp 1 hf rfl fun a hf=>?_
     obtain ⟨n,ar,hF⟩:=aA hF
     obtain ⟨bc,bj,aa,af⟩:=H.atm ar
     refine zP hf rfl (pIA Tryz.underlying88 pL rfl rfl aa) fun a hf=>zP hf rfl (pFA oR rfl) fun a hf=>zE hf hc rfl (bP bB rfl (bK (j:=0) af rfl)) fun a w hf hc=>zQ (v:=.bool (aC n.Index 0 1000000000)) hf hc nM rfl (fun w hc=>bJ n.Index 0 1000000000 hc rfl) fun a w hf hc=>sp 1 hf rfl fun a hf=>?_
     obtain rfl:=sj hF
     exact aP ⟨hf.kp rfl,hc⟩
    ·rw [hb] at hf
     try rw [hb] at hc
     have hF:=fO hb b
     obtain rfl:=sj hF
     refine stS hf rfl rfl rfl fun a hf=>stS hf rfl rfl rfl fun a hf=>stS hf rfl rfl rfl fun a hf=>stS hf rfl rfl rfl fun a hf=>stS hf rfl rfl rfl fun a hf=>stS hf rfl rfl rfl fun a hf=>stS hf rfl rfl rfl fun a hf=>sp 1 hf rfl fun a hf=>aP ⟨hf.kp rfl,hc⟩
   intro a w ⟨hf,hc⟩
   refine sp 1 hf rfl fun a hf=>?_
   obtain ⟨s,d,hF⟩:=aA hF
   refine cP 8 (fun a=>Has 83 a [(1,pq I),(3,.bool M),(4,i6 X),(26,.bool M),(27,.bool M),(35,.bool Y),(36,.bool Y),(44,.bool s)]) hc ?_ ?_
   ·cases hb:Y
    ·rw [hb] at hf
     try rw [hb] at hc
     have hF:=fN hb d
     refine zP hf rfl (pFA jA rfl) fun a hf=>zL hf hc pE m0 rfl fun a w hf hc=>sp 1 hf rfl fun a hf=>?_
     obtain ⟨p,am,hF⟩:=aA hF
     obtain ⟨bi,a8,ak,ap⟩:=H.atm am
     refine zP hf rfl (pIA Tryz.underlying88 pL rfl rfl ak) fun a hf=>zP hf rfl (pFA rN rfl) fun a hf=>zE hf hc rfl (bP bB rfl (bK (j:=1) ap rfl)) fun a w hf hc=>zQ (v:=.bool (aC p.Due 0 1000000000)) hf hc nM rfl (fun w hc=>bJ p.Due 0 1000000000 hc rfl) fun a w hf hc=>sp 1 hf rfl fun a hf=>?_
     obtain rfl:=sj hF
     exact aP ⟨hf.kp rfl,hc⟩
    ·rw [hb] at hf
     try rw [hb] at hc
     have hF:=fO hb d
     obtain rfl:=sj hF
     refine stS hf rfl rfl rfl fun a hf=>stS hf rfl rfl rfl fun a hf=>stS hf rfl rfl rfl fun a hf=>stS hf rfl rfl rfl fun a hf=>stS hf rfl rfl rfl fun a hf=>stS hf rfl rfl rfl fun a hf=>stS hf rfl rfl rfl fun a hf=>sp 1 hf rfl fun a hf=>aP ⟨hf.kp rfl,hc⟩
   intro a w ⟨hf,hc⟩
   refine sp 1 hf rfl fun a hf=>aP ?_
   refine a6 _ _ ?_
   refine bR ?_
   refine sp 3 hf rfl fun a hf=>aP ?_
   exact a5 (s,W (X + 1)) _ _ (sj hF).symm ⟨hf.kp rfl,hc⟩
  ·refine wp_exit ?_
   refine bE ?_
   refine bE ?_
   have he:=sj hF
   rw [← he] at U
   refine eX ?_
   exact az _ _ _ U ⟨hf.kp rfl,hc⟩

def tE (N:Nat) (b_:aH) (B:Int):Option (Int × Int) :=
 Option.bind (eA N b_) fun r=>
 cond (r != 0)
 (some (0,r))
 (cond (!(bD B))
 (some (0,4))
 (Option.bind (jF N b_ B) fun D=>
 some (D,0)))
theorem aDi {N:Nat} {G:bA} {Lf:List Ent} {w:World} (b_:aH) (I:Int) {B:Option Addr} {H:Nat} (D:Rd G 2 B H (b_.Table.map aO)) (hc:Ctx G (Lf) w) {J:Int × Int} (hF:tE N b_ I=some J):Calls Tryz.prog 33 #[.agg #[.slice B b_.Table.length H,i6 b_.Credit],i6 I] w (fun e w=>e=.returned (.tuple #[i6 J.1,i6 J.2])∧Ctx G (Lf) w):=by
 unfold tE at hF
 refine cG Tryz.func33 rfl Tryz.ntmps33 rfl fun a hf=>zS fun K h=>zB hf hc rfl fun R a w hf hc=>sp 2 hf rfl fun a hf=>zT h ?_
 refine zS fun K h=>zN hf hc lE m0 rfl fun a w hf hc=>?_
 obtain ⟨r,hr,hF⟩:=aA hF
 refine zQ (v:=i6 r) hf hc aHa rfl (fun w hc=>kH b_ D hc hr) fun a w hf hc=>sp 1 hf rfl fun a hf=>zT h ?_
 refine wp_seq_k fun K3 h3=>wp_block ?_
 refine zS fun K h=>sp 3 hf rfl fun a hf=>zT h ?_
 refine zI hf rfl hF ?_ ?_ <;> clear hF <;> intro hF
 ·refine zS fun K h=>sp 3 hf rfl fun a hf=>zT h ?_
  refine wp_ret ?_
  refine bI ?_
  refine aN ?_
  obtain rfl:=sj hF
  replace hc:=hc.drop k0
  exact zO2 Tryz.results33 hf rfl rfl ⟨rfl,hc⟩
 ·refine zS fun K h=>sp 1 hf rfl fun a hf=>zQ (v:=.bool (bD I)) hf hc wE rfl (fun w hc=>fI I hc rfl) fun a w hf hc=>sp 2 hf rfl fun a hf=>zT h ?_
  refine zI hf rfl hF ?_ ?_ <;> clear hF <;> intro hF
  ·refine zS fun K h=>sp 2 hf rfl fun a hf=>zT h ?_
   refine wp_ret ?_
   refine bI ?_
   refine aN ?_
   obtain rfl:=sj hF
   replace hc:=hc.drop k0
   exact zO2 Tryz.results33 hf rfl rfl ⟨rfl,hc⟩
  ·refine wp_skip ?_
   refine h3 _ _ ?_
   refine zS fun K h=>zN hf hc lE m0 rfl fun a w hf hc=>sp 1 hf rfl fun a hf=>?_
   obtain ⟨O,M,hF⟩:=aA hF
   refine zQ (v:=i6 O) hf hc aKo rfl (fun w hc=>qM b_ I D hc M) fun a w hf hc=>sp 2 hf rfl fun a hf=>zT h ?_
   refine wp_ret ?_
   obtain rfl:=sj hF
   replace hc:=hc.drop k0
   exact zO2 Tryz.results33 hf rfl rfl ⟨rfl,hc⟩

def lS (N:Nat) (b_:bO) (B:Int) (D:Int):Option (bH (Int) (Int)) :=
 cond (decide (D < ((b_.Table.length:Nat):Int)))
 (Option.bind (aZ b_.Table (W (D - 1))) fun I=>
 Option.bind (aZ b_.Table D) fun H=>
 cond (decide (B≤H.Index))
 (Option.bind (nz (W (H.Index - I.Index))) fun un=>
 some (.ret (W ((W ((W (I.Due * (W (H.Index - B)))) + (W (H.Due * (W (B - I.Index)))))).tdiv (W (H.Index - I.Index))))))
 (some (.cont (W (D + 1)))))
 (some (.brk D))
def qW (N:Nat) (b_:bO) (B:Int):Option (Int) :=
 Option.bind (aZ b_.Table 0) fun H=>
 cond (decide (B≤H.Index))
 (Option.bind (aZ b_.Table 0) fun D=>
 some D.Due)
 (Option.bind (aT (fun s7=>lS N b_ B s7) N 1) fun x7=>
 exK x7 (fun s7=>Option.bind (aZ b_.Table (W (((b_.Table.length:Nat):Int) - 1))) fun I=>
 some I.Due) some)
theorem xK {N:Nat} {G:bA} {Lf:List Ent} {w:World} (b_:bO) (I:Int) {D:Option Addr} {B:Nat} (H:Rd G 2 D B (b_.Table.map bW)) (hc:Ctx G (Lf) w) {i:Int} (hF:qW N b_ I=some i):Calls Tryz.prog 71 #[.agg #[.slice D b_.Table.length B,i6 b_.Credit],i6 I] w (fun e w=>e=.returned (i6 i)∧Ctx G (Lf) w):=by
 unfold qW at hF
 refine cG Tryz.func71 rfl Tryz.ntmps71 rfl fun a hf=>zS fun K h=>zB hf hc rfl fun M a w hf hc=>sp 1 hf rfl fun a hf=>zT h ?_
 refine wp_seq_k fun K2 h2=>zS fun K h=>sp 1 hf rfl fun a hf=>zP hf rfl (pFA jA rfl) fun a hf=>zL hf hc pE m0 rfl fun a w hf hc=>?_
 obtain ⟨a6,aa,hF⟩:=aA hF
 obtain ⟨a2,o,qa,qp⟩:=H.atm aa
 refine zP hf rfl (pIA Tryz.underlying88 pL rfl rfl qa) fun a hf=>zP hf rfl (pFA oR rfl) fun a hf=>zE hf hc rfl (bP bB rfl (bK (j:=0) qp rfl)) fun a w hf hc=>sp 1 hf rfl fun a hf=>zT h ?_
 refine zI hf rfl hF ?_ ?_ <;> clear hF <;> intro hF
 ·refine zS fun K h=>zP hf rfl (pFA jA rfl) fun a hf=>zL hf hc pE m0 rfl fun a w hf hc=>?_
  obtain ⟨a9,ab,hF⟩:=aA hF
  obtain ⟨a1,a3,ac,p⟩:=H.atm ab
  refine zP hf rfl (pIA Tryz.underlying88 pL rfl rfl ac) fun a hf=>zP hf rfl (pFA rN rfl) fun a hf=>zE hf hc rfl (bP bB rfl (bK (j:=1) p rfl)) fun a w hf hc=>sp 1 hf rfl fun a hf=>zT h ?_
  refine wp_ret ?_
  refine aN ?_
  obtain rfl:=sj hF
  replace hc:=hc.drop k0
  exact zO1 Tryz.results71 hf rfl ⟨rfl,hc⟩
 ·refine wp_skip ?_
  refine h2 _ _ ?_
  refine wp_seq_k fun K5 h5=>zS fun K h=>sp 1 hf rfl fun a hf=>zT h ?_
  refine wp_block ?_
  obtain ⟨x7,ak,hF⟩:=aA hF
  let S7:Int→Act→World→Prop:=(fun (zz:Int) a w=>Has 72 a [(1,i6 I),(2,pq M),(5,i6 zz)]∧Ctx G (.box M [.slice D b_.Table.length B,i6 b_.Credit] 90::Lf) w)
  have aj:∀ (zz:Int) a w,x7=.go zz→S7 zz a w→K5 a w:=by
   rintro U a w rfl ⟨hf,hc⟩
   replace hF:=bQ hF
   refine h5 _ _ ?_
   refine zS fun K h=>zP hf rfl (pFA jA rfl) fun a hf=>zL hf hc pE m0 rfl fun a w hf hc=>zP hf rfl (pFA jA rfl) fun a hf=>zL hf hc pE m0 rfl fun a w hf hc=>zP hf rfl (bL Tryz.underlying88 rfl) fun a hf=>sp 1 hf rfl fun a hf=>?_
   obtain ⟨a7,v,hF⟩:=aA hF
   obtain ⟨a8,a5,ad,ag⟩:=H.atm v
   refine zP hf rfl (pIA Tryz.underlying88 pL rfl rfl ad) fun a hf=>zP hf rfl (pFA rN rfl) fun a hf=>zE hf hc rfl (bP bB rfl (bK (j:=1) ag rfl)) fun a w hf hc=>sp 1 hf rfl fun a hf=>zT h ?_
   refine wp_ret ?_
   obtain rfl:=sj hF
   replace hc:=hc.drop k0
   exact zO1 Tryz.results71 hf rfl ⟨rfl,hc⟩
  have aq:∀ r,x7=.out r→r=i:=by
   rintro r rfl
   exact sj hF
  refine cX N (cV (S:=S7) (x:=x7) ?_ N 1 _ _ ⟨hf.kp rfl,hc⟩ ak)
  clear hF hf hc
  rintro U a4 a w KB7 ⟨hf,hc⟩ hF R ai
  unfold lS at hF
  refine wp_seq_k fun K9 h9=>zS fun K h=>sp 1 hf rfl fun a hf=>zP hf rfl (pFA jA rfl) fun a hf=>zL hf hc pE m0 rfl fun a w hf hc=>zP hf rfl (bL Tryz.underlying88 rfl) fun a hf=>sp 1 hf rfl fun a hf=>zT h ?_
  refine zI hf rfl hF ?_ ?_ <;> clear hF <;> intro hF
  ·refine wp_skip ?_
   refine h9 _ _ ?_
   refine wp_seq_k fun K11 av=>wp_block ?_
   refine wp_seq_k fun K12 ax=>?_
   obtain ⟨O,y,hF⟩:=aA hF
   obtain ⟨a0,an,q,s⟩:=H.atm y
   obtain ⟨J,af,hF⟩:=aA hF
   obtain ⟨ar,az,t,z⟩:=H.atm af
   replace hc:=hc.nilRow 0 0
   replace hc:=hc.nilRow 0 0
   refine dJ (fun θ=>[⟨none,none,1,i6 I⟩,⟨none,none,2,pq M⟩,⟨none,none,5,i6 U⟩,⟨some 0,none,27,pq M⟩,⟨some 1,none,28,.slice D b_.Table.length B⟩,⟨some 2,none,29,i6 U⟩,⟨some 3,none,30,i6 (W (U - 1))⟩,⟨some 4,none,31,.pointer (some ⟨a0,an,none⟩)⟩,⟨some 5,none,32,.agg #[i6 O.Index,i6 O.Due]⟩,⟨some 6,none,33,pq M⟩,⟨some 7,none,34,.slice D b_.Table.length B⟩,⟨some 8,none,35,i6 U⟩,⟨some 9,none,36,.pointer (some ⟨ar,az,none⟩)⟩,⟨some 10,none,37,.agg #[i6 J.Index,i6 J.Due]⟩,⟨some 11,none,6,.pointer (some ⟨(θ 88).b,0,none⟩)⟩,⟨some 12,none,7,.pointer (some ⟨(θ 96).b,0,none⟩)⟩]) (fun E θ=>(bif E 14 then .box (θ 96).b [i6 J.Index,i6 J.Due] 141 else bif E 12 then .box (θ 96).b [i6 0,i6 0] 141 else .row none 0 [] 0 0)::(bif E 13 then .box (θ 88).b [i6 O.Index,i6 O.Due] 141 else bif E 11 then .box (θ 88).b [i6 0,i6 0] 141 else .row none 0 [] 0 0)::.box M [.slice D b_.Table.length B,i6 b_.Credit] 90::Lf) [(13,11),(14,12)] (fun a w=>∃ (k:Nat) (Z:Nat),Has 72 a [(1,i6 I),(2,pq M),(5,i6 U),(6,pq k),(7,pq Z)]∧Ctx G (.box Z [i6 J.Index,i6 J.Due] 141::.box k [i6 O.Index,i6 O.Due] 141::.box M [.slice D b_.Table.length B,i6 b_.Credit] 90::Lf) w) aY (by kernel_rfl) (by kernel_rfl) (eY.of hf ⟨rfl,rfl,rfl,trivial,trivial,trivial,trivial,trivial,trivial,trivial,trivial,trivial,trivial,trivial,trivial,trivial,trivial⟩) hc ⟨?_,?_,?_,?_,?_,?_,?_,?_,?_,?_,?_,?_,?_,?_,?_,trivial⟩ ?_ ?_
   ·intro E θ a w hD hi hp he hc
    have hf:=he.h0.mT he 1 rfl
    refine zP hf rfl (pFA jA rfl) fun a hf=>zD θ he hi hf 3 rfl rfl rfl hc
   ·intro E θ a w hD hi hp he hc
    have e0:=hp.o 0 rfl
    have hf:=he.h0.mP he 3 rfl e0
    refine zL hf hc pE m2 rfl fun a w hf hc=>zD θ he hi hf 4 rfl rfl rfl hc
   ·intro E θ a w hD hi hp he hc
    have hf:=he.h0.mT he 2 rfl
    refine sp 1 hf rfl fun a hf=>zD θ he hi hf 5 rfl rfl rfl hc
   ·intro E θ a w hD hi hp he hc
    have e2:=hp.o 2 rfl
    have hf:=he.h0.mP he 5 rfl e2
    refine sp 1 hf rfl fun a hf=>zD θ he hi hf 6 rfl rfl rfl hc
   ·intro E θ a w hD hi hp he hc
    have e1:=hp.o 1 rfl
    have e3:=hp.o 3 rfl
    have hf:=(he.h0.mP he 4 rfl e1).mP he 6 rfl e3
    refine zP hf rfl (pIA Tryz.underlying88 pL rfl rfl q) fun a hf=>zD θ he hi hf 7 rfl rfl rfl hc
   ·intro E θ a w hD hi hp he hc
    have e4:=hp.o 4 rfl
    have hf:=he.h0.mP he 7 rfl e4
    refine zE hf hc rfl (kG (vs:=[i6 O.Index,i6 O.Due]) aIt rfl rfl (cR s (n:=2) (o':=0) rfl)) fun a w hf hc=>zD θ he hi hf 8 rfl rfl rfl hc
   ·intro E θ a w hD hi hp he hc
    have hf:=he.h0.mT he 1 rfl
    refine zP hf rfl (pFA jA rfl) fun a hf=>zD θ he hi hf 9 rfl rfl rfl hc
   ·intro E θ a w hD hi hp he hc
    have e6:=hp.o 6 rfl
    have hf:=he.h0.mP he 9 rfl e6
    refine zL hf hc pE m2 rfl fun a w hf hc=>zD θ he hi hf 10 rfl rfl rfl hc
   ·intro E θ a w hD hi hp he hc
    have hf:=he.h0.mT he 2 rfl
    refine sp 1 hf rfl fun a hf=>zD θ he hi hf 11 rfl rfl rfl hc
   ·intro E θ a w hD hi hp he hc
    have e7:=hp.o 7 rfl
    have e8:=hp.o 8 rfl
    have hf:=(he.h0.mP he 10 rfl e7).mP he 11 rfl e8
    refine zP hf rfl (pIA Tryz.underlying88 pL rfl rfl t) fun a hf=>zD θ he hi hf 12 rfl rfl rfl hc
   ·intro E θ a w hD hi hp he hc
    have e9:=hp.o 9 rfl
    have hf:=he.h0.mP he 12 rfl e9
    refine zE hf hc rfl (kG (vs:=[i6 J.Index,i6 J.Due]) aIt rfl rfl (cR z (n:=2) (o':=0) rfl)) fun a w hf hc=>zD θ he hi hf 13 rfl rfl rfl hc
   ·intro E θ a w hD hi hp he hc
    have g:=hD.f 0 rfl hi
    try dsimp only at hc
    rw [hi,g] at hc
    have hf:=he.h0
    refine zA hf hc aIv rfl fun ay a w hf hc=>aP ?_
    refine bV ?_
    intro ds u m
    replace hc:=((hc.drop k2).pick k0).pick k1
    refine ⟨(fY θ 88 ⟨ay,none,0,(fun _=>(none,0))⟩),he.put hi m hf rfl [] trivial ⟨qq,qq,qq,qq,qq,qq,qq,qq,qq,qq,qq,qq,qq,qq,qq,qq,trivial⟩,?_⟩
    try dsimp only
    rw [aU E 11,eO 11 g rfl]
    exact hc
   ·intro E θ a w hD hi hp he hc
    have d:=hD.f 1 rfl hi
    try dsimp only at hc
    rw [hi,d] at hc
    have hf:=he.h0
    refine zA hf hc aIv rfl fun ap a w hf hc=>aP ?_
    refine bV ?_
    intro ds u m
    replace hc:=hc.drop k1
    refine ⟨(fY θ 96 ⟨ap,none,0,(fun _=>(none,0))⟩),he.put hi m hf rfl [] trivial ⟨qq,qq,qq,qq,qq,qq,qq,qq,qq,qq,qq,qq,qq,qq,qq,qq,trivial⟩,?_⟩
    try dsimp only
    rw [aU E 12,eO 12 d rfl]
    exact hc
   ·intro E θ a w hD hi hp he hc
    have e5:=hp.o 5 rfl
    have V:=hp.o 11 rfl
    try dsimp only at hc
    rw [V,hi] at hc
    have hf:=(he.h0.mP he 8 rfl e5).mP he 14 rfl V
    refine zW hf hc pL u1 rfl fun w hc=>zG θ he hi hf rfl ?_
    try dsimp only
    rw [dH 13 V,aU E 13]
    exact hc
   ·intro E θ a w hD hi hp he hc
    have am:=hp.o 10 rfl
    have X:=hp.o 12 rfl
    try dsimp only at hc
    rw [X,hi] at hc
    have hf:=(he.h0.mP he 13 rfl am).mP he 15 rfl X
    refine zW hf hc pL u0 rfl fun w hc=>zG θ he hi hf rfl ?_
    try dsimp only
    rw [dH 14 X,aU E 14]
    exact hc
   ·intro E θ a w Y he hc
    have hf:=he.h0
    have V:=Y 11 rfl
    have X:=Y 12 rfl
    have g:=Y 13 rfl
    have d:=Y 14 rfl
    replace hf:=hf.more he 15 rfl (onP X)
    replace hf:=hf.more he 14 rfl (onP V)
    replace hf:=hf.more he 2 rfl (onT)
    replace hf:=hf.more he 1 rfl (onT)
    replace hf:=hf.more he 0 rfl (onT)
    try dsimp only at hc
    rw [V,X,g,d] at hc
    exact ⟨(θ 88).b,(θ 96).b,hf.kp rfl,hc⟩
   rintro a w ⟨k,Z,hf,hc⟩
   refine ax _ _ ?_
   refine zS fun K h=>sp 1 hf rfl fun a hf=>zP hf rfl (pFA oR rfl) fun a hf=>zL hf hc bB m0 rfl fun a w hf hc=>sp 1 hf rfl fun a hf=>zT h ?_
   refine zI hf rfl hF ?_ ?_ <;> clear hF <;> intro hF
   ·refine zS fun K h=>zP hf rfl (pFA rN rfl) fun a hf=>zL hf hc bB m1 rfl fun a w hf hc=>zP hf rfl (pFA oR rfl) fun a hf=>zL hf hc bB m0 rfl fun a w hf hc=>sp 3 hf rfl fun a hf=>zP hf rfl (pFA rN rfl) fun a hf=>zL hf hc bB m0 rfl fun a w hf hc=>sp 1 hf rfl fun a hf=>zP hf rfl (pFA oR rfl) fun a hf=>zL hf hc bB m1 rfl fun a w hf hc=>sp 3 hf rfl fun a hf=>zP hf rfl (pFA oR rfl) fun a hf=>?_
    refine zL hf hc bB m0 rfl fun a w hf hc=>zP hf rfl (pFA oR rfl) fun a hf=>zL hf hc bB m1 rfl fun a w hf hc=>sp 1 hf rfl fun a hf=>?_
    obtain ⟨un,au,hF⟩:=aA hF
    refine zP hf rfl (nE rfl rfl (eZ au)) fun a hf=>sp 1 hf rfl fun a hf=>zT h ?_
    refine wp_ret ?_
    refine bI ?_
    refine aN ?_
    refine aN ?_
    have he:=sj hF
    rw [← he] at R
    replace hF:=aq _ R
    refine bI ?_
    refine aN ?_
    obtain rfl:=hF
    replace hc:=((hc.drop k2).drop k1).drop k0
    exact zO1 Tryz.results71 hf rfl ⟨rfl,hc⟩
   ·refine wp_skip ?_
    refine av _ _ ?_
    refine bR ?_
    refine sp 3 hf rfl fun a hf=>aP ?_
    replace hc:=(hc.drop k1).drop k0
    exact ai (W (U + 1)) _ _ (sj hF).symm ⟨hf.kp rfl,hc⟩
  ·refine wp_exit ?_
   refine bE ?_
   refine bE ?_
   have he:=sj hF
   rw [← he] at R
   refine eX ?_
   exact aj _ _ _ R ⟨hf.kp rfl,hc⟩

def sS (N:Nat) (b_:bO) (B:Int):Option (Int × Int) :=
 Option.bind (gC N b_) fun r=>
 cond (r != 0)
 (some (0,r))
 (cond (aC B 0 1000000000)
 (some (0,4))
 (Option.bind (qW N b_ B) fun D=>
 some (D,0)))
theorem aDe {N:Nat} {G:bA} {Lf:List Ent} {w:World} (b_:bO) (I:Int) {B:Option Addr} {H:Nat} (D:Rd G 2 B H (b_.Table.map bW)) (hc:Ctx G (Lf) w) {J:Int × Int} (hF:sS N b_ I=some J):Calls Tryz.prog 34 #[.agg #[.slice B b_.Table.length H,i6 b_.Credit],i6 I] w (fun e w=>e=.returned (.tuple #[i6 J.1,i6 J.2])∧Ctx G (Lf) w):=by
 unfold sS at hF
 refine cG Tryz.func34 rfl Tryz.ntmps34 rfl fun a hf=>zS fun K h=>zB hf hc rfl fun R a w hf hc=>sp 2 hf rfl fun a hf=>zT h ?_
 refine wp_seq_k fun K2 h2=>zS fun K h=>zN hf hc uL m0 rfl fun a w hf hc=>?_
 obtain ⟨r,hr,hF⟩:=aA hF
 refine zQ (v:=i6 r) hf hc aIj rfl (fun w hc=>mS b_ D hc hr) fun a w hf hc=>sp 1 hf rfl fun a hf=>zT h ?_
 refine zS fun K h=>sp 2 hf rfl fun a hf=>zT h ?_
 refine zI hf rfl hF ?_ ?_ <;> clear hF <;> intro hF
 ·refine zS fun K h=>sp 3 hf rfl fun a hf=>zT h ?_
  refine wp_ret ?_
  refine aN ?_
  obtain rfl:=sj hF
  replace hc:=hc.drop k0
  exact zO2 Tryz.results34 hf rfl rfl ⟨rfl,hc⟩
 ·refine wp_skip ?_
  refine h2 _ _ ?_
  refine wp_seq_k fun K6 h6=>zS fun K h=>sp 1 hf rfl fun a hf=>zQ (v:=.bool (aC I 0 1000000000)) hf hc nM rfl (fun w hc=>bJ I 0 1000000000 hc rfl) fun a w hf hc=>zT h ?_
  refine zI hf rfl hF ?_ ?_ <;> clear hF <;> intro hF
  ·refine zS fun K h=>sp 2 hf rfl fun a hf=>zT h ?_
   refine wp_ret ?_
   refine aN ?_
   obtain rfl:=sj hF
   replace hc:=hc.drop k0
   exact zO2 Tryz.results34 hf rfl rfl ⟨rfl,hc⟩
  ·refine wp_skip ?_
   refine h6 _ _ ?_
   refine zS fun K h=>zN hf hc uL m0 rfl fun a w hf hc=>sp 1 hf rfl fun a hf=>?_
   obtain ⟨O,M,hF⟩:=aA hF
   refine zQ (v:=i6 O) hf hc aK3 rfl (fun w hc=>xK b_ I D hc M) fun a w hf hc=>sp 2 hf rfl fun a hf=>zT h ?_
   refine wp_ret ?_
   obtain rfl:=sj hF
   replace hc:=hc.drop k0
   exact zO2 Tryz.results34 hf rfl rfl ⟨rfl,hc⟩

def jG (N:Nat) (b_:aH) (D:List aF) (J:List aB) (O:(Int→Option Int) × Int × Int) (out:List Int) (x:Int) (M:Int) (mp:Int→Option Int):Option (bH ((List Int) × Int × Int × (Int→Option Int)) ((List Int) × Int)) :=
 cond (decide (x < ((D.length:Nat):Int)))
 (Option.bind (aZ D x) fun B=>
 Option.bind (aZ J x) fun I=>
 cond ((!(aQ I.Index B.Index.Lo B.Index.Hi)) || (!(aQ I.Delivered B.Delivered.Lo B.Delivered.Hi)))
 (some (.ret (([]:List Int),7)))
 (Option.bind (dG N I B.Spill mp (⟨b_.Table,O.2.1⟩:aH) M) fun H=>
 Option.bind (jE ((out++[H.1])).length) fun un=>
 some (.cont ((out++[H.1]),W (x + 1),H.2.2,H.2.1))))
 (some (.brk (out,x,M,mp)))
def rE (N:Nat) (b_:aH) (H:Int) (D:List aF) (I:List aB):Option ((List Int) × Int) :=
 Option.bind (oB N b_ (⟨H,H⟩:aE) D) fun r=>
 cond (r != 0)
 (some (([]:List Int),r))
 (cond (((I.length:Nat):Int) != ((D.length:Nat):Int))
 (some (([]:List Int),2))
 (Option.bind (iG N b_ H) fun J=>
 Option.bind (aT (fun B=>jG N b_ D I J B.1 B.2.1 B.2.2.1 B.2.2.2) N (([]:List Int),0,J.2.2,J.1)) fun M=>
 exK M (fun B=>some (B.1,0)) some))
theorem aB2 {N:Nat} {G:bA} {Lf:List Ent} {w:World} (b_:aH) (J:Int) (D:List aF) (Z:List aB) {O:Option Addr} {I:Nat} {R:Option Addr} {U:Nat} {X:Option Addr} {V:Nat} (M:Rd G 2 O I (b_.Table.map aO)) (g:Rd G 5 R U (D.map aS)) (q:Rd G 2 X V (Z.map aW)) (hc:Ctx G (Lf) w) {k:(List Int) × Int} (hF:rE N b_ J D Z=some k):Calls Tryz.prog 35 #[.agg #[.slice O b_.Table.length I,i6 b_.Credit],i6 J,.slice R D.length U,.slice X Z.length V] w (fun e w=>∃ (ab:Option Addr) (ac:Nat),e=.returned (.tuple #[.slice ab k.1.length ac,i6 k.2])∧Ctx G (.row ab ac (k.1.map aD) 3 1::Lf) w):=by
 unfold rE at hF
 refine cG Tryz.func35 rfl Tryz.ntmps35 rfl fun a hf=>zS fun K h=>zB hf hc rfl fun a6 a w hf hc=>sp 2 hf rfl fun a hf=>zT h ?_
 refine zS fun K h=>zN hf hc lE m0 rfl fun a w hf hc=>sp 2 hf rfl fun a hf=>zP hf rfl (bG (cells:=[i6 J,i6 J]) tF rfl rfl) fun a hf=>sp 1 hf rfl fun a hf=>?_
 obtain ⟨r,hr,hF⟩:=aA hF
 refine zQ (v:=i6 r) hf hc aK9 rfl (fun w hc=>vG b_ (⟨J,J⟩:aE) D M g hc hr) fun a w hf hc=>sp 1 hf rfl fun a hf=>zT h ?_
 refine wp_seq_k fun K3 h3=>wp_block ?_
 refine zS fun K h=>sp 3 hf rfl fun a hf=>zT h ?_
 refine zI hf rfl hF ?_ ?_ <;> clear hF <;> intro hF
 ·refine zS fun K h=>sp 3 hf rfl fun a hf=>zT h ?_
  refine wp_ret ?_
  refine bI ?_
  refine aN ?_
  obtain rfl:=sj hF
  replace hc:=hc.nilRow 3 1
  replace hc:=hc.drop k1
  exact zO2 Tryz.results35 hf rfl rfl ⟨none,0,rfl,hc⟩
 ·refine zS fun K h=>sp 1 hf rfl fun a hf=>zP hf rfl (bL Tryz.underlying38 rfl) fun a hf=>sp 1 hf rfl fun a hf=>zP hf rfl (bL Tryz.underlying33 rfl) fun a hf=>sp 2 hf rfl fun a hf=>zT h ?_
  refine zI hf rfl hF ?_ ?_ <;> clear hF <;> intro hF
  ·refine zS fun K h=>sp 2 hf rfl fun a hf=>zT h ?_
   refine wp_ret ?_
   refine bI ?_
   refine aN ?_
   obtain rfl:=sj hF
   replace hc:=hc.nilRow 3 1
   replace hc:=hc.drop k1
   exact zO2 Tryz.results35 hf rfl rfl ⟨none,0,rfl,hc⟩
  ·refine wp_skip ?_
   refine h3 _ _ ?_
   refine zS fun K h=>sp 1 hf rfl fun a hf=>zT h ?_
   refine zS fun K h=>zN hf hc lE m0 rfl fun a w hf hc=>sp 1 hf rfl fun a hf=>?_
   obtain ⟨p,af,hF⟩:=aA hF
   refine zC hf aIs rfl (mO b_ J M hc af) ?_
   rintro _ w ⟨s,z,u,y,rfl,hc⟩
   refine ⟨_,rfl,fun a hf=>?_⟩
   refine sp 1 hf rfl fun a hf=>zT h ?_
   refine wp_seq_k fun K10 au=>zS fun K h=>sp 1 hf rfl fun a hf=>zP hf rfl (bL Tryz.underlying33 rfl) fun a hf=>sp 1 hf rfl fun a hf=>zT h ?_
   refine wp_block ?_
   obtain ⟨t,ar,hF⟩:=aA hF
   let S12:((List Int) × Int × Int × (Int→Option Int))→Act→World→Prop:=(fun (zz:(List Int) × Int × Int × (Int→Option Int)) a w=>∃ (d:Option Addr) (b:Nat),Has 78 a [(3,.slice X Z.length V),(11,.slice d zz.1.length b),(12,.func (.func 100) #[] #[pq s,pq u,pq y]),(35,.slice R D.length U),(36,i6 ((D.length:Nat):Int)),(37,i6 zz.2.1)]∧Ctx G (.row d b (zz.1.map aD) 3 1::.im z (fun j=>(zz.2.2.2 j).map (Value.int .i64)) none::.box s [.map (some z)] 169::.box u [.slice O b_.Table.length I,i6 p.2.1] 32::.box y [i6 zz.2.2.1] 3::Lf) w)
   have ai:∀ (zz:(List Int) × Int × Int × (Int→Option Int)) a w,t=.go zz→S12 zz a w→K10 a w:=by
    rintro ⟨out,x,ad,mp⟩ a w rfl ⟨d,b,hf,hc⟩
    replace hF:=bQ hF
    refine au _ _ ?_
    refine zS fun K h=>sp 3 hf rfl fun a hf=>zT h ?_
    refine wp_ret ?_
    obtain rfl:=sj hF
    replace hc:=(((hc.drop k4).drop k3).drop k2).drop k1
    exact zO2 Tryz.results35 hf rfl rfl ⟨d,b,rfl,hc⟩
   have aj:∀ r,t=.out r→r=k:=by
    rintro r rfl
    exact sj hF
   replace hc:=hc.nilRow 3 1
   replace hc:=hc.drop k5
   refine cX N (cV (S:=S12) (x:=t) ?_ N (([]:List Int),0,p.2.2,p.1) _ _ ⟨none,0,hf.kp rfl,hc⟩ ar)
   clear hF hf hc
   rintro ⟨out,x,ad,mp⟩ a3 a w KB12 ⟨d,b,hf,hc⟩ hF Y an
   unfold jG at hF
   refine zS fun K h=>sp 1 hf rfl fun a hf=>zT h ?_
   refine wp_seq_k fun K15 az=>zI hf rfl hF ?_ ?_ <;> clear hF <;> intro hF
   ·refine wp_skip ?_
    refine az _ _ ?_
    refine wp_seq_k fun K16 av=>wp_block ?_
    refine zS fun K h=>sp 1 hf rfl fun a hf=>?_
    obtain ⟨B,ak,hF⟩:=aA hF
    obtain ⟨a7,o,qa,qp⟩:=g.atm ak
    refine zP hf rfl (pIA Tryz.underlying33 vD rfl rfl qa) fun a hf=>zE hf hc rfl (kG (vs:=[i6 B.Index.Lo,i6 B.Index.Hi,i6 B.Delivered.Lo,i6 B.Delivered.Hi,.bool B.Spill]) zK rfl rfl (cR qp (n:=5) (o':=0) rfl)) fun a w hf hc=>zA hf hc aJv rfl fun m a w hf hc=>sp 1 hf rfl fun a hf=>zW hf hc vD u0 rfl fun w hc=>zT h ?_
    refine zS fun K h=>sp 2 hf rfl fun a hf=>?_
    obtain ⟨H,am,hF⟩:=aA hF
    obtain ⟨a5,a4,ap,ag⟩:=q.atm am
    refine zP hf rfl (pIA Tryz.underlying38 zJ rfl rfl ap) fun a hf=>zE hf hc rfl (kG (vs:=[i6 H.Index,i6 H.Delivered]) aCh rfl rfl (cR ag (n:=2) (o':=0) rfl)) fun a w hf hc=>zA hf hc aLh rfl fun aa a w hf hc=>zW hf hc zJ u0 rfl fun w hc=>zT h ?_
    refine wp_seq_k fun K19 ax=>zS fun K h=>zP hf rfl (pFA wS rfl) fun a hf=>zL hf hc bB m0 rfl fun a w hf hc=>zP hf rfl (pFA vL rfl) fun a hf=>zP hf rfl (pFA hC rfl) fun a hf=>zL hf hc bB m1 rfl fun a w hf hc=>zP hf rfl (pFA vL rfl) fun a hf=>zP hf rfl (pFA hI rfl) fun a hf=>zL hf hc bB m1 rfl fun a w hf hc=>zQ (v:=.bool (aQ H.Index B.Index.Lo B.Index.Hi)) hf hc pD rfl (fun w hc=>dO H.Index B.Index.Lo B.Index.Hi hc rfl) fun a w hf hc=>sp 2 hf rfl fun a hf=>cP 11 (fun a=>Has 78 a [(3,.slice X Z.length V),(11,.slice d out.length b),(12,.func (.func 100) #[] #[pq s,pq u,pq y]),(35,.slice R D.length U),(36,i6 ((D.length:Nat):Int)),(37,i6 x),(14,pq m),(15,pq aa),(46,pq aa),(47,i6 H.Index),(48,pq m),(49,pq m),(50,i6 B.Index.Lo),(51,pq m),(52,.pointer (some ⟨m,1,none⟩)),(53,i6 B.Index.Hi),(54,.bool (aQ H.Index B.Index.Lo B.Index.Hi)),(55,.bool (!(aQ H.Index B.Index.Lo B.Index.Hi))),(56,.bool (!(aQ H.Index B.Index.Lo B.Index.Hi))),(67,.bool ((!(aQ H.Index B.Index.Lo B.Index.Hi)) || (!(aQ H.Delivered B.Delivered.Lo B.Delivered.Hi))))]) hc ?_ ?_
    ·cases hb:(!(aQ H.Index B.Index.Lo B.Index.Hi))
     ·rw [hb] at hf
      refine zP hf rfl (pFA aC7 rfl) fun a hf=>zL hf hc bB m0 rfl fun a w hf hc=>zP hf rfl (pFA vV rfl) fun a hf=>zP hf rfl (pFA hC rfl) fun a hf=>zL hf hc bB m1 rfl fun a w hf hc=>zP hf rfl (pFA vV rfl) fun a hf=>zP hf rfl (pFA hI rfl) fun a hf=>zL hf hc bB m1 rfl fun a w hf hc=>zQ (v:=.bool (aQ H.Delivered B.Delivered.Lo B.Delivered.Hi)) hf hc pD rfl (fun w hc=>dO H.Delivered B.Delivered.Lo B.Delivered.Hi hc rfl) fun a w hf hc=>sp 2 hf rfl fun a hf=>aP ⟨hf.kp rfl,hc⟩
     ·rw [hb] at hf
      refine stS hf rfl rfl rfl fun a hf=>stS hf rfl rfl rfl fun a hf=>stS hf rfl rfl rfl fun a hf=>stS hf rfl rfl rfl fun a hf=>stS hf rfl rfl rfl fun a hf=>stS hf rfl rfl rfl fun a hf=>stS hf rfl rfl rfl fun a hf=>stS hf rfl rfl rfl fun a hf=>stS hf rfl rfl rfl fun a hf=>stS hf rfl rfl rfl fun a hf=>sp 1 hf rfl fun a hf=>aP ⟨hf.kp rfl,hc⟩
    intro a w ⟨hf,hc⟩
    refine zT h ?_
    refine zI hf rfl hF ?_ ?_ <;> clear hF <;> intro hF
    ·refine zS fun K h=>sp 2 hf rfl fun a hf=>zT h ?_
     refine wp_ret ?_
     refine aN ?_
     refine bI ?_
     refine aN ?_
     refine aN ?_
     have he:=sj hF
     rw [← he] at Y
     replace hF:=aj _ Y
     refine bI ?_
     refine aN ?_
     obtain rfl:=hF
     replace hc:=hc.nilRow 3 1
     replace hc:=((((((hc.drop k7).drop k6).drop k5).drop k4).drop k3).drop k2).drop k1
     exact zO2 Tryz.results35 hf rfl rfl ⟨none,0,rfl,hc⟩
    ·refine wp_skip ?_
     refine ax _ _ ?_
     refine bR ?_
     refine sp 2 hf rfl fun a hf=>zN hf hc aCh m0 rfl fun a w hf hc=>zP hf rfl (pFA aDq rfl) fun a hf=>zL hf hc aHq m1 rfl fun a w hf hc=>?_
     obtain ⟨i,aq,hF⟩:=aA hF
     refine zC hf aFm rfl (lQ H B.Spill mp (⟨b_.Table,p.2.1⟩:aH) ad M ((((hc.pick k6).pick k6).pick k5).pick k6) aq) ?_
     rintro _ w ⟨rfl,hc⟩
     refine ⟨_,rfl,fun a hf=>?_⟩
     refine gV (rows:=([i.1]:List Int).map aD) (vs:=[(0,i6 i.1)]) hf hc rfl rfl fC rfl ⟨rfl,rfl,rfl,trivial⟩ rfl rfl fun a2 a w hf hc=>?_
     obtain ⟨un,ay,hF⟩:=aA hF
     refine iV (xs:=out) (ys:=([i.1]:List Int)) hf hc rfl rfl fC rfl rfl rfl rfl rfl cM (fA hc m0) (fun _ _=>u7) (by simpa using cB ay) fun a1 a0 a w hf hc=>sp 1 hf rfl fun a hf=>aP ?_
     refine av _ _ ?_
     refine bR ?_
     refine sp 2 hf rfl fun a hf=>aP ?_
     replace hc:=(((((((hc.drop k6).drop k5).drop k0).pick k3).pick k3).pick k2).pick k3).pick k4
     exact an ((out++[i.1]),W (x + 1),i.2.2,i.2.1) _ _ (sj hF).symm ⟨a1,a0,hf.kp rfl,hc⟩
   ·refine wp_exit ?_
    refine bE ?_
    refine bE ?_
    have he:=sj hF
    rw [← he] at Y
    refine eX ?_
    exact ai _ _ _ Y ⟨d,b,hf.kp rfl,hc⟩

end Go.Nilo
