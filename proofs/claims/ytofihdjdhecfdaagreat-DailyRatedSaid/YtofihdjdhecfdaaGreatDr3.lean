/-
 What functions of the Go text compute, as plain functions, and that they do, part 3 of 4. Conditions: what each theorem names.
-/
import Derived.Test.YtofihdjdhecfdaaGreatDr2
import Derived.Test.YtofihdjdhecfdaaGreatProg
set_option linter.unusedVariables false
set_option linter.unusedSimpArgs false
set_option maxRecDepth 100000
set_option maxHeartbeats 4000000
namespace Go.Nilo
open Go.Proofs


def iQ (N:Nat) (l:List Int) (x:Int) (B:Int) (H:Int):Option (cY (Int) (Int × Int)) :=
 Option.bind (bG l x) fun D=>
 cond (!(bL D B H))
 (some (.ret (x,0)))
 (some (.cont (W (x + 1))))
def gU (N:Nat) (r:aF) (l:List Int) (x:Int):Option (cY (Int) (Int × Int)) :=
 cond (decide (x < ((r.Days.length:Nat):Int)))
 (Option.bind (bG r.Days x) fun D=>
 Option.bind (fF N D) fun B=>
 cond (decide (0 < x))
 (Option.bind (bG l (W (x - 1))) fun H=>
 Option.bind (bG l (W (x - 1))) fun I=>
 iQ N l x (max B.Lo (W (H - r.Fall))) (min B.Hi (W (I + r.Rise))))
 (iQ N l x B.Lo B.Hi))
 (some (.brk x))
def mL (N:Nat) (r:aF) (l:List Int):Option (Int × Int) :=
 Option.bind (iU N r) fun B=>
 cond (B != 0)
 (some (0,B))
 (cond (((l.length:Nat):Int) != ((r.Days.length:Nat):Int))
 (some (0,2))
 (Option.bind (kQ N l) fun H=>
 cond (!H)
 (some (0,4))
 (Option.bind (bE (fun D=>gU N r l D) N 0) fun I=>
 exK I (fun D=>some ((-1),0)) some)))
theorem aA2 {N:Nat} {G:aS} {Lf:List Ent} {w:World} (r:aF) (l:List Int) {D:Option Addr} {B:Nat} {V:Option Addr} {X:Nat} (Y:Rd G 3 D B (r.Days.map aJ)) (i:Rd G 1 V X (l.map aD)) (hc:Ctx G (Lf) w) {g:Int × Int} (hF:mL N r l=some g):Calls Tryz.prog 14 #[.agg #[i6 r.Rise,i6 r.Fall,.slice D r.Days.length B],.slice V l.length X] w (fun e w=>e=.returned (.tuple #[i6 g.1,i6 g.2])∧Ctx G (Lf) w):=by
 unfold mL at hF
 refine cB Tryz.func14 rfl Tryz.ntmps14 rfl fun a hf=>zS fun K h=>zB hf hc rfl fun J a w hf hc=>sp 2 hf rfl fun a hf=>zT h ?_
 refine zS fun K h=>zN hf hc qQ m0 rfl fun a w hf hc=>?_
 obtain ⟨a0,s,hF⟩:=aB hF
 refine zQ (v:=i6 a0) hf hc aDh rfl (fun w hc=>lJ r Y hc s) fun a w hf hc=>sp 1 hf rfl fun a hf=>zT h ?_
 refine wp_seq_k fun K3 h3=>wp_block ?_
 refine zS fun K h=>sp 3 hf rfl fun a hf=>zT h ?_
 refine zI hf rfl hF ?_ ?_ <;> clear hF <;> intro hF
 ·refine zS fun K h=>sp 3 hf rfl fun a hf=>zT h ?_
  refine wp_ret ?_
  refine bU ?_
  refine aO ?_
  obtain rfl:=sj hF
  replace hc:=hc.drop k0
  exact zO2 Tryz.results14 hf rfl rfl ⟨rfl,hc⟩
 ·refine zS fun K h=>sp 1 hf rfl fun a hf=>zP hf rfl (bM Tryz.underlying27 rfl) fun a hf=>zP hf rfl (pFA kZ rfl) fun a hf=>zL hf hc sN m0 rfl fun a w hf hc=>zP hf rfl (bM Tryz.underlying37 rfl) fun a hf=>sp 2 hf rfl fun a hf=>zT h ?_
  refine zI hf rfl hF ?_ ?_ <;> clear hF <;> intro hF
  ·refine zS fun K h=>sp 2 hf rfl fun a hf=>zT h ?_
   refine wp_ret ?_
   refine bU ?_
   refine aO ?_
   obtain rfl:=sj hF
   replace hc:=hc.drop k0
   exact zO2 Tryz.results14 hf rfl rfl ⟨rfl,hc⟩
  ·refine zS fun K h=>sp 1 hf rfl fun a hf=>?_
   obtain ⟨a9,an,hF⟩:=aB hF
   refine zQ (v:=.bool a9) hf hc en_39 rfl (fun w hc=>wH l i hc an) fun a w hf hc=>sp 2 hf rfl fun a hf=>zT h ?_
   refine zI hf rfl hF ?_ ?_ <;> clear hF <;> intro hF
   ·refine zS fun K h=>sp 2 hf rfl fun a hf=>zT h ?_
    refine wp_ret ?_
    refine bU ?_
    refine aO ?_
    obtain rfl:=sj hF
    replace hc:=hc.drop k0
    exact zO2 Tryz.results14 hf rfl rfl ⟨rfl,hc⟩
   ·refine wp_skip ?_
    refine h3 _ _ ?_
    refine wp_seq_k fun K10 a1=>zS fun K h=>zP hf rfl (pFA kZ rfl) fun a hf=>zL hf hc sN m0 rfl fun a w hf hc=>zP hf rfl (bM Tryz.underlying37 rfl) fun a hf=>sp 1 hf rfl fun a hf=>zT h ?_
    refine wp_block ?_
    obtain ⟨k,ai,hF⟩:=aB hF
    let S12:Int→Act→World→Prop:=(fun (zz:Int) a w=>Has 74 a [(1,.slice V l.length X),(2,pq J),(28,.slice D r.Days.length B),(29,i6 ((r.Days.length:Nat):Int)),(30,i6 zz)]∧Ctx G (.box J [i6 r.Rise,i6 r.Fall,.slice D r.Days.length B] 39::Lf) w)
    have af:∀ (zz:Int) a w,k=.go zz→S12 zz a w→K10 a w:=by
     rintro x a w rfl ⟨hf,hc⟩
     replace hF:=bW hF
     refine a1 _ _ ?_
     refine zS fun K h=>sp 2 hf rfl fun a hf=>zT h ?_
     refine wp_ret ?_
     obtain rfl:=sj hF
     replace hc:=hc.drop k0
     exact zO2 Tryz.results14 hf rfl rfl ⟨rfl,hc⟩
    have ak:∀ r,k=.out r→r=g:=by
     rintro r rfl
     exact sj hF
    refine dO N (dH (S:=S12) (x:=k) ?_ N 0 _ _ ⟨hf.kp rfl,hc⟩ ai)
    clear hF hf hc
    rintro x ap a w KB12 ⟨hf,hc⟩ hF M ar
    unfold gU at hF
    refine zS fun K h=>sp 1 hf rfl fun a hf=>zT h ?_
    refine wp_seq_k fun K15 ax=>zI hf rfl hF ?_ ?_ <;> clear hF <;> intro hF
    ·refine wp_skip ?_
     refine ax _ _ ?_
     refine wp_seq_k fun K16 bj=>wp_block ?_
     refine zS fun K h=>sp 1 hf rfl fun a hf=>?_
     obtain ⟨I,am,hF⟩:=aB hF
     obtain ⟨bn,o,qa,qp⟩:=Y.atm am
     refine zP hf rfl (pIA Tryz.underlying37 vV rfl rfl qa) fun a hf=>zE hf hc rfl (jM (vs:=[.bool I.Known,i6 I.Flow.Lo,i6 I.Flow.Hi]) uN rfl rfl (cI qp (n:=3) (o':=0) rfl)) fun a w hf hc=>zA hf hc aEd rfl fun q a w hf hc=>sp 1 hf rfl fun a hf=>zW hf hc vV u0 rfl fun w hc=>zT h ?_
     refine zS fun K h=>zN hf hc uN m0 rfl fun a w hf hc=>?_
     obtain ⟨H,aq,hF⟩:=aB hF
     refine zQ (v:=.agg #[i6 H.Lo,i6 H.Hi]) hf hc aFt rfl (fun w hc=>jO I hc aq) fun a w hf hc=>zA hf hc kX rfl fun O a w hf hc=>zW hf hc cA u0 rfl fun w hc=>zT h ?_
     refine wp_seq_k fun K19 au=>?_
     have m:∀ (d:Int) (b:Int) a w,Has 74 a [(1,.slice V l.length X),(2,pq J),(7,i6 x),(9,pq O),(28,.slice D r.Days.length B),(29,i6 ((r.Days.length:Nat):Int)),(30,i6 x)]→Ctx G (.box O [i6 d,i6 b] 41::.box J [i6 r.Rise,i6 r.Fall,.slice D r.Days.length B] 39::Lf) w→iQ N l x d b=some ap→K19 a w:=by
      repeat (clear hF)
      repeat (clear hc)
      repeat (clear hf)
      intro d b a w hf hc hF
      unfold iQ at hF
      refine au _ _ ?_
      refine wp_seq_k fun K20 a2=>?_
      obtain ⟨p,y,hF⟩:=aB hF
      obtain ⟨bm,bp,ag,ac⟩:=i.atm y
      refine cQ hc aT (by kernel_rfl) ?_
      refine qE hf rfl rfl rfl (Pu.ev (pM rfl)) fun a hf=>qE hf rfl rfl rfl (Pu.ev (pM rfl)) fun a hf=>qE hf rfl rfl rfl (Pu.ev (pIA Tryz.underlying27 eL rfl rfl ag)) fun a hf=>qE hf rfl rfl rfl (cE aU rfl (dX (j:=0) ac rfl)) fun a hf=>qE hf rfl rfl rfl (Pu.ev (pFA dS rfl)) fun a hf=>qE hf rfl rfl rfl (cE aU rfl (bR m0 rfl)) fun a hf=>qE hf rfl rfl rfl (Pu.ev (pFA dC rfl)) fun a hf=>qE hf rfl rfl rfl (cE aU rfl (bR m0 rfl)) fun a hf=>qE hf rfl rfl rfl (eC (v:=.bool (bL p d b)) (vs:=[i6 p,i6 d,i6 b]) (caps:=[]) vE rfl rfl rfl rfl (fun w hc=>gN p d b hc rfl)) fun a hf=>qE hf rfl rfl rfl (Pu.ev (pNot rfl)) fun a hf=>?_
      intro w hc
      refine a2 _ _ ?_
      refine zI hf rfl hF ?_ ?_ <;> clear hF <;> intro hF
      ·refine zS fun K h=>sp 3 hf rfl fun a hf=>zT h ?_
       refine wp_ret ?_
       refine bU ?_
       refine aO ?_
       refine aO ?_
       have he:=sj hF
       rw [← he] at M
       replace hF:=ak _ M
       refine bU ?_
       refine aO ?_
       obtain rfl:=hF
       replace hc:=(hc.drop k1).drop k0
       exact zO2 Tryz.results14 hf rfl rfl ⟨rfl,hc⟩
      ·refine wp_skip ?_
       refine bj _ _ ?_
       refine dE ?_
       refine sp 2 hf rfl fun a hf=>aP ?_
       replace hc:=hc.drop k0
       exact ar (W (x + 1)) _ _ (sj hF).symm ⟨hf.kp rfl,hc⟩
     refine zS fun K h=>sp 2 hf rfl fun a hf=>zT h ?_
     refine zI hf rfl hF ?_ ?_ <;> clear hF <;> intro hF
     ·obtain ⟨R,ad,hF⟩:=aB hF
      obtain ⟨a3,az,u,aj⟩:=i.atm ad
      obtain ⟨U,z,hF⟩:=aB hF
      obtain ⟨a7,bi,t,ab⟩:=i.atm z
      refine fI (fun θ=>(⟨none,none,1,.slice V l.length X⟩::⟨none,none,2,pq J⟩::⟨none,none,7,i6 x⟩::⟨none,none,9,pq O⟩::⟨none,none,28,.slice D r.Days.length B⟩::⟨none,none,29,i6 ((r.Days.length:Nat):Int)⟩::⟨none,none,30,i6 x⟩::⟨some 0,none,39,pq O⟩::⟨some 1,none,40,i6 H.Lo⟩::⟨some 2,none,41,.slice V l.length X⟩::⟨some 3,none,42,i6 x⟩::⟨some 4,none,43,i6 (W (x - 1))⟩::⟨some 5,none,44,.pointer (some ⟨a3,az,none⟩)⟩::⟨some 6,none,45,i6 R⟩::⟨some 7,none,46,.pointer (some ⟨J,1,none⟩)⟩::⟨some 8,none,47,i6 r.Fall⟩::⟨some 9,none,48,i6 (W (R - r.Fall))⟩::⟨some 10,none,49,i6 (max H.Lo (W (R - r.Fall)))⟩::⟨some 11,none,50,.pointer (some ⟨O,1,none⟩)⟩::⟨some 12,none,51,i6 H.Hi⟩::⟨some 13,none,52,.slice V l.length X⟩::⟨some 14,none,53,i6 x⟩::⟨some 15,none,54,i6 (W (x - 1))⟩::⟨some 16,none,55,.pointer (some ⟨a7,bi,none⟩)⟩::⟨some 17,none,56,i6 U⟩::⟨some 18,none,57,pq J⟩::⟨some 19,none,58,i6 r.Rise⟩::⟨some 20,none,59,i6 (W (U + r.Rise))⟩::⟨some 21,none,60,i6 (min H.Hi (W (U + r.Rise)))⟩::⟨some 22,none,61,.agg #[i6 (max H.Lo (W (R - r.Fall))),i6 (min H.Hi (W (U + r.Rise)))]⟩::[])) (fun E θ=>(bif E 23 then .box O [i6 (max H.Lo (W (R - r.Fall))),i6 (min H.Hi (W (U + r.Rise)))] 41 else .box O [i6 H.Lo,i6 H.Hi] 41)::.box q [.bool I.Known,i6 I.Flow.Lo,i6 I.Flow.Hi] 52::.box J [i6 r.Rise,i6 r.Fall,.slice D r.Days.length B] 39::Lf) [(23,1),(23,12)] (fun a w=>Has 74 a [(1,.slice V l.length X),(2,pq J),(7,i6 x),(9,pq O),(28,.slice D r.Days.length B),(29,i6 ((r.Days.length:Nat):Int)),(30,i6 x)]∧Ctx G (.box O [i6 (max H.Lo (W (R - r.Fall))),i6 (min H.Hi (W (U + r.Rise)))] 41::.box q [.bool I.Known,i6 I.Flow.Lo,i6 I.Flow.Hi] 52::.box J [i6 r.Rise,i6 r.Fall,.slice D r.Days.length B] 39::Lf) w) aT (by kernel_rfl) (by kernel_rfl) (eZ.of hf ⟨rfl,rfl,rfl,rfl,rfl,rfl,rfl,trivial,trivial,trivial,trivial,trivial,trivial,trivial,trivial,trivial,trivial,trivial,trivial,trivial,trivial,trivial,trivial,trivial,trivial,trivial,trivial,trivial,trivial,trivial,trivial⟩) hc ⟨?_,?_,?_,?_,?_,?_,?_,?_,?_,?_,?_,?_,?_,?_,?_,?_,?_,?_,?_,?_,?_,?_,?_,?_,trivial⟩ ?_ ?_
      ·intro E θ a w hD hi hp he hc
       have hf:=he.h0.mT he 3 rfl
       refine zP hf rfl (pFA dS rfl) fun a hf=>zD θ he hi hf 7 rfl rfl rfl hc
      ·intro E θ a w hD hi hp he hc
       have e0:=hp.o 0 rfl
       have Z:=hD.f 0 rfl hi
       try dsimp only at hc
       rw [Z] at hc
       have hf:=he.h0.mP he 7 rfl e0
       refine zL hf hc aU m0 rfl fun a w hf hc=>zD θ he hi hf 8 rfl rfl rfl ?_
       try dsimp only
       rw [aQ 1 Z rfl]
       exact hc
      ·intro E θ a w hD hi hp he hc
       have hf:=he.h0.mT he 0 rfl
       refine sp 1 hf rfl fun a hf=>zD θ he hi hf 9 rfl rfl rfl hc
      ·intro E θ a w hD hi hp he hc
       have hf:=he.h0.mT he 2 rfl
       refine sp 1 hf rfl fun a hf=>zD θ he hi hf 10 rfl rfl rfl hc
      ·intro E θ a w hD hi hp he hc
       have e3:=hp.o 3 rfl
       have hf:=he.h0.mP he 10 rfl e3
       refine sp 1 hf rfl fun a hf=>zD θ he hi hf 11 rfl rfl rfl hc
      ·intro E θ a w hD hi hp he hc
       have e2:=hp.o 2 rfl
       have e4:=hp.o 4 rfl
       have hf:=(he.h0.mP he 9 rfl e2).mP he 11 rfl e4
       refine zP hf rfl (pIA Tryz.underlying27 eL rfl rfl u) fun a hf=>zD θ he hi hf 12 rfl rfl rfl hc
      ·intro E θ a w hD hi hp he hc
       have e5:=hp.o 5 rfl
       have hf:=he.h0.mP he 12 rfl e5
       refine zE hf hc rfl (cE aU rfl (dX (j:=0) aj rfl)) fun a w hf hc=>zD θ he hi hf 13 rfl rfl rfl hc
      ·intro E θ a w hD hi hp he hc
       have hf:=he.h0.mT he 1 rfl
       refine zP hf rfl (pFA tF rfl) fun a hf=>zD θ he hi hf 14 rfl rfl rfl hc
      ·intro E θ a w hD hi hp he hc
       have e7:=hp.o 7 rfl
       have hf:=he.h0.mP he 14 rfl e7
       refine zL hf hc aU m2 rfl fun a w hf hc=>zD θ he hi hf 15 rfl rfl rfl hc
      ·intro E θ a w hD hi hp he hc
       have e6:=hp.o 6 rfl
       have e8:=hp.o 8 rfl
       have hf:=(he.h0.mP he 13 rfl e6).mP he 15 rfl e8
       refine sp 1 hf rfl fun a hf=>zD θ he hi hf 16 rfl rfl rfl hc
      ·intro E θ a w hD hi hp he hc
       have e1:=hp.o 1 rfl
       have e9:=hp.o 9 rfl
       have hf:=(he.h0.mP he 8 rfl e1).mP he 16 rfl e9
       refine zP hf rfl (xH rfl rfl) fun a hf=>zD θ he hi hf 17 rfl rfl rfl hc
      ·intro E θ a w hD hi hp he hc
       have hf:=he.h0.mT he 3 rfl
       refine zP hf rfl (pFA dC rfl) fun a hf=>zD θ he hi hf 18 rfl rfl rfl hc
      ·intro E θ a w hD hi hp he hc
       have bc:=hp.o 11 rfl
       have Z:=hD.f 1 rfl hi
       try dsimp only at hc
       rw [Z] at hc
       have hf:=he.h0.mP he 18 rfl bc
       refine zL hf hc aU m0 rfl fun a w hf hc=>zD θ he hi hf 19 rfl rfl rfl ?_
       try dsimp only
       rw [aQ 12 Z rfl]
       exact hc
      ·intro E θ a w hD hi hp he hc
       have hf:=he.h0.mT he 0 rfl
       refine sp 1 hf rfl fun a hf=>zD θ he hi hf 20 rfl rfl rfl hc
      ·intro E θ a w hD hi hp he hc
       have hf:=he.h0.mT he 2 rfl
       refine sp 1 hf rfl fun a hf=>zD θ he hi hf 21 rfl rfl rfl hc
      ·intro E θ a w hD hi hp he hc
       have a6:=hp.o 14 rfl
       have hf:=he.h0.mP he 21 rfl a6
       refine sp 1 hf rfl fun a hf=>zD θ he hi hf 22 rfl rfl rfl hc
      ·intro E θ a w hD hi hp he hc
       have bd:=hp.o 13 rfl
       have bk:=hp.o 15 rfl
       have hf:=(he.h0.mP he 20 rfl bd).mP he 22 rfl bk
       refine zP hf rfl (pIA Tryz.underlying27 eL rfl rfl t) fun a hf=>zD θ he hi hf 23 rfl rfl rfl hc
      ·intro E θ a w hD hi hp he hc
       have a4:=hp.o 16 rfl
       have hf:=he.h0.mP he 23 rfl a4
       refine zE hf hc rfl (cE aU rfl (dX (j:=0) ab rfl)) fun a w hf hc=>zD θ he hi hf 24 rfl rfl rfl hc
      ·intro E θ a w hD hi hp he hc
       have hf:=he.h0.mT he 1 rfl
       refine zP hf rfl (pFA sV rfl) fun a hf=>zD θ he hi hf 25 rfl rfl rfl hc
      ·intro E θ a w hD hi hp he hc
       have ba:=hp.o 18 rfl
       have hf:=he.h0.mP he 25 rfl ba
       refine zL hf hc aU m2 rfl fun a w hf hc=>zD θ he hi hf 26 rfl rfl rfl hc
      ·intro E θ a w hD hi hp he hc
       have bf:=hp.o 17 rfl
       have av:=hp.o 19 rfl
       have hf:=(he.h0.mP he 24 rfl bf).mP he 26 rfl av
       refine sp 1 hf rfl fun a hf=>zD θ he hi hf 27 rfl rfl rfl hc
      ·intro E θ a w hD hi hp he hc
       have bg:=hp.o 12 rfl
       have a8:=hp.o 20 rfl
       have hf:=(he.h0.mP he 19 rfl bg).mP he 27 rfl a8
       refine zP hf rfl (zO rfl rfl) fun a hf=>zD θ he hi hf 28 rfl rfl rfl hc
      ·intro E θ a w hD hi hp he hc
       have ay:=hp.o 10 rfl
       have a5:=hp.o 21 rfl
       have hf:=(he.h0.mP he 17 rfl ay).mP he 28 rfl a5
       refine zP hf rfl (bH (cells:=[i6 (max H.Lo (W (R - r.Fall))),i6 (min H.Hi (W (U + r.Rise)))]) iY rfl rfl) fun a hf=>zD θ he hi hf 29 rfl rfl rfl hc
      ·intro E θ a w hD hi hp he hc
       have bb:=hp.o 22 rfl
       try dsimp only at hc
       rw [hi] at hc
       have hf:=(he.h0.mT he 3 rfl).mP he 29 rfl bb
       refine zW hf hc cA u0 rfl fun w hc=>zG θ he hi hf rfl ?_
       try dsimp only
       rw [aR E 23]
       exact hc
      ·intro E θ a w aa he hc
       have hf:=he.h0
       have Z:=aa 23 rfl
       replace hf:=hf.more he 6 rfl (onT)
       replace hf:=hf.more he 5 rfl (onT)
       replace hf:=hf.more he 4 rfl (onT)
       replace hf:=hf.more he 3 rfl (onT)
       replace hf:=hf.more he 2 rfl (onT)
       replace hf:=hf.more he 1 rfl (onT)
       replace hf:=hf.more he 0 rfl (onT)
       try dsimp only at hc
       rw [Z] at hc
       exact ⟨hf.kp rfl,hc⟩
      rintro a w ⟨hf,hc⟩
      replace hc:=hc.drop k1
      exact m (max H.Lo (W (R - r.Fall))) (min H.Hi (W (U + r.Rise))) _ _  (hf.kp rfl) hc hF
     ·refine wp_skip ?_
      replace hc:=hc.drop k1
      exact m H.Lo H.Hi _ _  (hf.kp rfl) hc hF
    ·refine wp_exit ?_
     refine aV ?_
     refine aV ?_
     have he:=sj hF
     rw [← he] at M
     refine eW ?_
     exact af _ _ _ M ⟨hf.kp rfl,hc⟩

def iI (N:Nat) (l:List Int) (n:Int) (x:Int):Option (cY (Int × Int) (Int)) :=
 cond (decide (x < ((l.length:Nat):Int)))
 (Option.bind (bG l x) fun B=>
 some (.cont (W (n + B),W (x + 1))))
 (some (.brk (n,x)))
def oY (N:Nat) (l:List Int):Option (Int) :=
 Option.bind (bE (fun s5=>iI N l s5.1 s5.2) N (0,0)) fun x5=>
 exK x5 (fun s5=>some s5.1) some
theorem aA0 {N:Nat} {G:aS} {Lf:List Ent} {w:World} (l:List Int) {I:Option Addr} {D:Nat} (V:Rd G 1 I D (l.map aD)) (hc:Ctx G (Lf) w) {H:Int} (hF:oY N l=some H):Calls Tryz.prog 15 #[.slice I l.length D] w (fun e w=>e=.returned (i6 H)∧Ctx G (Lf) w):=by
 unfold oY at hF
 refine cB Tryz.func15 rfl Tryz.ntmps15 rfl fun a hf=>zS fun K h=>sp 1 hf rfl fun a hf=>zT h ?_
 refine zS fun K h=>sp 1 hf rfl fun a hf=>zT h ?_
 refine wp_seq_k fun K3 h3=>zS fun K h=>sp 1 hf rfl fun a hf=>zP hf rfl (bM Tryz.underlying27 rfl) fun a hf=>sp 1 hf rfl fun a hf=>zT h ?_
 refine wp_block ?_
 obtain ⟨x5,M,hF⟩:=aB hF
 let S5:(Int × Int)→Act→World→Prop:=(fun (zz:Int × Int) a w=>Has 17 a [(3,i6 zz.1),(6,.slice I l.length D),(7,i6 ((l.length:Nat):Int)),(8,i6 zz.2)]∧Ctx G (Lf) w)
 have R:∀ (zz:Int × Int) a w,x5=.go zz→S5 zz a w→K3 a w:=by
  rintro ⟨n,x⟩ a w rfl ⟨hf,hc⟩
  replace hF:=bW hF
  refine h3 _ _ ?_
  refine zS fun K h=>sp 2 hf rfl fun a hf=>zT h ?_
  refine wp_ret ?_
  obtain rfl:=sj hF
  exact zO1 Tryz.results15 hf rfl ⟨rfl,hc⟩
 have Y:∀ r,x5=.out r→r=H:=by
  rintro r rfl
  exact sj hF
 refine dO N (dH (S:=S5) (x:=x5) ?_ N (0,0) _ _ ⟨hf.kp rfl,hc⟩ M)
 clear hF hf hc
 rintro ⟨n,x⟩ Z a w KB5 ⟨hf,hc⟩ hF B U
 unfold iI at hF
 refine zS fun K h=>sp 1 hf rfl fun a hf=>zT h ?_
 refine wp_seq_k fun K8 h8=>zI hf rfl hF ?_ ?_ <;> clear hF <;> intro hF
 ·refine wp_skip ?_
  refine h8 _ _ ?_
  refine wp_seq_k fun K9 h9=>wp_block ?_
  refine zS fun K h=>?_
  obtain ⟨O,J,hF⟩:=aB hF
  obtain ⟨X,o,qa,qp⟩:=V.atm J
  refine zP hf rfl (pIA Tryz.underlying27 eL rfl rfl qa) fun a hf=>zE hf hc rfl (cE aU rfl (dX (j:=0) qp rfl)) fun a w hf hc=>sp 1 hf rfl fun a hf=>zT h ?_
  refine dE ?_
  refine sp 4 hf rfl fun a hf=>aP ?_
  refine h9 _ _ ?_
  refine dE ?_
  refine sp 2 hf rfl fun a hf=>aP ?_
  exact U (W (n + O),W (x + 1)) _ _ (sj hF).symm ⟨hf.kp rfl,hc⟩
 ·refine wp_exit ?_
  refine aV ?_
  refine aV ?_
  have he:=sj hF
  rw [← he] at B
  refine eW ?_
  exact R _ _ _ B ⟨hf.kp rfl,hc⟩

def lE (N:Nat) (B:Int):Option (aF) :=
 Option.bind (mM N 20 30) fun r=>
 Option.bind (mM N B 90) fun D=>
 some (⟨10,5,([r,(⟨false,(⟨0,0⟩:aA)⟩:aK),(⟨false,(⟨0,0⟩:aA)⟩:aK),D]:List aK)⟩:aF)
theorem lZ {N:Nat} {G:aS} {Lf:List Ent} {w:World} (D:Int)   (hc:Ctx G (Lf) w) {H:aF} (hF:lE N D=some H):Calls Tryz.prog 42 #[i6 D] w (fun e w=>∃ (M:Option Addr) (J:Nat),e=.returned (.agg #[i6 H.Rise,i6 H.Fall,.slice M H.Days.length J])∧Ctx G (.row M J (H.Days.map aJ) 52 3::Lf) w):=by
 unfold lE at hF
 refine cB Tryz.func42 rfl Tryz.ntmps42 rfl fun a hf=>zS fun K h=>zA hf hc aKv rfl fun R a w hf hc=>zT h ?_
 refine zS fun K h=>?_
 obtain ⟨r,hr,hF⟩:=aB hF
 refine zQ (v:=.agg #[.bool r.Known,i6 r.Flow.Lo,i6 r.Flow.Hi]) hf hc aIo rfl (fun w hc=>qU 20 30 hc hr) fun a w hf hc=>zP hf rfl (bH (cells:=[.bool false,i6 0,i6 0]) aIg rfl rfl) fun a hf=>zP hf rfl (bH (cells:=[.bool false,i6 0,i6 0]) aIg rfl rfl) fun a hf=>sp 1 hf rfl fun a hf=>?_
 obtain ⟨B,O,hF⟩:=aB hF
 refine zQ (v:=.agg #[.bool B.Known,i6 B.Flow.Lo,i6 B.Flow.Hi]) hf hc aIo rfl (fun w hc=>qU D 90 hc O) fun a w hf hc=>mY (rows:=([r,(⟨false,(⟨0,0⟩:aA)⟩:aK),(⟨false,(⟨0,0⟩:aA)⟩:aK),B]:List aK).map aJ) (vs:=[(0,.agg #[.bool r.Known,i6 r.Flow.Lo,i6 r.Flow.Hi]),(1,.agg #[.bool false,i6 0,i6 0]),(2,.agg #[.bool false,i6 0,i6 0]),(3,.agg #[.bool B.Known,i6 B.Flow.Lo,i6 B.Flow.Hi])]) hf hc rfl rfl aH2 rfl ⟨rfl,rfl,rfl,rfl,rfl,rfl,rfl,rfl,rfl,rfl,rfl,rfl,trivial⟩ rfl rfl fun I a w hf hc=>zP hf rfl (bH (cells:=[i6 10,i6 5,.slice (some ⟨I,0,none⟩) 4 4]) bt_39 rfl rfl) fun a hf=>zW hf hc sz_39 u1 rfl fun w hc=>zT h ?_
 refine wp_ret ?_
 obtain rfl:=sj hF
 exact pH (by simp) rfl Tryz.results42 hf hc (cR (vs:=[i6 10,i6 5,.slice (some ⟨I,0,none⟩) 4 4]) qQ rfl rfl (bO (n:=3) m1 rfl)) ⟨(some ⟨I,0,none⟩),4,rfl,(hc.drop k1)⟩

def nO (N:Nat) (x:List Int) (m:Int) (B:Int):Option (cY (Int × Int) (Int)) :=
 cond (decide (B < ((x.length:Nat):Int)))
 (Option.bind (bG x B) fun D=>
 some (.cont (max m D,W (B + 1))))
 (some (.brk (m,B)))
def jP (N:Nat) (x:List Int):Option (Int) :=
 cond (decide (((x.length:Nat):Int) < 1))
 (none)
 (Option.bind (bG x 0) fun B=>
 Option.bind (bE (fun s7=>nO N x s7.1 s7.2) N (B,1)) fun x7=>
 exK x7 (fun s7=>some s7.1) some)
theorem nI {N:Nat} {G:aS} {Lf:List Ent} {w:World} (x:List Int) {H:Option Addr} {I:Nat} (M:Rd G 1 H I (x.map aD)) (hc:Ctx G (Lf) w) {D:Int} (hF:jP N x=some D):Calls Tryz.prog 74 #[.slice H x.length I] w (fun e w=>e=.returned (i6 D)∧Ctx G (Lf) w):=by
 unfold jP at hF
 refine cB Tryz.func74 rfl Tryz.ntmps74 rfl fun a hf=>zS fun K h=>sp 1 hf rfl fun a hf=>zT h ?_
 refine wp_seq_k fun K2 h2=>zS fun K h=>sp 1 hf rfl fun a hf=>zP hf rfl (bM Tryz.underlying27 rfl) fun a hf=>sp 1 hf rfl fun a hf=>zT h ?_
 refine zI hf rfl hF ?_ ?_ <;> clear hF <;> intro hF
 ·exact wX hF
 ·refine wp_skip ?_
  refine h2 _ _ ?_
  refine zS fun K h=>sp 1 hf rfl fun a hf=>?_
  obtain ⟨X,R,hF⟩:=aB hF
  obtain ⟨p,o,qa,qp⟩:=M.atm R
  refine zP hf rfl (pIA Tryz.underlying27 eL rfl rfl qa) fun a hf=>zE hf hc rfl (cE aU rfl (dX (j:=0) qp rfl)) fun a w hf hc=>sp 1 hf rfl fun a hf=>zT h ?_
  refine wp_seq_k fun K5 h5=>zS fun K h=>sp 1 hf rfl fun a hf=>zT h ?_
  refine wp_block ?_
  obtain ⟨x7,g,hF⟩:=aB hF
  let S7:(Int × Int)→Act→World→Prop:=(fun (zz:Int × Int) a w=>Has 25 a [(0,.slice H x.length I),(3,i6 zz.1),(4,i6 zz.2)]∧Ctx G (Lf) w)
  have b:∀ (zz:Int × Int) a w,x7=.go zz→S7 zz a w→K5 a w:=by
   rintro ⟨m,J⟩ a w rfl ⟨hf,hc⟩
   replace hF:=bW hF
   refine h5 _ _ ?_
   refine zS fun K h=>sp 2 hf rfl fun a hf=>zT h ?_
   refine wp_ret ?_
   obtain rfl:=sj hF
   exact zO1 Tryz.results74 hf rfl ⟨rfl,hc⟩
  have n:∀ r,x7=.out r→r=D:=by
   rintro r rfl
   exact sj hF
  refine dO N (dH (S:=S7) (x:=x7) ?_ N (X,1) _ _ ⟨hf.kp rfl,hc⟩ g)
  clear hF hf hc
  rintro ⟨m,J⟩ i a w KB7 ⟨hf,hc⟩ hF B Y
  unfold nO at hF
  refine wp_seq_k fun K9 h9=>zS fun K h=>sp 2 hf rfl fun a hf=>zP hf rfl (bM Tryz.underlying27 rfl) fun a hf=>sp 1 hf rfl fun a hf=>zT h ?_
  refine zI hf rfl hF ?_ ?_ <;> clear hF <;> intro hF
  ·refine wp_skip ?_
   refine h9 _ _ ?_
   refine wp_seq_k fun K11 d=>wp_block ?_
   refine dE ?_
   refine sp 3 hf rfl fun a hf=>?_
   obtain ⟨Z,U,hF⟩:=aB hF
   obtain ⟨q,k,O,V⟩:=M.atm U
   refine zP hf rfl (pIA Tryz.underlying27 eL rfl rfl O) fun a hf=>zE hf hc rfl (cE aU rfl (dX (j:=0) V rfl)) fun a w hf hc=>zP hf rfl (xH rfl rfl) fun a hf=>sp 1 hf rfl fun a hf=>aP ?_
   refine d _ _ ?_
   refine dE ?_
   refine sp 3 hf rfl fun a hf=>aP ?_
   exact Y (max m Z,W (J + 1)) _ _ (sj hF).symm ⟨hf.kp rfl,hc⟩
  ·refine wp_exit ?_
   refine aV ?_
   refine aV ?_
   have he:=sj hF
   rw [← he] at B
   refine eW ?_
   exact b _ _ _ B ⟨hf.kp rfl,hc⟩

def nB (N:Nat) (x:Int) (B:List Int):Option (cY ((List Int) × Int) (aA × (List Int) × Int)) :=
 some (.cont (B,W (x + 1)))
def vF (N:Nat) (B:Int × Int × (List aA) × Int) (D:Int) (days:List Int) (x:Int):Option (cY ((List Int) × Int) (aA × (List Int) × Int)) :=
 cond (decide (x < ((B.2.2.1.length:Nat):Int)))
 (Option.bind (bG B.2.2.1 x) fun H=>
 cond (decide (D≤H.Hi))
 (Option.bind (pG ((days++[x])).length) fun un=>
 nB N x (days++[x]))
 (nB N x days))
 (some (.brk (days,x)))
def wN (N:Nat) (r:aF):Option (aA × (List Int) × Int) :=
 Option.bind (gF N r) (yA (fun I=>cond (I != 0)
 (some ((⟨0,0⟩:aA),([]:List Int),I))
 (none))
 (fun B=>cond (B.2.2.2 != 0)
 (some ((⟨0,0⟩:aA),([]:List Int),B.2.2.2))
 (Option.bind (oB N B.2.2.1) fun J=>
 Option.bind (jP N J) fun H=>
 Option.bind (kV N B.2.2.1) fun M=>
 Option.bind (jP N M) fun O=>
 Option.bind (bE (fun D=>vF N B H D.1 D.2) N (([]:List Int),0)) fun R=>
 exK R (fun D=>some ((⟨H,O⟩:aA),D.1,0)) some)))
theorem aB0 {N:Nat} {G:aS} {Lf:List Ent} {w:World} (r:aF) {H:Option Addr} {D:Nat} (Y:Rd G 3 H D (r.Days.map aJ)) (hc:Ctx G (Lf) w) {j:aA × (List Int) × Int} (hF:wN N r=some j):Calls Tryz.prog 43 #[.agg #[i6 r.Rise,i6 r.Fall,.slice H r.Days.length D]] w (fun e w=>∃ (a0:Option Addr) (a2:Nat),e=.returned (.tuple #[.agg #[i6 j.1.Lo,i6 j.1.Hi],.slice a0 j.2.1.length a2,i6 j.2.2])∧Ctx G (.row a0 a2 (j.2.1.map aD) 3 1::Lf) w):=by
 unfold wN at hF
 refine cB Tryz.func43 rfl Tryz.ntmps43 rfl fun a hf=>zS fun K h=>zB hf hc rfl fun a3 a w hf hc=>zA hf hc kX rfl fun V a w hf hc=>sp 2 hf rfl fun a hf=>zT h ?_
 refine zS fun K h=>zN hf hc qQ m1 rfl fun a w hf hc=>?_
 obtain ⟨ax,ap,hF⟩:=aB hF
 cases ax with
 | inl ax=>
  replace hF:=yX hF
  refine zC hf zF rfl (fV r Y hc ap) ?_
  rintro _ w ⟨rfl,hc⟩
  refine ⟨_,rfl,fun a hf=>?_⟩
  refine sp 5 hf rfl fun a hf=>zT h ?_
  refine wp_seq_k fun K3 h3=>zS fun K h=>sp 2 hf rfl fun a hf=>zT h ?_
  refine zI hf rfl hF ?_ ?_ <;> clear hF <;> intro hF
  ·refine zS fun K h=>zP hf rfl (bH (cells:=[i6 0,i6 0]) iY rfl rfl) fun a hf=>sp 1 hf rfl fun a hf=>zW hf hc cA u0 rfl fun w hc=>sp 2 hf rfl fun a hf=>zT h ?_
   refine wp_ret ?_
   refine aO ?_
   obtain rfl:=sj hF
   replace hc:=hc.nilRow 3 1
   replace hc:=hc.drop k2
   exact aEq (by simp) rfl Tryz.results43 hf hc (cR (vs:=[i6 0,i6 0]) eA rfl rfl (bO (n:=2) m1 rfl)) (show dG _ 3=_ from rfl) (show dG _ 4=_ from rfl) ⟨none,0,rfl,(hc.drop k1)⟩
  ·refine wp_skip ?_
   refine h3 _ _ ?_
   refine zS fun K h=>zQ (v:=.agg #[.func (.func 70) #[] #[],.func (.func 71) #[] #[]]) hf hc aHv rfl (fun w hc=>rT hc rfl) fun a w hf hc=>zA hf hc aDa rfl fun b4 a w hf hc=>zW hf hc aC8 u0 rfl fun w hc=>zT h ?_
   refine wp_seq_k fun K7 h7=>wX hF
 | inr B=>
  replace hF:=yU hF
  have bf:=ap
  refine zC hf zF rfl (fV r Y hc bf) ?_
  rintro _ w ⟨J,k,q,rfl,hc⟩
  refine ⟨_,rfl,fun a hf=>?_⟩
  refine sp 5 hf rfl fun a hf=>zT h ?_
  refine wp_seq_k fun K8 h8=>zS fun K h=>sp 2 hf rfl fun a hf=>zT h ?_
  refine zI hf rfl hF ?_ ?_ <;> clear hF <;> intro hF
  ·refine zS fun K h=>zP hf rfl (bH (cells:=[i6 0,i6 0]) iY rfl rfl) fun a hf=>sp 1 hf rfl fun a hf=>zW hf hc cA u2 rfl fun w hc=>sp 2 hf rfl fun a hf=>zT h ?_
   refine wp_ret ?_
   refine aO ?_
   obtain rfl:=sj hF
   replace hc:=hc.nilRow 3 1
   replace hc:=((hc.drop k4).drop k2).drop k1
   exact aEq (by simp) rfl Tryz.results43 hf hc (cR (vs:=[i6 0,i6 0]) eA rfl rfl (bO (n:=2) m1 rfl)) (show dG _ 3=_ from rfl) (show dG _ 4=_ from rfl) ⟨none,0,rfl,(hc.drop k1)⟩
  ·refine wp_skip ?_
   refine h8 _ _ ?_
   refine zS fun K h=>zQ (v:=.agg #[.func (.func 70) #[] #[],.func (.func 71) #[] #[]]) hf hc aHv rfl (fun w hc=>rT hc rfl) fun a w hf hc=>zA hf hc aDa rfl fun y a w hf hc=>zW hf hc aC8 u0 rfl fun w hc=>zT h ?_
   refine wp_seq_k fun K12 bi=>?_
   obtain ⟨ak,bg,hF⟩:=aB hF
   obtain ⟨R,a8,hF⟩:=aB hF
   obtain ⟨an,a6,hF⟩:=aB hF
   obtain ⟨U,a4,hF⟩:=aB hF
   replace hc:=hc.nilRow 0 0
   replace hc:=hc.nilRow 0 0
   replace hc:=hc.nilRow 0 0
   refine fI (fun θ=>[⟨none,none,2,pq V⟩,⟨none,none,5,pq J⟩,⟨none,none,7,pq y⟩,⟨some 0,none,22,pq J⟩,⟨some 1,none,23,pq J⟩,⟨some 2,none,24,.pointer (some ⟨J,3,none⟩)⟩,⟨some 3,none,25,.slice k B.2.2.1.length q⟩,⟨some 4,none,26,pq y⟩,⟨some 5,none,27,.agg #[.func (.func 70) #[] #[]]⟩,⟨some 6,none,28,.slice ((θ 48).p) ak.length ((θ 48).c)⟩,⟨some 7,none,29,i6 R⟩,⟨some 8,none,30,pq J⟩,⟨some 9,none,31,pq J⟩,⟨some 10,none,32,.pointer (some ⟨J,3,none⟩)⟩,⟨some 11,none,33,.slice k B.2.2.1.length q⟩,⟨some 12,none,34,.pointer (some ⟨y,1,none⟩)⟩,⟨some 13,none,35,.agg #[.func (.func 71) #[] #[]]⟩,⟨some 14,none,36,.slice ((θ 112).p) an.length ((θ 112).c)⟩,⟨some 15,none,37,i6 U⟩,⟨some 16,none,38,.agg #[i6 R,i6 U]⟩,⟨some 17,none,8,.pointer (some ⟨(θ 136).b,0,none⟩)⟩]) (fun E θ=>(bif E 18 then .box (θ 136).b [i6 R,i6 U] 41 else bif E 17 then .box (θ 136).b [i6 0,i6 0] 41 else .row none 0 [] 0 0)::(bif E 14 then .row ((θ 112).p) ((θ 112).c) (an.map aD) 3 1 else .row none 0 [] 0 0)::(bif E 6 then .row ((θ 48).p) ((θ 48).c) (ak.map aD) 3 1 else .row none 0 [] 0 0)::.box y [.func (.func 70) #[] #[],.func (.func 71) #[] #[]] 100::.row k q (B.2.2.1.map aC) 41 2::.box J [i6 B.1,i6 B.2.1,.slice H r.Days.length D,.slice k B.2.2.1.length q] 95::.box V [i6 0,i6 0] 41::.box a3 [i6 r.Rise,i6 r.Fall,.slice H r.Days.length D] 39::Lf) [(18,17)] (fun a w=>∃ (Z:Nat) (az:Option Addr) (ay:Nat) (a1:Option Addr) (av:Nat),Has 61 a [(2,pq V),(5,pq J),(8,pq Z)]∧Ctx G (.box Z [i6 R,i6 U] 41::.row az ay (an.map aD) 3 1::.row a1 av (ak.map aD) 3 1::.box y [.func (.func 70) #[] #[],.func (.func 71) #[] #[]] 100::.row k q (B.2.2.1.map aC) 41 2::.box J [i6 B.1,i6 B.2.1,.slice H r.Days.length D,.slice k B.2.2.1.length q] 95::.box V [i6 0,i6 0] 41::.box a3 [i6 r.Rise,i6 r.Fall,.slice H r.Days.length D] 39::Lf) w) aT (by kernel_rfl) (by kernel_rfl) (eZ.of hf ⟨rfl,rfl,rfl,trivial,trivial,trivial,trivial,trivial,trivial,trivial,trivial,trivial,trivial,trivial,trivial,trivial,trivial,trivial,trivial,trivial,trivial,trivial⟩) hc ⟨?_,?_,?_,?_,?_,?_,?_,?_,?_,?_,?_,?_,?_,?_,?_,?_,?_,?_,?_,trivial⟩ ?_ ?_
   ·intro E θ a w hD hi hp he hc
    have hf:=he.h0.mT he 1 rfl
    refine sp 1 hf rfl fun a hf=>zD θ he hi hf 3 rfl rfl rfl hc
   ·intro E θ a w hD hi hp he hc
    have e0:=hp.o 0 rfl
    have hf:=he.h0.mP he 3 rfl e0
    refine sp 1 hf rfl fun a hf=>zD θ he hi hf 4 rfl rfl rfl hc
   ·intro E θ a w hD hi hp he hc
    have e1:=hp.o 1 rfl
    have hf:=he.h0.mP he 4 rfl e1
    refine zP hf rfl (pFA kY rfl) fun a hf=>zD θ he hi hf 5 rfl rfl rfl hc
   ·intro E θ a w hD hi hp he hc
    have e2:=hp.o 2 rfl
    have hf:=he.h0.mP he 5 rfl e2
    refine zL hf hc oW m5 rfl fun a w hf hc=>zD θ he hi hf 6 rfl rfl rfl hc
   ·intro E θ a w hD hi hp he hc
    have hf:=he.h0.mT he 2 rfl
    refine zP hf rfl (pW Tryz.underlying100 aGm rfl rfl (by decide) (by decide)) fun a hf=>zD θ he hi hf 7 rfl rfl rfl hc
   ·intro E θ a w hD hi hp he hc
    have e4:=hp.o 4 rfl
    have hf:=he.h0.mP he 7 rfl e4
    refine zN hf hc aGf m3 rfl fun a w hf hc=>zD θ he hi hf 8 rfl rfl rfl hc
   ·intro E θ a w hD hi hp he hc
    have e3:=hp.o 3 rfl
    have e5:=hp.o 5 rfl
    try dsimp only at hc
    rw [hi] at hc
    have hf:=(he.h0.mP he 6 rfl e3).mP he 8 rfl e5
    obtain ⟨G1,ad,O,hc,M⟩:=lend hc k4
    refine zC hf aF1 rfl (wB B.2.2.1 O hc bg) ?_
    rintro _ w ⟨bu,bj,rfl,hc⟩
    refine ⟨_,rfl,fun a hf=>?_⟩
    replace hc:=M _ _ hc
    refine aP ?_
    refine eY ?_
    intro ds u ab
    replace hc:=(((((hc.drop k4).pick k0).pick k4).pick k2).pick k4).pick k4
    refine ⟨(qW θ 48 ⟨0,bu,bj,(fun _=>(none,0))⟩),he.put hi ab hf rfl [] trivial ⟨qq,qq,qq,qq,qq,qq,qq,qq,qq,qq,qq,qq,qq,qq,qq,qq,qq,qq,qq,qq,qq,trivial⟩,?_⟩
    try dsimp only
    rw [aR E 6]
    exact hc
   ·intro E θ a w hD hi hp he hc
    have e6:=hp.o 6 rfl
    try dsimp only at hc
    rw [e6] at hc
    have hf:=he.h0.mP he 9 rfl e6
    refine zQ (v:=i6 R) hf hc aKg rfl (fun w hc=>by obtain ⟨G1,ad,O,hc,M⟩:=lend hc k2; exact (nI ak O hc a8).mono fun e w h=>⟨h.1,((M _ _ h.2).unpick k2)⟩) fun a w hf hc=>zD θ he hi hf 10 rfl rfl rfl ?_
    try dsimp only
    rw [cV 7 e6]
    exact hc
   ·intro E θ a w hD hi hp he hc
    have hf:=he.h0.mT he 1 rfl
    refine sp 1 hf rfl fun a hf=>zD θ he hi hf 11 rfl rfl rfl hc
   ·intro E θ a w hD hi hp he hc
    have e8:=hp.o 8 rfl
    have hf:=he.h0.mP he 11 rfl e8
    refine sp 1 hf rfl fun a hf=>zD θ he hi hf 12 rfl rfl rfl hc
   ·intro E θ a w hD hi hp he hc
    have e9:=hp.o 9 rfl
    have hf:=he.h0.mP he 12 rfl e9
    refine zP hf rfl (pFA kY rfl) fun a hf=>zD θ he hi hf 13 rfl rfl rfl hc
   ·intro E θ a w hD hi hp he hc
    have bm:=hp.o 10 rfl
    have hf:=he.h0.mP he 13 rfl bm
    refine zL hf hc oW m5 rfl fun a w hf hc=>zD θ he hi hf 14 rfl rfl rfl hc
   ·intro E θ a w hD hi hp he hc
    have hf:=he.h0.mT he 2 rfl
    refine zP hf rfl (pW Tryz.underlying100 aGm rfl rfl (by decide) (by decide)) fun a hf=>zD θ he hi hf 15 rfl rfl rfl hc
   ·intro E θ a w hD hi hp he hc
    have bv:=hp.o 12 rfl
    have hf:=he.h0.mP he 15 rfl bv
    refine zN hf hc aGf m3 rfl fun a w hf hc=>zD θ he hi hf 16 rfl rfl rfl hc
   ·intro E θ a w hD hi hp he hc
    have bs:=hp.o 11 rfl
    have bt:=hp.o 13 rfl
    try dsimp only at hc
    rw [hi] at hc
    have hf:=(he.h0.mP he 14 rfl bs).mP he 16 rfl bt
    obtain ⟨G1,ad,O,hc,M⟩:=lend hc k4
    refine zC hf aF1 rfl (rV B.2.2.1 O hc a6) ?_
    rintro _ w ⟨bx,bz,rfl,hc⟩
    refine ⟨_,rfl,fun a hf=>?_⟩
    replace hc:=M _ _ hc
    refine aP ?_
    refine eY ?_
    intro ds u ab
    replace hc:=(((((hc.drop k3).pick k0).pick k4).pick k4).pick k3).pick k4
    refine ⟨(qW θ 112 ⟨0,bx,bz,(fun _=>(none,0))⟩),he.put hi ab hf rfl [] trivial ⟨qq,qq,qq,qq,qq,qq,qq,qq,qq,qq,qq,qq,qq,qq,qq,qq,qq,qq,qq,qq,qq,trivial⟩,?_⟩
    try dsimp only
    rw [aR E 14]
    exact hc
   ·intro E θ a w hD hi hp he hc
    have z:=hp.o 14 rfl
    try dsimp only at hc
    rw [z] at hc
    have hf:=he.h0.mP he 17 rfl z
    refine zQ (v:=i6 U) hf hc aKg rfl (fun w hc=>by obtain ⟨G1,ad,O,hc,M⟩:=lend hc k1; exact (nI an O hc a4).mono fun e w h=>⟨h.1,((M _ _ h.2).unpick k1)⟩) fun a w hf hc=>zD θ he hi hf 18 rfl rfl rfl ?_
    try dsimp only
    rw [cV 15 z]
    exact hc
   ·intro E θ a w hD hi hp he hc
    have e7:=hp.o 7 rfl
    have b1:=hp.o 15 rfl
    have hf:=(he.h0.mP he 10 rfl e7).mP he 18 rfl b1
    refine zP hf rfl (bH (cells:=[i6 R,i6 U]) iY rfl rfl) fun a hf=>zD θ he hi hf 19 rfl rfl rfl hc
   ·intro E θ a w hD hi hp he hc
    have aj:=hD.f 0 rfl hi
    try dsimp only at hc
    rw [hi,aj] at hc
    have hf:=he.h0
    refine zA hf hc kX rfl fun bq a w hf hc=>aP ?_
    refine eY ?_
    intro ds u ab
    replace hc:=hc.drop k1
    refine ⟨(qW θ 136 ⟨bq,none,0,(fun _=>(none,0))⟩),he.put hi ab hf rfl [] trivial ⟨qq,qq,qq,qq,qq,qq,qq,qq,qq,qq,qq,qq,qq,qq,qq,qq,qq,qq,qq,qq,qq,trivial⟩,?_⟩
    try dsimp only
    rw [aR E 17,aQ 17 aj rfl]
    exact hc
   ·intro E θ a w hD hi hp he hc
    have br:=hp.o 16 rfl
    have s:=hp.o 17 rfl
    try dsimp only at hc
    rw [s,hi] at hc
    have hf:=(he.h0.mP he 19 rfl br).mP he 20 rfl s
    refine zW hf hc cA u0 rfl fun w hc=>zG θ he hi hf rfl ?_
    try dsimp only
    rw [cV 18 s,aR E 18]
    exact hc
   ·intro E θ a w t he hc
    have hf:=he.h0
    have e6:=t 6 rfl
    have z:=t 14 rfl
    have s:=t 17 rfl
    have aj:=t 18 rfl
    replace hf:=hf.more he 20 rfl (onP s)
    replace hf:=hf.more he 1 rfl (onT)
    replace hf:=hf.more he 0 rfl (onT)
    try dsimp only at hc
    rw [e6,z,s,aj] at hc
    exact ⟨(θ 136).b,(θ 112).p,(θ 112).c,(θ 48).p,(θ 48).c,hf.kp rfl,hc⟩
   rintro a w ⟨Z,az,ay,a1,av,hf,hc⟩
   refine bi _ _ ?_
   refine zS fun K h=>sp 1 hf rfl fun a hf=>zT h ?_
   refine wp_seq_k fun K14 b0=>zS fun K h=>sp 2 hf rfl fun a hf=>zP hf rfl (pFA kY rfl) fun a hf=>zL hf hc oW m5 rfl fun a w hf hc=>zP hf rfl (bM Tryz.underlying54 rfl) fun a hf=>sp 1 hf rfl fun a hf=>zT h ?_
   refine wp_block ?_
   obtain ⟨aq,a5,hF⟩:=aB hF
   let S16:((List Int) × Int)→Act→World→Prop:=(fun (zz:(List Int) × Int) a w=>∃ (m:Option Addr) (d:Nat) (aa:Option Addr) (X:Nat),Has 61 a [(2,pq V),(8,pq Z),(9,.slice m zz.1.length d),(42,.slice aa B.2.2.1.length X),(43,i6 ((B.2.2.1.length:Nat):Int)),(44,i6 zz.2)]∧Ctx G (.row m d (zz.1.map aD) 3 1::.box Z [i6 R,i6 U] 41::.row aa X (B.2.2.1.map aC) 41 2::.box V [i6 0,i6 0] 41::Lf) w)
   have a7:∀ (zz:(List Int) × Int) a w,aq=.go zz→S16 zz a w→K14 a w:=by
    rintro ⟨days,x⟩ a w rfl ⟨m,d,aa,X,hf,hc⟩
    replace hF:=bW hF
    refine b0 _ _ ?_
    refine zS fun K h=>zN hf hc eA m1 rfl fun a w hf hc=>sp 1 hf rfl fun a hf=>zW hf hc cA u3 rfl fun w hc=>sp 2 hf rfl fun a hf=>zT h ?_
    refine wp_ret ?_
    obtain rfl:=sj hF
    replace hc:=(hc.drop k2).drop k1
    exact aEq (by simp) rfl Tryz.results43 hf hc (cR (vs:=[i6 R,i6 U]) eA rfl rfl (bO (n:=2) m1 rfl)) (show dG _ 3=_ from rfl) (show dG _ 4=_ from rfl) ⟨m,d,rfl,(hc.drop k1)⟩
   have b2:∀ r,aq=.out r→r=j:=by
    rintro r rfl
    exact sj hF
   replace hc:=hc.nilRow 3 1
   replace hc:=((((hc.drop k8).drop k6).drop k4).drop k3).drop k2
   refine dO N (dH (S:=S16) (x:=aq) ?_ N (([]:List Int),0) _ _ ⟨none,0,k,q,hf.kp rfl,hc⟩ a5)
   clear hF hf hc
   rintro ⟨days,x⟩ ba a w KB16 ⟨m,d,aa,X,hf,hc⟩ hF ac bd
   unfold vF at hF
   refine zS fun K h=>sp 1 hf rfl fun a hf=>zT h ?_
   refine wp_seq_k fun K19 bk=>zI hf rfl hF ?_ ?_ <;> clear hF <;> intro hF
   ·refine wp_skip ?_
    refine bk _ _ ?_
    refine wp_seq_k fun K20 bp=>?_
    have ar:∀ (I:List Int) (af:Option Addr) (am:Nat) (ag:Option Addr) (ai:Nat) a w,Has 61 a [(2,pq V),(8,pq Z),(9,.slice af I.length am),(42,.slice ag B.2.2.1.length ai),(43,i6 ((B.2.2.1.length:Nat):Int)),(44,i6 x)]→Ctx G (.row af am (I.map aD) 3 1::.box Z [i6 R,i6 U] 41::.row ag ai (B.2.2.1.map aC) 41 2::.box V [i6 0,i6 0] 41::Lf) w→nB N x I=some ba→K20 a w:=by
     repeat (clear hF)
     repeat (clear hc)
     repeat (clear hf)
     intro I af am ag ai a w hf hc hF
     unfold nB at hF
     refine bp _ _ ?_
     refine dE ?_
     refine sp 2 hf rfl fun a hf=>aP ?_
     exact bd (I,W (x + 1)) _ _ (sj hF).symm ⟨af,am,ag,ai,hf.kp rfl,hc⟩
    refine wp_block ?_
    refine zS fun K h=>sp 1 hf rfl fun a hf=>?_
    obtain ⟨au,bc,hF⟩:=aB hF
    obtain ⟨g,rfl,qa,qr⟩:=gH hc m2 bc
    refine zP hf rfl (pIA Tryz.underlying54 cA rfl rfl qa) fun a hf=>zE hf hc rfl (jM (vs:=[i6 au.Lo,i6 au.Hi]) eA rfl rfl (qJ (sz:=2) (i:=x.toNat) m2 qr (n:=2) (o':=0) rfl)) fun a w hf hc=>zA hf hc kX rfl fun b3 a w hf hc=>sp 1 hf rfl fun a hf=>zW hf hc cA u0 rfl fun w hc=>zT h ?_
    refine zS fun K h=>zP hf rfl (pFA dC rfl) fun a hf=>zL hf hc aU m0 rfl fun a w hf hc=>zP hf rfl (pFA dS rfl) fun a hf=>zL hf hc aU m2 rfl fun a w hf hc=>sp 1 hf rfl fun a hf=>zT h ?_
    refine zI hf rfl hF ?_ ?_ <;> clear hF <;> intro hF
    ·refine dE ?_
     refine sp 2 hf rfl fun a hf=>mY (rows:=([x]:List Int).map aD) (vs:=[(0,i6 x)]) hf hc rfl rfl lD rfl ⟨rfl,rfl,rfl,trivial⟩ rfl rfl fun b5 a w hf hc=>?_
     obtain ⟨un,bn,hF⟩:=aB hF
     refine nT (xs:=days) (ys:=([x]:List Int)) hf hc rfl rfl lD rfl rfl rfl rfl rfl bD (iL hc m0) (fun _ _=>u2) (by simpa using eR bn) fun bb a9 a w hf hc=>sp 1 hf rfl fun a hf=>aP ?_
     replace hc:=(hc.drop k1).drop k0
     exact ar (days++[x]) bb a9 (some ⟨g,0,none⟩) X _ _  (hf.kp rfl) hc hF
    ·refine wp_skip ?_
     replace hc:=hc.drop k0
     exact ar days m d (some ⟨g,0,none⟩) X _ _  (hf.kp rfl) hc hF
   ·refine wp_exit ?_
    refine aV ?_
    refine aV ?_
    have he:=sj hF
    rw [← he] at ac
    refine eW ?_
    exact a7 _ _ _ ac ⟨m,d,aa,X,hf.kp rfl,hc⟩

def tT (N:Nat) (r:aF) (x:Int) (J:aK) (B:Int):Option (cY (Int) (cY (Int × Int × Int × Int) (Int × Int × Int))) :=
 cond (decide (B < ((r.Days.length:Nat):Int)))
 (Option.bind (bG r.Days B) fun I=>
 Option.bind (fF N J) fun D=>
 Option.bind (fF N I) fun H=>
 cond ((decide (x < B)) && ((decide ((W (D.Hi + (W (r.Rise * (W (B - x)))))) < H.Lo)) || (decide (H.Hi < (W (D.Lo - (W (r.Fall * (W (B - x))))))))))
 (some (.ret (.brk (x,B,0,x))))
 (some (.cont (W (B + 1)))))
 (some (.brk B))
def tV (N:Nat) (r:aF) (I:Int) (H:Int) (D:Int) (x:Int):Option (cY (Int × Int × Int × Int) (Int × Int × Int)) :=
 cond (decide (x < ((r.Days.length:Nat):Int)))
 (Option.bind (bG r.Days x) fun M=>
 Option.bind (bE (fun B=>tT N r x M B) N 0) fun J=>
 exK J (fun B=>some (.cont (I,H,D,W (x + 1)))) some)
 (some (.brk (I,H,D,x)))
def uR (N:Nat) (r:aF):Option (Int × Int × Int) :=
 Option.bind (iU N r) fun D=>
 cond (D != 0)
 (some (0,0,D))
 (Option.bind (bE (fun B=>tV N r B.1 B.2.1 B.2.2.1 B.2.2.2) N (0,0,5,0)) fun H=>
 exK H (fun B=>some (B.1,B.2.1,B.2.2.1)) some)
theorem aAm {N:Nat} {G:aS} {Lf:List Ent} {w:World} (r:aF) {D:Option Addr} {B:Nat} (U:Rd G 3 D B (r.Days.map aJ)) (hc:Ctx G (Lf) w) {m:Int × Int × Int} (hF:uR N r=some m):Calls Tryz.prog 44 #[.agg #[i6 r.Rise,i6 r.Fall,.slice D r.Days.length B]] w (fun e w=>e=.returned (.tuple #[i6 m.1,i6 m.2.1,i6 m.2.2])∧Ctx G (Lf) w):=by
 unfold uR at hF
 refine cB Tryz.func44 rfl Tryz.ntmps44 rfl fun a hf=>zS fun K h=>zB hf hc rfl fun R a w hf hc=>sp 3 hf rfl fun a hf=>zT h ?_
 refine wp_scope_straight ?_
 refine wp_seq_k fun K2 h2=>zS fun K h=>zN hf hc qQ m0 rfl fun a w hf hc=>?_
 obtain ⟨ar,z,hF⟩:=aB hF
 refine zQ (v:=i6 ar) hf hc aDh rfl (fun w hc=>lJ r U hc z) fun a w hf hc=>sp 1 hf rfl fun a hf=>zT h ?_
 refine zS fun K h=>sp 2 hf rfl fun a hf=>zT h ?_
 refine zI hf rfl hF ?_ ?_ <;> clear hF <;> intro hF
 ·refine zS fun K h=>sp 4 hf rfl fun a hf=>zT h ?_
  refine wp_ret ?_
  refine aO ?_
  refine aAd ?_
  obtain rfl:=sj hF
  replace hc:=hc.drop k0
  exact zO3 Tryz.results44 hf rfl rfl rfl ⟨rfl,hc⟩
 ·refine wp_skip ?_
  refine h2 _ _ ?_
  refine zS fun K h=>sp 3 hf rfl fun a hf=>zT h ?_
  refine wp_seq_k fun K7 h7=>wp_label ?_
  refine h7 _ _ ?_
  refine wp_seq_k fun K8 h8=>zS fun K h=>zP hf rfl (pFA kZ rfl) fun a hf=>zL hf hc sN m0 rfl fun a w hf hc=>zP hf rfl (bM Tryz.underlying37 rfl) fun a hf=>sp 1 hf rfl fun a hf=>zT h ?_
  refine wp_block ?_
  obtain ⟨s,ad,hF⟩:=aB hF
  let S10:(Int × Int × Int × Int)→Act→World→Prop:=(fun (zz:Int × Int × Int × Int) a w=>Has 78 a [(1,pq R),(6,i6 zz.1),(7,i6 zz.2.1),(8,i6 zz.2.2.1),(21,.slice D r.Days.length B),(22,i6 ((r.Days.length:Nat):Int)),(23,i6 zz.2.2.2)]∧Ctx G (.box R [i6 r.Rise,i6 r.Fall,.slice D r.Days.length B] 39::Lf) w)
  have p:∀ (zz:Int × Int × Int × Int) a w,s=.go zz→S10 zz a w→K8 a w:=by
   rintro ⟨i,g,d,x⟩ a w rfl ⟨hf,hc⟩
   replace hF:=bW hF
   refine h8 _ _ ?_
   refine zS fun K h=>sp 6 hf rfl fun a hf=>zT h ?_
   refine wp_ret ?_
   refine aAd ?_
   obtain rfl:=sj hF
   replace hc:=hc.drop k0
   exact zO3 Tryz.results44 hf rfl rfl rfl ⟨rfl,hc⟩
  have a3:∀ r,s=.out r→r=m:=by
   rintro r rfl
   exact sj hF
  refine dO N (dH (S:=S10) (x:=s) ?_ N (0,0,5,0) _ _ ⟨hf.kp rfl,hc⟩ ad)
  clear hF hf hc
  rintro ⟨i,g,d,x⟩ an a w KB10 ⟨hf,hc⟩ hF V ag
  unfold tV at hF
  refine zS fun K h=>sp 1 hf rfl fun a hf=>zT h ?_
  refine wp_seq_k fun K13 az=>zI hf rfl hF ?_ ?_ <;> clear hF <;> intro hF
  ·refine wp_skip ?_
   refine az _ _ ?_
   refine wp_seq_k fun K14 a2=>wp_block ?_
   refine zS fun K h=>sp 1 hf rfl fun a hf=>?_
   obtain ⟨M,ab,hF⟩:=aB hF
   obtain ⟨a6,o,qa,qp⟩:=U.atm ab
   refine zP hf rfl (pIA Tryz.underlying37 vV rfl rfl qa) fun a hf=>zE hf hc rfl (jM (vs:=[.bool M.Known,i6 M.Flow.Lo,i6 M.Flow.Hi]) uN rfl rfl (cI qp (n:=3) (o':=0) rfl)) fun a w hf hc=>zA hf hc aEd rfl fun Z a w hf hc=>sp 1 hf rfl fun a hf=>zW hf hc vV u0 rfl fun w hc=>zT h ?_
   refine zS fun K h=>zP hf rfl (pFA kZ rfl) fun a hf=>zL hf hc sN m1 rfl fun a w hf hc=>zP hf rfl (bM Tryz.underlying37 rfl) fun a hf=>sp 1 hf rfl fun a hf=>zT h ?_
   refine mA fun K17 ay=>wp_block ?_
   obtain ⟨t,ai,hF⟩:=aB hF
   let S18:Int→Act→World→Prop:=(fun (zz:Int) a w=>Has 78 a [(1,pq R),(6,i6 i),(7,i6 g),(8,i6 d),(9,i6 x),(10,pq Z),(21,.slice D r.Days.length B),(22,i6 ((r.Days.length:Nat):Int)),(23,i6 x),(29,.slice D r.Days.length B),(30,i6 ((r.Days.length:Nat):Int)),(31,i6 zz)]∧Ctx G (.box Z [.bool M.Known,i6 M.Flow.Lo,i6 M.Flow.Hi] 52::.box R [i6 r.Rise,i6 r.Fall,.slice D r.Days.length B] 39::Lf) w)
   have ak:∀ (zz:Int) a w,t=.go zz→S18 zz a w→K17 a w:=by
    rintro H a w rfl ⟨hf,hc⟩
    replace hF:=bW hF
    refine ay _ _ ?_
    refine a2 _ _ ?_
    refine dE ?_
    refine sp 2 hf rfl fun a hf=>aP ?_
    replace hc:=hc.drop k0
    exact ag (i,g,d,W (x + 1)) _ _ (sj hF).symm ⟨hf.kp rfl,hc⟩
   have aa:∀ r,t=.out r→r=an:=by
    rintro r rfl
    exact sj hF
   refine dO N (dH (S:=S18) (x:=t) ?_ N 0 _ _ ⟨hf.kp rfl,hc⟩ ai)
   clear hF hf hc
   rintro H a4 a w KB18 ⟨hf,hc⟩ hF X aq
   unfold tT at hF
   refine zS fun K h=>sp 1 hf rfl fun a hf=>zT h ?_
   refine wp_seq_k fun K20 av=>zI hf rfl hF ?_ ?_ <;> clear hF <;> intro hF
   ·refine wp_skip ?_
    refine av _ _ ?_
    refine wp_seq_k fun K21 a0=>wp_block ?_
    refine zS fun K h=>sp 1 hf rfl fun a hf=>?_
    obtain ⟨O,af,hF⟩:=aB hF
    obtain ⟨a5,a7,aj,ac⟩:=U.atm af
    refine zP hf rfl (pIA Tryz.underlying37 vV rfl rfl aj) fun a hf=>zE hf hc rfl (jM (vs:=[.bool O.Known,i6 O.Flow.Lo,i6 O.Flow.Hi]) uN rfl rfl (cI ac (n:=3) (o':=0) rfl)) fun a w hf hc=>zA hf hc aEd rfl fun q a w hf hc=>sp 1 hf rfl fun a hf=>zW hf hc vV u0 rfl fun w hc=>zT h ?_
    refine wp_seq_k fun K23 a1=>?_
    obtain ⟨I,am,hF⟩:=aB hF
    obtain ⟨J,ap,hF⟩:=aB hF
    replace hc:=hc.nilRow 0 0
    replace hc:=hc.nilRow 0 0
    refine fI (fun θ=>[⟨none,none,1,pq R⟩,⟨none,none,6,i6 i⟩,⟨none,none,7,i6 g⟩,⟨none,none,8,i6 d⟩,⟨none,none,9,i6 x⟩,⟨none,none,10,pq Z⟩,⟨none,none,11,i6 H⟩,⟨none,none,12,pq q⟩,⟨none,none,21,.slice D r.Days.length B⟩,⟨none,none,22,i6 ((r.Days.length:Nat):Int)⟩,⟨none,none,23,i6 x⟩,⟨none,none,29,.slice D r.Days.length B⟩,⟨none,none,30,i6 ((r.Days.length:Nat):Int)⟩,⟨none,none,31,i6 H⟩,⟨some 0,none,36,.agg #[.bool M.Known,i6 M.Flow.Lo,i6 M.Flow.Hi]⟩,⟨some 1,none,37,.agg #[i6 I.Lo,i6 I.Hi]⟩,⟨some 2,none,38,.agg #[.bool O.Known,i6 O.Flow.Lo,i6 O.Flow.Hi]⟩,⟨some 3,none,39,.agg #[i6 J.Lo,i6 J.Hi]⟩,⟨some 4,none,13,.pointer (some ⟨(θ 32).b,0,none⟩)⟩,⟨some 5,none,14,.pointer (some ⟨(θ 40).b,0,none⟩)⟩]) (fun E θ=>(bif E 7 then .box (θ 40).b [i6 J.Lo,i6 J.Hi] 41 else bif E 5 then .box (θ 40).b [i6 0,i6 0] 41 else .row none 0 [] 0 0)::(bif E 6 then .box (θ 32).b [i6 I.Lo,i6 I.Hi] 41 else bif E 4 then .box (θ 32).b [i6 0,i6 0] 41 else .row none 0 [] 0 0)::.box q [.bool O.Known,i6 O.Flow.Lo,i6 O.Flow.Hi] 52::.box Z [.bool M.Known,i6 M.Flow.Lo,i6 M.Flow.Hi] 52::.box R [i6 r.Rise,i6 r.Fall,.slice D r.Days.length B] 39::Lf) [(6,4),(7,5)] (fun a w=>∃ (j:Nat) (Y:Nat),Has 78 a [(1,pq R),(6,i6 i),(7,i6 g),(8,i6 d),(9,i6 x),(10,pq Z),(11,i6 H),(21,.slice D r.Days.length B),(22,i6 ((r.Days.length:Nat):Int)),(23,i6 x),(29,.slice D r.Days.length B),(30,i6 ((r.Days.length:Nat):Int)),(31,i6 H),(13,pq j),(14,pq Y)]∧Ctx G (.box Y [i6 J.Lo,i6 J.Hi] 41::.box j [i6 I.Lo,i6 I.Hi] 41::.box q [.bool O.Known,i6 O.Flow.Lo,i6 O.Flow.Hi] 52::.box Z [.bool M.Known,i6 M.Flow.Lo,i6 M.Flow.Hi] 52::.box R [i6 r.Rise,i6 r.Fall,.slice D r.Days.length B] 39::Lf) w) aT (by kernel_rfl) (by kernel_rfl) (eZ.of hf ⟨rfl,rfl,rfl,rfl,rfl,rfl,rfl,rfl,rfl,rfl,rfl,rfl,rfl,rfl,trivial,trivial,trivial,trivial,trivial,trivial,trivial⟩) hc ⟨?_,?_,?_,?_,?_,?_,?_,?_,trivial⟩ ?_ ?_
    ·intro E θ a w hD hi hp he hc
     have hf:=he.h0.mT he 5 rfl
     refine zN hf hc uN m3 rfl fun a w hf hc=>zD θ he hi hf 14 rfl rfl rfl hc
    ·intro E θ a w hD hi hp he hc
     have e0:=hp.o 0 rfl
     have hf:=he.h0.mP he 14 rfl e0
     refine zQ (v:=.agg #[i6 I.Lo,i6 I.Hi]) hf hc aFt rfl (fun w hc=>jO M hc am) fun a w hf hc=>zD θ he hi hf 15 rfl rfl rfl hc
    ·intro E θ a w hD hi hp he hc
     have hf:=he.h0.mT he 7 rfl
     refine zN hf hc uN m2 rfl fun a w hf hc=>zD θ he hi hf 16 rfl rfl rfl hc
    ·intro E θ a w hD hi hp he hc
     have e2:=hp.o 2 rfl
     have hf:=he.h0.mP he 16 rfl e2
     refine zQ (v:=.agg #[i6 J.Lo,i6 J.Hi]) hf hc aFt rfl (fun w hc=>jO O hc ap) fun a w hf hc=>zD θ he hi hf 17 rfl rfl rfl hc
    ·intro E θ a w hD hi hp he hc
     have e6:=hD.f 0 rfl hi
     try dsimp only at hc
     rw [hi,e6] at hc
     have hf:=he.h0
     refine zA hf hc kX rfl fun ax a w hf hc=>aP ?_
     refine eY ?_
     intro ds u y
     replace hc:=((hc.drop k2).pick k0).pick k1
     refine ⟨(qW θ 32 ⟨ax,none,0,(fun _=>(none,0))⟩),he.put hi y hf rfl [] trivial ⟨qq,qq,qq,qq,qq,qq,qq,qq,qq,qq,qq,qq,qq,qq,qq,qq,qq,qq,qq,qq,trivial⟩,?_⟩
     try dsimp only
     rw [aR E 4,aQ 4 e6 rfl]
     exact hc
    ·intro E θ a w hD hi hp he hc
     have e7:=hD.f 1 rfl hi
     try dsimp only at hc
     rw [hi,e7] at hc
     have hf:=he.h0
     refine zA hf hc kX rfl fun au a w hf hc=>aP ?_
     refine eY ?_
     intro ds u y
     replace hc:=hc.drop k1
     refine ⟨(qW θ 40 ⟨au,none,0,(fun _=>(none,0))⟩),he.put hi y hf rfl [] trivial ⟨qq,qq,qq,qq,qq,qq,qq,qq,qq,qq,qq,qq,qq,qq,qq,qq,qq,qq,qq,qq,trivial⟩,?_⟩
     try dsimp only
     rw [aR E 5,aQ 5 e7 rfl]
     exact hc
    ·intro E θ a w hD hi hp he hc
     have e1:=hp.o 1 rfl
     have e4:=hp.o 4 rfl
     try dsimp only at hc
     rw [e4,hi] at hc
     have hf:=(he.h0.mP he 15 rfl e1).mP he 18 rfl e4
     refine zW hf hc cA u1 rfl fun w hc=>zG θ he hi hf rfl ?_
     try dsimp only
     rw [cV 6 e4,aR E 6]
     exact hc
    ·intro E θ a w hD hi hp he hc
     have e3:=hp.o 3 rfl
     have e5:=hp.o 5 rfl
     try dsimp only at hc
     rw [e5,hi] at hc
     have hf:=(he.h0.mP he 17 rfl e3).mP he 19 rfl e5
     refine zW hf hc cA u0 rfl fun w hc=>zG θ he hi hf rfl ?_
     try dsimp only
     rw [cV 7 e5,aR E 7]
     exact hc
    ·intro E θ a w k he hc
     have hf:=he.h0
     have e4:=k 4 rfl
     have e5:=k 5 rfl
     have e6:=k 6 rfl
     have e7:=k 7 rfl
     replace hf:=hf.more he 19 rfl (onP e5)
     replace hf:=hf.more he 18 rfl (onP e4)
     replace hf:=hf.more he 13 rfl (onT)
     replace hf:=hf.more he 12 rfl (onT)
     replace hf:=hf.more he 11 rfl (onT)
     replace hf:=hf.more he 10 rfl (onT)
     replace hf:=hf.more he 9 rfl (onT)
     replace hf:=hf.more he 8 rfl (onT)
     replace hf:=hf.more he 6 rfl (onT)
     replace hf:=hf.more he 5 rfl (onT)
     replace hf:=hf.more he 4 rfl (onT)
     replace hf:=hf.more he 3 rfl (onT)
     replace hf:=hf.more he 2 rfl (onT)
     replace hf:=hf.more he 1 rfl (onT)
     replace hf:=hf.more he 0 rfl (onT)
     try dsimp only at hc
     rw [e4,e5,e6,e7] at hc
     exact ⟨(θ 32).b,(θ 40).b,hf.kp rfl,hc⟩
    rintro a w ⟨j,Y,hf,hc⟩
    refine a1 _ _ ?_
    refine zS fun K h=>sp 4 hf rfl fun a hf=>hY 27 (fun a=>Has 78 a [(1,pq R),(6,i6 i),(7,i6 g),(8,i6 d),(9,i6 x),(10,pq Z),(11,i6 H),(21,.slice D r.Days.length B),(22,i6 ((r.Days.length:Nat):Int)),(23,i6 x),(29,.slice D r.Days.length B),(30,i6 ((r.Days.length:Nat):Int)),(31,i6 H),(13,pq j),(14,pq Y),(40,i6 H),(41,i6 x),(42,.bool (decide (x < H))),(43,.bool (decide (x < H))),(70,.bool ((decide (x < H)) && ((decide ((W (I.Hi + (W (r.Rise * (W (H - x)))))) < J.Lo)) || (decide (J.Hi < (W (I.Lo - (W (r.Fall * (W (H - x)))))))))))]) hc ?_ ?_
    ·cases hb:(decide (x < H))
     ·rw [hb] at hf
      refine stS hf rfl rfl rfl fun a hf=>stS hf rfl rfl rfl fun a hf=>stS hf rfl rfl rfl fun a hf=>stS hf rfl rfl rfl fun a hf=>stS hf rfl rfl rfl fun a hf=>stS hf rfl rfl rfl fun a hf=>stS hf rfl rfl rfl fun a hf=>stS hf rfl rfl rfl fun a hf=>stS hf rfl rfl rfl fun a hf=>stS hf rfl rfl rfl fun a hf=>stS hf rfl rfl rfl fun a hf=>stS hf rfl rfl rfl fun a hf=>stS hf rfl rfl rfl fun a hf=>?_
      refine stS hf rfl rfl rfl fun a hf=>stS hf rfl rfl rfl fun a hf=>stS hf rfl rfl rfl fun a hf=>stS hf rfl rfl rfl fun a hf=>stS hf rfl rfl rfl fun a hf=>stS hf rfl rfl rfl fun a hf=>stS hf rfl rfl rfl fun a hf=>stS hf rfl rfl rfl fun a hf=>stS hf rfl rfl rfl fun a hf=>stS hf rfl rfl rfl fun a hf=>stS hf rfl rfl rfl fun a hf=>stS hf rfl rfl rfl fun a hf=>stS hf rfl rfl rfl fun a hf=>?_
      refine sp 1 hf rfl fun a hf=>aP ⟨hf.kp rfl,hc⟩
     ·rw [hb] at hf
      refine zP hf rfl (pFA dC rfl) fun a hf=>zL hf hc aU m1 rfl fun a w hf hc=>zP hf rfl (pFA sV rfl) fun a hf=>zL hf hc aU m4 rfl fun a w hf hc=>sp 5 hf rfl fun a hf=>zP hf rfl (pFA dS rfl) fun a hf=>zL hf hc aU m0 rfl fun a w hf hc=>sp 2 hf rfl fun a hf=>hY 13 (fun a=>Has 78 a ((1,pq R)::(6,i6 i)::(7,i6 g)::(8,i6 d)::(9,i6 x)::(10,pq Z)::(11,i6 H)::(21,.slice D r.Days.length B)::(22,i6 ((r.Days.length:Nat):Int))::(23,i6 x)::(29,.slice D r.Days.length B)::(30,i6 ((r.Days.length:Nat):Int))::(31,i6 H)::(13,pq j)::(14,pq Y)::(40,i6 H)::(41,i6 x)::(42,.bool true)::(43,.bool true)::(44,.pointer (some ⟨j,1,none⟩))::(45,i6 I.Hi)::(46,pq R)::(47,i6 r.Rise)::(48,i6 H)::(49,i6 x)::(50,i6 (W (H - x)))::(51,i6 (W (r.Rise * (W (H - x)))))::(52,i6 (W (I.Hi + (W (r.Rise * (W (H - x)))))))::(53,pq Y)::(54,i6 J.Lo)::(55,.bool (decide ((W (I.Hi + (W (r.Rise * (W (H - x)))))) < J.Lo)))::(56,.bool (decide ((W (I.Hi + (W (r.Rise * (W (H - x)))))) < J.Lo)))::(69,.bool ((decide ((W (I.Hi + (W (r.Rise * (W (H - x)))))) < J.Lo)) || (decide (J.Hi < (W (I.Lo - (W (r.Fall * (W (H - x))))))))))::[])) hc ?_ ?_
      ·cases hb:(decide ((W (I.Hi + (W (r.Rise * (W (H - x)))))) < J.Lo))
       ·rw [hb] at hf
        refine zP hf rfl (pFA dS rfl) fun a hf=>zL hf hc aU m1 rfl fun a w hf hc=>zP hf rfl (pFA tF rfl) fun a hf=>zL hf hc aU m4 rfl fun a w hf hc=>sp 5 hf rfl fun a hf=>zP hf rfl (pFA dC rfl) fun a hf=>zL hf hc aU m0 rfl fun a w hf hc=>sp 2 hf rfl fun a hf=>aP ⟨hf.kp rfl,hc⟩
       ·rw [hb] at hf
        refine stS hf rfl rfl rfl fun a hf=>stS hf rfl rfl rfl fun a hf=>stS hf rfl rfl rfl fun a hf=>stS hf rfl rfl rfl fun a hf=>stS hf rfl rfl rfl fun a hf=>stS hf rfl rfl rfl fun a hf=>stS hf rfl rfl rfl fun a hf=>stS hf rfl rfl rfl fun a hf=>stS hf rfl rfl rfl fun a hf=>stS hf rfl rfl rfl fun a hf=>stS hf rfl rfl rfl fun a hf=>stS hf rfl rfl rfl fun a hf=>sp 1 hf rfl fun a hf=>?_
        exact aP ⟨hf.kp rfl,hc⟩
      intro a w ⟨hf,hc⟩
      refine sp 1 hf rfl fun a hf=>aP ⟨hf.kp rfl,hc⟩
    intro a w ⟨hf,hc⟩
    refine zT h ?_
    refine zI hf rfl hF ?_ ?_ <;> clear hF <;> intro hF
    ·refine zS fun K h=>sp 5 hf rfl fun a hf=>zT h ?_
     refine wp_exit ?_
     refine nS rfl ?_
     refine aV ?_
     refine aV ?_
     have he:=sj hF
     rw [← he] at X
     replace hF:=aa _ X
     refine nS rfl ?_
     refine aV ?_
     refine nS rfl ?_
     refine aV ?_
     refine aV ?_
     replace hc:=(((hc.drop k3).drop k2).drop k1).drop k0
     have he:=hF
     rw [← he] at V
     refine eW ?_
     exact p _ _ _ V ⟨hf.kp rfl,hc⟩
    ·refine wp_skip ?_
     refine a0 _ _ ?_
     refine dE ?_
     refine sp 2 hf rfl fun a hf=>aP ?_
     replace hc:=((hc.drop k2).drop k1).drop k0
     exact aq (W (H + 1)) _ _ (sj hF).symm ⟨hf.kp rfl,hc⟩
   ·refine wp_exit ?_
    refine aV ?_
    refine aV ?_
    have he:=sj hF
    rw [← he] at X
    refine eW ?_
    exact ak _ _ _ X ⟨hf.kp rfl,hc⟩
  ·refine wp_exit ?_
   refine aV ?_
   refine aV ?_
   have he:=sj hF
   rw [← he] at V
   refine eW ?_
   exact p _ _ _ V ⟨hf.kp rfl,hc⟩

def pB (N:Nat) (a_:List aA) (b_:List aA) (B:Int):Option (cY (Int) (Bool)) :=
 cond (decide (B < ((a_.length:Nat):Int)))
 (Option.bind (bG a_ B) fun H=>
 Option.bind (bG b_ B) fun D=>
 cond (!(H.Lo == D.Lo && H.Hi == D.Hi))
 (some (.ret false))
 (some (.cont (W (B + 1)))))
 (some (.brk B))
def nA (N:Nat) (a_:List aA) (b_:List aA):Option (Bool) :=
 cond (((a_.length:Nat):Int) != ((b_.length:Nat):Int))
 (some false)
 (Option.bind (bE (fun s7=>pB N a_ b_ s7) N 0) fun x7=>
 exK x7 (fun s7=>some true) some)
theorem uK {N:Nat} {G:aS} {Lf:List Ent} {w:World} (a_:List aA) (b_:List aA) {I:Option Addr} {J:Nat} {D:Option Addr} {H:Nat} (X:Rd G 2 I J (a_.map aC)) (d:Rd G 2 D H (b_.map aC)) (hc:Ctx G (Lf) w) {M:Bool} (hF:nA N a_ b_=some M):Calls Tryz.prog 45 #[.slice I a_.length J,.slice D b_.length H] w (fun e w=>e=.returned (.bool M)∧Ctx G (Lf) w):=by
 unfold nA at hF
 refine cB Tryz.func45 rfl Tryz.ntmps45 rfl fun a hf=>zS fun K h=>sp 1 hf rfl fun a hf=>zT h ?_
 refine wp_seq_k fun K2 h2=>zS fun K h=>sp 1 hf rfl fun a hf=>zP hf rfl (bM Tryz.underlying54 rfl) fun a hf=>sp 1 hf rfl fun a hf=>zP hf rfl (bM Tryz.underlying54 rfl) fun a hf=>sp 1 hf rfl fun a hf=>zT h ?_
 refine zI hf rfl hF ?_ ?_ <;> clear hF <;> intro hF
 ·refine zS fun K h=>sp 1 hf rfl fun a hf=>zT h ?_
  refine wp_ret ?_
  refine aO ?_
  obtain rfl:=sj hF
  exact zO1 Tryz.results45 hf rfl ⟨rfl,hc⟩
 ·refine wp_skip ?_
  refine h2 _ _ ?_
  refine wp_seq_k fun K5 h5=>zS fun K h=>sp 1 hf rfl fun a hf=>zT h ?_
  refine wp_block ?_
  obtain ⟨x7,m,hF⟩:=aB hF
  let S7:Int→Act→World→Prop:=(fun (zz:Int) a w=>Has 26 a [(0,.slice I a_.length J),(1,.slice D b_.length H),(5,i6 zz)]∧Ctx G (Lf) w)
  have j:∀ (zz:Int) a w,x7=.go zz→S7 zz a w→K5 a w:=by
   rintro U a w rfl ⟨hf,hc⟩
   replace hF:=bW hF
   refine h5 _ _ ?_
   refine zS fun K h=>sp 1 hf rfl fun a hf=>zT h ?_
   refine wp_ret ?_
   obtain rfl:=sj hF
   exact zO1 Tryz.results45 hf rfl ⟨rfl,hc⟩
  have p:∀ r,x7=.out r→r=M:=by
   rintro r rfl
   exact sj hF
  refine dO N (dH (S:=S7) (x:=x7) ?_ N 0 _ _ ⟨hf.kp rfl,hc⟩ m)
  clear hF hf hc
  rintro U s a w KB7 ⟨hf,hc⟩ hF B i
  unfold pB at hF
  refine wp_seq_k fun K9 h9=>zS fun K h=>sp 2 hf rfl fun a hf=>zP hf rfl (bM Tryz.underlying54 rfl) fun a hf=>sp 1 hf rfl fun a hf=>zT h ?_
  refine zI hf rfl hF ?_ ?_ <;> clear hF <;> intro hF
  ·refine wp_skip ?_
   refine h9 _ _ ?_
   refine wp_seq_k fun K11 k=>wp_block ?_
   refine wp_seq_k fun K12 g=>?_
   obtain ⟨O,Y,hF⟩:=aB hF
   obtain ⟨q,o,qa,qp⟩:=X.atm Y
   obtain ⟨R,Z,hF⟩:=aB hF
   obtain ⟨u,t,V,b⟩:=d.atm Z
   refine cQ hc aT (by kernel_rfl) ?_
   refine qE hf rfl rfl rfl (Pu.ev (pM rfl)) fun a hf=>qE hf rfl rfl rfl (Pu.ev (pM rfl)) fun a hf=>qE hf rfl rfl rfl (Pu.ev (pIA Tryz.underlying54 cA rfl rfl qa)) fun a hf=>qE hf rfl rfl rfl (jM (vs:=[i6 O.Lo,i6 O.Hi]) eA rfl rfl (cI qp (n:=2) (o':=0) rfl)) fun a hf=>qE hf rfl rfl rfl (Pu.ev (pM rfl)) fun a hf=>qE hf rfl rfl rfl (Pu.ev (pM rfl)) fun a hf=>qE hf rfl rfl rfl (Pu.ev (pIA Tryz.underlying54 cA rfl rfl V)) fun a hf=>qE hf rfl rfl rfl (jM (vs:=[i6 R.Lo,i6 R.Hi]) eA rfl rfl (cI b (n:=2) (o':=0) rfl)) fun a hf=>qE hf rfl rfl rfl (Pu.ev (pNeA aHo rfl rfl (aFb _ _ _ _))) fun a hf=>?_
   intro w hc
   refine g _ _ ?_
   refine zI hf rfl hF ?_ ?_ <;> clear hF <;> intro hF
   ·refine zS fun K h=>sp 1 hf rfl fun a hf=>zT h ?_
    refine wp_ret ?_
    refine bU ?_
    refine aO ?_
    refine aO ?_
    have he:=sj hF
    rw [← he] at B
    replace hF:=p _ B
    refine bU ?_
    refine aO ?_
    obtain rfl:=hF
    exact zO1 Tryz.results45 hf rfl ⟨rfl,hc⟩
   ·refine wp_skip ?_
    refine k _ _ ?_
    refine dE ?_
    refine sp 3 hf rfl fun a hf=>aP ?_
    exact i (W (U + 1)) _ _ (sj hF).symm ⟨hf.kp rfl,hc⟩
  ·refine wp_exit ?_
   refine aV ?_
   refine aV ?_
   have he:=sj hF
   rw [← he] at B
   refine eW ?_
   exact j _ _ _ B ⟨hf.kp rfl,hc⟩

def tO (N:Nat) (a_:List Int) (b_:List Int) (B:Int):Option (cY (Int) (Bool)) :=
 cond (decide (B < ((a_.length:Nat):Int)))
 (Option.bind (bG a_ B) fun H=>
 Option.bind (bG b_ B) fun D=>
 cond (H != D)
 (some (.ret false))
 (some (.cont (W (B + 1)))))
 (some (.brk B))
def nE (N:Nat) (a_:List Int) (b_:List Int):Option (Bool) :=
 cond (((a_.length:Nat):Int) != ((b_.length:Nat):Int))
 (some false)
 (Option.bind (bE (fun s7=>tO N a_ b_ s7) N 0) fun x7=>
 exK x7 (fun s7=>some true) some)
theorem pI {N:Nat} {G:aS} {Lf:List Ent} {w:World} (a_:List Int) (b_:List Int) {I:Option Addr} {J:Nat} {D:Option Addr} {H:Nat} (U:Rd G 1 I J (a_.map aD)) (Z:Rd G 1 D H (b_.map aD)) (hc:Ctx G (Lf) w) {M:Bool} (hF:nE N a_ b_=some M):Calls Tryz.prog 46 #[.slice I a_.length J,.slice D b_.length H] w (fun e w=>e=.returned (.bool M)∧Ctx G (Lf) w):=by
 unfold nE at hF
 refine cB Tryz.func46 rfl Tryz.ntmps46 rfl fun a hf=>zS fun K h=>sp 1 hf rfl fun a hf=>zT h ?_
 refine wp_seq_k fun K2 h2=>zS fun K h=>sp 1 hf rfl fun a hf=>zP hf rfl (bM Tryz.underlying27 rfl) fun a hf=>sp 1 hf rfl fun a hf=>zP hf rfl (bM Tryz.underlying27 rfl) fun a hf=>sp 1 hf rfl fun a hf=>zT h ?_
 refine zI hf rfl hF ?_ ?_ <;> clear hF <;> intro hF
 ·refine zS fun K h=>sp 1 hf rfl fun a hf=>zT h ?_
  refine wp_ret ?_
  refine aO ?_
  obtain rfl:=sj hF
  exact zO1 Tryz.results46 hf rfl ⟨rfl,hc⟩
 ·refine wp_skip ?_
  refine h2 _ _ ?_
  refine wp_seq_k fun K5 h5=>zS fun K h=>sp 1 hf rfl fun a hf=>zT h ?_
  refine wp_block ?_
  obtain ⟨x7,k,hF⟩:=aB hF
  let S7:Int→Act→World→Prop:=(fun (zz:Int) a w=>Has 26 a [(0,.slice I a_.length J),(1,.slice D b_.length H),(5,i6 zz)]∧Ctx G (Lf) w)
  have g:∀ (zz:Int) a w,x7=.go zz→S7 zz a w→K5 a w:=by
   rintro O a w rfl ⟨hf,hc⟩
   replace hF:=bW hF
   refine h5 _ _ ?_
   refine zS fun K h=>sp 1 hf rfl fun a hf=>zT h ?_
   refine wp_ret ?_
   obtain rfl:=sj hF
   exact zO1 Tryz.results46 hf rfl ⟨rfl,hc⟩
  have m:∀ r,x7=.out r→r=M:=by
   rintro r rfl
   exact sj hF
  refine dO N (dH (S:=S7) (x:=x7) ?_ N 0 _ _ ⟨hf.kp rfl,hc⟩ k)
  clear hF hf hc
  rintro O q a w KB7 ⟨hf,hc⟩ hF B d
  unfold tO at hF
  refine wp_seq_k fun K9 h9=>zS fun K h=>sp 2 hf rfl fun a hf=>zP hf rfl (bM Tryz.underlying27 rfl) fun a hf=>sp 1 hf rfl fun a hf=>zT h ?_
  refine zI hf rfl hF ?_ ?_ <;> clear hF <;> intro hF
  ·refine wp_skip ?_
   refine h9 _ _ ?_
   refine wp_seq_k fun K11 i=>wp_block ?_
   refine wp_seq_k fun K12 b=>?_
   obtain ⟨p,V,hF⟩:=aB hF
   obtain ⟨n,o,qa,qp⟩:=U.atm V
   obtain ⟨s,X,hF⟩:=aB hF
   obtain ⟨u,t,R,Y⟩:=Z.atm X
   refine cQ hc aT (by kernel_rfl) ?_
   refine qE hf rfl rfl rfl (Pu.ev (pM rfl)) fun a hf=>qE hf rfl rfl rfl (Pu.ev (pM rfl)) fun a hf=>qE hf rfl rfl rfl (Pu.ev (pIA Tryz.underlying27 eL rfl rfl qa)) fun a hf=>qE hf rfl rfl rfl (cE aU rfl (dX (j:=0) qp rfl)) fun a hf=>qE hf rfl rfl rfl (Pu.ev (pM rfl)) fun a hf=>qE hf rfl rfl rfl (Pu.ev (pM rfl)) fun a hf=>qE hf rfl rfl rfl (Pu.ev (pIA Tryz.underlying27 eL rfl rfl R)) fun a hf=>qE hf rfl rfl rfl (cE aU rfl (dX (j:=0) Y rfl)) fun a hf=>qE hf rfl rfl rfl (Pu.ev (pNe rfl rfl)) fun a hf=>?_
   intro w hc
   refine b _ _ ?_
   refine zI hf rfl hF ?_ ?_ <;> clear hF <;> intro hF
   ·refine zS fun K h=>sp 1 hf rfl fun a hf=>zT h ?_
    refine wp_ret ?_
    refine bU ?_
    refine aO ?_
    refine aO ?_
    have he:=sj hF
    rw [← he] at B
    replace hF:=m _ B
    refine bU ?_
    refine aO ?_
    obtain rfl:=hF
    exact zO1 Tryz.results46 hf rfl ⟨rfl,hc⟩
   ·refine wp_skip ?_
    refine i _ _ ?_
    refine dE ?_
    refine sp 3 hf rfl fun a hf=>aP ?_
    exact d (W (O + 1)) _ _ (sj hF).symm ⟨hf.kp rfl,hc⟩
  ·refine wp_exit ?_
   refine aV ?_
   refine aV ?_
   have he:=sj hF
   rw [← he] at B
   refine eW ?_
   exact g _ _ _ B ⟨hf.kp rfl,hc⟩

def gA (x:aA):Bool :=
 (!(jZ x))
theorem pP {G:aS} {Lf:List Ent} {w:World} (x:aA) {b_:Nat}  (hc:Ctx G (.box b_ [.func (.func 69) #[] #[]] 138::Lf) w) {B:Bool} (hF:gA x=B):Calls Tryz.prog 97 #[.agg #[i6 x.Lo,i6 x.Hi],pq b_] w (fun e w=>e=.returned (.bool B)∧Ctx G (.box b_ [.func (.func 69) #[] #[]] 138::Lf) w):=by
 unfold gA at hF
 refine cB Tryz.func97 rfl Tryz.ntmps97 rfl fun a hf=>zS fun K h=>zB hf hc rfl fun D a w hf hc=>sp 1 hf rfl fun a hf=>zT h ?_
 refine zS fun K h=>zL hf hc aIn m1 rfl fun a w hf hc=>zN hf hc eA m0 rfl fun a w hf hc=>zQ (v:=.bool (jZ x)) hf hc aKd rfl (fun w hc=>uC x hc rfl) fun a w hf hc=>sp 2 hf rfl fun a hf=>zT h ?_
 refine wp_ret ?_
 obtain rfl:=hF
 replace hc:=hc.drop k0
 exact zO1 Tryz.results97 hf rfl ⟨rfl,hc⟩

def fW (N:Nat) (s_:List aA) (x:Int):Option (cY (Int) (Int)) :=
 cond (decide (x < ((s_.length:Nat):Int)))
 (Option.bind (bG s_ x) fun B=>
 cond (gA B)
 (some (.ret x))
 (some (.cont (W (x + 1)))))
 (some (.brk x))
def dY (N:Nat) (s_:List aA):Option (Int) :=
 Option.bind (bE (fun s4=>fW N s_ s4) N 0) fun x4=>
 exK x4 (fun s4=>some (-1)) some
theorem kN {N:Nat} {G:aS} {Lf:List Ent} {w:World} (s_:List aA) {D:Option Addr} {H:Nat} {b_:Nat} (M:Rd G 2 D H (s_.map aC)) (hc:Ctx G (.box b_ [.func (.func 69) #[] #[]] 138::Lf) w) {J:Int} (hF:dY N s_=some J):Calls Tryz.prog 108 #[.slice D s_.length H,.func (.func 97) #[] #[pq b_]] w (fun e w=>e=.returned (i6 J)∧Ctx G (.box b_ [.func (.func 69) #[] #[]] 138::Lf) w):=by
 unfold dY at hF
 refine cB Tryz.func108 rfl Tryz.ntmps108 rfl fun a hf=>zS fun K h=>sp 1 hf rfl fun a hf=>zT h ?_
 refine wp_seq_k fun K2 h2=>zS fun K h=>sp 1 hf rfl fun a hf=>zP hf rfl (bM Tryz.underlying54 rfl) fun a hf=>sp 1 hf rfl fun a hf=>zT h ?_
 refine wp_block ?_
 obtain ⟨x4,U,hF⟩:=aB hF
 let S4:Int→Act→World→Prop:=(fun (zz:Int) a w=>Has 19 a [(0,.slice D s_.length H),(1,.func (.func 97) #[] #[pq b_]),(7,i6 ((s_.length:Nat):Int)),(8,i6 zz)]∧Ctx G (.box b_ [.func (.func 69) #[] #[]] 138::Lf) w)
 have V:∀ (zz:Int) a w,x4=.go zz→S4 zz a w→K2 a w:=by
  rintro x a w rfl ⟨hf,hc⟩
  replace hF:=bW hF
  refine h2 _ _ ?_
  refine zS fun K h=>sp 1 hf rfl fun a hf=>zT h ?_
  refine wp_ret ?_
  obtain rfl:=sj hF
  exact zO1 Tryz.results108 hf rfl ⟨rfl,hc⟩
 have R:∀ r,x4=.out r→r=J:=by
  rintro r rfl
  exact sj hF
 refine dO N (dH (S:=S4) (x:=x4) ?_ N 0 _ _ ⟨hf.kp rfl,hc⟩ U)
 clear hF hf hc
 rintro x Y a w KB4 ⟨hf,hc⟩ hF B X
 unfold fW at hF
 refine zS fun K h=>sp 1 hf rfl fun a hf=>zT h ?_
 refine wp_seq_k fun K7 h7=>zI hf rfl hF ?_ ?_ <;> clear hF <;> intro hF
 ·refine wp_skip ?_
  refine h7 _ _ ?_
  refine wp_seq_k fun K8 h8=>wp_block ?_
  refine zS fun K h=>sp 2 hf rfl fun a hf=>zT h ?_
  refine zS fun K h=>sp 3 hf rfl fun a hf=>?_
  obtain ⟨I,O,hF⟩:=aB hF
  obtain ⟨Z,o,qa,qp⟩:=M.atm O
  refine zP hf rfl (pIA Tryz.underlying54 cA rfl rfl qa) fun a hf=>zE hf hc rfl (jM (vs:=[i6 I.Lo,i6 I.Hi]) eA rfl rfl (cI qp (n:=2) (o':=0) rfl)) fun a w hf hc=>zQ (v:=.bool (gA I)) hf hc aJ8 rfl (fun w hc=>(pP I (hc.pick k0) rfl).mono fun e w h=>⟨h.1,(h.2.unpick k0)⟩) fun a w hf hc=>zT h ?_
  refine zI hf rfl hF ?_ ?_ <;> clear hF <;> intro hF
  ·refine zS fun K h=>sp 2 hf rfl fun a hf=>zT h ?_
   refine wp_ret ?_
   refine bU ?_
   refine aO ?_
   refine aO ?_
   have he:=sj hF
   rw [← he] at B
   replace hF:=R _ B
   refine bU ?_
   refine aO ?_
   obtain rfl:=hF
   exact zO1 Tryz.results108 hf rfl ⟨rfl,hc⟩
  ·refine wp_skip ?_
   refine h8 _ _ ?_
   refine dE ?_
   refine sp 2 hf rfl fun a hf=>aP ?_
   exact X (W (x + 1)) _ _ (sj hF).symm ⟨hf.kp rfl,hc⟩
 ·refine wp_exit ?_
  refine aV ?_
  refine aV ?_
  have he:=sj hF
  rw [← he] at B
  refine eW ?_
  exact V _ _ _ B ⟨hf.kp rfl,hc⟩

def dQ (N:Nat) (s_:List aA):Option (Bool) :=
 Option.bind (dY N s_) fun r=>
 some (decide (0≤r))
theorem jR {N:Nat} {G:aS} {Lf:List Ent} {w:World} (s_:List aA) {D:Option Addr} {B:Nat} {b_:Nat} (I:Rd G 2 D B (s_.map aC)) (hc:Ctx G (.box b_ [.func (.func 69) #[] #[]] 138::Lf) w) {H:Bool} (hF:dQ N s_=some H):Calls Tryz.prog 96 #[.slice D s_.length B,.func (.func 97) #[] #[pq b_]] w (fun e w=>e=.returned (.bool H)∧Ctx G (.box b_ [.func (.func 69) #[] #[]] 138::Lf) w):=by
 unfold dQ at hF
 refine cB Tryz.func96 rfl Tryz.ntmps96 rfl fun a hf=>zS fun K h=>sp 1 hf rfl fun a hf=>zT h ?_
 refine zS fun K h=>sp 2 hf rfl fun a hf=>?_
 obtain ⟨r,hr,hF⟩:=aB hF
 refine zQ (v:=i6 r) hf hc aH6 rfl (fun w hc=>(kN s_ I (hc.pick k0) hr).mono fun e w h=>⟨h.1,(h.2.unpick k0)⟩) fun a w hf hc=>sp 2 hf rfl fun a hf=>zT h ?_
 refine wp_ret ?_
 obtain rfl:=sj hF
 exact zO1 Tryz.results96 hf rfl ⟨rfl,hc⟩

def jX (N:Nat) (l:List aA):Option (Bool) :=
 Option.bind (dQ N l) fun r=>
 some (!r)
theorem qN {N:Nat} {G:aS} {Lf:List Ent} {w:World} (l:List aA) {H:Option Addr} {B:Nat} (I:Rd G 2 H B (l.map aC)) (hc:Ctx G (Lf) w) {D:Bool} (hF:jX N l=some D):Calls Tryz.prog 75 #[.slice H l.length B,.func (.func 69) #[] #[]] w (fun e w=>e=.returned (.bool D)∧Ctx G (Lf) w):=by
 unfold jX at hF
 refine cB Tryz.func75 rfl Tryz.ntmps75 rfl fun a hf=>zS fun K h=>zB hf hc rfl fun J a w hf hc=>sp 1 hf rfl fun a hf=>zT h ?_
 refine zS fun K h=>sp 1 hf rfl fun a hf=>zP hf rfl (pMF (us:=[pq J]) rfl rfl) fun a hf=>?_
 obtain ⟨r,hr,hF⟩:=aB hF
 refine zQ (v:=.bool r) hf hc aKf rfl (fun w hc=>(jR l I (hc.pick k0) hr).mono fun e w h=>⟨h.1,(h.2.unpick k0)⟩) fun a w hf hc=>sp 2 hf rfl fun a hf=>zT h ?_
 refine wp_ret ?_
 obtain rfl:=sj hF
 replace hc:=hc.drop k0
 exact zO1 Tryz.results75 hf rfl ⟨rfl,hc⟩

def oI (N:Nat) (w_:iC) (day:Int) (B:aA):Option (Bool) :=
 Option.bind (bG w_.spans day) fun D=>
 some ((decide (D.Lo < B.Lo)) || (decide (B.Hi < D.Hi)))
theorem vR {N:Nat} {G:aS} {Lf:List Ent} {w:World} (w_:iC) (day:Int) (B:aA) {b_:Nat} {D:Option Addr} {H:Nat} {J:Option Addr} {I:Nat} (R:Rd G 3 D H (w_.Record.Days.map aJ)) (O:Rd G 2 J I (w_.spans.map aC)) (hc:Ctx G (.box b_ [i6 w_.Record.Rise,i6 w_.Record.Fall,.slice D w_.Record.Days.length H,.slice J w_.spans.length I] 95::Lf) w) {U:Bool} (hF:oI N w_ day B=some U):Calls Tryz.prog 76 #[pq b_,i6 day,.agg #[i6 B.Lo,i6 B.Hi]] w (fun e w=>e=.returned (.bool U)∧Ctx G (.box b_ [i6 w_.Record.Rise,i6 w_.Record.Fall,.slice D w_.Record.Days.length H,.slice J w_.spans.length I] 95::Lf) w):=by
 unfold oI at hF
 refine cB Tryz.func76 rfl Tryz.ntmps76 rfl fun a hf=>zS fun K h=>zB hf hc rfl fun S a w hf hc=>sp 1 hf rfl fun a hf=>zT h ?_
 refine zS fun K h=>sp 2 hf rfl fun a hf=>zP hf rfl (pFA kY rfl) fun a hf=>zL hf hc oW m1 rfl fun a w hf hc=>sp 1 hf rfl fun a hf=>?_
 obtain ⟨M,X,hF⟩:=aB hF
 obtain ⟨Y,o,qa,qp⟩:=O.atm X
 refine zP hf rfl (pIA Tryz.underlying54 cA rfl rfl qa) fun a hf=>zE hf hc rfl (jM (vs:=[i6 M.Lo,i6 M.Hi]) eA rfl rfl (cI qp (n:=2) (o':=0) rfl)) fun a w hf hc=>zA hf hc kX rfl fun V a w hf hc=>zW hf hc cA u0 rfl fun w hc=>zT h ?_
 refine zS fun K h=>zP hf rfl (pFA dS rfl) fun a hf=>zL hf hc aU m0 rfl fun a w hf hc=>zP hf rfl (pFA dS rfl) fun a hf=>zL hf hc aU m1 rfl fun a w hf hc=>sp 2 hf rfl fun a hf=>hY 6 (fun a=>Has 27 a [(5,pq S),(6,.bool false),(7,pq V),(15,pq V),(16,i6 M.Lo),(17,pq S),(18,i6 B.Lo),(19,.bool (decide (M.Lo < B.Lo))),(20,.bool (decide (M.Lo < B.Lo))),(26,.bool ((decide (M.Lo < B.Lo)) || (decide (B.Hi < M.Hi))))]) hc ?_ ?_
 ·cases hb:(decide (M.Lo < B.Lo))
  ·rw [hb] at hf
   refine zP hf rfl (pFA dC rfl) fun a hf=>zL hf hc aU m0 rfl fun a w hf hc=>zP hf rfl (pFA dC rfl) fun a hf=>zL hf hc aU m1 rfl fun a w hf hc=>sp 2 hf rfl fun a hf=>aP ⟨hf.kp rfl,hc⟩
  ·rw [hb] at hf
   refine stS hf rfl rfl rfl fun a hf=>stS hf rfl rfl rfl fun a hf=>stS hf rfl rfl rfl fun a hf=>stS hf rfl rfl rfl fun a hf=>stS hf rfl rfl rfl fun a hf=>sp 1 hf rfl fun a hf=>aP ⟨hf.kp rfl,hc⟩
 intro a w ⟨hf,hc⟩
 refine sp 1 hf rfl fun a hf=>zT h ?_
 refine wp_ret ?_
 obtain rfl:=sj hF
 replace hc:=(hc.drop k1).drop k0
 exact zO1 Tryz.results76 hf rfl ⟨rfl,hc⟩

def tM (N:Nat) (B:List aA):Option (cY (Unit) ((List Int) × Int)) :=
 cond (decide (0 < ((B.length:Nat):Int)))
 (Option.bind (bG B 0) fun D=>
 none)
 (some (.brk ()))
def mB (N:Nat) (x:Int) (B:List Int):Option (cY ((List Int) × Int) ((List Int) × Int)) :=
 some (.cont (B,W (x + 1)))
def tW (N:Nat) (r:aF) (B:List aA) (D:Int × Int × (List aA) × Int) (out:List Int) (x:Int):Option (cY ((List Int) × Int) ((List Int) × Int)) :=
 cond (decide (x < ((B.length:Nat):Int)))
 (Option.bind (bG B x) fun H=>
 Option.bind (oI N (⟨(⟨D.1,D.2.1,r.Days⟩:aF),D.2.2.1⟩:iC) x H) fun I=>
 cond I
 (Option.bind (pG ((out++[x])).length) fun un=>
 mB N x (out++[x]))
 (mB N x out))
 (some (.brk (out,x)))
def vD (N:Nat) (r:aF) (B:List aA):Option ((List Int) × Int) :=
 Option.bind (iU N r) fun J=>
 cond (J != 0)
 (some (([]:List Int),J))
 (cond (((B.length:Nat):Int) != ((r.Days.length:Nat):Int))
 (some (([]:List Int),2))
 (Option.bind (jX N B) fun M=>
 cond (!M)
 (some (([]:List Int),4))
 (Option.bind (gF N r) (yA (fun I=>cond (I != 0)
 (some (([]:List Int),I))
 (Option.bind (bE (fun (_:Unit)=>tM N B) N ()) fun O=>
 exK O (fun (_:Unit)=>some (([]:List Int),0)) some))
 (fun H=>cond (H.2.2.2 != 0)
 (some (([]:List Int),H.2.2.2))
 (Option.bind (bE (fun D=>tW N r B H D.1 D.2) N (([]:List Int),0)) fun R=>
 exK R (fun D=>some (D.1,0)) some))))))
theorem aAi {N:Nat} {G:aS} {Lf:List Ent} {w:World} (r:aF) (B:List aA) {O:Option Addr} {J:Nat} {D:Option Addr} {H:Nat} (M:Rd G 3 O J (r.Days.map aJ)) (I:Rd G 2 D H (B.map aC)) (hc:Ctx G (Lf) w) {Y:(List Int) × Int} (hF:vD N r B=some Y):Calls Tryz.prog 47 #[.agg #[i6 r.Rise,i6 r.Fall,.slice O r.Days.length J],.slice D B.length H] w (fun e w=>∃ (y:Option Addr) (aa:Nat),e=.returned (.tuple #[.slice y Y.1.length aa,i6 Y.2])∧Ctx G (.row y aa (Y.1.map aD) 3 1::Lf) w):=by
 unfold vD at hF
 refine cB Tryz.func47 rfl Tryz.ntmps47 rfl fun a hf=>zS fun K h=>zB hf hc rfl fun br a w hf hc=>sp 2 hf rfl fun a hf=>zT h ?_
 refine zS fun K h=>zN hf hc qQ m0 rfl fun a w hf hc=>?_
 obtain ⟨a0,ad,hF⟩:=aB hF
 refine zQ (v:=i6 a0) hf hc aDh rfl (fun w hc=>lJ r M hc ad) fun a w hf hc=>sp 1 hf rfl fun a hf=>zT h ?_
 refine wp_seq_k fun K3 h3=>wp_block ?_
 refine zS fun K h=>sp 3 hf rfl fun a hf=>zT h ?_
 refine zI hf rfl hF ?_ ?_ <;> clear hF <;> intro hF
 ·refine zS fun K h=>sp 3 hf rfl fun a hf=>zT h ?_
  refine wp_ret ?_
  refine bU ?_
  refine aO ?_
  obtain rfl:=sj hF
  replace hc:=hc.nilRow 3 1
  replace hc:=hc.drop k1
  exact zO2 Tryz.results47 hf rfl rfl ⟨none,0,rfl,hc⟩
 ·refine zS fun K h=>sp 1 hf rfl fun a hf=>zP hf rfl (bM Tryz.underlying54 rfl) fun a hf=>zP hf rfl (pFA kZ rfl) fun a hf=>zL hf hc sN m0 rfl fun a w hf hc=>zP hf rfl (bM Tryz.underlying37 rfl) fun a hf=>sp 2 hf rfl fun a hf=>zT h ?_
  refine zI hf rfl hF ?_ ?_ <;> clear hF <;> intro hF
  ·refine zS fun K h=>sp 2 hf rfl fun a hf=>zT h ?_
   refine wp_ret ?_
   refine bU ?_
   refine aO ?_
   obtain rfl:=sj hF
   replace hc:=hc.nilRow 3 1
   replace hc:=hc.drop k1
   exact zO2 Tryz.results47 hf rfl rfl ⟨none,0,rfl,hc⟩
  ·refine zS fun K h=>sp 1 hf rfl fun a hf=>?_
   obtain ⟨a6,ax,hF⟩:=aB hF
   refine zQ (v:=.bool a6) hf hc aK1 rfl (fun w hc=>qN B I hc ax) fun a w hf hc=>sp 2 hf rfl fun a hf=>zT h ?_
   refine zI hf rfl hF ?_ ?_ <;> clear hF <;> intro hF
   ·refine zS fun K h=>sp 2 hf rfl fun a hf=>zT h ?_
    refine wp_ret ?_
    refine bU ?_
    refine aO ?_
    obtain rfl:=sj hF
    replace hc:=hc.nilRow 3 1
    replace hc:=hc.drop k1
    exact zO2 Tryz.results47 hf rfl rfl ⟨none,0,rfl,hc⟩
   ·refine wp_skip ?_
    refine h3 _ _ ?_
    refine zS fun K h=>zN hf hc qQ m0 rfl fun a w hf hc=>?_
    obtain ⟨z,t,hF⟩:=aB hF
    cases z with
    | inl z=>
     replace hF:=yX hF
     refine zC hf zF rfl (fV r M hc t) ?_
     rintro _ w ⟨rfl,hc⟩
     refine ⟨_,rfl,fun a hf=>?_⟩
     refine sp 5 hf rfl fun a hf=>zT h ?_
     refine wp_seq_k fun K11 a2=>zS fun K h=>sp 2 hf rfl fun a hf=>zT h ?_
     refine zI hf rfl hF ?_ ?_ <;> clear hF <;> intro hF
     ·refine zS fun K h=>sp 3 hf rfl fun a hf=>zT h ?_
      refine wp_ret ?_
      refine aO ?_
      obtain rfl:=sj hF
      replace hc:=hc.nilRow 3 1
      replace hc:=hc.drop k1
      exact zO2 Tryz.results47 hf rfl rfl ⟨none,0,rfl,hc⟩
     ·refine wp_skip ?_
      refine a2 _ _ ?_
      refine zS fun K h=>sp 1 hf rfl fun a hf=>zT h ?_
      refine zS fun K h=>sp 1 hf rfl fun a hf=>zP hf rfl (pMF (vs:=[.pointer none]) (us:=[]) rfl rfl) fun a hf=>sp 1 hf rfl fun a hf=>zT h ?_
      refine wp_seq_k fun K16 bb=>zS fun K h=>sp 1 hf rfl fun a hf=>zP hf rfl (bM Tryz.underlying54 rfl) fun a hf=>sp 1 hf rfl fun a hf=>zT h ?_
      refine wp_block ?_
      obtain ⟨p,an,hF⟩:=aB hF
      let S18:Unit→Act→World→Prop:=(fun (zz:Unit) a w=>Has 56 a [(8,.slice none 0 0),(9,.func (.func 76) #[.pointer none] #[]),(39,.slice D B.length H),(40,i6 ((B.length:Nat):Int)),(41,i6 0)]∧Ctx G (Lf) w)
      have ar:∀ (zz:Unit) a w,p=.go zz→S18 zz a w→K16 a w:=by
       rintro ⟨⟩ a w rfl ⟨hf,hc⟩
       replace hF:=bW hF
       refine bb _ _ ?_
       refine zS fun K h=>sp 3 hf rfl fun a hf=>zT h ?_
       refine wp_ret ?_
       obtain rfl:=sj hF
       replace hc:=hc.nilRow 3 1
       exact zO2 Tryz.results47 hf rfl rfl ⟨none,0,rfl,hc⟩
      have bd:∀ r,p=.out r→r=Y:=by
       rintro r rfl
       exact sj hF
      replace hc:=hc.drop k0
      refine dO N (dH (S:=S18) (x:=p) ?_ N () _ _ ⟨hf.kp rfl,hc⟩ an)
      clear hF hf hc
      rintro ⟨⟩ bc a w KB18 ⟨hf,hc⟩ hF b bg
      unfold tM at hF
      refine zS fun K h=>sp 1 hf rfl fun a hf=>zT h ?_
      refine wp_seq_k fun K21 a9=>zI hf rfl hF ?_ ?_ <;> clear hF <;> intro hF
      ·refine wp_skip ?_
       refine a9 _ _ ?_
       refine wp_seq_k fun K22 bs=>wp_block ?_
       refine zS fun K h=>sp 1 hf rfl fun a hf=>?_
       obtain ⟨u,au,hF⟩:=aB hF
       obtain ⟨bp,o,qa,qp⟩:=I.atm au
       refine zP hf rfl (pIA Tryz.underlying54 cA rfl rfl qa) fun a hf=>zE hf hc rfl (jM (vs:=[i6 u.Lo,i6 u.Hi]) eA rfl rfl (cI qp (n:=2) (o':=0) rfl)) fun a w hf hc=>zA hf hc kX rfl fun bm a w hf hc=>sp 1 hf rfl fun a hf=>zW hf hc cA u0 rfl fun w hc=>zT h ?_
       refine wp_seq_k fun K24 bj=>wX hF
      ·refine wp_exit ?_
       refine aV ?_
       refine aV ?_
       have he:=sj hF
       rw [← he] at b
       refine eW ?_
       exact ar _ _ _ b ⟨hf.kp rfl,hc⟩
    | inr R=>
     replace hF:=yU hF
     have ak:=t
     refine zC hf zF rfl (fV r M hc ak) ?_
     rintro _ w ⟨d,g,k,rfl,hc⟩
     refine ⟨_,rfl,fun a hf=>?_⟩
     refine sp 5 hf rfl fun a hf=>zT h ?_
     refine wp_seq_k fun K25 a5=>zS fun K h=>sp 2 hf rfl fun a hf=>zT h ?_
     refine zI hf rfl hF ?_ ?_ <;> clear hF <;> intro hF
     ·refine zS fun K h=>sp 3 hf rfl fun a hf=>zT h ?_
      refine wp_ret ?_
      refine aO ?_
      obtain rfl:=sj hF
      replace hc:=hc.nilRow 3 1
      replace hc:=((hc.drop k3).drop k2).drop k1
      exact zO2 Tryz.results47 hf rfl rfl ⟨none,0,rfl,hc⟩
     ·refine wp_skip ?_
      refine a5 _ _ ?_
      refine zS fun K h=>sp 1 hf rfl fun a hf=>zT h ?_
      refine zS fun K h=>sp 1 hf rfl fun a hf=>zP hf rfl (pMF (vs:=[pq d]) (us:=[]) rfl rfl) fun a hf=>sp 1 hf rfl fun a hf=>zT h ?_
      refine wp_seq_k fun K30 a1=>zS fun K h=>sp 1 hf rfl fun a hf=>zP hf rfl (bM Tryz.underlying54 rfl) fun a hf=>sp 1 hf rfl fun a hf=>zT h ?_
      refine wp_block ?_
      obtain ⟨s,af,hF⟩:=aB hF
      let S32:((List Int) × Int)→Act→World→Prop:=(fun (zz:(List Int) × Int) a w=>∃ (X:Option Addr) (V:Nat),Has 56 a [(8,.slice X zz.1.length V),(9,.func (.func 76) #[pq d] #[]),(39,.slice D B.length H),(40,i6 ((B.length:Nat):Int)),(41,i6 zz.2)]∧Ctx G (.row X V (zz.1.map aD) 3 1::.row g k (R.2.2.1.map aC) 41 2::.box d [i6 R.1,i6 R.2.1,.slice O r.Days.length J,.slice g R.2.2.1.length k] 95::Lf) w)
      have av:∀ (zz:(List Int) × Int) a w,s=.go zz→S32 zz a w→K30 a w:=by
       rintro ⟨out,x⟩ a w rfl ⟨X,V,hf,hc⟩
       replace hF:=bW hF
       refine a1 _ _ ?_
       refine zS fun K h=>sp 3 hf rfl fun a hf=>zT h ?_
       refine wp_ret ?_
       obtain rfl:=sj hF
       replace hc:=(hc.drop k2).drop k1
       exact zO2 Tryz.results47 hf rfl rfl ⟨X,V,rfl,hc⟩
      have bf:∀ r,s=.out r→r=Y:=by
       rintro r rfl
       exact sj hF
      replace hc:=hc.nilRow 3 1
      replace hc:=hc.drop k3
      refine dO N (dH (S:=S32) (x:=s) ?_ N (([]:List Int),0) _ _ ⟨none,0,hf.kp rfl,hc⟩ af)
      clear hF hf hc
      rintro ⟨out,x⟩ ay a w KB32 ⟨X,V,hf,hc⟩ hF Z aq
      unfold tW at hF
      refine zS fun K h=>sp 1 hf rfl fun a hf=>zT h ?_
      refine wp_seq_k fun K35 a4=>zI hf rfl hF ?_ ?_ <;> clear hF <;> intro hF
      ·refine wp_skip ?_
       refine a4 _ _ ?_
       refine wp_seq_k fun K36 ba=>?_
       have m:∀ (U:List Int) (i:Option Addr) (j:Nat) a w,Has 56 a [(8,.slice i U.length j),(9,.func (.func 76) #[pq d] #[]),(39,.slice D B.length H),(40,i6 ((B.length:Nat):Int)),(41,i6 x)]→Ctx G (.row i j (U.map aD) 3 1::.row g k (R.2.2.1.map aC) 41 2::.box d [i6 R.1,i6 R.2.1,.slice O r.Days.length J,.slice g R.2.2.1.length k] 95::Lf) w→mB N x U=some ay→K36 a w:=by
        repeat (clear hF)
        repeat (clear hc)
        repeat (clear hf)
        intro U i j a w hf hc hF
        unfold mB at hF
        refine ba _ _ ?_
        refine dE ?_
        refine sp 2 hf rfl fun a hf=>aP ?_
        exact aq (U,W (x + 1)) _ _ (sj hF).symm ⟨i,j,hf.kp rfl,hc⟩
       refine wp_block ?_
       refine zS fun K h=>sp 1 hf rfl fun a hf=>?_
       obtain ⟨q,ag,hF⟩:=aB hF
       obtain ⟨bi,bq,ap,aj⟩:=I.atm ag
       refine zP hf rfl (pIA Tryz.underlying54 cA rfl rfl ap) fun a hf=>zE hf hc rfl (jM (vs:=[i6 q.Lo,i6 q.Hi]) eA rfl rfl (cI aj (n:=2) (o':=0) rfl)) fun a w hf hc=>zA hf hc kX rfl fun bk a w hf hc=>sp 1 hf rfl fun a hf=>zW hf hc cA u0 rfl fun w hc=>zT h ?_
       refine zS fun K h=>sp 2 hf rfl fun a hf=>zN hf hc eA m0 rfl fun a w hf hc=>?_
       obtain ⟨a8,ai,hF⟩:=aB hF
       refine zQ (v:=.bool a8) hf hc en_76 rfl (fun w hc=>by obtain ⟨G1,ab,am,hc,ac⟩:=lend hc k2; exact (vR (⟨(⟨R.1,R.2.1,r.Days⟩:aF),R.2.2.1⟩:iC) x q (M.mono ab) am (hc.pick k2) ai).mono fun e w h=>⟨h.1,((ac _ _ (h.2.unpick k2)).unpick k2)⟩) fun a w hf hc=>zT h ?_
       refine zI hf rfl hF ?_ ?_ <;> clear hF <;> intro hF
       ·refine dE ?_
        refine sp 2 hf rfl fun a hf=>mY (rows:=([x]:List Int).map aD) (vs:=[(0,i6 x)]) hf hc rfl rfl lD rfl ⟨rfl,rfl,rfl,trivial⟩ rfl rfl fun bn a w hf hc=>?_
        obtain ⟨un,az,hF⟩:=aB hF
        refine nT (xs:=out) (ys:=([x]:List Int)) hf hc rfl rfl lD rfl rfl rfl rfl rfl bD (iL hc m0) (fun _ _=>u2) (by simpa using eR az) fun a7 a3 a w hf hc=>sp 1 hf rfl fun a hf=>aP ?_
        replace hc:=(hc.drop k1).drop k0
        exact m (out++[x]) a7 a3 _ _  (hf.kp rfl) hc hF
       ·refine wp_skip ?_
        replace hc:=hc.drop k0
        exact m out X V _ _  (hf.kp rfl) hc hF
      ·refine wp_exit ?_
       refine aV ?_
       refine aV ?_
       have he:=sj hF
       rw [← he] at Z
       refine eW ?_
       exact av _ _ _ Z ⟨X,V,hf.kp rfl,hc⟩

def sM (N:Nat) (B:List Int) (out:List aM) (x:Int):Option (cY ((List aM) × Int) ((List aM))) :=
 cond (decide (x < ((B.length:Nat):Int)))
 (Option.bind (bG B x) fun D=>
 Option.bind (pG ((out++[(⟨D,1⟩:aM)])).length) fun un=>
 some (.cont ((out++[(⟨D,1⟩:aM)]),W (x + 1))))
 (some (.brk (out,x)))
def lW (N:Nat) (B:List Int):Option ((List aM)) :=
 Option.bind (bE (fun s5=>sM N B s5.1 s5.2) N (([]:List aM),0)) fun x5=>
 exK x5 (fun s5=>some s5.1) some
theorem sD {N:Nat} {G:aS} {Lf:List Ent} {w:World} (B:List Int) {D:Option Addr} {H:Nat} (O:Rd G 1 D H (B.map aD)) (hc:Ctx G (Lf) w) {R:(List aM)} (hF:lW N B=some R):Calls Tryz.prog 49 #[.slice D B.length H] w (fun e w=>∃ (V:Option Addr) (X:Nat),e=.returned (.slice V R.length X)∧Ctx G (.row V X (R.map cP) 144 2::Lf) w):=by
 unfold lW at hF
 refine cB Tryz.func49 rfl Tryz.ntmps49 rfl fun a hf=>zS fun K h=>sp 1 hf rfl fun a hf=>zT h ?_
 refine zS fun K h=>sp 1 hf rfl fun a hf=>zT h ?_
 refine wp_seq_k fun K3 h3=>zS fun K h=>sp 1 hf rfl fun a hf=>zP hf rfl (bM Tryz.underlying27 rfl) fun a hf=>sp 1 hf rfl fun a hf=>zT h ?_
 refine wp_block ?_
 obtain ⟨x5,b,hF⟩:=aB hF
 let S5:((List aM) × Int)→Act→World→Prop:=(fun (zz:(List aM) × Int) a w=>∃ (I:Option Addr) (J:Nat),Has 19 a [(3,.slice I zz.1.length J),(6,.slice D B.length H),(7,i6 ((B.length:Nat):Int)),(8,i6 zz.2)]∧Ctx G (.row I J (zz.1.map cP) 144 2::Lf) w)
 have d:∀ (zz:(List aM) × Int) a w,x5=.go zz→S5 zz a w→K3 a w:=by
  rintro ⟨out,x⟩ a w rfl ⟨I,J,hf,hc⟩
  replace hF:=bW hF
  refine h3 _ _ ?_
  refine zS fun K h=>sp 2 hf rfl fun a hf=>zT h ?_
  refine wp_ret ?_
  obtain rfl:=sj hF
  exact zO1 Tryz.results49 hf rfl ⟨I,J,rfl,hc⟩
 have n:∀ r,x5=.out r→r=R:=by
  rintro r rfl
  exact sj hF
 replace hc:=hc.nilRow 144 2
 refine dO N (dH (S:=S5) (x:=x5) ?_ N (([]:List aM),0) _ _ ⟨none,0,hf.kp rfl,hc⟩ b)
 clear hF hf hc
 rintro ⟨out,x⟩ p a w KB5 ⟨I,J,hf,hc⟩ hF U k
 unfold sM at hF
 refine zS fun K h=>sp 1 hf rfl fun a hf=>zT h ?_
 refine wp_seq_k fun K8 h8=>zI hf rfl hF ?_ ?_ <;> clear hF <;> intro hF
 ·refine wp_skip ?_
  refine h8 _ _ ?_
  refine wp_seq_k fun K9 h9=>wp_block ?_
  refine zS fun K h=>?_
  obtain ⟨M,Y,hF⟩:=aB hF
  obtain ⟨m,o,qa,qp⟩:=O.atm Y
  refine zP hf rfl (pIA Tryz.underlying27 eL rfl rfl qa) fun a hf=>zE hf hc rfl (cE aU rfl (dX (j:=0) qp rfl)) fun a w hf hc=>sp 1 hf rfl fun a hf=>zT h ?_
  refine dE ?_
  refine sp 2 hf rfl fun a hf=>zP hf rfl (bH (cells:=[i6 M,i6 1]) aL3 rfl rfl) fun a hf=>mY (rows:=([(⟨M,1⟩:aM)]:List aM).map cP) (vs:=[(0,.agg #[i6 M,i6 1])]) hf hc rfl rfl aIj rfl ⟨rfl,rfl,rfl,trivial⟩ rfl rfl fun q a w hf hc=>?_
  obtain ⟨un,i,hF⟩:=aB hF
  refine nT (xs:=out) (ys:=([(⟨M,1⟩:aM)]:List aM)) hf hc rfl rfl aIj rfl rfl rfl rfl rfl uA (iL hc m0) (fun _ _=>u1) (by simpa using eR i) fun g Z a w hf hc=>sp 1 hf rfl fun a hf=>aP ?_
  refine h9 _ _ ?_
  refine dE ?_
  refine sp 2 hf rfl fun a hf=>aP ?_
  replace hc:=hc.drop k0
  exact k ((out++[(⟨M,1⟩:aM)]),W (x + 1)) _ _ (sj hF).symm ⟨g,Z,hf.kp rfl,hc⟩
 ·refine wp_exit ?_
  refine aV ?_
  refine aV ?_
  have he:=sj hF
  rw [← he] at U
  refine eW ?_
  exact d _ _ _ U ⟨I,J,hf.kp rfl,hc⟩

def iM (x:aM):Bool :=
 ((bL x.Value 0 1000000) && (bL x.Weight 1 100))
theorem rP {G:aS} {Lf:List Ent} {w:World} (x:aM)   (hc:Ctx G (Lf) w) {B:Bool} (hF:iM x=B):Calls Tryz.prog 99 #[.agg #[i6 x.Value,i6 x.Weight]] w (fun e w=>e=.returned (.bool B)∧Ctx G (Lf) w):=by
 unfold iM at hF
 refine cB Tryz.func99 rfl Tryz.ntmps99 rfl fun a hf=>zS fun K h=>zB hf hc rfl fun D a w hf hc=>sp 1 hf rfl fun a hf=>zT h ?_
 refine zS fun K h=>zP hf rfl (pFA sH rfl) fun a hf=>zL hf hc aU m0 rfl fun a w hf hc=>zQ (v:=.bool (bL x.Value 0 1000000)) hf hc vE rfl (fun w hc=>gN x.Value 0 1000000 hc rfl) fun a w hf hc=>sp 1 hf rfl fun a hf=>hY 4 (fun a=>Has 11 a [(1,pq D),(2,.bool false),(3,pq D),(4,i6 x.Value),(5,.bool (bL x.Value 0 1000000)),(6,.bool (bL x.Value 0 1000000)),(10,.bool ((bL x.Value 0 1000000) && (bL x.Weight 1 100)))]) hc ?_ ?_
 ·cases hb:(bL x.Value 0 1000000)
  ·rw [hb] at hf
   refine stS hf rfl rfl rfl fun a hf=>stS hf rfl rfl rfl fun a hf=>stS hf rfl rfl rfl fun a hf=>sp 1 hf rfl fun a hf=>aP ⟨hf.kp rfl,hc⟩
  ·rw [hb] at hf
   refine zP hf rfl (pFA aAk rfl) fun a hf=>zL hf hc aU m0 rfl fun a w hf hc=>zQ (v:=.bool (bL x.Weight 1 100)) hf hc vE rfl (fun w hc=>gN x.Weight 1 100 hc rfl) fun a w hf hc=>sp 1 hf rfl fun a hf=>aP ⟨hf.kp rfl,hc⟩
 intro a w ⟨hf,hc⟩
 refine sp 1 hf rfl fun a hf=>zT h ?_
 refine wp_ret ?_
 obtain rfl:=hF
 replace hc:=hc.drop k0
 exact zO1 Tryz.results99 hf rfl ⟨rfl,hc⟩

def fJ (x:aM):Bool :=
 (!(iM (⟨x.Value,x.Weight⟩:aM)))
theorem nY {G:aS} {Lf:List Ent} {w:World} (x:aM) {b_:Nat}  (hc:Ctx G (.box b_ [.func (.func 99) #[] #[]] 164::Lf) w) {B:Bool} (hF:fJ x=B):Calls Tryz.prog 110 #[.agg #[i6 x.Value,i6 x.Weight],pq b_] w (fun e w=>e=.returned (.bool B)∧Ctx G (.box b_ [.func (.func 99) #[] #[]] 164::Lf) w):=by
 unfold fJ at hF
 refine cB Tryz.func110 rfl Tryz.ntmps110 rfl fun a hf=>zS fun K h=>zB hf hc rfl fun D a w hf hc=>sp 1 hf rfl fun a hf=>zT h ?_
 refine zS fun K h=>zL hf hc aLh m1 rfl fun a w hf hc=>zN hf hc aBa m0 rfl fun a w hf hc=>zQ (v:=.bool (iM (⟨x.Value,x.Weight⟩:aM))) hf hc en_99 rfl (fun w hc=>rP (⟨x.Value,x.Weight⟩:aM) hc rfl) fun a w hf hc=>sp 2 hf rfl fun a hf=>zT h ?_
 refine wp_ret ?_
 obtain rfl:=hF
 replace hc:=hc.drop k0
 exact zO1 Tryz.results110 hf rfl ⟨rfl,hc⟩

def eG (N:Nat) (s_:List aM) (x:Int):Option (cY (Int) (Int)) :=
 cond (decide (x < ((s_.length:Nat):Int)))
 (Option.bind (bG s_ x) fun B=>
 cond (fJ B)
 (some (.ret x))
 (some (.cont (W (x + 1)))))
 (some (.brk x))
def cX (N:Nat) (s_:List aM):Option (Int) :=
 Option.bind (bE (fun s4=>eG N s_ s4) N 0) fun x4=>
 exK x4 (fun s4=>some (-1)) some
theorem iO {N:Nat} {G:aS} {Lf:List Ent} {w:World} (s_:List aM) {D:Option Addr} {H:Nat} {b_:Nat} (M:Rd G 2 D H (s_.map cP)) (hc:Ctx G (.box b_ [.func (.func 99) #[] #[]] 164::Lf) w) {J:Int} (hF:cX N s_=some J):Calls Tryz.prog 123 #[.slice D s_.length H,.func (.func 110) #[] #[pq b_]] w (fun e w=>e=.returned (i6 J)∧Ctx G (.box b_ [.func (.func 99) #[] #[]] 164::Lf) w):=by
 unfold cX at hF
 refine cB Tryz.func123 rfl Tryz.ntmps123 rfl fun a hf=>zS fun K h=>sp 1 hf rfl fun a hf=>zT h ?_
 refine wp_seq_k fun K2 h2=>zS fun K h=>sp 1 hf rfl fun a hf=>zP hf rfl (bM Tryz.underlying116 rfl) fun a hf=>sp 1 hf rfl fun a hf=>zT h ?_
 refine wp_block ?_
 obtain ⟨x4,U,hF⟩:=aB hF
 let S4:Int→Act→World→Prop:=(fun (zz:Int) a w=>Has 19 a [(0,.slice D s_.length H),(1,.func (.func 110) #[] #[pq b_]),(7,i6 ((s_.length:Nat):Int)),(8,i6 zz)]∧Ctx G (.box b_ [.func (.func 99) #[] #[]] 164::Lf) w)
 have V:∀ (zz:Int) a w,x4=.go zz→S4 zz a w→K2 a w:=by
  rintro x a w rfl ⟨hf,hc⟩
  replace hF:=bW hF
  refine h2 _ _ ?_
  refine zS fun K h=>sp 1 hf rfl fun a hf=>zT h ?_
  refine wp_ret ?_
  obtain rfl:=sj hF
  exact zO1 Tryz.results123 hf rfl ⟨rfl,hc⟩
 have R:∀ r,x4=.out r→r=J:=by
  rintro r rfl
  exact sj hF
 refine dO N (dH (S:=S4) (x:=x4) ?_ N 0 _ _ ⟨hf.kp rfl,hc⟩ U)
 clear hF hf hc
 rintro x Y a w KB4 ⟨hf,hc⟩ hF B X
 unfold eG at hF
 refine zS fun K h=>sp 1 hf rfl fun a hf=>zT h ?_
 refine wp_seq_k fun K7 h7=>zI hf rfl hF ?_ ?_ <;> clear hF <;> intro hF
 ·refine wp_skip ?_
  refine h7 _ _ ?_
  refine wp_seq_k fun K8 h8=>wp_block ?_
  refine zS fun K h=>sp 2 hf rfl fun a hf=>zT h ?_
  refine zS fun K h=>sp 3 hf rfl fun a hf=>?_
  obtain ⟨I,O,hF⟩:=aB hF
  obtain ⟨Z,o,qa,qp⟩:=M.atm O
  refine zP hf rfl (pIA Tryz.underlying116 uO rfl rfl qa) fun a hf=>zE hf hc rfl (jM (vs:=[i6 I.Value,i6 I.Weight]) aBa rfl rfl (cI qp (n:=2) (o':=0) rfl)) fun a w hf hc=>zQ (v:=.bool (fJ I)) hf hc aLm rfl (fun w hc=>(nY I (hc.pick k0) rfl).mono fun e w h=>⟨h.1,(h.2.unpick k0)⟩) fun a w hf hc=>zT h ?_
  refine zI hf rfl hF ?_ ?_ <;> clear hF <;> intro hF
  ·refine zS fun K h=>sp 2 hf rfl fun a hf=>zT h ?_
   refine wp_ret ?_
   refine bU ?_
   refine aO ?_
   refine aO ?_
   have he:=sj hF
   rw [← he] at B
   replace hF:=R _ B
   refine bU ?_
   refine aO ?_
   obtain rfl:=hF
   exact zO1 Tryz.results123 hf rfl ⟨rfl,hc⟩
  ·refine wp_skip ?_
   refine h8 _ _ ?_
   refine dE ?_
   refine sp 2 hf rfl fun a hf=>aP ?_
   exact X (W (x + 1)) _ _ (sj hF).symm ⟨hf.kp rfl,hc⟩
 ·refine wp_exit ?_
  refine aV ?_
  refine aV ?_
  have he:=sj hF
  rw [← he] at B
  refine eW ?_
  exact V _ _ _ B ⟨hf.kp rfl,hc⟩

def cL (N:Nat) (s_:List aM):Option (Bool) :=
 Option.bind (cX N s_) fun r=>
 some (decide (0≤r))
theorem hU {N:Nat} {G:aS} {Lf:List Ent} {w:World} (s_:List aM) {D:Option Addr} {B:Nat} {b_:Nat} (I:Rd G 2 D B (s_.map cP)) (hc:Ctx G (.box b_ [.func (.func 99) #[] #[]] 164::Lf) w) {H:Bool} (hF:cL N s_=some H):Calls Tryz.prog 109 #[.slice D s_.length B,.func (.func 110) #[] #[pq b_]] w (fun e w=>e=.returned (.bool H)∧Ctx G (.box b_ [.func (.func 99) #[] #[]] 164::Lf) w):=by
 unfold cL at hF
 refine cB Tryz.func109 rfl Tryz.ntmps109 rfl fun a hf=>zS fun K h=>sp 1 hf rfl fun a hf=>zT h ?_
 refine zS fun K h=>sp 2 hf rfl fun a hf=>?_
 obtain ⟨r,hr,hF⟩:=aB hF
 refine zQ (v:=i6 r) hf hc aLs rfl (fun w hc=>(iO s_ I (hc.pick k0) hr).mono fun e w h=>⟨h.1,(h.2.unpick k0)⟩) fun a w hf hc=>sp 2 hf rfl fun a hf=>zT h ?_
 refine wp_ret ?_
 obtain rfl:=sj hF
 exact zO1 Tryz.results109 hf rfl ⟨rfl,hc⟩

def iP (N:Nat) (l:List aM):Option (Bool) :=
 Option.bind (cL N l) fun r=>
 some (!r)
theorem pL {N:Nat} {G:aS} {Lf:List Ent} {w:World} (l:List aM) {H:Option Addr} {B:Nat} (I:Rd G 2 H B (l.map cP)) (hc:Ctx G (Lf) w) {D:Bool} (hF:iP N l=some D):Calls Tryz.prog 98 #[.slice H l.length B,.func (.func 99) #[] #[]] w (fun e w=>e=.returned (.bool D)∧Ctx G (Lf) w):=by
 unfold iP at hF
 refine cB Tryz.func98 rfl Tryz.ntmps98 rfl fun a hf=>zS fun K h=>zB hf hc rfl fun J a w hf hc=>sp 1 hf rfl fun a hf=>zT h ?_
 refine zS fun K h=>sp 1 hf rfl fun a hf=>zP hf rfl (pMF (us:=[pq J]) rfl rfl) fun a hf=>?_
 obtain ⟨r,hr,hF⟩:=aB hF
 refine zQ (v:=.bool r) hf hc aLx rfl (fun w hc=>(hU l I (hc.pick k0) hr).mono fun e w h=>⟨h.1,(h.2.unpick k0)⟩) fun a w hf hc=>sp 2 hf rfl fun a hf=>zT h ?_
 refine wp_ret ?_
 obtain rfl:=sj hF
 replace hc:=hc.drop k0
 exact zO1 Tryz.results98 hf rfl ⟨rfl,hc⟩

def gX (N:Nat) (l:List aM):Option (Int) :=
 cond (!(bL ((l.length:Nat):Int) 1 30))
 (some 3)
 (Option.bind (iP N l) fun r=>
 cond (!r)
 (some 80)
 (some 0))
theorem nK {N:Nat} {G:aS} {Lf:List Ent} {w:World} (l:List aM) {H:Option Addr} {B:Nat} (I:Rd G 2 H B (l.map cP)) (hc:Ctx G (Lf) w) {D:Int} (hF:gX N l=some D):Calls Tryz.prog 77 #[.slice H l.length B] w (fun e w=>e=.returned (i6 D)∧Ctx G (Lf) w):=by
 unfold gX at hF
 refine cB Tryz.func77 rfl Tryz.ntmps77 rfl fun a hf=>zS fun K h=>sp 1 hf rfl fun a hf=>zT h ?_
 refine wp_seq_k fun K2 h2=>wp_block ?_
 refine zS fun K h=>sp 1 hf rfl fun a hf=>zP hf rfl (bM Tryz.underlying116 rfl) fun a hf=>zQ (v:=.bool (bL ((l.length:Nat):Int) 1 30)) hf hc vE rfl (fun w hc=>gN ((l.length:Nat):Int) 1 30 hc rfl) fun a w hf hc=>sp 2 hf rfl fun a hf=>zT h ?_
 refine zI hf rfl hF ?_ ?_ <;> clear hF <;> intro hF
 ·refine zS fun K h=>sp 1 hf rfl fun a hf=>zT h ?_
  refine wp_ret ?_
  refine bU ?_
  refine aO ?_
  obtain rfl:=sj hF
  exact zO1 Tryz.results77 hf rfl ⟨rfl,hc⟩
 ·refine zS fun K h=>sp 1 hf rfl fun a hf=>?_
  obtain ⟨r,hr,hF⟩:=aB hF
  refine zQ (v:=.bool r) hf hc en_98 rfl (fun w hc=>pL l I hc hr) fun a w hf hc=>sp 2 hf rfl fun a hf=>zT h ?_
  refine zI hf rfl hF ?_ ?_ <;> clear hF <;> intro hF
  ·refine zS fun K h=>sp 1 hf rfl fun a hf=>zT h ?_
   refine wp_ret ?_
   refine bU ?_
   refine aO ?_
   obtain rfl:=sj hF
   exact zO1 Tryz.results77 hf rfl ⟨rfl,hc⟩
  ·refine wp_skip ?_
   refine h2 _ _ ?_
   refine zS fun K h=>sp 1 hf rfl fun a hf=>zT h ?_
   refine wp_ret ?_
   obtain rfl:=sj hF
   exact zO1 Tryz.results77 hf rfl ⟨rfl,hc⟩

def jD (N:Nat) (x:List Int):Option ((List Int)) :=
 aEi x
/-! ### Walks of the library -/
end Go.Nilo
namespace Go.Proofs
open Go.Shelf
def Tryz.lays189_ren:Go.Shelf.Ren:=⟨fun | 189=>78 | 125=>101 | 257=>100 | 128=>120 | 129=>121 | 294=>111 | 295=>112 | 296=>113 | 297=>114 | 298=>115 | 299=>116 | 216=>117 | 300=>118 | 301=>119 | 328=>124 | 329=>125 | 330=>126 | 331=>127 | 332=>128 | 215=>129 | 343=>130 | n=>n,fun | 28=>27 | 3=>3 | 46=>167 | 0=>0 | 51=>178 | 53=>180 | 4=>4 | 183=>172 | 182=>171 | 131=>86 | 5=>5 | 9=>9 | 218=>183 | 222=>187 | 228=>189 | 229=>190 | n=>n,fun | n=>n⟩
theorem Tryz.lays189:Go.Proofs.Lays.n189 Tryz.prog Tryz.lays189_ren:={
 mixed:=by kernel_rfl
 f125:=Tryz.func101.trans (congrArg some (by kernel_rfl))
 f128:=Tryz.func120.trans (congrArg some (by kernel_rfl))
 f129:=Tryz.func121.trans (congrArg some (by kernel_rfl))
 f189:=Tryz.func78.trans (congrArg some (by kernel_rfl))
 f215:=Tryz.func129.trans (congrArg some (by kernel_rfl))
 f216:=Tryz.func117.trans (congrArg some (by kernel_rfl))
 f257:=Tryz.func100.trans (congrArg some (by kernel_rfl))
 f294:=Tryz.func111.trans (congrArg some (by kernel_rfl))
 f295:=Tryz.func112.trans (congrArg some (by kernel_rfl))
 f296:=Tryz.func113.trans (congrArg some (by kernel_rfl))
 f297:=Tryz.func114.trans (congrArg some (by kernel_rfl))
 f298:=Tryz.func115.trans (congrArg some (by kernel_rfl))
 f299:=Tryz.func116.trans (congrArg some (by kernel_rfl))
 f300:=Tryz.func118.trans (congrArg some (by kernel_rfl))
 f301:=Tryz.func119.trans (congrArg some (by kernel_rfl))
 f328:=Tryz.func124.trans (congrArg some (by kernel_rfl))
 f329:=Tryz.func125.trans (congrArg some (by kernel_rfl))
 f330:=Tryz.func126.trans (congrArg some (by kernel_rfl))
 f331:=Tryz.func127.trans (congrArg some (by kernel_rfl))
 f332:=Tryz.func128.trans (congrArg some (by kernel_rfl))
 f343:=Tryz.func130.trans (congrArg some (by kernel_rfl))
 t0:=Tryz.underlying0
 a0:=Tryz.isAgg0
 z0:=Tryz.sizeOf0
 v0:=Tryz.zeroValue0
 t3:=Tryz.underlying3
 a3:=Tryz.isAgg3
 z3:=Tryz.sizeOf3
 v3:=Tryz.zeroValue3
 t4:=Tryz.underlying4
 a4:=Tryz.isAgg4
 z4:=Tryz.sizeOf4
 v4:=Tryz.zeroValue4
 t5:=Tryz.underlying5
 a5:=Tryz.isAgg5
 z5:=Tryz.sizeOf5
 v5:=Tryz.zeroValue5
 t9:=Tryz.underlying9
 a9:=Tryz.isAgg9
 z9:=Tryz.sizeOf9
 v9:=Tryz.zeroValue9
 t28:=Tryz.underlying27
 a28:=Tryz.isAgg27
 z28:=Tryz.sizeOf27
 v28:=Tryz.zeroValue27
 t46:=Tryz.underlying167
 a46:=Tryz.isAgg167
 z46:=Tryz.sizeOf167
 v46:=Tryz.zeroValue167
 t51:=Tryz.underlying178
 a51:=Tryz.isAgg178
 z51:=Tryz.sizeOf178
 v51:=Tryz.zeroValue178
 t53:=Tryz.underlying180
 a53:=Tryz.isAgg180
 z53:=Tryz.sizeOf180
 v53:=Tryz.zeroValue180
 t131:=Tryz.underlying86
 a131:=Tryz.isAgg86
 z131:=Tryz.sizeOf86
 v131:=Tryz.zeroValue86
 t182:=Tryz.underlying171
 a182:=Tryz.isAgg171
 z182:=Tryz.sizeOf171
 v182:=Tryz.zeroValue171
 t183:=Tryz.underlying172
 a183:=Tryz.isAgg172
 z183:=Tryz.sizeOf172
 v183:=Tryz.zeroValue172
 t218:=Tryz.underlying183
 a218:=Tryz.isAgg183
 z218:=Tryz.sizeOf183
 v218:=Tryz.zeroValue183
 t222:=Tryz.underlying187
 a222:=Tryz.isAgg187
 z222:=Tryz.sizeOf187
 v222:=Tryz.zeroValue187
 t228:=Tryz.underlying189
 a228:=Tryz.isAgg189
 z228:=Tryz.sizeOf189
 v228:=Tryz.zeroValue189
 t229:=Tryz.underlying190
 a229:=Tryz.isAgg190
 z229:=Tryz.sizeOf190
 v229:=Tryz.zeroValue190 }
def Tryz.lays20_ren:Go.Shelf.Ren:=⟨fun | 20=>79 | n=>n,fun | 22=>27 | 3=>3 | 4=>4 | 0=>0 | n=>n,fun | n=>n⟩
theorem Tryz.lays20:Go.Proofs.Lays2.n20 Tryz.prog Tryz.lays20_ren:={
 mixed:=by kernel_rfl
 f20:=Tryz.func79.trans (congrArg some (by kernel_rfl))
 t0:=Tryz.underlying0
 a0:=Tryz.isAgg0
 z0:=Tryz.sizeOf0
 v0:=Tryz.zeroValue0
 t3:=Tryz.underlying3
 a3:=Tryz.isAgg3
 z3:=Tryz.sizeOf3
 v3:=Tryz.zeroValue3
 t4:=Tryz.underlying4
 a4:=Tryz.isAgg4
 z4:=Tryz.sizeOf4
 v4:=Tryz.zeroValue4
 t22:=Tryz.underlying27
 a22:=Tryz.isAgg27
 z22:=Tryz.sizeOf27
 v22:=Tryz.zeroValue27
 i3:=by kernel_rfl }
end Go.Proofs
namespace Go.Nilo
open Go.Proofs

theorem sQ {N:Nat} {G:aS} {Lf:List Ent} {w:World} (x:List Int) {D:Option Addr} {H:Nat}  (hc:Ctx G (.row D H (x.map aD) 3 1::Lf) w) {B:(List Int)} (hF:jD N x=some B):Calls Tryz.prog 78 #[.slice D x.length H] w (fun e w=>e=.returned (.tuple #[])∧B.length=x.length∧Ctx G (.row D H (B.map aD) 3 1::Lf) w):=by
 unfold jD at hF
 exact aIf (fun w=>aIb Go.Proofs.Tryz.lays189 w) (fun b o c zs w h1 h2 h3=>Go.Proofs.Any.slices_Sort_int Go.Proofs.Tryz.lays189 b o c zs w h1 h2 h3) hc hF

def jS (N:Nat) (s_:List Int):Option ((List Int)) :=
 aKa s_
/-! ### Walks of the library -/

theorem qV {N:Nat} {G:aS} {Lf:List Ent} {w:World} (s_:List Int) {D:Option Addr} {B:Nat}  (hc:Ctx G (.row D B (s_.map aD) 3 1::Lf) w) {H:(List Int)} (hF:jS N s_=some H):Calls Tryz.prog 79 #[.slice D s_.length B] w (fun e w=>∃ (J:Option Addr) (I:Nat),e=.returned (.slice J H.length I)∧Ctx G (.row J I (H.map aD) 3 1::Lf) w):=by
 unfold jS at hF
 exact aD9 (fun a c w=>Go.Proofs.Any.slices_Compact_int_empty Go.Proofs.Tryz.lays20 a c w) (fun b o c zs w h1 h2 h3=>Go.Proofs.Any.slices_Compact_int Go.Proofs.Tryz.lays20 b o c zs w h1 h2 h3) hc hF

def bP (x:aM) (n:Int):Int :=
 W (x.Weight * (max (W (n - x.Value)) (W (x.Value - n))))
theorem sY {G:aS} {Lf:List Ent} {w:World} (x:aM) (n:Int)   (hc:Ctx G (Lf) w) {B:Int} (hF:bP x n=B):Calls Tryz.prog 80 #[.agg #[i6 x.Value,i6 x.Weight],i6 n] w (fun e w=>e=.returned (i6 B)∧Ctx G (Lf) w):=by
 unfold bP at hF
 refine cB Tryz.func80 rfl Tryz.ntmps80 rfl fun a hf=>zS fun K h=>zB hf hc rfl fun D a w hf hc=>sp 1 hf rfl fun a hf=>zT h ?_
 refine zS fun K h=>zP hf rfl (pFA aAk rfl) fun a hf=>zL hf hc aU m0 rfl fun a w hf hc=>sp 1 hf rfl fun a hf=>zP hf rfl (pFA sH rfl) fun a hf=>zL hf hc aU m0 rfl fun a w hf hc=>sp 1 hf rfl fun a hf=>zP hf rfl (pFA sH rfl) fun a hf=>zL hf hc aU m0 rfl fun a w hf hc=>sp 2 hf rfl fun a hf=>zP hf rfl (xH rfl rfl) fun a hf=>sp 2 hf rfl fun a hf=>zT h ?_
 refine wp_ret ?_
 obtain rfl:=hF
 replace hc:=hc.drop k0
 exact zO1 Tryz.results80 hf rfl ⟨rfl,hc⟩

def rG (N:Nat) (l:List aM) (I:(List Int)) (mp:Int × Int→Option aN) (out:List Int) (D:Int) (B:Int):Option (cY ((List Int) × Int × Int) ((List Int) × Int × Int)) :=
 cond (!(D == ((l.length:Nat):Int) && B == B))
 (Option.bind (bG I (((mp (D,B)).getD (⟨0,0⟩:aN)).value)) fun H=>
 Option.bind (pG ((out++[H])).length) fun un=>
 some (.cont ((out++[H]),W ((((mp (D,B)).getD (⟨0,0⟩:aN)).reading) + 1),((mp (D,B)).getD (⟨0,0⟩:aN)).value)))
 (some (.brk (out,D,B)))
def lC (N:Nat) (k:Int) (B:Int × Int→Option aN) (D:Int × Int→Option Int):Option (cY (Int × (Int × Int→Option aN) × (Int × Int→Option Int)) (cY (Int × (Int × Int→Option aN) × (Int × Int→Option Int)) ((List Int) × Int × Int))) :=
 some (.cont (W (k - 1),B,D))
def rD (N:Nat) (l:List aM) (J:(List Int)) (B:Int) (k:Int) (H:Int × Int→Option aN) (D:Int × Int→Option Int):Option (cY (Int × (Int × Int→Option aN) × (Int × Int→Option Int)) (cY (Int × (Int × Int→Option aN) × (Int × Int→Option Int)) ((List Int) × Int × Int))) :=
 cond (decide (0≤k))
 (Option.bind (bG l B) fun M=>
 Option.bind (bG J k) fun I=>
 cond (((W (k + 1)) == ((J.length:Nat):Int)) || (decide ((W ((bP M I) + ((D (W (B + 1),k)).getD 0)))≤((D (B,W (k + 1))).getD 0))))
 (lC N k (lH H (B,k) (⟨B,k⟩:aN)) (lH D (B,k) (W ((bP M I) + ((D (W (B + 1),k)).getD 0)))))
 (lC N k (lH H (B,k) ((H (B,W (k + 1))).getD (⟨0,0⟩:aN))) (lH (lH D (B,k) ((D (B,k)).getD 0)) (B,k) ((D (B,W (k + 1))).getD 0))))
 (some (.brk (k,H,D)))
def rJ (N:Nat) (l:List aM) (I:(List Int)) (D:Int) (mp:Int × Int→Option aN) (H:Int × Int→Option Int):Option (cY (Int × (Int × Int→Option aN) × (Int × Int→Option Int)) ((List Int) × Int × Int)) :=
 cond (decide (0≤D))
 (Option.bind (bE (fun B=>rD N l I D B.1 B.2.1 B.2.2) N (W (((I.length:Nat):Int) - 1),mp,H)) fun J=>
 exK J (fun B=>some (.cont (W (D - 1),B.2.1,B.2.2))) some)
 (some (.brk (D,mp,H)))
def oG (N:Nat) (l:List aM) (B:List Int) (x:Int):Option (cY ((List Int) × Int) ((List Int) × Int × Int)) :=
 cond (decide (x < ((l.length:Nat):Int)))
 (Option.bind (bG l x) fun D=>
 Option.bind (pG ((B++[D.Value])).length) fun H=>
 some (.cont ((B++[D.Value]),W (x + 1))))
 (some (.brk (B,x)))
def lU (N:Nat) (l:List aM):Option ((List Int) × Int × Int) :=
 Option.bind (gX N l) fun r=>
 cond (r != 0)
 (some (([]:List Int),0,r))
 (Option.bind (bE (fun s9=>oG N l s9.1 s9.2) N (([]:List Int),0)) fun x9=>
 exK x9 (fun s9=>Option.bind (jD N s9.1) fun I=>
 Option.bind (jS N I) fun H=>
 Option.bind (bE (fun B=>rJ N l H B.1 B.2.1 B.2.2) N (W (((l.length:Nat):Int) - 1),(fun _=>none:Int × Int→Option aN),(fun _=>none:Int × Int→Option Int))) fun M=>
 exK M (fun B=>Option.bind (bE (fun D=>rG N l H B.2.1 D.1 D.2.1 D.2.2) N (([]:List Int),0,0)) fun J=>
 exK J (fun D=>some (D.1,((B.2.2 (0,0)).getD 0),0)) some) some) some)
theorem xS {N:Nat} {G:aS} {Lf:List Ent} {w:World} (l:List aM) {U:Option Addr} {R:Nat} (a6:Rd G 2 U R (l.map cP)) (hc:Ctx G (Lf) w) {p:(List Int) × Int × Int} (hF:lU N l=some p):Calls Tryz.prog 48 #[.slice U l.length R] w (fun e w=>∃ (a8:Option Addr) (a9:Nat),e=.returned (.tuple #[.slice a8 p.1.length a9,i6 p.2.1,i6 p.2.2])∧Ctx G (.row a8 a9 (p.1.map aD) 3 1::Lf) w):=by
 unfold lU at hF
 refine cB Tryz.func48 rfl Tryz.ntmps48 rfl fun a hf=>zS fun K h=>sp 3 hf rfl fun a hf=>zT h ?_
 refine wp_seq_k fun K2 h2=>zS fun K h=>sp 1 hf rfl fun a hf=>?_
 obtain ⟨r,hr,hF⟩:=aB hF
 refine zQ (v:=i6 r) hf hc aK0 rfl (fun w hc=>nK l a6 hc hr) fun a w hf hc=>sp 1 hf rfl fun a hf=>zT h ?_
 refine zS fun K h=>sp 2 hf rfl fun a hf=>zT h ?_
 refine zI hf rfl hF ?_ ?_ <;> clear hF <;> intro hF
 ·refine zS fun K h=>sp 4 hf rfl fun a hf=>zT h ?_
  refine wp_ret ?_
  refine aO ?_
  obtain rfl:=sj hF
  replace hc:=hc.nilRow 3 1
  exact zO3 Tryz.results48 hf rfl rfl rfl ⟨none,0,rfl,hc⟩
 ·refine wp_skip ?_
  refine h2 _ _ ?_
  refine zS fun K h=>sp 1 hf rfl fun a hf=>zT h ?_
  refine wp_seq_k fun K7 h7=>zS fun K h=>sp 1 hf rfl fun a hf=>zP hf rfl (bM Tryz.underlying116 rfl) fun a hf=>sp 1 hf rfl fun a hf=>zT h ?_
  refine wp_block ?_
  obtain ⟨x9,ci,hF⟩:=aB hF
  let S9:((List Int) × Int)→Act→World→Prop:=(fun (zz:(List Int) × Int) a w=>∃ (aq:Option Addr) (an:Nat),Has 135 a [(0,.slice U l.length R),(6,.slice aq zz.1.length an),(23,.slice U l.length R),(24,i6 ((l.length:Nat):Int)),(25,i6 zz.2)]∧Ctx G (.row aq an (zz.1.map aD) 3 1::Lf) w)
  have cm:∀ (zz:(List Int) × Int) a w,x9=.go zz→S9 zz a w→K7 a w:=by
   rintro ⟨Z,x⟩ a w rfl ⟨aq,an,hf,hc⟩
   replace hF:=bW hF
   refine h7 _ _ ?_
   refine zS fun K h=>sp 1 hf rfl fun a hf=>?_
   obtain ⟨b8,bp,hF⟩:=aB hF
   refine zC hf en_78 rfl (sQ Z (hc.pick k0) bp) ?_
   rintro _ w ⟨rfl,hl,hc⟩
   refine ⟨_,rfl,fun a hf=>?_⟩
   try rw [← hl] at hf
   try rw [← hl] at hc
   refine zT h ?_
   refine zS fun K h=>sp 1 hf rfl fun a hf=>?_
   obtain ⟨J,b2,hF⟩:=aB hF
   refine zC hf en_79 rfl (qV b8 (hc.pick k0) b2) ?_
   rintro _ w ⟨cr,b3,rfl,hc⟩
   refine ⟨_,rfl,fun a hf=>?_⟩
   refine sp 1 hf rfl fun a hf=>zT h ?_
   refine zS fun K h=>stGM (kv:=dR) hf hc rfl rfl fun mb a w hf hc=>?_
   replace hc:Ctx _ (.gm mb (KQ dR (fun j=>((fun _=>none:Int × Int→Option Int) j).map (Value.int .i64)) none)::_) w:=hc
   refine stGM (kv:=dR) hf hc rfl rfl fun H a w hf hc=>?_
   replace hc:Ctx _ (.gm H (KQ dR (fun j=>((fun _=>none:Int × Int→Option aN) j).map (fun x:aN=>.agg #[i6 x.reading,i6 x.value])) none)::_) w:=hc
   refine sp 2 hf rfl fun a hf=>zT h ?_
   refine wp_seq_k fun K13 ca=>zS fun K h=>sp 1 hf rfl fun a hf=>zP hf rfl (bM Tryz.underlying116 rfl) fun a hf=>sp 2 hf rfl fun a hf=>zT h ?_
   refine wp_block ?_
   obtain ⟨a4,br,hF⟩:=aB hF
   let S15:(Int × (Int × Int→Option aN) × (Int × Int→Option Int))→Act→World→Prop:=(fun (zz:Int × (Int × Int→Option aN) × (Int × Int→Option Int)) a w=>∃ (s:Option Addr) (t:Nat),Has 135 a [(0,.slice U l.length R),(6,.slice s J.length t),(9,.map (some mb)),(10,.map (some H)),(11,i6 zz.1)]∧Ctx G (.gm H (KQ dR (fun j=>(zz.2.1 j).map (fun x:aN=>.agg #[i6 x.reading,i6 x.value])) none)::.gm mb (KQ dR (fun j=>(zz.2.2 j).map (Value.int .i64)) none)::.row s t (J.map aD) 3 1::Lf) w)
   have bz:∀ (zz:Int × (Int × Int→Option aN) × (Int × Int→Option Int)) a w,a4=.go zz→S15 zz a w→K13 a w:=by
    rintro ⟨B,mp,ag⟩ a w rfl ⟨s,t,hf,hc⟩
    replace hF:=bW hF
    refine ca _ _ ?_
    refine zS fun K h=>sp 1 hf rfl fun a hf=>zT h ?_
    refine zS fun K h=>zP hf rfl (bH (cells:=[i6 0,i6 0]) yI rfl rfl) fun a hf=>zA hf hc aAu rfl fun ba a w hf hc=>zW hf hc aDc u0 rfl fun w hc=>zT h ?_
    refine wp_seq_k fun K18 b5=>wp_block ?_
    obtain ⟨a2,bi,hF⟩:=aB hF
    let S19:((List Int) × Int × Int)→Act→World→Prop:=(fun (zz:(List Int) × Int × Int) a w=>∃ (am:Option Addr) (ad:Nat) (af:Option Addr) (y:Nat),Has 135 a [(0,.slice U l.length R),(6,.slice am J.length ad),(9,.map (some mb)),(10,.map (some H)),(16,.slice af zz.1.length y),(17,pq ba)]∧Ctx G (.row af y (zz.1.map aD) 3 1::.box ba [i6 zz.2.1,i6 zz.2.2] 150::.gm H (KQ dR (fun j=>(mp j).map (fun x:aN=>.agg #[i6 x.reading,i6 x.value])) none)::.gm mb (KQ dR (fun j=>(ag j).map (Value.int .i64)) none)::.row am ad (J.map aD) 3 1::Lf) w)
    have bc:∀ (zz:(List Int) × Int × Int) a w,a2=.go zz→S19 zz a w→K18 a w:=by
     rintro ⟨out,ar,aa⟩ a w rfl ⟨am,ad,af,y,hf,hc⟩
     replace hF:=bW hF
     refine b5 _ _ ?_
     refine wp_seq_k fun K20 cn=>cQ hc aT (by kernel_rfl) ?_
     refine qE hf rfl rfl rfl (Pu.ev (pM rfl)) fun a hf=>qE hf rfl rfl rfl (Pu.ev (pM rfl)) fun a hf=>qE hf rfl rfl rfl (Pu.ev (bH (cells:=[i6 0,i6 0]) yI rfl rfl)) fun a hf=>qE hf rfl rfl rfl (gLk (kv:=dR) (enc:=(Value.int .i64)) (z0:=0) (m:=ag) (k:=(0,0)) m3 Tryz.underlying147 pJ aAr rfl rfl) fun a hf=>qE hf rfl rfl rfl (Pu.ev (pA rfl)) fun a hf=>qE hf rfl rfl rfl (Pu.ev (pA rfl)) fun a hf=>qE hf rfl rfl rfl (Pu.ev (pA rfl)) fun a hf=>?_
     intro w hc
     refine cn _ _ ?_
     refine wp_ret ?_
     obtain rfl:=sj hF
     replace hc:=(((hc.drop k4).drop k3).drop k2).drop k1
     exact zO3 Tryz.results48 hf rfl rfl rfl ⟨af,y,rfl,hc⟩
    have c1:∀ r,a2=.out r→r=p:=by
     rintro r rfl
     exact sj hF
    replace hc:=hc.nilRow 3 1
    refine dO N (dH (S:=S19) (x:=a2) ?_ N (([]:List Int),0,0) _ _ ⟨s,t,none,0,hf.kp rfl,hc⟩ bi)
    clear hF hf hc
    rintro ⟨out,ar,aa⟩ c2 a w KB19 ⟨am,ad,af,y,hf,hc⟩ hF ak bb
    unfold rG at hF
    refine wp_seq_k fun K21 ct=>zS fun K h=>zN hf hc rR m1 rfl fun a w hf hc=>sp 1 hf rfl fun a hf=>zP hf rfl (bM Tryz.underlying116 rfl) fun a hf=>zP hf rfl (pFA aDu rfl) fun a hf=>zL hf hc aU m1 rfl fun a w hf hc=>zP hf rfl (bH (cells:=[i6 ((l.length:Nat):Int),i6 aa]) yI rfl rfl) fun a hf=>zP hf rfl (pNeA aMb rfl rfl (aJj _ _ _ _)) fun a hf=>zT h ?_
    refine zI hf rfl hF ?_ ?_ <;> clear hF <;> intro hF
    ·refine wp_skip ?_
     refine ct _ _ ?_
     refine mA fun K23 cd=>wp_block ?_
     refine zS fun K h=>sp 1 hf rfl fun a hf=>zN hf hc rR m1 rfl fun a w hf hc=>zE hf hc rfl (gLk (kv:=dR) (enc:=(fun x:aN=>.agg #[i6 x.reading,i6 x.value])) (z0:=(⟨0,0⟩:aN)) (m:=mp) (k:=(ar,aa)) m2 Tryz.underlying148 pJ aAu rfl rfl) fun a w hf hc=>zW hf hc aDc u1 rfl fun w hc=>zT h ?_
     refine zS fun K h=>sp 2 hf rfl fun a hf=>zP hf rfl (pFA aDu rfl) fun a hf=>zL hf hc aU m1 rfl fun a w hf hc=>?_
     obtain ⟨av,b0,hF⟩:=aB hF
     obtain ⟨g,rfl,qa,qr⟩:=gH hc m4 b0
     refine zP hf rfl (pIA Tryz.underlying27 eL rfl rfl qa) fun a hf=>zE hf hc rfl (cE aU rfl (dA (sz:=1) (i:=(((mp (ar,aa)).getD (⟨0,0⟩:aN)).value).toNat) (j:=0) m4 qr rfl)) fun a w hf hc=>mY (rows:=([av]:List Int).map aD) (vs:=[(0,i6 av)]) hf hc rfl rfl lD rfl ⟨rfl,rfl,rfl,trivial⟩ rfl rfl fun c5 a w hf hc=>?_
     obtain ⟨un,ck,hF⟩:=aB hF
     refine nT (xs:=out) (ys:=([av]:List Int)) hf hc rfl rfl lD rfl rfl rfl rfl rfl bD (iL hc m0) (fun _ _=>u1) (by simpa using eR ck) fun cs b7 a w hf hc=>sp 1 hf rfl fun a hf=>zT h ?_
     refine dE ?_
     refine zP hf rfl (pFA aD7 rfl) fun a hf=>zL hf hc aU m2 rfl fun a w hf hc=>sp 1 hf rfl fun a hf=>zP hf rfl (pFA aD7 rfl) fun a hf=>zW hf hc eL u2 rfl fun w hc=>aP ?_
     refine cd _ _ ?_
     replace hc:=hc.drop k0
     exact bb ((out++[av]),W ((((mp (ar,aa)).getD (⟨0,0⟩:aN)).reading) + 1),((mp (ar,aa)).getD (⟨0,0⟩:aN)).value) _ _ (sj hF).symm ⟨(some ⟨g,0,none⟩),ad,cs,b7,hf.kp rfl,hc⟩
    ·refine wp_exit ?_
     refine aV ?_
     refine aV ?_
     have he:=sj hF
     rw [← he] at ak
     refine eW ?_
     exact bc _ _ _ ak ⟨am,ad,af,y,hf.kp rfl,hc⟩
   have cz:∀ r,a4=.out r→r=p:=by
    rintro r rfl
    exact sj hF
   refine dO N (dH (S:=S15) (x:=a4) ?_ N (W (((l.length:Nat):Int) - 1),(fun _=>none:Int × Int→Option aN),(fun _=>none:Int × Int→Option Int)) _ _ ⟨cr,b3,hf.kp rfl,hc⟩ br)
   clear hF hf hc
   rintro ⟨B,mp,ag⟩ bg a w KB15 ⟨s,t,hf,hc⟩ hF au bx
   unfold rJ at hF
   refine wp_seq_k fun K26 b6=>zS fun K h=>sp 2 hf rfl fun a hf=>zT h ?_
   refine zI hf rfl hF ?_ ?_ <;> clear hF <;> intro hF
   ·refine wp_skip ?_
    refine b6 _ _ ?_
    refine wp_seq_k fun K28 b9=>wp_block ?_
    refine zS fun K h=>sp 1 hf rfl fun a hf=>zP hf rfl (bM Tryz.underlying27 rfl) fun a hf=>sp 2 hf rfl fun a hf=>zT h ?_
    refine mA fun K30 b4=>wp_block ?_
    obtain ⟨a3,bd,hF⟩:=aB hF
    let S31:(Int × (Int × Int→Option aN) × (Int × Int→Option Int))→Act→World→Prop:=(fun (zz:Int × (Int × Int→Option aN) × (Int × Int→Option Int)) a w=>∃ (z:Option Addr) (M:Nat),Has 135 a [(0,.slice U l.length R),(6,.slice z J.length M),(9,.map (some mb)),(10,.map (some H)),(11,i6 B),(12,i6 zz.1)]∧Ctx G (.gm H (KQ dR (fun j=>(zz.2.1 j).map (fun x:aN=>.agg #[i6 x.reading,i6 x.value])) none)::.gm mb (KQ dR (fun j=>(zz.2.2 j).map (Value.int .i64)) none)::.row z M (J.map aD) 3 1::Lf) w)
    have bn:∀ (zz:Int × (Int × Int→Option aN) × (Int × Int→Option Int)) a w,a3=.go zz→S31 zz a w→K30 a w:=by
     rintro ⟨k,I,D⟩ a w rfl ⟨z,M,hf,hc⟩
     replace hF:=bW hF
     refine b4 _ _ ?_
     refine b9 _ _ ?_
     refine dE ?_
     refine sp 3 hf rfl fun a hf=>aP ?_
     exact bx (W (B - 1),I,D) _ _ (sj hF).symm ⟨z,M,hf.kp rfl,hc⟩
    have c0:∀ r,a3=.out r→r=bg:=by
     rintro r rfl
     exact sj hF
    refine dO N (dH (S:=S31) (x:=a3) ?_ N (W (((J.length:Nat):Int) - 1),mp,ag) _ _ ⟨s,t,hf.kp rfl,hc⟩ bd)
    clear hF hf hc
    rintro ⟨k,I,D⟩ b1 a w KB31 ⟨z,M,hf,hc⟩ hF ap bq
    unfold rD at hF
    refine wp_seq_k fun K32 cx=>zS fun K h=>sp 2 hf rfl fun a hf=>zT h ?_
    refine zI hf rfl hF ?_ ?_ <;> clear hF <;> intro hF
    ·refine wp_skip ?_
     refine cx _ _ ?_
     refine wp_seq_k fun K34 cj=>?_
     have a1:∀ (ai:Int × Int→Option aN) (aj:Int × Int→Option Int) (ay:Option Addr) (a0:Nat) a w,Has 135 a [(0,.slice U l.length R),(6,.slice ay J.length a0),(9,.map (some mb)),(10,.map (some H)),(11,i6 B),(12,i6 k)]→Ctx G (.gm H (KQ dR (fun j=>(ai j).map (fun x:aN=>.agg #[i6 x.reading,i6 x.value])) none)::.gm mb (KQ dR (fun j=>(aj j).map (Value.int .i64)) none)::.row ay a0 (J.map aD) 3 1::Lf) w→lC N k ai aj=some b1→K34 a w:=by
      repeat (clear hF)
      repeat (clear hc)
      repeat (clear hf)
      intro ai aj ay a0 a w hf hc hF
      unfold lC at hF
      refine cj _ _ ?_
      refine dE ?_
      refine sp 3 hf rfl fun a hf=>aP ?_
      exact bq (W (k - 1),ai,aj) _ _ (sj hF).symm ⟨ay,a0,hf.kp rfl,hc⟩
     refine wp_block ?_
     refine zS fun K h=>sp 2 hf rfl fun a hf=>zP hf rfl (bH (cells:=[i6 B,i6 k]) yI rfl rfl) fun a hf=>sp 3 hf rfl fun a hf=>zP hf rfl (bH (cells:=[i6 B,i6 (W (k + 1))]) yI rfl rfl) fun a hf=>zA hf hc aAu rfl fun q a w hf hc=>zA hf hc aAu rfl fun ab a w hf hc=>zW hf hc aDc u1 rfl fun w hc=>zW hf hc aDc u0 rfl fun w hc=>zT h ?_
     refine wp_seq_k fun K36 cc=>?_
     obtain ⟨O,bf,hF⟩:=aB hF
     obtain ⟨c8,o,bm,qp⟩:=a6.atm bf
     obtain ⟨Y,bk,hF⟩:=aB hF
     obtain ⟨X,rfl,bt,bu⟩:=gH hc m4 bk
     refine cQ hc aT (by kernel_rfl) ?_
     refine qE hf rfl rfl rfl (Pu.ev (pM rfl)) fun a hf=>qE hf rfl rfl rfl (Pu.ev (pM rfl)) fun a hf=>qE hf rfl rfl rfl (Pu.ev (pIA Tryz.underlying116 uO rfl rfl bm)) fun a hf=>qE hf rfl rfl rfl (jM (vs:=[i6 O.Value,i6 O.Weight]) aBa rfl rfl (cI qp (n:=2) (o':=0) rfl)) fun a hf=>qE hf rfl rfl rfl (Pu.ev (pM rfl)) fun a hf=>qE hf rfl rfl rfl (Pu.ev (pM rfl)) fun a hf=>qE hf rfl rfl rfl (Pu.ev (pIA Tryz.underlying27 eL rfl rfl bt)) fun a hf=>qE hf rfl rfl rfl (cE aU rfl (dA (sz:=1) (i:=k.toNat) (j:=0) m4 bu rfl)) fun a hf=>qE hf rfl rfl rfl (eC (v:=i6 (bP O Y)) (vs:=[.agg #[i6 O.Value,i6 O.Weight],i6 Y]) (caps:=[]) en_80 rfl rfl rfl rfl (fun w hc=>sY O Y hc rfl)) fun a hf=>qE hf rfl rfl rfl (Pu.ev (pM rfl)) fun a hf=>qE hf rfl rfl rfl (Pu.ev (pM rfl)) fun a hf=>qE hf rfl rfl rfl (Pu.ev (aBv rfl rfl)) fun a hf=>qE hf rfl rfl rfl (Pu.ev (pM rfl)) fun a hf=>?_
     refine qE hf rfl rfl rfl (Pu.ev (bH (cells:=[i6 (W (B + 1)),i6 k]) yI rfl rfl)) fun a hf=>qE hf rfl rfl rfl (gLk (kv:=dR) (enc:=(Value.int .i64)) (z0:=0) (m:=D) (k:=(W (B + 1),k)) m3 Tryz.underlying147 pJ aAr rfl rfl) fun a hf=>qE hf rfl rfl rfl (Pu.ev (aBv rfl rfl)) fun a hf=>qE hf rfl rfl rfl (Pu.ev (pA rfl)) fun a hf=>?_
     intro w hc
     refine cc _ _ ?_
     refine zS fun K h=>sp 3 hf rfl fun a hf=>zP hf rfl (bM Tryz.underlying27 rfl) fun a hf=>sp 2 hf rfl fun a hf=>hY 6 (fun a=>Has 135 a [(0,.slice U l.length R),(6,.slice (some ⟨X,0,none⟩) J.length M),(9,.map (some mb)),(10,.map (some H)),(11,i6 B),(12,i6 k),(13,pq q),(14,pq ab),(15,i6 (W ((bP O Y) + ((D (W (B + 1),k)).getD 0)))),(78,i6 k),(79,i6 (W (k + 1))),(80,.slice (some ⟨X,0,none⟩) J.length M),(81,i6 ((J.length:Nat):Int)),(82,.bool ((W (k + 1)) == ((J.length:Nat):Int))),(83,.bool ((W (k + 1)) == ((J.length:Nat):Int))),(89,.bool (((W (k + 1)) == ((J.length:Nat):Int)) || (decide ((W ((bP O Y) + ((D (W (B + 1),k)).getD 0)))≤((D (B,W (k + 1))).getD 0)))))]) hc ?_ ?_
     ·cases hb:((W (k + 1)) == ((J.length:Nat):Int))
      ·rw [hb] at hf
       refine sp 2 hf rfl fun a hf=>zN hf hc rR m0 rfl fun a w hf hc=>zE hf hc rfl (gLk (kv:=dR) (enc:=(Value.int .i64)) (z0:=0) (m:=D) (k:=(B,W (k + 1))) m3 Tryz.underlying147 pJ aAr rfl rfl) fun a w hf hc=>sp 2 hf rfl fun a hf=>aP ⟨hf.kp rfl,hc⟩
      ·rw [hb] at hf
       refine stS hf rfl rfl rfl fun a hf=>stS hf rfl rfl rfl fun a hf=>stS hf rfl rfl rfl fun a hf=>stS hf rfl rfl rfl fun a hf=>stS hf rfl rfl rfl fun a hf=>sp 1 hf rfl fun a hf=>aP ⟨hf.kp rfl,hc⟩
     intro a w ⟨hf,hc⟩
     refine zT h ?_
     refine zI hf rfl hF ?_ ?_ <;> clear hF <;> intro hF
     ·refine fI (fun θ=>[⟨none,none,0,.slice U l.length R⟩,⟨none,none,6,.slice (some ⟨X,0,none⟩) J.length M⟩,⟨none,none,9,.map (some mb)⟩,⟨none,none,10,.map (some H)⟩,⟨none,none,11,i6 B⟩,⟨none,none,12,i6 k⟩,⟨none,none,13,pq q⟩,⟨none,none,15,i6 (W ((bP O Y) + ((D (W (B + 1),k)).getD 0)))⟩,⟨some 0,none,90,.map (some mb)⟩,⟨some 1,none,91,.agg #[i6 B,i6 k]⟩,⟨some 2,none,92,.map (some H)⟩,⟨some 3,none,93,.agg #[i6 B,i6 k]⟩,⟨some 4,none,94,i6 (W ((bP O Y) + ((D (W (B + 1),k)).getD 0)))⟩,⟨some 5,none,95,.agg #[i6 B,i6 k]⟩]) (fun E θ=>.box ab [i6 B,i6 (W (k + 1))] 150::.box q [i6 B,i6 k] 150::(bif E 7 then .gm H (KQ dR (fun j=>((lH I (B,k) (⟨B,k⟩:aN)) j).map (fun x:aN=>.agg #[i6 x.reading,i6 x.value])) none) else .gm H (KQ dR (fun j=>(I j).map (fun x:aN=>.agg #[i6 x.reading,i6 x.value])) none))::(bif E 6 then .gm mb (KQ dR (fun j=>((lH D (B,k) (W ((bP O Y) + ((D (W (B + 1),k)).getD 0)))) j).map (Value.int .i64)) none) else .gm mb (KQ dR (fun j=>(D j).map (Value.int .i64)) none))::.row (some ⟨X,0,none⟩) M (J.map aD) 3 1::Lf) [] (fun a w=>Has 135 a [(0,.slice U l.length R),(6,.slice (some ⟨X,0,none⟩) J.length M),(9,.map (some mb)),(10,.map (some H)),(11,i6 B),(12,i6 k)]∧Ctx G (.box ab [i6 B,i6 (W (k + 1))] 150::.box q [i6 B,i6 k] 150::.gm H (KQ dR (fun j=>((lH I (B,k) (⟨B,k⟩:aN)) j).map (fun x:aN=>.agg #[i6 x.reading,i6 x.value])) none)::.gm mb (KQ dR (fun j=>((lH D (B,k) (W ((bP O Y) + ((D (W (B + 1),k)).getD 0)))) j).map (Value.int .i64)) none)::.row (some ⟨X,0,none⟩) M (J.map aD) 3 1::Lf) w) aT (by kernel_rfl) (by kernel_rfl) (eZ.of hf ⟨rfl,rfl,rfl,rfl,rfl,rfl,rfl,rfl,trivial,trivial,trivial,trivial,trivial,trivial,trivial⟩) hc ⟨?_,?_,?_,?_,?_,?_,?_,?_,trivial⟩ ?_ ?_
      ·intro E θ a w hD hi hp he hc
       have hf:=he.h0.mT he 2 rfl
       refine sp 1 hf rfl fun a hf=>zD θ he hi hf 8 rfl rfl rfl hc
      ·intro E θ a w hD hi hp he hc
       have hf:=he.h0.mT he 6 rfl
       refine zN hf hc rR m1 rfl fun a w hf hc=>zD θ he hi hf 9 rfl rfl rfl hc
      ·intro E θ a w hD hi hp he hc
       have hf:=he.h0.mT he 3 rfl
       refine sp 1 hf rfl fun a hf=>zD θ he hi hf 10 rfl rfl rfl hc
      ·intro E θ a w hD hi hp he hc
       have hf:=he.h0.mT he 6 rfl
       refine zN hf hc rR m1 rfl fun a w hf hc=>zD θ he hi hf 11 rfl rfl rfl hc
      ·intro E θ a w hD hi hp he hc
       have hf:=he.h0.mT he 7 rfl
       refine sp 1 hf rfl fun a hf=>zD θ he hi hf 12 rfl rfl rfl hc
      ·intro E θ a w hD hi hp he hc
       have hf:=he.h0.mT he 6 rfl
       refine zN hf hc rR m1 rfl fun a w hf hc=>zD θ he hi hf 13 rfl rfl rfl hc
      ·intro E θ a w hD hi hp he hc
       have e0:=hp.o 0 rfl
       have e1:=hp.o 1 rfl
       have e4:=hp.o 4 rfl
       try dsimp only at hc
       rw [hi] at hc
       have hf:=((he.h0.mP he 8 rfl e0).mP he 9 rfl e1).mP he 12 rfl e4
       refine stGU (kv:=dR) (enc:=(Value.int .i64)) (m:=D) (k:=(B,k)) (v:=W ((bP O Y) + ((D (W (B + 1),k)).getD 0))) hf hc rfl Tryz.underlying147 pJ rfl rfl rfl u3 fun w hc=>zG θ he hi hf rfl ?_
       try dsimp only
       rw [aR E 6]
       exact hc
      ·intro E θ a w hD hi hp he hc
       have e2:=hp.o 2 rfl
       have e3:=hp.o 3 rfl
       have e5:=hp.o 5 rfl
       try dsimp only at hc
       rw [hi] at hc
       have hf:=((he.h0.mP he 10 rfl e2).mP he 11 rfl e3).mP he 13 rfl e5
       refine stGU (kv:=dR) (enc:=(fun x:aN=>.agg #[i6 x.reading,i6 x.value])) (m:=I) (k:=(B,k)) (v:=(⟨B,k⟩:aN)) hf hc rfl Tryz.underlying148 pJ rfl rfl rfl u2 fun w hc=>zG θ he hi hf rfl ?_
       try dsimp only
       rw [aR E 7]
       exact hc
      ·intro E θ a w d he hc
       have hf:=he.h0
       have e6:=d 6 rfl
       have e7:=d 7 rfl
       replace hf:=hf.more he 5 rfl (onT)
       replace hf:=hf.more he 4 rfl (onT)
       replace hf:=hf.more he 3 rfl (onT)
       replace hf:=hf.more he 2 rfl (onT)
       replace hf:=hf.more he 1 rfl (onT)
       replace hf:=hf.more he 0 rfl (onT)
       try dsimp only at hc
       rw [e6,e7] at hc
       exact ⟨hf.kp rfl,hc⟩
      rintro a w ⟨hf,hc⟩
      replace hc:=(hc.drop k1).drop k0
      exact a1 (lH I (B,k) (⟨B,k⟩:aN)) (lH D (B,k) (W ((bP O Y) + ((D (W (B + 1),k)).getD 0)))) (some ⟨X,0,none⟩) M _ _  (hf.kp rfl) hc hF
     ·refine fI (fun θ=>[⟨none,none,0,.slice U l.length R⟩,⟨none,none,6,.slice (some ⟨X,0,none⟩) J.length M⟩,⟨none,none,9,.map (some mb)⟩,⟨none,none,10,.map (some H)⟩,⟨none,none,11,i6 B⟩,⟨none,none,12,i6 k⟩,⟨none,none,13,pq q⟩,⟨none,none,14,pq ab⟩,⟨some 0,none,96,.map (some mb)⟩,⟨some 1,none,97,.agg #[i6 B,i6 k]⟩,⟨some 2,none,98,.map (some H)⟩,⟨some 3,none,99,.agg #[i6 B,i6 k]⟩,⟨some 4,none,100,.map (some mb)⟩,⟨some 5,none,101,.agg #[i6 B,i6 (W (k + 1))]⟩,⟨some 7,none,103,.map (some H)⟩,⟨some 8,none,104,.agg #[i6 B,i6 (W (k + 1))]⟩,⟨some 9,none,105,.agg #[i6 (((I (B,W (k + 1))).getD (⟨0,0⟩:aN)).reading),i6 (((I (B,W (k + 1))).getD (⟨0,0⟩:aN)).value)]⟩,⟨some 10,none,106,.tuple #[i6 ((D (B,k)).getD 0),i6 (((θ 80).c:Nat):Int)]⟩,⟨some 11,none,107,i6 (((θ 80).c:Nat):Int)⟩,⟨some 6,none,102,i6 ((D (B,W (k + 1))).getD 0)⟩]) (fun E θ=>.box ab [i6 B,i6 (W (k + 1))] 150::.box q [i6 B,i6 k] 150::(bif E 13 then .gm H (KQ dR (fun j=>((lH I (B,k) ((I (B,W (k + 1))).getD (⟨0,0⟩:aN))) j).map (fun x:aN=>.agg #[i6 x.reading,i6 x.value])) none) else .gm H (KQ dR (fun j=>(I j).map (fun x:aN=>.agg #[i6 x.reading,i6 x.value])) none))::(bif E 12 then .gm mb (KQ dR (fun j=>((lH (lH D (B,k) ((D (B,k)).getD 0)) (B,k) ((D (B,W (k + 1))).getD 0)) j).map (Value.int .i64)) none) else bif E 10 then .gm mb (KQ dR (fun j=>((lH D (B,k) ((D (B,k)).getD 0)) j).map (Value.int .i64)) (some ((θ 80).c,(B,k)))) else .gm mb (KQ dR (fun j=>(D j).map (Value.int .i64)) none))::.row (some ⟨X,0,none⟩) M (J.map aD) 3 1::Lf) [(12,6),(13,9),(12,10),(11,10)] (fun a w=>Has 135 a [(0,.slice U l.length R),(6,.slice (some ⟨X,0,none⟩) J.length M),(9,.map (some mb)),(10,.map (some H)),(11,i6 B),(12,i6 k)]∧Ctx G (.box ab [i6 B,i6 (W (k + 1))] 150::.box q [i6 B,i6 k] 150::.gm H (KQ dR (fun j=>((lH I (B,k) ((I (B,W (k + 1))).getD (⟨0,0⟩:aN))) j).map (fun x:aN=>.agg #[i6 x.reading,i6 x.value])) none)::.gm mb (KQ dR (fun j=>((lH (lH D (B,k) ((D (B,k)).getD 0)) (B,k) ((D (B,W (k + 1))).getD 0)) j).map (Value.int .i64)) none)::.row (some ⟨X,0,none⟩) M (J.map aD) 3 1::Lf) w) aT (by kernel_rfl) (by kernel_rfl) (eZ.of hf ⟨rfl,rfl,rfl,rfl,rfl,rfl,rfl,rfl,trivial,trivial,trivial,trivial,trivial,trivial,trivial,trivial,trivial,trivial,trivial,trivial,trivial⟩) hc ⟨?_,?_,?_,?_,?_,?_,?_,?_,?_,?_,?_,?_,?_,?_,trivial⟩ ?_ ?_
      ·intro E θ a w hD hi hp he hc
       have hf:=he.h0.mT he 2 rfl
       refine sp 1 hf rfl fun a hf=>zD θ he hi hf 8 rfl rfl rfl hc
      ·intro E θ a w hD hi hp he hc
       have hf:=he.h0.mT he 6 rfl
       refine zN hf hc rR m1 rfl fun a w hf hc=>zD θ he hi hf 9 rfl rfl rfl hc
      ·intro E θ a w hD hi hp he hc
       have hf:=he.h0.mT he 3 rfl
       refine sp 1 hf rfl fun a hf=>zD θ he hi hf 10 rfl rfl rfl hc
      ·intro E θ a w hD hi hp he hc
       have hf:=he.h0.mT he 6 rfl
       refine zN hf hc rR m1 rfl fun a w hf hc=>zD θ he hi hf 11 rfl rfl rfl hc
      ·intro E θ a w hD hi hp he hc
       have hf:=he.h0.mT he 2 rfl
       refine sp 1 hf rfl fun a hf=>zD θ he hi hf 12 rfl rfl rfl hc
      ·intro E θ a w hD hi hp he hc
       have hf:=he.h0.mT he 7 rfl
       refine zN hf hc rR m0 rfl fun a w hf hc=>zD θ he hi hf 13 rfl rfl rfl hc
      ·intro E θ a w hD hi hp he hc
       have e4:=hp.o 4 rfl
       have e5:=hp.o 5 rfl
       have b:=hD.f 0 rfl hi
       rcases dP (E 10) with V | V
       ·try dsimp only at hc
        rw [V,b] at hc
        have hf:=(he.h0.mP he 12 rfl e4).mP he 13 rfl e5
        refine zE hf hc rfl (gLk (kv:=dR) (enc:=(Value.int .i64)) (z0:=0) (m:=(lH D (B,k) ((D (B,k)).getD 0))) (k:=(B,W (k + 1))) m3 Tryz.underlying147 pJ aAr rfl rfl) fun a w hf hc=>?_
        replace hf:=nH (v':=i6 ((D (B,W (k + 1))).getD 0)) (by simp only [aHj]) hf
        refine zD θ he hi hf 19 rfl rfl rfl ?_
        try dsimp only
        rw [cV 6 V,aQ 6 b rfl]
        exact hc
       ·try dsimp only at hc
        rw [V,b] at hc
        have hf:=(he.h0.mP he 12 rfl e4).mP he 13 rfl e5
        refine zE hf hc rfl (gLk (kv:=dR) (enc:=(Value.int .i64)) (z0:=0) (m:=D) (k:=(B,W (k + 1))) m3 Tryz.underlying147 pJ aAr rfl rfl) fun a w hf hc=>zD θ he hi hf 19 rfl rfl rfl ?_
        try dsimp only
        rw [aQ 6 V rfl,aQ 6 b rfl]
        exact hc
      ·intro E θ a w hD hi hp he hc
       have hf:=he.h0.mT he 3 rfl
       refine sp 1 hf rfl fun a hf=>zD θ he hi hf 14 rfl rfl rfl hc
      ·intro E θ a w hD hi hp he hc
       have hf:=he.h0.mT he 7 rfl
       refine zN hf hc rR m0 rfl fun a w hf hc=>zD θ he hi hf 15 rfl rfl rfl hc
      ·intro E θ a w hD hi hp he hc
       have e7:=hp.o 7 rfl
       have e8:=hp.o 8 rfl
       have ax:=hD.f 1 rfl hi
       try dsimp only at hc
       rw [ax] at hc
       have hf:=(he.h0.mP he 14 rfl e7).mP he 15 rfl e8
       refine zE hf hc rfl (gLk (kv:=dR) (enc:=(fun x:aN=>.agg #[i6 x.reading,i6 x.value])) (z0:=(⟨0,0⟩:aN)) (m:=I) (k:=(B,W (k + 1))) m2 Tryz.underlying148 pJ aAu rfl rfl) fun a w hf hc=>zD θ he hi hf 16 rfl rfl rfl ?_
       try dsimp only
       rw [aQ 9 ax rfl]
       exact hc
      ·intro E θ a w hD hi hp he hc
       have e0:=hp.o 0 rfl
       have e1:=hp.o 1 rfl
       have b:=hD.f 2 rfl hi
       have a5:=hD.f 3 rfl hi
       try dsimp only at hc
       rw [hi,b] at hc
       have hf:=(he.h0.mP he 8 rfl e0).mP he 9 rfl e1
       refine stGE (kv:=dR) (enc:=(Value.int .i64)) (z0:=0) (m:=D) (k:=(B,k)) hf hc rfl rfl Tryz.underlying147 pJ aAr rfl rfl (fun _=>u3) fun cg a w hf hc=>aP ?_
       refine eY ?_
       intro ds u cb
       refine ⟨(qW θ 80 ⟨0,none,cg,(fun _=>(none,0))⟩),he.put hi cb hf rfl [11] ⟨⟨a5,rfl⟩,trivial⟩ ⟨qq,qq,qq,qq,qq,qq,qq,qq,qq,qq,qq,qq,qq,qq,qq,qq,qq,qq,trivial,qq,trivial⟩,?_⟩
       try dsimp only
       rw [aR E 10,aQ 10 b rfl]
       exact hc
      ·intro E θ a w hD hi hp he hc
       have V:=hp.o 10 rfl
       have hf:=he.h0.mP he 17 rfl V
       refine sp 1 hf rfl fun a hf=>zD θ he hi hf 18 rfl rfl rfl hc
      ·intro E θ a w hD hi hp he hc
       have e0:=hp.o 0 rfl
       have a5:=hp.o 11 rfl
       have e6:=hp.o 6 rfl
       have V:=hp.o 10 rfl
       try dsimp only at hc
       rw [V,hi] at hc
       have hf:=((he.h0.mP he 8 rfl e0).mP he 18 rfl a5).mP he 19 rfl e6
       refine stGS pJ.inj (enc:=(Value.int .i64)) (m:=(lH D (B,k) ((D (B,k)).getD 0))) (k:=(B,k)) (v:=((D (B,W (k + 1))).getD 0)) hf hc rfl rfl rfl rfl u3 fun w hc=>zG θ he hi hf rfl ?_
       try dsimp only
       rw [cV 12 V,aR E 12]
       exact hc
      ·intro E θ a w hD hi hp he hc
       have e2:=hp.o 2 rfl
       have e3:=hp.o 3 rfl
       have e9:=hp.o 9 rfl
       try dsimp only at hc
       rw [hi] at hc
       have hf:=((he.h0.mP he 10 rfl e2).mP he 11 rfl e3).mP he 16 rfl e9
       refine stGU (kv:=dR) (enc:=(fun x:aN=>.agg #[i6 x.reading,i6 x.value])) (m:=I) (k:=(B,k)) (v:=((I (B,W (k + 1))).getD (⟨0,0⟩:aN))) hf hc rfl Tryz.underlying148 pJ rfl rfl rfl u2 fun w hc=>zG θ he hi hf rfl ?_
       try dsimp only
       rw [aR E 13]
       exact hc
      ·intro E θ a w d he hc
       have hf:=he.h0
       have V:=d 10 rfl
       have b:=d 12 rfl
       have ax:=d 13 rfl
       replace hf:=hf.more he 5 rfl (onT)
       replace hf:=hf.more he 4 rfl (onT)
       replace hf:=hf.more he 3 rfl (onT)
       replace hf:=hf.more he 2 rfl (onT)
       replace hf:=hf.more he 1 rfl (onT)
       replace hf:=hf.more he 0 rfl (onT)
       try dsimp only at hc
       rw [V,b,ax] at hc
       exact ⟨hf.kp rfl,hc⟩
      rintro a w ⟨hf,hc⟩
      replace hc:=(hc.drop k1).drop k0
      exact a1 (lH I (B,k) ((I (B,W (k + 1))).getD (⟨0,0⟩:aN))) (lH (lH D (B,k) ((D (B,k)).getD 0)) (B,k) ((D (B,W (k + 1))).getD 0)) (some ⟨X,0,none⟩) M _ _  (hf.kp rfl) hc hF
    ·refine wp_exit ?_
     refine aV ?_
     refine aV ?_
     have he:=sj hF
     rw [← he] at ap
     refine eW ?_
     exact bn _ _ _ ap ⟨z,M,hf.kp rfl,hc⟩
   ·refine wp_exit ?_
    refine aV ?_
    refine aV ?_
    have he:=sj hF
    rw [← he] at au
    refine eW ?_
    exact bz _ _ _ au ⟨s,t,hf.kp rfl,hc⟩
  have c4:∀ r,x9=.out r→r=p:=by
   rintro r rfl
   exact sj hF
  replace hc:=hc.nilRow 3 1
  refine dO N (dH (S:=S9) (x:=x9) ?_ N (([]:List Int),0) _ _ ⟨none,0,hf.kp rfl,hc⟩ ci)
  clear hF hf hc
  rintro ⟨Z,x⟩ c6 a w KB9 ⟨aq,an,hf,hc⟩ hF az cu
  unfold oG at hF
  refine zS fun K h=>sp 1 hf rfl fun a hf=>zT h ?_
  refine wp_seq_k fun K39 cv=>zI hf rfl hF ?_ ?_ <;> clear hF <;> intro hF
  ·refine wp_skip ?_
   refine cv _ _ ?_
   refine wp_seq_k fun K40 cf=>wp_block ?_
   refine zS fun K h=>?_
   obtain ⟨ac,bv,hF⟩:=aB hF
   obtain ⟨c9,c7,bs,bj⟩:=a6.atm bv
   refine zP hf rfl (pIA Tryz.underlying116 uO rfl rfl bs) fun a hf=>zE hf hc rfl (jM (vs:=[i6 ac.Value,i6 ac.Weight]) aBa rfl rfl (cI bj (n:=2) (o':=0) rfl)) fun a w hf hc=>zA hf hc aH0 rfl fun da a w hf hc=>zW hf hc uO u0 rfl fun w hc=>zT h ?_
   refine dE ?_
   refine sp 1 hf rfl fun a hf=>zP hf rfl (pFA sH rfl) fun a hf=>zL hf hc aU m0 rfl fun a w hf hc=>mY (rows:=([ac.Value]:List Int).map aD) (vs:=[(0,i6 ac.Value)]) hf hc rfl rfl lD rfl ⟨rfl,rfl,rfl,trivial⟩ rfl rfl fun c3 a w hf hc=>?_
   obtain ⟨cy,a7,hF⟩:=aB hF
   refine nT (xs:=Z) (ys:=([ac.Value]:List Int)) hf hc rfl rfl lD rfl rfl rfl rfl rfl bD (iL hc m0) (fun _ _=>u2) (by simpa using eR a7) fun cp cq a w hf hc=>sp 1 hf rfl fun a hf=>aP ?_
   refine cf _ _ ?_
   refine dE ?_
   refine sp 2 hf rfl fun a hf=>aP ?_
   replace hc:=(hc.drop k1).drop k0
   exact cu ((Z++[ac.Value]),W (x + 1)) _ _ (sj hF).symm ⟨cp,cq,hf.kp rfl,hc⟩
  ·refine wp_exit ?_
   refine aV ?_
   refine aV ?_
   have he:=sj hF
   rw [← he] at az
   refine eW ?_
   exact cm _ _ _ az ⟨aq,an,hf.kp rfl,hc⟩

def fU (N:Nat) (B:Int):Option (Int) :=
 some B
def lQ (N:Nat)  : Option (Int) :=
 fU N 4
def lS (N:Nat)  : Option (Int) :=
 fU N 9
def jN (N:Nat)  : Option (Int) :=
 fU N 2
def oD (N:Nat) (f_:eN) (D:Int):Option (Int) :=
 cond (!(bL f_.A 0 (W (D - 1))))
 (jN N)
 (cond (!(bL f_.B 0 (W (D - 1))))
 (jN N)
 (cond (decide (f_.B≤f_.A))
 (lS N)
 (cond (!(bL f_.Weight 1 100))
 (lQ N)
 (fU N 0))))
theorem vT {N:Nat} {G:aS} {Lf:List Ent} {w:World} (f_:eN) (D:Int)   (hc:Ctx G (Lf) w) {H:Int} (hF:oD N f_ D=some H):Calls Tryz.prog 81 #[.agg #[i6 f_.A,i6 f_.B,i6 f_.Weight],i6 D] w (fun e w=>e=.returned (i6 H)∧Ctx G (Lf) w):=by
 unfold oD at hF
 refine cB Tryz.func81 rfl Tryz.ntmps81 rfl fun a hf=>zS fun K h=>zB hf hc rfl fun Z a w hf hc=>sp 1 hf rfl fun a hf=>zT h ?_
 refine zS fun K h=>sp 1 hf rfl fun a hf=>zT h ?_
 refine wp_seq_k fun K3 h3=>?_
 have I:∀ (J:Int) a w,Has 32 a [(5,i6 J)]→Ctx G (Lf) w→fU N J=some H→K3 a w:=by
  repeat (clear hF)
  repeat (clear hc)
  repeat (clear hf)
  intro J a w hf hc hF
  unfold fU at hF
  refine h3 _ _ ?_
  refine zS fun K h=>sp 2 hf rfl fun a hf=>zT h ?_
  refine wp_ret ?_
  obtain rfl:=sj hF
  exact zO1 Tryz.results81 hf rfl ⟨rfl,hc⟩
 refine wp_block ?_
 refine wp_seq_k fun K5 h5=>?_
 have R:∀ a w,Has 32 a []→Ctx G (Lf) w→lQ N=some H→K5 a w:=by
  repeat (clear hF)
  repeat (clear hc)
  repeat (clear hf)
  intro a w hf hc hF
  unfold lQ at hF
  refine h5 _ _ ?_
  refine zS fun K h=>sp 1 hf rfl fun a hf=>zT h ?_
  refine wp_exit ?_
  refine eW ?_
  exact I 4 _ _  (hf.kp rfl) hc hF
 refine wp_block ?_
 refine wp_seq_k fun K7 h7=>?_
 have V:∀ a w,Has 32 a []→Ctx G (Lf) w→lS N=some H→K7 a w:=by
  repeat (clear hF)
  repeat (clear hc)
  repeat (clear hf)
  intro a w hf hc hF
  unfold lS at hF
  refine h7 _ _ ?_
  refine zS fun K h=>sp 1 hf rfl fun a hf=>zT h ?_
  refine wp_exit ?_
  refine nS rfl ?_
  refine aV ?_
  refine eW ?_
  exact I 9 _ _  (hf.kp rfl) hc hF
 refine wp_block ?_
 refine wp_seq_k fun K9 h9=>?_
 have M:∀ a w,Has 32 a []→Ctx G (Lf) w→jN N=some H→K9 a w:=by
  repeat (clear hF)
  repeat (clear hc)
  repeat (clear hf)
  intro a w hf hc hF
  unfold jN at hF
  refine h9 _ _ ?_
  refine zS fun K h=>sp 1 hf rfl fun a hf=>zT h ?_
  refine wp_exit ?_
  refine nS rfl ?_
  refine aV ?_
  refine nS rfl ?_
  refine aV ?_
  refine eW ?_
  exact I 2 _ _  (hf.kp rfl) hc hF
 refine wp_block ?_
 refine mA fun K11 Y=>wp_block ?_
 refine wp_seq_k fun K12 O=>wp_seq_k fun K13 X=>zS fun K h=>zP hf rfl (pFA wV rfl) fun a hf=>zL hf hc aU m0 rfl fun a w hf hc=>sp 2 hf rfl fun a hf=>zQ (v:=.bool (bL f_.A 0 (W (D - 1)))) hf hc vE rfl (fun w hc=>gN f_.A 0 (W (D - 1)) hc rfl) fun a w hf hc=>sp 2 hf rfl fun a hf=>zT h ?_
 refine zI hf rfl hF ?_ ?_ <;> clear hF <;> intro hF
 ·refine wp_exit ?_
  refine aV ?_
  refine aV ?_
  refine eW ?_
  refine Y _ _ ?_
  replace hc:=hc.drop k0
  exact M  _ _  (hf.keep trivial) hc hF
 ·refine wp_skip ?_
  refine X _ _ ?_
  refine wp_seq_k fun K15 S=>zS fun K h=>zP hf rfl (pFA xD rfl) fun a hf=>zL hf hc aU m0 rfl fun a w hf hc=>sp 2 hf rfl fun a hf=>zQ (v:=.bool (bL f_.B 0 (W (D - 1)))) hf hc vE rfl (fun w hc=>gN f_.B 0 (W (D - 1)) hc rfl) fun a w hf hc=>sp 2 hf rfl fun a hf=>zT h ?_
  refine zI hf rfl hF ?_ ?_ <;> clear hF <;> intro hF
  ·refine wp_exit ?_
   refine aV ?_
   refine aV ?_
   refine nS rfl ?_
   refine aV ?_
   refine eW ?_
   replace hc:=hc.drop k0
   exact M  _ _  (hf.keep trivial) hc hF
  ·refine wp_skip ?_
   refine S _ _ ?_
   refine wp_seq_k fun K17 U=>zS fun K h=>zP hf rfl (pFA wV rfl) fun a hf=>zL hf hc aU m0 rfl fun a w hf hc=>zP hf rfl (pFA xD rfl) fun a hf=>zL hf hc aU m0 rfl fun a w hf hc=>sp 2 hf rfl fun a hf=>zT h ?_
   refine zI hf rfl hF ?_ ?_ <;> clear hF <;> intro hF
   ·refine wp_exit ?_
    refine aV ?_
    refine aV ?_
    refine nS rfl ?_
    refine aV ?_
    refine nS rfl ?_
    refine aV ?_
    refine eW ?_
    replace hc:=hc.drop k0
    exact V  _ _  (hf.keep trivial) hc hF
   ·refine wp_skip ?_
    refine U _ _ ?_
    refine zS fun K h=>zP hf rfl (pFA xI rfl) fun a hf=>zL hf hc aU m0 rfl fun a w hf hc=>zQ (v:=.bool (bL f_.Weight 1 100)) hf hc vE rfl (fun w hc=>gN f_.Weight 1 100 hc rfl) fun a w hf hc=>sp 2 hf rfl fun a hf=>zT h ?_
    refine zI hf rfl hF ?_ ?_ <;> clear hF <;> intro hF
    ·refine wp_exit ?_
     refine aV ?_
     refine nS rfl ?_
     refine aV ?_
     refine nS rfl ?_
     refine aV ?_
     refine nS rfl ?_
     refine aV ?_
     refine eW ?_
     replace hc:=hc.drop k0
     exact R  _ _  (hf.keep trivial) hc hF
    ·refine wp_skip ?_
     refine O _ _ ?_
     refine wp_exit ?_
     refine nS rfl ?_
     refine aV ?_
     refine nS rfl ?_
     refine aV ?_
     refine nS rfl ?_
     refine aV ?_
     refine nS rfl ?_
     refine aV ?_
     refine eW ?_
     replace hc:=hc.drop k0
     exact I 0 _ _  (hf.kp rfl) hc hF

def sO (N:Nat) (l:List aM) (H:Nat→Int) (B:Int):Option (cY (Int) (Int × Int)) :=
 cond (decide (B < ((l.length:Nat):Int)))
 (Option.bind (bG l B) fun D=>
 Option.bind (inR B 30) fun un=>
 cond (decide (D.Weight < (H B.toNat)))
 (some (.ret (0,11)))
 (some (.cont (W (B + 1)))))
 (some (.brk B))
def sE (N:Nat) (l:List aM) (I:List eN) (out:Int) (x:Int) (H:Nat→Int):Option (cY (Int × Int × (Nat→Int)) (Int × Int)) :=
 cond (decide (x < ((I.length:Nat):Int)))
 (Option.bind (bG I x) fun D=>
 Option.bind (oD N D ((l.length:Nat):Int)) fun J=>
 cond (J != 0)
 (some (.ret (0,J)))
 (Option.bind (inR D.A 30) fun V=>
 Option.bind (inR D.A 30) fun S=>
 Option.bind (inR D.B 30) fun U=>
 Option.bind (inR D.B 30) fun R=>
 Option.bind (bG l D.A) fun M=>
 Option.bind (bG l D.B) fun O=>
 some (.cont (W (out + (W (D.Weight * (W (M.Value - O.Value))))),W (x + 1),(kF (kF H D.A.toNat (W ((H D.A.toNat) + D.Weight))) D.B.toNat (W (((kF H D.A.toNat (W ((H D.A.toNat) + D.Weight))) D.B.toNat) + D.Weight)))))))
 (some (.brk (out,x,H)))
def mG (N:Nat) (l:List aM) (D:List eN) (I:Int):Option (Int × Int) :=
 cond (I != 0)
 (some (0,I))
 (Option.bind (bE (fun B=>sE N l D B.1 B.2.1 B.2.2) N (0,0,(fun _=>0))) fun M=>
 exK M (fun B=>Option.bind (bE (fun H=>sO N l B.2.2 H) N 0) fun J=>
 exK J (fun H=>some (B.1,0)) some) some)
def tI (N:Nat) (l:List aM) (B:List eN):Option (Int × Int) :=
 Option.bind (gX N l) fun r=>
 cond ((r == 0) && (decide (900 < ((B.length:Nat):Int))))
 (mG N l B 3)
 (mG N l B r)
theorem zR {N:Nat} {G:aS} {Lf:List Ent} {w:World} (l:List aM) (I:List eN) {U:Option Addr} {V:Nat} {M:Option Addr} {J:Nat} (m:Rd G 2 U V (l.map cP)) (p:Rd G 3 M J (I.map nP)) (hc:Ctx G (Lf) w) {Z:Int × Int} (hF:tI N l I=some Z):Calls Tryz.prog 50 #[.slice U l.length V,.slice M I.length J] w (fun e w=>e=.returned (.tuple #[i6 Z.1,i6 Z.2])∧Ctx G (Lf) w):=by
 unfold tI at hF
 refine cB Tryz.func50 rfl Tryz.ntmps50 rfl fun a hf=>zS fun K h=>sp 2 hf rfl fun a hf=>zT h ?_
 refine zS fun K h=>sp 1 hf rfl fun a hf=>?_
 obtain ⟨r,hr,hF⟩:=aB hF
 refine zQ (v:=i6 r) hf hc aK0 rfl (fun w hc=>nK l m hc hr) fun a w hf hc=>sp 1 hf rfl fun a hf=>zT h ?_
 refine wp_seq_k fun K3 h3=>?_
 have ab:∀ (q:Int) a w,Has 89 a [(0,.slice U l.length V),(1,.slice M I.length J),(6,i6 q)]→Ctx G (Lf) w→mG N l I q=some Z→K3 a w:=by
  repeat (clear hF)
  repeat (clear hc)
  repeat (clear hf)
  intro q a w hf hc hF
  unfold mG at hF
  refine h3 _ _ ?_
  refine wp_seq_k fun K4 h4=>zS fun K h=>sp 2 hf rfl fun a hf=>zT h ?_
  refine zI hf rfl hF ?_ ?_ <;> clear hF <;> intro hF
  ·refine zS fun K h=>sp 3 hf rfl fun a hf=>zT h ?_
   refine wp_ret ?_
   refine aO ?_
   obtain rfl:=sj hF
   exact zO2 Tryz.results50 hf rfl rfl ⟨rfl,hc⟩
  ·refine wp_skip ?_
   refine h4 _ _ ?_
   refine zS fun K h=>sp 1 hf rfl fun a hf=>zT h ?_
   refine zS fun K h=>aI3 (cs:=(cH [] 30 aD (fun _=>0) [])) hf hc rfl rfl aL5 rfl fun O a w hf hc=>zT h ?_
   refine wp_seq_k fun K9 h9=>zS fun K h=>sp 1 hf rfl fun a hf=>zP hf rfl (bM Tryz.underlying121 rfl) fun a hf=>sp 1 hf rfl fun a hf=>zT h ?_
   refine wp_block ?_
   obtain ⟨u,ac,hF⟩:=aB hF
   let S11:(Int × Int × (Nat→Int))→Act→World→Prop:=(fun (zz:Int × Int × (Nat→Int)) a w=>Has 89 a [(0,.slice U l.length V),(7,i6 zz.1),(8,pq O),(26,.slice M I.length J),(27,i6 ((I.length:Nat):Int)),(28,i6 zz.2.1)]∧Ctx G (.box O (cH [] 30 aD zz.2.2 []) 151::Lf) w)
   have av:∀ (zz:Int × Int × (Nat→Int)) a w,u=.go zz→S11 zz a w→K9 a w:=by
    rintro ⟨out,x,H⟩ a w rfl ⟨hf,hc⟩
    replace hF:=bW hF
    refine h9 _ _ ?_
    refine wp_seq_k fun K12 a2=>zS fun K h=>sp 1 hf rfl fun a hf=>zP hf rfl (bM Tryz.underlying116 rfl) fun a hf=>sp 1 hf rfl fun a hf=>zT h ?_
    refine wp_block ?_
    obtain ⟨t,a1,hF⟩:=aB hF
    let S14:Int→Act→World→Prop:=(fun (zz:Int) a w=>Has 89 a [(7,i6 out),(8,pq O),(74,.slice U l.length V),(75,i6 ((l.length:Nat):Int)),(76,i6 zz)]∧Ctx G (.box O (cH [] 30 aD H []) 151::Lf) w)
    have au:∀ (zz:Int) a w,t=.go zz→S14 zz a w→K12 a w:=by
     rintro y a w rfl ⟨hf,hc⟩
     replace hF:=bW hF
     refine a2 _ _ ?_
     refine zS fun K h=>sp 3 hf rfl fun a hf=>zT h ?_
     refine wp_ret ?_
     obtain rfl:=sj hF
     replace hc:=hc.drop k0
     exact zO2 Tryz.results50 hf rfl rfl ⟨rfl,hc⟩
    have aj:∀ r,t=.out r→r=Z:=by
     rintro r rfl
     exact sj hF
    refine dO N (dH (S:=S14) (x:=t) ?_ N 0 _ _ ⟨hf.kp rfl,hc⟩ a1)
    clear hF hf hc
    rintro y bj a w KB14 ⟨hf,hc⟩ hF X ax
    unfold sO at hF
    refine zS fun K h=>sp 1 hf rfl fun a hf=>zT h ?_
    refine wp_seq_k fun K17 bb=>zI hf rfl hF ?_ ?_ <;> clear hF <;> intro hF
    ·refine wp_skip ?_
     refine bb _ _ ?_
     refine wp_seq_k fun K18 a5=>wp_block ?_
     refine zS fun K h=>sp 1 hf rfl fun a hf=>?_
     obtain ⟨aa,ai,hF⟩:=aB hF
     obtain ⟨bs,o,qa,qp⟩:=m.atm ai
     refine zP hf rfl (pIA Tryz.underlying116 uO rfl rfl qa) fun a hf=>zE hf hc rfl (jM (vs:=[i6 aa.Value,i6 aa.Weight]) aBa rfl rfl (cI qp (n:=2) (o':=0) rfl)) fun a w hf hc=>zA hf hc aH0 rfl fun bq a w hf hc=>sp 1 hf rfl fun a hf=>zW hf hc uO u0 rfl fun w hc=>zT h ?_
     refine wp_seq_k fun K20 a7=>?_
     obtain ⟨un,s,hF⟩:=aB hF
     refine cQ hc aT (by kernel_rfl) ?_
     refine qE hf rfl rfl rfl (Pu.ev (pM rfl)) fun a hf=>qE hf rfl rfl rfl (Pu.ev (pW Tryz.underlying151 eL rfl rfl (bI s).1 (bI s).2)) fun a hf=>qE hf rfl rfl rfl (cE aU rfl (lV (j:=0) m1 (fun x=>(bD x).1) rfl s rfl)) fun a hf=>qE hf rfl rfl rfl (Pu.ev (pFA aAk rfl)) fun a hf=>qE hf rfl rfl rfl (cE aU rfl (bR m0 rfl)) fun a hf=>qE hf rfl rfl rfl (Pu.ev (pGt rfl rfl)) fun a hf=>?_
     intro w hc
     refine a7 _ _ ?_
     refine zI hf rfl hF ?_ ?_ <;> clear hF <;> intro hF
     ·refine zS fun K h=>sp 2 hf rfl fun a hf=>zT h ?_
      refine wp_ret ?_
      refine bU ?_
      refine aO ?_
      refine aO ?_
      have he:=sj hF
      rw [← he] at X
      replace hF:=aj _ X
      refine bU ?_
      refine aO ?_
      obtain rfl:=hF
      replace hc:=(hc.drop k1).drop k0
      exact zO2 Tryz.results50 hf rfl rfl ⟨rfl,hc⟩
     ·refine wp_skip ?_
      refine a5 _ _ ?_
      refine dE ?_
      refine sp 2 hf rfl fun a hf=>aP ?_
      replace hc:=hc.drop k0
      exact ax (W (y + 1)) _ _ (sj hF).symm ⟨hf.kp rfl,hc⟩
    ·refine wp_exit ?_
     refine aV ?_
     refine aV ?_
     have he:=sj hF
     rw [← he] at X
     refine eW ?_
     exact au _ _ _ X ⟨hf.kp rfl,hc⟩
   have an:∀ r,u=.out r→r=Z:=by
    rintro r rfl
    exact sj hF
   refine dO N (dH (S:=S11) (x:=u) ?_ N (0,0,(fun _=>0)) _ _ ⟨hf.kp rfl,hc⟩ ac)
   clear hF hf hc
   rintro ⟨out,x,H⟩ bi a w KB11 ⟨hf,hc⟩ hF Y ad
   unfold sE at hF
   refine zS fun K h=>sp 1 hf rfl fun a hf=>zT h ?_
   refine wp_seq_k fun K23 bd=>zI hf rfl hF ?_ ?_ <;> clear hF <;> intro hF
   ·refine wp_skip ?_
    refine bd _ _ ?_
    refine wp_seq_k fun K24 a8=>wp_block ?_
    refine zS fun K h=>?_
    obtain ⟨D,aq,hF⟩:=aB hF
    obtain ⟨bv,bu,ar,ap⟩:=p.atm aq
    refine zP hf rfl (pIA Tryz.underlying121 aHl rfl rfl ar) fun a hf=>zE hf hc rfl (jM (vs:=[i6 D.A,i6 D.B,i6 D.Weight]) aHn rfl rfl (cI ap (n:=3) (o':=0) rfl)) fun a w hf hc=>zA hf hc aLi rfl fun R a w hf hc=>zW hf hc aHl u0 rfl fun w hc=>zT h ?_
    refine wp_seq_k fun K26 a9=>zS fun K h=>zN hf hc aHn m0 rfl fun a w hf hc=>sp 1 hf rfl fun a hf=>zP hf rfl (bM Tryz.underlying116 rfl) fun a hf=>?_
    obtain ⟨ba,az,hF⟩:=aB hF
    refine zQ (v:=i6 ba) hf hc en_81 rfl (fun w hc=>vT D ((l.length:Nat):Int) hc az) fun a w hf hc=>sp 1 hf rfl fun a hf=>zT h ?_
    refine zS fun K h=>sp 2 hf rfl fun a hf=>zT h ?_
    refine zI hf rfl hF ?_ ?_ <;> clear hF <;> intro hF
    ·refine zS fun K h=>sp 3 hf rfl fun a hf=>zT h ?_
     refine wp_ret ?_
     refine aO ?_
     refine bU ?_
     refine aO ?_
     refine aO ?_
     have he:=sj hF
     rw [← he] at Y
     replace hF:=an _ Y
     refine bU ?_
     refine aO ?_
     obtain rfl:=hF
     replace hc:=(hc.drop k1).drop k0
     exact zO2 Tryz.results50 hf rfl rfl ⟨rfl,hc⟩
    ·refine wp_skip ?_
     refine a9 _ _ ?_
     refine wp_seq_k fun K30 a4=>?_
     obtain ⟨bg,d,hF⟩:=aB hF
     obtain ⟨bf,i,hF⟩:=aB hF
     refine fI (fun θ=>[⟨none,none,0,.slice U l.length V⟩,⟨none,none,7,i6 out⟩,⟨none,none,8,pq O⟩,⟨none,none,10,pq R⟩,⟨none,none,26,.slice M I.length J⟩,⟨none,none,27,i6 ((I.length:Nat):Int)⟩,⟨none,none,28,i6 x⟩,⟨some 0,none,39,pq R⟩,⟨some 1,none,40,i6 D.A⟩,⟨some 2,none,41,.pointer (some ⟨O,0 + D.A.toNat * 1,none⟩)⟩,⟨some 3,none,42,i6 (H D.A.toNat)⟩,⟨some 4,none,43,.pointer (some ⟨R,2,none⟩)⟩,⟨some 5,none,44,i6 D.Weight⟩,⟨some 6,none,45,i6 (W ((H D.A.toNat) + D.Weight))⟩,⟨some 7,none,46,.pointer (some ⟨O,0 + D.A.toNat * 1,none⟩)⟩]) (fun E θ=>.box R [i6 D.A,i6 D.B,i6 D.Weight] 120::(bif E 8 then .box O (cH [] 30 aD (kF H D.A.toNat (W ((H D.A.toNat) + D.Weight))) []) 151 else .box O (cH [] 30 aD H []) 151)::Lf) [(8,3)] (fun a w=>Has 89 a [(0,.slice U l.length V),(7,i6 out),(8,pq O),(10,pq R),(26,.slice M I.length J),(27,i6 ((I.length:Nat):Int)),(28,i6 x)]∧Ctx G (.box R [i6 D.A,i6 D.B,i6 D.Weight] 120::.box O (cH [] 30 aD (kF H D.A.toNat (W ((H D.A.toNat) + D.Weight))) []) 151::Lf) w) aT (by kernel_rfl) (by kernel_rfl) (eZ.of hf ⟨rfl,rfl,rfl,rfl,rfl,rfl,rfl,trivial,trivial,trivial,trivial,trivial,trivial,trivial,trivial,trivial⟩) hc ⟨?_,?_,?_,?_,?_,?_,?_,?_,?_,trivial⟩ ?_ ?_
     ·intro E θ a w hD hi hp he hc
      have hf:=he.h0.mT he 3 rfl
      refine zP hf rfl (pFA wV rfl) fun a hf=>zD θ he hi hf 7 rfl rfl rfl hc
     ·intro E θ a w hD hi hp he hc
      have e0:=hp.o 0 rfl
      have hf:=he.h0.mP he 7 rfl e0
      refine zL hf hc aU m0 rfl fun a w hf hc=>zD θ he hi hf 8 rfl rfl rfl hc
     ·intro E θ a w hD hi hp he hc
      have e1:=hp.o 1 rfl
      have hf:=(he.h0.mT he 2 rfl).mP he 8 rfl e1
      refine zP hf rfl (pW Tryz.underlying151 eL rfl rfl (bI d).1 (bI d).2) fun a hf=>zD θ he hi hf 9 rfl rfl rfl hc
     ·intro E θ a w hD hi hp he hc
      have e2:=hp.o 2 rfl
      have e8:=hD.f 0 rfl hi
      try dsimp only at hc
      rw [e8] at hc
      have hf:=he.h0.mP he 9 rfl e2
      refine zE hf hc rfl (cE aU rfl (lV (j:=0) m1 (fun x=>(bD x).1) rfl d rfl)) fun a w hf hc=>zD θ he hi hf 10 rfl rfl rfl ?_
      try dsimp only
      rw [aQ 3 e8 rfl]
      exact hc
     ·intro E θ a w hD hi hp he hc
      have hf:=he.h0.mT he 3 rfl
      refine zP hf rfl (pFA xI rfl) fun a hf=>zD θ he hi hf 11 rfl rfl rfl hc
     ·intro E θ a w hD hi hp he hc
      have e4:=hp.o 4 rfl
      have hf:=he.h0.mP he 11 rfl e4
      refine zL hf hc aU m0 rfl fun a w hf hc=>zD θ he hi hf 12 rfl rfl rfl hc
     ·intro E θ a w hD hi hp he hc
      have e3:=hp.o 3 rfl
      have e5:=hp.o 5 rfl
      have hf:=(he.h0.mP he 10 rfl e3).mP he 12 rfl e5
      refine sp 1 hf rfl fun a hf=>zD θ he hi hf 13 rfl rfl rfl hc
     ·intro E θ a w hD hi hp he hc
      have e1:=hp.o 1 rfl
      have hf:=(he.h0.mT he 2 rfl).mP he 8 rfl e1
      refine zP hf rfl (pW Tryz.underlying151 eL rfl rfl (bI i).1 (bI i).2) fun a hf=>zD θ he hi hf 14 rfl rfl rfl hc
     ·intro E θ a w hD hi hp he hc
      have e6:=hp.o 6 rfl
      have e7:=hp.o 7 rfl
      try dsimp only at hc
      rw [hi] at hc
      have hf:=(he.h0.mP he 13 rfl e6).mP he 14 rfl e7
      refine aGs (vs:=[i6 (W ((H D.A.toNat) + D.Weight))]) (o':=0) (z:=W ((H D.A.toNat) + D.Weight)) hf hc rfl rfl rfl rfl eL rfl (fun x=>(bD x).1) rfl i rfl rfl u1 fun w hc=>zG θ he hi hf rfl ?_
      try dsimp only
      rw [aR E 8]
      exact hc
     ·intro E θ a w k he hc
      have hf:=he.h0
      have e8:=k 8 rfl
      replace hf:=hf.more he 6 rfl (onT)
      replace hf:=hf.more he 5 rfl (onT)
      replace hf:=hf.more he 4 rfl (onT)
      replace hf:=hf.more he 3 rfl (onT)
      replace hf:=hf.more he 2 rfl (onT)
      replace hf:=hf.more he 1 rfl (onT)
      replace hf:=hf.more he 0 rfl (onT)
      try dsimp only at hc
      rw [e8] at hc
      exact ⟨hf.kp rfl,hc⟩
     rintro a w ⟨hf,hc⟩
     refine a4 _ _ ?_
     refine wp_seq_k fun K31 a6=>?_
     obtain ⟨bm,b,hF⟩:=aB hF
     obtain ⟨bk,g,hF⟩:=aB hF
     refine fI (fun θ=>[⟨none,none,0,.slice U l.length V⟩,⟨none,none,7,i6 out⟩,⟨none,none,8,pq O⟩,⟨none,none,10,pq R⟩,⟨none,none,26,.slice M I.length J⟩,⟨none,none,27,i6 ((I.length:Nat):Int)⟩,⟨none,none,28,i6 x⟩,⟨some 0,none,47,.pointer (some ⟨R,1,none⟩)⟩,⟨some 1,none,48,i6 D.B⟩,⟨some 2,none,49,.pointer (some ⟨O,0 + D.B.toNat * 1,none⟩)⟩,⟨some 3,none,50,i6 ((kF H D.A.toNat (W ((H D.A.toNat) + D.Weight))) D.B.toNat)⟩,⟨some 4,none,51,.pointer (some ⟨R,2,none⟩)⟩,⟨some 5,none,52,i6 D.Weight⟩,⟨some 6,none,53,i6 (W (((kF H D.A.toNat (W ((H D.A.toNat) + D.Weight))) D.B.toNat) + D.Weight))⟩,⟨some 7,none,54,.pointer (some ⟨O,0 + D.B.toNat * 1,none⟩)⟩]) (fun E θ=>.box R [i6 D.A,i6 D.B,i6 D.Weight] 120::(bif E 8 then .box O (cH [] 30 aD (kF (kF H D.A.toNat (W ((H D.A.toNat) + D.Weight))) D.B.toNat (W (((kF H D.A.toNat (W ((H D.A.toNat) + D.Weight))) D.B.toNat) + D.Weight))) []) 151 else .box O (cH [] 30 aD (kF H D.A.toNat (W ((H D.A.toNat) + D.Weight))) []) 151)::Lf) [(8,3)] (fun a w=>Has 89 a [(0,.slice U l.length V),(7,i6 out),(8,pq O),(10,pq R),(26,.slice M I.length J),(27,i6 ((I.length:Nat):Int)),(28,i6 x)]∧Ctx G (.box R [i6 D.A,i6 D.B,i6 D.Weight] 120::.box O (cH [] 30 aD (kF (kF H D.A.toNat (W ((H D.A.toNat) + D.Weight))) D.B.toNat (W (((kF H D.A.toNat (W ((H D.A.toNat) + D.Weight))) D.B.toNat) + D.Weight))) []) 151::Lf) w) aT (by kernel_rfl) (by kernel_rfl) (eZ.of hf ⟨rfl,rfl,rfl,rfl,rfl,rfl,rfl,trivial,trivial,trivial,trivial,trivial,trivial,trivial,trivial,trivial⟩) hc ⟨?_,?_,?_,?_,?_,?_,?_,?_,?_,trivial⟩ ?_ ?_
     ·intro E θ a w hD hi hp he hc
      have hf:=he.h0.mT he 3 rfl
      refine zP hf rfl (pFA xD rfl) fun a hf=>zD θ he hi hf 7 rfl rfl rfl hc
     ·intro E θ a w hD hi hp he hc
      have e0:=hp.o 0 rfl
      have hf:=he.h0.mP he 7 rfl e0
      refine zL hf hc aU m0 rfl fun a w hf hc=>zD θ he hi hf 8 rfl rfl rfl hc
     ·intro E θ a w hD hi hp he hc
      have e1:=hp.o 1 rfl
      have hf:=(he.h0.mT he 2 rfl).mP he 8 rfl e1
      refine zP hf rfl (pW Tryz.underlying151 eL rfl rfl (bI b).1 (bI b).2) fun a hf=>zD θ he hi hf 9 rfl rfl rfl hc
     ·intro E θ a w hD hi hp he hc
      have e2:=hp.o 2 rfl
      have e8:=hD.f 0 rfl hi
      try dsimp only at hc
      rw [e8] at hc
      have hf:=he.h0.mP he 9 rfl e2
      refine zE hf hc rfl (cE aU rfl (lV (j:=0) m1 (fun x=>(bD x).1) rfl b rfl)) fun a w hf hc=>zD θ he hi hf 10 rfl rfl rfl ?_
      try dsimp only
      rw [aQ 3 e8 rfl]
      exact hc
     ·intro E θ a w hD hi hp he hc
      have hf:=he.h0.mT he 3 rfl
      refine zP hf rfl (pFA xI rfl) fun a hf=>zD θ he hi hf 11 rfl rfl rfl hc
     ·intro E θ a w hD hi hp he hc
      have e4:=hp.o 4 rfl
      have hf:=he.h0.mP he 11 rfl e4
      refine zL hf hc aU m0 rfl fun a w hf hc=>zD θ he hi hf 12 rfl rfl rfl hc
     ·intro E θ a w hD hi hp he hc
      have e3:=hp.o 3 rfl
      have e5:=hp.o 5 rfl
      have hf:=(he.h0.mP he 10 rfl e3).mP he 12 rfl e5
      refine sp 1 hf rfl fun a hf=>zD θ he hi hf 13 rfl rfl rfl hc
     ·intro E θ a w hD hi hp he hc
      have e1:=hp.o 1 rfl
      have hf:=(he.h0.mT he 2 rfl).mP he 8 rfl e1
      refine zP hf rfl (pW Tryz.underlying151 eL rfl rfl (bI g).1 (bI g).2) fun a hf=>zD θ he hi hf 14 rfl rfl rfl hc
     ·intro E θ a w hD hi hp he hc
      have e6:=hp.o 6 rfl
      have e7:=hp.o 7 rfl
      try dsimp only at hc
      rw [hi] at hc
      have hf:=(he.h0.mP he 13 rfl e6).mP he 14 rfl e7
      refine aGs (vs:=[i6 (W (((kF H D.A.toNat (W ((H D.A.toNat) + D.Weight))) D.B.toNat) + D.Weight))]) (o':=0) (z:=W (((kF H D.A.toNat (W ((H D.A.toNat) + D.Weight))) D.B.toNat) + D.Weight)) hf hc rfl rfl rfl rfl eL rfl (fun x=>(bD x).1) rfl g rfl rfl u1 fun w hc=>zG θ he hi hf rfl ?_
      try dsimp only
      rw [aR E 8]
      exact hc
     ·intro E θ a w k he hc
      have hf:=he.h0
      have e8:=k 8 rfl
      replace hf:=hf.more he 6 rfl (onT)
      replace hf:=hf.more he 5 rfl (onT)
      replace hf:=hf.more he 4 rfl (onT)
      replace hf:=hf.more he 3 rfl (onT)
      replace hf:=hf.more he 2 rfl (onT)
      replace hf:=hf.more he 1 rfl (onT)
      replace hf:=hf.more he 0 rfl (onT)
      try dsimp only at hc
      rw [e8] at hc
      exact ⟨hf.kp rfl,hc⟩
     rintro a w ⟨hf,hc⟩
     refine a6 _ _ ?_
     obtain ⟨a3,ak,hF⟩:=aB hF
     obtain ⟨bp,bn,ag,ay⟩:=m.atm ak
     obtain ⟨bc,a0,hF⟩:=aB hF
     obtain ⟨br,bt,af,am⟩:=m.atm a0
     refine cQ hc aT (by kernel_rfl) ?_
     refine qE hf rfl rfl rfl (Pu.ev (pM rfl)) fun a hf=>qE hf rfl rfl rfl (Pu.ev (pFA xI rfl)) fun a hf=>qE hf rfl rfl rfl (cE aU rfl (bR m0 rfl)) fun a hf=>qE hf rfl rfl rfl (Pu.ev (pM rfl)) fun a hf=>qE hf rfl rfl rfl (Pu.ev (pFA wV rfl)) fun a hf=>qE hf rfl rfl rfl (cE aU rfl (bR m0 rfl)) fun a hf=>qE hf rfl rfl rfl (Pu.ev (pIA Tryz.underlying116 uO rfl rfl ag)) fun a hf=>qE hf rfl rfl rfl (Pu.ev (pFA sH rfl)) fun a hf=>qE hf rfl rfl rfl (cE aU rfl (dX (j:=0) ay rfl)) fun a hf=>qE hf rfl rfl rfl (Pu.ev (pM rfl)) fun a hf=>qE hf rfl rfl rfl (Pu.ev (pFA xD rfl)) fun a hf=>qE hf rfl rfl rfl (cE aU rfl (bR m0 rfl)) fun a hf=>qE hf rfl rfl rfl (Pu.ev (pIA Tryz.underlying116 uO rfl rfl af)) fun a hf=>?_
     refine qE hf rfl rfl rfl (Pu.ev (pFA sH rfl)) fun a hf=>qE hf rfl rfl rfl (cE aU rfl (dX (j:=0) am rfl)) fun a hf=>qE hf rfl rfl rfl (Pu.ev (aBy rfl rfl)) fun a hf=>qE hf rfl rfl rfl (Pu.ev (pMul rfl rfl)) fun a hf=>qE hf rfl rfl rfl (Pu.ev (aBv rfl rfl)) fun a hf=>qE hf rfl rfl rfl (Pu.ev (pA rfl)) fun a hf=>?_
     intro w hc
     refine a8 _ _ ?_
     refine dE ?_
     refine sp 2 hf rfl fun a hf=>aP ?_
     replace hc:=hc.drop k0
     exact ad (W (out + (W (D.Weight * (W (a3.Value - bc.Value))))),W (x + 1),(kF (kF H D.A.toNat (W ((H D.A.toNat) + D.Weight))) D.B.toNat (W (((kF H D.A.toNat (W ((H D.A.toNat) + D.Weight))) D.B.toNat) + D.Weight)))) _ _ (sj hF).symm ⟨hf.kp rfl,hc⟩
   ·refine wp_exit ?_
    refine aV ?_
    refine aV ?_
    have he:=sj hF
    rw [← he] at Y
    refine eW ?_
    exact av _ _ _ Y ⟨hf.kp rfl,hc⟩
 refine zS fun K h=>sp 3 hf rfl fun a hf=>hY 4 (fun a=>Has 89 a [(0,.slice U l.length V),(1,.slice M I.length J),(6,i6 r),(16,i6 r),(17,.bool (r == 0)),(18,.bool (r == 0)),(22,.bool ((r == 0) && (decide (900 < ((I.length:Nat):Int)))))]) hc ?_ ?_
 ·cases hb:(r == 0)
  ·rw [hb] at hf
   refine stS hf rfl rfl rfl fun a hf=>stS hf rfl rfl rfl fun a hf=>stS hf rfl rfl rfl fun a hf=>sp 1 hf rfl fun a hf=>aP ⟨hf.kp rfl,hc⟩
  ·rw [hb] at hf
   refine sp 1 hf rfl fun a hf=>zP hf rfl (bM Tryz.underlying121 rfl) fun a hf=>sp 2 hf rfl fun a hf=>aP ⟨hf.kp rfl,hc⟩
 intro a w ⟨hf,hc⟩
 refine zT h ?_
 refine zI hf rfl hF ?_ ?_ <;> clear hF <;> intro hF
 ·refine dE ?_
  refine sp 1 hf rfl fun a hf=>aP ?_
  exact ab 3 _ _  (hf.kp rfl) hc hF
 ·refine wp_skip ?_
  exact ab r _ _  (hf.kp rfl) hc hF

def mQ (N:Nat)  : Option (Bool) :=
 Option.bind (lE N 58) fun r=>
 Option.bind (nX N r) fun I=>
 Option.bind (lE N 58) fun k=>
 Option.bind (iW N k 1 2) fun B=>
 Option.bind (lE N 58) fun m=>
 Option.bind (wN N m) fun D=>
 Option.bind (lE N 61) fun i=>
 Option.bind (uR N i) fun H=>
 Option.bind (cond (!((((I.2 != 0) || (B.2 != 0)) || (D.2.2 != 0)) || (H.2.2 != 0))) (nA N I.1 ([(⟨28,30⟩:aA),(⟨38,40⟩:aA),(⟨48,50⟩:aA),(⟨58,60⟩:aA)]:List aA)) (some false)) fun R=>
 Option.bind (cond (!(((((I.2 != 0) || (B.2 != 0)) || (D.2.2 != 0)) || (H.2.2 != 0)) || (!R))) (nZ N 86 90) (some (⟨0,0⟩:aA))) fun J=>
 Option.bind (cond (!((((((I.2 != 0) || (B.2 != 0)) || (D.2.2 != 0)) || (H.2.2 != 0)) || (!R)) || (!(B.1.Lo == J.Lo && B.1.Hi == J.Hi)))) (nZ N 58 60) (some (⟨0,0⟩:aA))) fun M=>
 Option.bind (cond (!(((((((I.2 != 0) || (B.2 != 0)) || (D.2.2 != 0)) || (H.2.2 != 0)) || (!R)) || (!(B.1.Lo == J.Lo && B.1.Hi == J.Hi))) || (!(D.1.Lo == M.Lo && D.1.Hi == M.Hi)))) (nE N D.2.1 ([3]:List Int)) (some false)) fun V=>
 cond ((((((((((I.2 != 0) || (B.2 != 0)) || (D.2.2 != 0)) || (H.2.2 != 0)) || (!R)) || (!(B.1.Lo == J.Lo && B.1.Hi == J.Hi))) || (!(D.1.Lo == M.Lo && D.1.Hi == M.Hi))) || (!V)) || (H.1 != 0)) || (H.2.1 != 3))
 (some false)
 (Option.bind (lE N 58) fun Z=>
 Option.bind (vD N Z ([(⟨20,35⟩:aA),(⟨30,40⟩:aA),(⟨49,60⟩:aA),(⟨50,60⟩:aA)]:List aA)) fun S=>
 Option.bind (lW N ([10,14,12,20]:List Int)) fun b=>
 Option.bind (lU N b) fun O=>
 Option.bind (lW N ([9,5,7,3]:List Int)) fun X=>
 Option.bind (tI N X ([(⟨0,1,1⟩:eN),(⟨2,3,1⟩:eN)]:List eN)) fun U=>
 Option.bind (cond (((S.2 == 0) && (O.2.2 == 0)) && (U.2 == 0)) (Option.bind (nE N S.1 ([2]:List Int)) fun Y=>
 some Y) (some false)) fun g=>
 Option.bind (cond g (Option.bind (nE N O.1 ([10,12,12,20]:List Int)) fun d=>
 some d) (some false)) fun j=>
 some ((j && (O.2.1 == 2)) && (U.1 == 8)))
theorem aBm {N:Nat} {G:aS} {Lf:List Ent} {w:World}    (hc:Ctx G (Lf) w) {bv:Bool} (hF:mQ N=some bv):Calls Tryz.prog 16 #[] w (fun e w=>e=.returned (.bool bv)∧Ctx G (Lf) w):=by
 unfold mQ at hF
 refine cB Tryz.func16 rfl Tryz.ntmps16 rfl fun a hf=>zS fun K h=>sp 1 hf rfl fun a hf=>zT h ?_
 refine zS fun K h=>?_
 obtain ⟨r,hr,hF⟩:=aB hF
 refine zC hf aEc rfl (lZ 58 hc hr) ?_
 rintro _ w ⟨bm,bd,rfl,hc⟩
 refine ⟨_,rfl,fun a hf=>?_⟩
 obtain ⟨I,ci,hF⟩:=aB hF
 obtain ⟨G1,d,X,hc,Y⟩:=lend hc k0
 refine zC hf aJ9 rfl (vW r X hc ci) ?_
 rintro _ w ⟨aj,ag,rfl,hc⟩
 refine ⟨_,rfl,fun a hf=>?_⟩
 replace hc:=Y _ _ hc
 refine sp 5 hf rfl fun a hf=>zT h ?_
 refine zS fun K h=>?_
 obtain ⟨ap,cq,hF⟩:=aB hF
 refine zC hf aEc rfl (lZ 58 hc cq) ?_
 rintro _ w ⟨bp,b6,rfl,hc⟩
 refine ⟨_,rfl,fun a hf=>?_⟩
 obtain ⟨B,cn,hF⟩:=aB hF
 refine zQ (v:=.tuple #[.agg #[i6 B.1.Lo,i6 B.1.Hi],i6 B.2]) hf hc aLa rfl (fun w hc=>by obtain ⟨G1,d,X,hc,Y⟩:=lend hc k0; exact (tN ap 1 2 X hc cn).mono fun e w h=>⟨h.1,((Y _ _ h.2).unpick k0)⟩) fun a w hf hc=>sp 3 hf rfl fun a hf=>zA hf hc kX rfl fun au a w hf hc=>zW hf hc cA u0 rfl fun w hc=>sp 1 hf rfl fun a hf=>zT h ?_
 refine zS fun K h=>?_
 obtain ⟨ax,cc,hF⟩:=aB hF
 refine zC hf aEc rfl (lZ 58 hc cc) ?_
 rintro _ w ⟨bu,bi,rfl,hc⟩
 refine ⟨_,rfl,fun a hf=>?_⟩
 obtain ⟨D,ca,hF⟩:=aB hF
 obtain ⟨G1,d,X,hc,Y⟩:=lend hc k0
 refine zC hf en_43 rfl (aB0 ax X hc ca) ?_
 rintro _ w ⟨af,ai,rfl,hc⟩
 refine ⟨_,rfl,fun a hf=>?_⟩
 replace hc:=Y _ _ hc
 refine sp 4 hf rfl fun a hf=>zA hf hc kX rfl fun an a w hf hc=>zW hf hc cA u0 rfl fun w hc=>sp 2 hf rfl fun a hf=>zT h ?_
 refine zS fun K h=>?_
 obtain ⟨ar,cf,hF⟩:=aB hF
 refine zC hf aEc rfl (lZ 61 hc cf) ?_
 rintro _ w ⟨bn,bs,rfl,hc⟩
 refine ⟨_,rfl,fun a hf=>?_⟩
 obtain ⟨H,cj,hF⟩:=aB hF
 refine zQ (v:=.tuple #[i6 H.1,i6 H.2.1,i6 H.2.2]) hf hc en_44 rfl (fun w hc=>by obtain ⟨G1,d,X,hc,Y⟩:=lend hc k0; exact (aAm ar X hc cj).mono fun e w h=>⟨h.1,((Y _ _ h.2).unpick k0)⟩) fun a w hf hc=>sp 7 hf rfl fun a hf=>zT h ?_
 refine wp_seq_k fun K6 h6=>wp_seq_k fun K7 h7=>?_
 obtain ⟨R,cb,hF⟩:=aB hF
 obtain ⟨M,cg,hF⟩:=aB hF
 obtain ⟨J,az,hF⟩:=aB hF
 obtain ⟨U,a7,hF⟩:=aB hF
 replace hc:=hc.nilRow 0 0
 replace hc:=hc.nilRow 0 0
 refine fI (fun θ=>(⟨none,none,1,.slice aj I.1.length ag⟩::⟨none,none,2,i6 I.2⟩::⟨none,none,3,pq au⟩::⟨none,none,4,i6 B.2⟩::⟨none,none,5,pq an⟩::⟨none,none,6,.slice af D.2.1.length ai⟩::⟨none,none,7,i6 D.2.2⟩::⟨none,none,8,i6 H.1⟩::⟨none,none,9,i6 H.2.1⟩::⟨none,none,10,i6 H.2.2⟩::⟨some 0,none,37,i6 I.2⟩::⟨some 1,none,38,.bool (I.2 != 0)⟩::⟨some 2,none,39,.bool (I.2 != 0)⟩::⟨some 3,none,40,(bif (I.2 != 0) then undef else i6 B.2)⟩::⟨some 4,none,41,(bif (I.2 != 0) then undef else .bool (B.2 != 0))⟩::⟨some 5,none,42,.bool ((I.2 != 0) || (B.2 != 0))⟩::⟨some 6,none,43,.bool ((I.2 != 0) || (B.2 != 0))⟩::⟨some 7,none,44,(bif ((I.2 != 0) || (B.2 != 0)) then undef else i6 D.2.2)⟩::⟨some 8,none,45,(bif ((I.2 != 0) || (B.2 != 0)) then undef else .bool (D.2.2 != 0))⟩::⟨some 9,none,46,.bool (((I.2 != 0) || (B.2 != 0)) || (D.2.2 != 0))⟩::⟨some 10,none,47,.bool (((I.2 != 0) || (B.2 != 0)) || (D.2.2 != 0))⟩::⟨some 11,none,48,(bif (((I.2 != 0) || (B.2 != 0)) || (D.2.2 != 0)) then undef else i6 H.2.2)⟩::⟨some 12,none,49,(bif (((I.2 != 0) || (B.2 != 0)) || (D.2.2 != 0)) then undef else .bool (H.2.2 != 0))⟩::⟨some 13,none,50,.bool ((((I.2 != 0) || (B.2 != 0)) || (D.2.2 != 0)) || (H.2.2 != 0))⟩::⟨some 14,none,51,.bool ((((I.2 != 0) || (B.2 != 0)) || (D.2.2 != 0)) || (H.2.2 != 0))⟩::⟨some 15,none,52,(bif ((((I.2 != 0) || (B.2 != 0)) || (D.2.2 != 0)) || (H.2.2 != 0)) then undef else .slice aj I.1.length ag)⟩::⟨some 16,none,53,(bif ((((I.2 != 0) || (B.2 != 0)) || (D.2.2 != 0)) || (H.2.2 != 0)) then undef else .agg #[i6 28,i6 30])⟩::⟨some 17,none,54,(bif ((((I.2 != 0) || (B.2 != 0)) || (D.2.2 != 0)) || (H.2.2 != 0)) then undef else .agg #[i6 38,i6 40])⟩::⟨some 18,none,55,(bif ((((I.2 != 0) || (B.2 != 0)) || (D.2.2 != 0)) || (H.2.2 != 0)) then undef else .agg #[i6 48,i6 50])⟩::⟨some 19,none,56,(bif ((((I.2 != 0) || (B.2 != 0)) || (D.2.2 != 0)) || (H.2.2 != 0)) then undef else .agg #[i6 58,i6 60])⟩::⟨some 20,none,57,(bif ((((I.2 != 0) || (B.2 != 0)) || (D.2.2 != 0)) || (H.2.2 != 0)) then undef else .slice (some ⟨(θ 160).b,0,none⟩) 4 4)⟩::⟨some 21,none,58,(bif ((((I.2 != 0) || (B.2 != 0)) || (D.2.2 != 0)) || (H.2.2 != 0)) then undef else .bool R)⟩::⟨some 22,none,59,(bif ((((I.2 != 0) || (B.2 != 0)) || (D.2.2 != 0)) || (H.2.2 != 0)) then undef else .bool (!R))⟩::⟨some 23,none,60,.bool (((((I.2 != 0) || (B.2 != 0)) || (D.2.2 != 0)) || (H.2.2 != 0)) || (!R))⟩::⟨some 24,none,61,.bool (((((I.2 != 0) || (B.2 != 0)) || (D.2.2 != 0)) || (H.2.2 != 0)) || (!R))⟩::⟨some 25,none,62,(bif (((((I.2 != 0) || (B.2 != 0)) || (D.2.2 != 0)) || (H.2.2 != 0)) || (!R)) then undef else .agg #[i6 B.1.Lo,i6 B.1.Hi])⟩::⟨some 26,none,63,(bif (((((I.2 != 0) || (B.2 != 0)) || (D.2.2 != 0)) || (H.2.2 != 0)) || (!R)) then undef else .agg #[i6 M.Lo,i6 M.Hi])⟩::⟨some 27,none,64,(bif (((((I.2 != 0) || (B.2 != 0)) || (D.2.2 != 0)) || (H.2.2 != 0)) || (!R)) then undef else .bool (!(B.1.Lo == M.Lo && B.1.Hi == M.Hi)))⟩::⟨some 28,none,65,.bool ((((((I.2 != 0) || (B.2 != 0)) || (D.2.2 != 0)) || (H.2.2 != 0)) || (!R)) || (!(B.1.Lo == M.Lo && B.1.Hi == M.Hi)))⟩::⟨some 29,none,66,.bool ((((((I.2 != 0) || (B.2 != 0)) || (D.2.2 != 0)) || (H.2.2 != 0)) || (!R)) || (!(B.1.Lo == M.Lo && B.1.Hi == M.Hi)))⟩::⟨some 30,none,67,(bif ((((((I.2 != 0) || (B.2 != 0)) || (D.2.2 != 0)) || (H.2.2 != 0)) || (!R)) || (!(B.1.Lo == M.Lo && B.1.Hi == M.Hi))) then undef else .agg #[i6 D.1.Lo,i6 D.1.Hi])⟩::⟨some 31,none,68,(bif ((((((I.2 != 0) || (B.2 != 0)) || (D.2.2 != 0)) || (H.2.2 != 0)) || (!R)) || (!(B.1.Lo == M.Lo && B.1.Hi == M.Hi))) then undef else .agg #[i6 J.Lo,i6 J.Hi])⟩::⟨some 32,none,69,(bif ((((((I.2 != 0) || (B.2 != 0)) || (D.2.2 != 0)) || (H.2.2 != 0)) || (!R)) || (!(B.1.Lo == M.Lo && B.1.Hi == M.Hi))) then undef else .bool (!(D.1.Lo == J.Lo && D.1.Hi == J.Hi)))⟩::⟨some 33,none,70,.bool (((((((I.2 != 0) || (B.2 != 0)) || (D.2.2 != 0)) || (H.2.2 != 0)) || (!R)) || (!(B.1.Lo == M.Lo && B.1.Hi == M.Hi))) || (!(D.1.Lo == J.Lo && D.1.Hi == J.Hi)))⟩::⟨some 34,none,71,.bool (((((((I.2 != 0) || (B.2 != 0)) || (D.2.2 != 0)) || (H.2.2 != 0)) || (!R)) || (!(B.1.Lo == M.Lo && B.1.Hi == M.Hi))) || (!(D.1.Lo == J.Lo && D.1.Hi == J.Hi)))⟩::⟨some 35,none,72,(bif (((((((I.2 != 0) || (B.2 != 0)) || (D.2.2 != 0)) || (H.2.2 != 0)) || (!R)) || (!(B.1.Lo == M.Lo && B.1.Hi == M.Hi))) || (!(D.1.Lo == J.Lo && D.1.Hi == J.Hi))) then undef else .slice af D.2.1.length ai)⟩::⟨some 36,none,73,(bif (((((((I.2 != 0) || (B.2 != 0)) || (D.2.2 != 0)) || (H.2.2 != 0)) || (!R)) || (!(B.1.Lo == M.Lo && B.1.Hi == M.Hi))) || (!(D.1.Lo == J.Lo && D.1.Hi == J.Hi))) then undef else .slice (some ⟨(θ 288).b,0,none⟩) 1 1)⟩::⟨some 37,none,74,(bif (((((((I.2 != 0) || (B.2 != 0)) || (D.2.2 != 0)) || (H.2.2 != 0)) || (!R)) || (!(B.1.Lo == M.Lo && B.1.Hi == M.Hi))) || (!(D.1.Lo == J.Lo && D.1.Hi == J.Hi))) then undef else .bool U)⟩::⟨some 38,none,75,(bif (((((((I.2 != 0) || (B.2 != 0)) || (D.2.2 != 0)) || (H.2.2 != 0)) || (!R)) || (!(B.1.Lo == M.Lo && B.1.Hi == M.Hi))) || (!(D.1.Lo == J.Lo && D.1.Hi == J.Hi))) then undef else .bool (!U))⟩::⟨some 39,none,76,.bool ((((((((I.2 != 0) || (B.2 != 0)) || (D.2.2 != 0)) || (H.2.2 != 0)) || (!R)) || (!(B.1.Lo == M.Lo && B.1.Hi == M.Hi))) || (!(D.1.Lo == J.Lo && D.1.Hi == J.Hi))) || (!U))⟩::⟨some 40,none,77,.bool ((((((((I.2 != 0) || (B.2 != 0)) || (D.2.2 != 0)) || (H.2.2 != 0)) || (!R)) || (!(B.1.Lo == M.Lo && B.1.Hi == M.Hi))) || (!(D.1.Lo == J.Lo && D.1.Hi == J.Hi))) || (!U))⟩::⟨some 41,none,78,(bif ((((((((I.2 != 0) || (B.2 != 0)) || (D.2.2 != 0)) || (H.2.2 != 0)) || (!R)) || (!(B.1.Lo == M.Lo && B.1.Hi == M.Hi))) || (!(D.1.Lo == J.Lo && D.1.Hi == J.Hi))) || (!U)) then undef else i6 H.1)⟩::⟨some 42,none,79,(bif ((((((((I.2 != 0) || (B.2 != 0)) || (D.2.2 != 0)) || (H.2.2 != 0)) || (!R)) || (!(B.1.Lo == M.Lo && B.1.Hi == M.Hi))) || (!(D.1.Lo == J.Lo && D.1.Hi == J.Hi))) || (!U)) then undef else .bool (H.1 != 0))⟩::⟨some 43,none,80,.bool (((((((((I.2 != 0) || (B.2 != 0)) || (D.2.2 != 0)) || (H.2.2 != 0)) || (!R)) || (!(B.1.Lo == M.Lo && B.1.Hi == M.Hi))) || (!(D.1.Lo == J.Lo && D.1.Hi == J.Hi))) || (!U)) || (H.1 != 0))⟩::⟨some 44,none,81,.bool (((((((((I.2 != 0) || (B.2 != 0)) || (D.2.2 != 0)) || (H.2.2 != 0)) || (!R)) || (!(B.1.Lo == M.Lo && B.1.Hi == M.Hi))) || (!(D.1.Lo == J.Lo && D.1.Hi == J.Hi))) || (!U)) || (H.1 != 0))⟩::⟨some 45,none,82,(bif (((((((((I.2 != 0) || (B.2 != 0)) || (D.2.2 != 0)) || (H.2.2 != 0)) || (!R)) || (!(B.1.Lo == M.Lo && B.1.Hi == M.Hi))) || (!(D.1.Lo == J.Lo && D.1.Hi == J.Hi))) || (!U)) || (H.1 != 0)) then undef else i6 H.2.1)⟩::⟨some 46,none,83,(bif (((((((((I.2 != 0) || (B.2 != 0)) || (D.2.2 != 0)) || (H.2.2 != 0)) || (!R)) || (!(B.1.Lo == M.Lo && B.1.Hi == M.Hi))) || (!(D.1.Lo == J.Lo && D.1.Hi == J.Hi))) || (!U)) || (H.1 != 0)) then undef else .bool (H.2.1 != 3))⟩::⟨some 47,none,84,.bool ((((((((((I.2 != 0) || (B.2 != 0)) || (D.2.2 != 0)) || (H.2.2 != 0)) || (!R)) || (!(B.1.Lo == M.Lo && B.1.Hi == M.Hi))) || (!(D.1.Lo == J.Lo && D.1.Hi == J.Hi))) || (!U)) || (H.1 != 0)) || (H.2.1 != 3))⟩::[])) (fun E θ=>(bif E 36 then (gE (!(((((((I.2 != 0) || (B.2 != 0)) || (D.2.2 != 0)) || (H.2.2 != 0)) || (!R)) || (!(B.1.Lo == M.Lo && B.1.Hi == M.Hi))) || (!(D.1.Lo == J.Lo && D.1.Hi == J.Hi)))) (.row (some ⟨(θ 288).b,0,none⟩) 1 (([3]:List Int).map aD) 3 1)) else .row none 0 [] 0 0)::(bif E 20 then (gE (!((((I.2 != 0) || (B.2 != 0)) || (D.2.2 != 0)) || (H.2.2 != 0))) (.row (some ⟨(θ 160).b,0,none⟩) 4 (([(⟨28,30⟩:aA),(⟨38,40⟩:aA),(⟨48,50⟩:aA),(⟨58,60⟩:aA)]:List aA).map aC) 41 2)) else .row none 0 [] 0 0)::.row bn bs (ar.Days.map aJ) 52 3::.box an [i6 D.1.Lo,i6 D.1.Hi] 41::.row bu bi (ax.Days.map aJ) 52 3::.row af ai (D.2.1.map aD) 3 1::.box au [i6 B.1.Lo,i6 B.1.Hi] 41::.row bp b6 (ap.Days.map aJ) 52 3::.row bm bd (r.Days.map aJ) 52 3::.row aj ag (I.1.map aC) 41 2::Lf) [] (fun a w=>Has 139 a [(84,.bool ((((((((((I.2 != 0) || (B.2 != 0)) || (D.2.2 != 0)) || (H.2.2 != 0)) || (!R)) || (!(B.1.Lo == M.Lo && B.1.Hi == M.Hi))) || (!(D.1.Lo == J.Lo && D.1.Hi == J.Hi))) || (!U)) || (H.1 != 0)) || (H.2.1 != 3)))]∧Ctx G (.row bn bs (ar.Days.map aJ) 52 3::.box an [i6 D.1.Lo,i6 D.1.Hi] 41::.row bu bi (ax.Days.map aJ) 52 3::.row af ai (D.2.1.map aD) 3 1::.box au [i6 B.1.Lo,i6 B.1.Hi] 41::.row bp b6 (ap.Days.map aJ) 52 3::.row bm bd (r.Days.map aJ) 52 3::.row aj ag (I.1.map aC) 41 2::Lf) w) aT (by kernel_rfl) (by kernel_rfl) (eZ.of hf ⟨rfl,rfl,rfl,rfl,rfl,rfl,rfl,rfl,rfl,rfl,trivial,trivial,trivial,trivial,trivial,trivial,trivial,trivial,trivial,trivial,trivial,trivial,trivial,trivial,trivial,trivial,trivial,trivial,trivial,trivial,trivial,trivial,trivial,trivial,trivial,trivial,trivial,trivial,trivial,trivial,trivial,trivial,trivial,trivial,trivial,trivial,trivial,trivial,trivial,trivial,trivial,trivial,trivial,trivial,trivial,trivial,trivial,trivial,trivial⟩) hc ⟨?_,?_,?_,?_,?_,?_,?_,?_,?_,?_,?_,?_,?_,?_,?_,?_,?_,?_,?_,?_,?_,?_,?_,?_,?_,?_,?_,?_,?_,?_,?_,?_,?_,?_,?_,?_,?_,?_,?_,?_,?_,?_,?_,?_,?_,?_,?_,?_,trivial⟩ ?_ ?_
 ·intro E θ a w hD hi hp he hc
  have hf:=he.h0.mT he 1 rfl
  refine sp 1 hf rfl fun a hf=>zD θ he hi hf 10 rfl rfl rfl hc
 ·intro E θ a w hD hi hp he hc
  have e0:=hp.o 0 rfl
  have hf:=he.h0.mP he 10 rfl e0
  refine sp 1 hf rfl fun a hf=>zD θ he hi hf 11 rfl rfl rfl hc
 ·intro E θ a w hD hi hp he hc
  have e1:=hp.o 1 rfl
  have hf:=he.h0.mP he 11 rfl e1
  refine sp 1 hf rfl fun a hf=>zD θ he hi hf 12 rfl rfl rfl hc
 ·intro E θ a w hD hi hp he hc
  have e2:=hp.o 2 rfl
  rcases dP (I.2 != 0) with hb | hb
  ·have hf:=(he.h0.mT he 3 rfl).mP he 12 rfl e2
   replace hf:=bS hb hf
   refine stS hf rfl rfl rfl fun a hf=>?_
   replace hf:=jJ (u:=i6 B.2) hb hf
   exact zD θ he hi hf 13 rfl rfl rfl hc
  ·have hf:=(he.h0.mT he 3 rfl).mP he 12 rfl e2
   replace hf:=bS hb hf
   refine sp 1 hf rfl fun a hf=>?_
   replace hf:=jI (u:=undef) hb hf
   exact zD θ he hi hf 13 rfl rfl rfl hc
 ·intro E θ a w hD hi hp he hc
  have e2:=hp.o 2 rfl
  have e3:=hp.o 3 rfl
  rcases dP (I.2 != 0) with hb | hb
  ·have hf:=he.h0.mP he 12 rfl e2
   replace hf:=bS hb hf
   replace hf:=hf.more he 13 rfl (onP e3)
   replace hf:=fX hb hf
   refine stS hf rfl rfl rfl fun a hf=>?_
   replace hf:=jJ (u:=.bool (B.2 != 0)) hb hf
   exact zD θ he hi hf 14 rfl rfl rfl hc
  ·have hf:=he.h0.mP he 12 rfl e2
   replace hf:=bS hb hf
   replace hf:=hf.more he 13 rfl (onP e3)
   replace hf:=fY hb hf
   refine sp 1 hf rfl fun a hf=>?_
   replace hf:=jI (u:=undef) hb hf
   exact zD θ he hi hf 14 rfl rfl rfl hc
 ·intro E θ a w hD hi hp he hc
  have e2:=hp.o 2 rfl
  have e4:=hp.o 4 rfl
  rcases dP (I.2 != 0) with hb | hb
  ·have hf:=he.h0.mP he 12 rfl e2
   replace hf:=bS hb hf
   replace hf:=hf.more he 14 rfl (onP e4)
   replace hf:=fX hb hf
   refine sp 1 hf rfl fun a hf=>?_
   replace hf:=nH (v':=.bool ((I.2 != 0) || (B.2 != 0))) (congrArg Value.bool (orT hb)) hf
   exact zD θ he hi hf 15 rfl rfl rfl hc
  ·have hf:=he.h0.mP he 12 rfl e2
   replace hf:=bS hb hf
   replace hf:=hf.more he 14 rfl (onP e4)
   replace hf:=fY hb hf
   refine sp 1 hf rfl fun a hf=>?_
   replace hf:=nH (v':=.bool ((I.2 != 0) || (B.2 != 0))) (congrArg Value.bool (orF hb)) hf
   exact zD θ he hi hf 15 rfl rfl rfl hc
 ·intro E θ a w hD hi hp he hc
  have e5:=hp.o 5 rfl
  have hf:=he.h0.mP he 15 rfl e5
  refine sp 1 hf rfl fun a hf=>zD θ he hi hf 16 rfl rfl rfl hc
 ·intro E θ a w hD hi hp he hc
  have e6:=hp.o 6 rfl
  rcases dP ((I.2 != 0) || (B.2 != 0)) with hb | hb
  ·have hf:=(he.h0.mT he 6 rfl).mP he 16 rfl e6
   replace hf:=bS hb hf
   refine stS hf rfl rfl rfl fun a hf=>?_
   replace hf:=jJ (u:=i6 D.2.2) hb hf
   exact zD θ he hi hf 17 rfl rfl rfl hc
  ·have hf:=(he.h0.mT he 6 rfl).mP he 16 rfl e6
   replace hf:=bS hb hf
   refine sp 1 hf rfl fun a hf=>?_
   replace hf:=jI (u:=undef) hb hf
   exact zD θ he hi hf 17 rfl rfl rfl hc
 ·intro E θ a w hD hi hp he hc
  have e6:=hp.o 6 rfl
  have e7:=hp.o 7 rfl
  rcases dP ((I.2 != 0) || (B.2 != 0)) with hb | hb
  ·have hf:=he.h0.mP he 16 rfl e6
   replace hf:=bS hb hf
   replace hf:=hf.more he 17 rfl (onP e7)
   replace hf:=fX hb hf
   refine stS hf rfl rfl rfl fun a hf=>?_
   replace hf:=jJ (u:=.bool (D.2.2 != 0)) hb hf
   exact zD θ he hi hf 18 rfl rfl rfl hc
  ·have hf:=he.h0.mP he 16 rfl e6
   replace hf:=bS hb hf
   replace hf:=hf.more he 17 rfl (onP e7)
   replace hf:=fY hb hf
   refine sp 1 hf rfl fun a hf=>?_
   replace hf:=jI (u:=undef) hb hf
   exact zD θ he hi hf 18 rfl rfl rfl hc
 ·intro E θ a w hD hi hp he hc
  have e6:=hp.o 6 rfl
  have e8:=hp.o 8 rfl
  rcases dP ((I.2 != 0) || (B.2 != 0)) with hb | hb
  ·have hf:=he.h0.mP he 16 rfl e6
   replace hf:=bS hb hf
   replace hf:=hf.more he 18 rfl (onP e8)
   replace hf:=fX hb hf
   refine sp 1 hf rfl fun a hf=>?_
   replace hf:=nH (v':=.bool (((I.2 != 0) || (B.2 != 0)) || (D.2.2 != 0))) (congrArg Value.bool (orT hb)) hf
   exact zD θ he hi hf 19 rfl rfl rfl hc
  ·have hf:=he.h0.mP he 16 rfl e6
   replace hf:=bS hb hf
   replace hf:=hf.more he 18 rfl (onP e8)
   replace hf:=fY hb hf
   refine sp 1 hf rfl fun a hf=>?_
   replace hf:=nH (v':=.bool (((I.2 != 0) || (B.2 != 0)) || (D.2.2 != 0))) (congrArg Value.bool (orF hb)) hf
   exact zD θ he hi hf 19 rfl rfl rfl hc
 ·intro E θ a w hD hi hp he hc
  have e9:=hp.o 9 rfl
  have hf:=he.h0.mP he 19 rfl e9
  refine sp 1 hf rfl fun a hf=>zD θ he hi hf 20 rfl rfl rfl hc
 ·intro E θ a w hD hi hp he hc
  have t:=hp.o 10 rfl
  rcases dP (((I.2 != 0) || (B.2 != 0)) || (D.2.2 != 0)) with hb | hb
  ·have hf:=(he.h0.mT he 9 rfl).mP he 20 rfl t
   replace hf:=bS hb hf
   refine stS hf rfl rfl rfl fun a hf=>?_
   replace hf:=jJ (u:=i6 H.2.2) hb hf
   exact zD θ he hi hf 21 rfl rfl rfl hc
  ·have hf:=(he.h0.mT he 9 rfl).mP he 20 rfl t
   replace hf:=bS hb hf
   refine sp 1 hf rfl fun a hf=>?_
   replace hf:=jI (u:=undef) hb hf
   exact zD θ he hi hf 21 rfl rfl rfl hc
 ·intro E θ a w hD hi hp he hc
  have t:=hp.o 10 rfl
  have bk:=hp.o 11 rfl
  rcases dP (((I.2 != 0) || (B.2 != 0)) || (D.2.2 != 0)) with hb | hb
  ·have hf:=he.h0.mP he 20 rfl t
   replace hf:=bS hb hf
   replace hf:=hf.more he 21 rfl (onP bk)
   replace hf:=fX hb hf
   refine stS hf rfl rfl rfl fun a hf=>?_
   replace hf:=jJ (u:=.bool (H.2.2 != 0)) hb hf
   exact zD θ he hi hf 22 rfl rfl rfl hc
  ·have hf:=he.h0.mP he 20 rfl t
   replace hf:=bS hb hf
   replace hf:=hf.more he 21 rfl (onP bk)
   replace hf:=fY hb hf
   refine sp 1 hf rfl fun a hf=>?_
   replace hf:=jI (u:=undef) hb hf
   exact zD θ he hi hf 22 rfl rfl rfl hc
 ·intro E θ a w hD hi hp he hc
  have t:=hp.o 10 rfl
  have bb:=hp.o 12 rfl
  rcases dP (((I.2 != 0) || (B.2 != 0)) || (D.2.2 != 0)) with hb | hb
  ·have hf:=he.h0.mP he 20 rfl t
   replace hf:=bS hb hf
   replace hf:=hf.more he 22 rfl (onP bb)
   replace hf:=fX hb hf
   refine sp 1 hf rfl fun a hf=>?_
   replace hf:=nH (v':=.bool ((((I.2 != 0) || (B.2 != 0)) || (D.2.2 != 0)) || (H.2.2 != 0))) (congrArg Value.bool (orT hb)) hf
   exact zD θ he hi hf 23 rfl rfl rfl hc
  ·have hf:=he.h0.mP he 20 rfl t
   replace hf:=bS hb hf
   replace hf:=hf.more he 22 rfl (onP bb)
   replace hf:=fY hb hf
   refine sp 1 hf rfl fun a hf=>?_
   replace hf:=nH (v':=.bool ((((I.2 != 0) || (B.2 != 0)) || (D.2.2 != 0)) || (H.2.2 != 0))) (congrArg Value.bool (orF hb)) hf
   exact zD θ he hi hf 23 rfl rfl rfl hc
 ·intro E θ a w hD hi hp he hc
  have cv:=hp.o 13 rfl
  have hf:=he.h0.mP he 23 rfl cv
  refine sp 1 hf rfl fun a hf=>zD θ he hi hf 24 rfl rfl rfl hc
 ·intro E θ a w hD hi hp he hc
  have Z:=hp.o 14 rfl
  rcases dP ((((I.2 != 0) || (B.2 != 0)) || (D.2.2 != 0)) || (H.2.2 != 0)) with hb | hb
  ·have hf:=(he.h0.mT he 0 rfl).mP he 24 rfl Z
   replace hf:=bS hb hf
   refine stS hf rfl rfl rfl fun a hf=>?_
   replace hf:=jJ (u:=.slice aj I.1.length ag) hb hf
   exact zD θ he hi hf 25 rfl rfl rfl hc
  ·have hf:=(he.h0.mT he 0 rfl).mP he 24 rfl Z
   replace hf:=bS hb hf
   refine sp 1 hf rfl fun a hf=>?_
   replace hf:=jI (u:=undef) hb hf
   exact zD θ he hi hf 25 rfl rfl rfl hc
 ·intro E θ a w hD hi hp he hc
  have Z:=hp.o 14 rfl
  rcases dP ((((I.2 != 0) || (B.2 != 0)) || (D.2.2 != 0)) || (H.2.2 != 0)) with hb | hb
  ·have hf:=he.h0.mP he 24 rfl Z
   replace hf:=bS hb hf
   refine stS hf rfl rfl rfl fun a hf=>?_
   replace hf:=jJ (u:=.agg #[i6 28,i6 30]) hb hf
   exact zD θ he hi hf 26 rfl rfl rfl hc
  ·have hf:=he.h0.mP he 24 rfl Z
   replace hf:=bS hb hf
   refine zP hf rfl (bH (cells:=[i6 28,i6 30]) iY rfl rfl) fun a hf=>?_
   replace hf:=jI (u:=undef) hb hf
   exact zD θ he hi hf 26 rfl rfl rfl hc
 ·intro E θ a w hD hi hp he hc
  have Z:=hp.o 14 rfl
  rcases dP ((((I.2 != 0) || (B.2 != 0)) || (D.2.2 != 0)) || (H.2.2 != 0)) with hb | hb
  ·have hf:=he.h0.mP he 24 rfl Z
   replace hf:=bS hb hf
   refine stS hf rfl rfl rfl fun a hf=>?_
   replace hf:=jJ (u:=.agg #[i6 38,i6 40]) hb hf
   exact zD θ he hi hf 27 rfl rfl rfl hc
  ·have hf:=he.h0.mP he 24 rfl Z
   replace hf:=bS hb hf
   refine zP hf rfl (bH (cells:=[i6 38,i6 40]) iY rfl rfl) fun a hf=>?_
   replace hf:=jI (u:=undef) hb hf
   exact zD θ he hi hf 27 rfl rfl rfl hc
 ·intro E θ a w hD hi hp he hc
  have Z:=hp.o 14 rfl
  rcases dP ((((I.2 != 0) || (B.2 != 0)) || (D.2.2 != 0)) || (H.2.2 != 0)) with hb | hb
  ·have hf:=he.h0.mP he 24 rfl Z
   replace hf:=bS hb hf
   refine stS hf rfl rfl rfl fun a hf=>?_
   replace hf:=jJ (u:=.agg #[i6 48,i6 50]) hb hf
   exact zD θ he hi hf 28 rfl rfl rfl hc
  ·have hf:=he.h0.mP he 24 rfl Z
   replace hf:=bS hb hf
   refine zP hf rfl (bH (cells:=[i6 48,i6 50]) iY rfl rfl) fun a hf=>?_
   replace hf:=jI (u:=undef) hb hf
   exact zD θ he hi hf 28 rfl rfl rfl hc
 ·intro E θ a w hD hi hp he hc
  have Z:=hp.o 14 rfl
  rcases dP ((((I.2 != 0) || (B.2 != 0)) || (D.2.2 != 0)) || (H.2.2 != 0)) with hb | hb
  ·have hf:=he.h0.mP he 24 rfl Z
   replace hf:=bS hb hf
   refine stS hf rfl rfl rfl fun a hf=>?_
   replace hf:=jJ (u:=.agg #[i6 58,i6 60]) hb hf
   exact zD θ he hi hf 29 rfl rfl rfl hc
  ·have hf:=he.h0.mP he 24 rfl Z
   replace hf:=bS hb hf
   refine zP hf rfl (bH (cells:=[i6 58,i6 60]) iY rfl rfl) fun a hf=>?_
   replace hf:=jI (u:=undef) hb hf
   exact zD θ he hi hf 29 rfl rfl rfl hc
 ·intro E θ a w hD hi hp he hc
  have Z:=hp.o 14 rfl
  have b0:=hp.o 16 rfl
  have b3:=hp.o 17 rfl
  have bt:=hp.o 18 rfl
  have bz:=hp.o 19 rfl
  try dsimp only at hc
  rw [hi] at hc
  rcases dP ((((I.2 != 0) || (B.2 != 0)) || (D.2.2 != 0)) || (H.2.2 != 0)) with hb | hb
  ·have hf:=he.h0.mP he 24 rfl Z
   replace hf:=bS hb hf
   replace hf:=hf.more he 26 rfl (onP b0)
   replace hf:=fX hb hf
   replace hf:=hf.more he 27 rfl (onP b3)
   replace hf:=fX hb hf
   replace hf:=hf.more he 28 rfl (onP bt)
   replace hf:=fX hb hf
   replace hf:=hf.more he 29 rfl (onP bz)
   replace hf:=fX hb hf
   refine stS hf rfl rfl rfl fun a hf=>?_
   replace hf:=jJ (u:=.slice (some ⟨(θ 160).b,0,none⟩) 4 4) hb hf
   refine zD θ he hi hf 30 rfl rfl rfl ?_
   try dsimp only
   rw [aR E 20]
   rw [aG2 (aGu hb)]
   exact hc
  ·have hf:=he.h0.mP he 24 rfl Z
   replace hf:=bS hb hf
   replace hf:=hf.more he 26 rfl (onP b0)
   replace hf:=fY hb hf
   replace hf:=hf.more he 27 rfl (onP b3)
   replace hf:=fY hb hf
   replace hf:=hf.more he 28 rfl (onP bt)
   replace hf:=fY hb hf
   replace hf:=hf.more he 29 rfl (onP bz)
   replace hf:=fY hb hf
   refine mY (rows:=([(⟨28,30⟩:aA),(⟨38,40⟩:aA),(⟨48,50⟩:aA),(⟨58,60⟩:aA)]:List aA).map aC) (vs:=[(0,.agg #[i6 28,i6 30]),(1,.agg #[i6 38,i6 40]),(2,.agg #[i6 48,i6 50]),(3,.agg #[i6 58,i6 60])]) hf hc rfl rfl tR rfl ⟨rfl,rfl,rfl,rfl,rfl,rfl,rfl,rfl,rfl,rfl,rfl,rfl,trivial⟩ rfl rfl fun cz a w hf hc=>?_
   replace hf:=jI (u:=undef) hb hf
   refine aP ?_
   refine eY ?_
   intro ds u aq
   replace hc:=((hc.drop k2).pick k0).pick k1
   refine ⟨(qW θ 160 ⟨cz,none,0,(fun _=>(none,0))⟩),he.put hi aq hf rfl [] trivial ⟨qq,qq,qq,qq,qq,qq,qq,qq,qq,qq,qq,qq,qq,qq,qq,qq,qq,qq,qq,qq,qq,qq,qq,qq,qq,qq,qq,qq,qq,qq,qq,qq,qq,qq,qq,qq,qq,qq,qq,qq,qq,qq,qq,qq,qq,qq,qq,qq,qq,qq,qq,qq,qq,qq,qq,qq,qq,qq,trivial⟩,?_⟩
   try dsimp only
   rw [aR E 20]
   rw [aG0 (aBw hb)]
   exact hc
 ·intro E θ a w hD hi hp he hc
  have Z:=hp.o 14 rfl
  have bq:=hp.o 15 rfl
  have ab:=hp.o 20 rfl
  try dsimp only at hc
  rw [ab] at hc
  rcases dP ((((I.2 != 0) || (B.2 != 0)) || (D.2.2 != 0)) || (H.2.2 != 0)) with hb | hb
  ·have hf:=he.h0.mP he 24 rfl Z
   replace hf:=bS hb hf
   replace hf:=hf.more he 25 rfl (onP bq)
   replace hf:=fX hb hf
   replace hf:=hf.more he 30 rfl (onP ab)
   replace hf:=fX hb hf
   rw [aG2 (aGu hb)] at hc
   refine stS hf rfl rfl rfl fun a hf=>?_
   replace hf:=jJ (u:=.bool R) hb hf
   refine zD θ he hi hf 31 rfl rfl rfl ?_
   try dsimp only
   rw [cV 21 ab]
   rw [aG2 (aGu hb)]
   exact hc
  ·have hf:=he.h0.mP he 24 rfl Z
   replace hf:=bS hb hf
   replace hf:=hf.more he 25 rfl (onP bq)
   replace hf:=fY hb hf
   replace hf:=hf.more he 30 rfl (onP ab)
   replace hf:=fY hb hf
   rw [aG0 (aBw hb)] at hc
   refine zQ (v:=.bool R) hf hc en_45 rfl (fun w hc=>by obtain ⟨G1,d,X,hc,Y⟩:=lend hc k9; obtain ⟨G2,g,j,hc,i⟩:=lend hc k1; exact (uK I.1 ([(⟨28,30⟩:aA),(⟨38,40⟩:aA),(⟨48,50⟩:aA),(⟨58,60⟩:aA)]:List aA) (X.mono g) j hc (lF (aBw hb) cb)).mono fun e w h=>⟨h.1,((Y _ _ ((i _ _ h.2).unpick k1)).unpick k9)⟩) fun a w hf hc=>?_
   replace hf:=jI (u:=undef) hb hf
   refine zD θ he hi hf 31 rfl rfl rfl ?_
   try dsimp only
   rw [cV 21 ab]
   rw [aG0 (aBw hb)]
   exact hc
 ·intro E θ a w hD hi hp he hc
  have Z:=hp.o 14 rfl
  have b1:=hp.o 21 rfl
  rcases dP ((((I.2 != 0) || (B.2 != 0)) || (D.2.2 != 0)) || (H.2.2 != 0)) with hb | hb
  ·have hf:=he.h0.mP he 24 rfl Z
   replace hf:=bS hb hf
   replace hf:=hf.more he 31 rfl (onP b1)
   replace hf:=fX hb hf
   refine stS hf rfl rfl rfl fun a hf=>?_
   replace hf:=jJ (u:=.bool (!R)) hb hf
   exact zD θ he hi hf 32 rfl rfl rfl hc
  ·have hf:=he.h0.mP he 24 rfl Z
   replace hf:=bS hb hf
   replace hf:=hf.more he 31 rfl (onP b1)
   replace hf:=fY hb hf
   refine sp 1 hf rfl fun a hf=>?_
   replace hf:=jI (u:=undef) hb hf
   exact zD θ he hi hf 32 rfl rfl rfl hc
 ·intro E θ a w hD hi hp he hc
  have Z:=hp.o 14 rfl
  have a9:=hp.o 22 rfl
  rcases dP ((((I.2 != 0) || (B.2 != 0)) || (D.2.2 != 0)) || (H.2.2 != 0)) with hb | hb
  ·have hf:=he.h0.mP he 24 rfl Z
   replace hf:=bS hb hf
   replace hf:=hf.more he 32 rfl (onP a9)
   replace hf:=fX hb hf
   refine sp 1 hf rfl fun a hf=>?_
   replace hf:=nH (v':=.bool (((((I.2 != 0) || (B.2 != 0)) || (D.2.2 != 0)) || (H.2.2 != 0)) || (!R))) (congrArg Value.bool (orT hb)) hf
   exact zD θ he hi hf 33 rfl rfl rfl hc
  ·have hf:=he.h0.mP he 24 rfl Z
   replace hf:=bS hb hf
   replace hf:=hf.more he 32 rfl (onP a9)
   replace hf:=fY hb hf
   refine sp 1 hf rfl fun a hf=>?_
   replace hf:=nH (v':=.bool (((((I.2 != 0) || (B.2 != 0)) || (D.2.2 != 0)) || (H.2.2 != 0)) || (!R))) (congrArg Value.bool (orF hb)) hf
   exact zD θ he hi hf 33 rfl rfl rfl hc
 ·intro E θ a w hD hi hp he hc
  have cx:=hp.o 23 rfl
  have hf:=he.h0.mP he 33 rfl cx
  refine sp 1 hf rfl fun a hf=>zD θ he hi hf 34 rfl rfl rfl hc
 ·intro E θ a w hD hi hp he hc
  have n:=hp.o 24 rfl
  rcases dP (((((I.2 != 0) || (B.2 != 0)) || (D.2.2 != 0)) || (H.2.2 != 0)) || (!R)) with hb | hb
  ·have hf:=(he.h0.mT he 2 rfl).mP he 34 rfl n
   replace hf:=bS hb hf
   refine stS hf rfl rfl rfl fun a hf=>?_
   replace hf:=jJ (u:=.agg #[i6 B.1.Lo,i6 B.1.Hi]) hb hf
   exact zD θ he hi hf 35 rfl rfl rfl hc
  ·have hf:=(he.h0.mT he 2 rfl).mP he 34 rfl n
   replace hf:=bS hb hf
   refine zN hf hc eA m6 rfl fun a w hf hc=>?_
   replace hf:=jI (u:=undef) hb hf
   exact zD θ he hi hf 35 rfl rfl rfl hc
 ·intro E θ a w hD hi hp he hc
  have n:=hp.o 24 rfl
  rcases dP (((((I.2 != 0) || (B.2 != 0)) || (D.2.2 != 0)) || (H.2.2 != 0)) || (!R)) with hb | hb
  ·have hf:=he.h0.mP he 34 rfl n
   replace hf:=bS hb hf
   refine stS hf rfl rfl rfl fun a hf=>?_
   replace hf:=jJ (u:=.agg #[i6 M.Lo,i6 M.Hi]) hb hf
   exact zD θ he hi hf 36 rfl rfl rfl hc
  ·have hf:=he.h0.mP he 34 rfl n
   replace hf:=bS hb hf
   refine zQ (v:=.agg #[i6 M.Lo,i6 M.Hi]) hf hc aH7 rfl (fun w hc=>rS 86 90 hc (lF (aBw hb) cg)) fun a w hf hc=>?_
   replace hf:=jI (u:=undef) hb hf
   exact zD θ he hi hf 36 rfl rfl rfl hc
 ·intro E θ a w hD hi hp he hc
  have n:=hp.o 24 rfl
  have b8:=hp.o 25 rfl
  have bc:=hp.o 26 rfl
  rcases dP (((((I.2 != 0) || (B.2 != 0)) || (D.2.2 != 0)) || (H.2.2 != 0)) || (!R)) with hb | hb
  ·have hf:=he.h0.mP he 34 rfl n
   replace hf:=bS hb hf
   replace hf:=hf.more he 35 rfl (onP b8)
   replace hf:=fX hb hf
   replace hf:=hf.more he 36 rfl (onP bc)
   replace hf:=fX hb hf
   refine stS hf rfl rfl rfl fun a hf=>?_
   replace hf:=jJ (u:=.bool (!(B.1.Lo == M.Lo && B.1.Hi == M.Hi))) hb hf
   exact zD θ he hi hf 37 rfl rfl rfl hc
  ·have hf:=he.h0.mP he 34 rfl n
   replace hf:=bS hb hf
   replace hf:=hf.more he 35 rfl (onP b8)
   replace hf:=fY hb hf
   replace hf:=hf.more he 36 rfl (onP bc)
   replace hf:=fY hb hf
   refine zP hf rfl (pNeA aHo rfl rfl (aFb _ _ _ _)) fun a hf=>?_
   replace hf:=jI (u:=undef) hb hf
   exact zD θ he hi hf 37 rfl rfl rfl hc
 ·intro E θ a w hD hi hp he hc
  have n:=hp.o 24 rfl
  have bx:=hp.o 27 rfl
  rcases dP (((((I.2 != 0) || (B.2 != 0)) || (D.2.2 != 0)) || (H.2.2 != 0)) || (!R)) with hb | hb
  ·have hf:=he.h0.mP he 34 rfl n
   replace hf:=bS hb hf
   replace hf:=hf.more he 37 rfl (onP bx)
   replace hf:=fX hb hf
   refine sp 1 hf rfl fun a hf=>?_
   replace hf:=nH (v':=.bool ((((((I.2 != 0) || (B.2 != 0)) || (D.2.2 != 0)) || (H.2.2 != 0)) || (!R)) || (!(B.1.Lo == M.Lo && B.1.Hi == M.Hi)))) (congrArg Value.bool (orT hb)) hf
   exact zD θ he hi hf 38 rfl rfl rfl hc
  ·have hf:=he.h0.mP he 34 rfl n
   replace hf:=bS hb hf
   replace hf:=hf.more he 37 rfl (onP bx)
   replace hf:=fY hb hf
   refine sp 1 hf rfl fun a hf=>?_
   replace hf:=nH (v':=.bool ((((((I.2 != 0) || (B.2 != 0)) || (D.2.2 != 0)) || (H.2.2 != 0)) || (!R)) || (!(B.1.Lo == M.Lo && B.1.Hi == M.Hi)))) (congrArg Value.bool (orF hb)) hf
   exact zD θ he hi hf 38 rfl rfl rfl hc
 ·intro E θ a w hD hi hp he hc
  have cr:=hp.o 28 rfl
  have hf:=he.h0.mP he 38 rfl cr
  refine sp 1 hf rfl fun a hf=>zD θ he hi hf 39 rfl rfl rfl hc
 ·intro E θ a w hD hi hp he hc
  have p:=hp.o 29 rfl
  rcases dP ((((((I.2 != 0) || (B.2 != 0)) || (D.2.2 != 0)) || (H.2.2 != 0)) || (!R)) || (!(B.1.Lo == M.Lo && B.1.Hi == M.Hi))) with hb | hb
  ·have hf:=(he.h0.mT he 4 rfl).mP he 39 rfl p
   replace hf:=bS hb hf
   refine stS hf rfl rfl rfl fun a hf=>?_
   replace hf:=jJ (u:=.agg #[i6 D.1.Lo,i6 D.1.Hi]) hb hf
   exact zD θ he hi hf 40 rfl rfl rfl hc
  ·have hf:=(he.h0.mT he 4 rfl).mP he 39 rfl p
   replace hf:=bS hb hf
   refine zN hf hc eA m3 rfl fun a w hf hc=>?_
   replace hf:=jI (u:=undef) hb hf
   exact zD θ he hi hf 40 rfl rfl rfl hc
 ·intro E θ a w hD hi hp he hc
  have p:=hp.o 29 rfl
  rcases dP ((((((I.2 != 0) || (B.2 != 0)) || (D.2.2 != 0)) || (H.2.2 != 0)) || (!R)) || (!(B.1.Lo == M.Lo && B.1.Hi == M.Hi))) with hb | hb
  ·have hf:=he.h0.mP he 39 rfl p
   replace hf:=bS hb hf
   refine stS hf rfl rfl rfl fun a hf=>?_
   replace hf:=jJ (u:=.agg #[i6 J.Lo,i6 J.Hi]) hb hf
   exact zD θ he hi hf 41 rfl rfl rfl hc
  ·have hf:=he.h0.mP he 39 rfl p
   replace hf:=bS hb hf
   refine zQ (v:=.agg #[i6 J.Lo,i6 J.Hi]) hf hc aH7 rfl (fun w hc=>rS 58 60 hc (lF (aBw hb) az)) fun a w hf hc=>?_
   replace hf:=jI (u:=undef) hb hf
   exact zD θ he hi hf 41 rfl rfl rfl hc
 ·intro E θ a w hD hi hp he hc
  have p:=hp.o 29 rfl
  have b2:=hp.o 30 rfl
  have a8:=hp.o 31 rfl
  rcases dP ((((((I.2 != 0) || (B.2 != 0)) || (D.2.2 != 0)) || (H.2.2 != 0)) || (!R)) || (!(B.1.Lo == M.Lo && B.1.Hi == M.Hi))) with hb | hb
  ·have hf:=he.h0.mP he 39 rfl p
   replace hf:=bS hb hf
   replace hf:=hf.more he 40 rfl (onP b2)
   replace hf:=fX hb hf
   replace hf:=hf.more he 41 rfl (onP a8)
   replace hf:=fX hb hf
   refine stS hf rfl rfl rfl fun a hf=>?_
   replace hf:=jJ (u:=.bool (!(D.1.Lo == J.Lo && D.1.Hi == J.Hi))) hb hf
   exact zD θ he hi hf 42 rfl rfl rfl hc
  ·have hf:=he.h0.mP he 39 rfl p
   replace hf:=bS hb hf
   replace hf:=hf.more he 40 rfl (onP b2)
   replace hf:=fY hb hf
   replace hf:=hf.more he 41 rfl (onP a8)
   replace hf:=fY hb hf
   refine zP hf rfl (pNeA aHo rfl rfl (aFb _ _ _ _)) fun a hf=>?_
   replace hf:=jI (u:=undef) hb hf
   exact zD θ he hi hf 42 rfl rfl rfl hc
 ·intro E θ a w hD hi hp he hc
  have p:=hp.o 29 rfl
  have b4:=hp.o 32 rfl
  rcases dP ((((((I.2 != 0) || (B.2 != 0)) || (D.2.2 != 0)) || (H.2.2 != 0)) || (!R)) || (!(B.1.Lo == M.Lo && B.1.Hi == M.Hi))) with hb | hb
  ·have hf:=he.h0.mP he 39 rfl p
   replace hf:=bS hb hf
   replace hf:=hf.more he 42 rfl (onP b4)
   replace hf:=fX hb hf
   refine sp 1 hf rfl fun a hf=>?_
   replace hf:=nH (v':=.bool (((((((I.2 != 0) || (B.2 != 0)) || (D.2.2 != 0)) || (H.2.2 != 0)) || (!R)) || (!(B.1.Lo == M.Lo && B.1.Hi == M.Hi))) || (!(D.1.Lo == J.Lo && D.1.Hi == J.Hi)))) (congrArg Value.bool (orT hb)) hf
   exact zD θ he hi hf 43 rfl rfl rfl hc
  ·have hf:=he.h0.mP he 39 rfl p
   replace hf:=bS hb hf
   replace hf:=hf.more he 42 rfl (onP b4)
   replace hf:=fY hb hf
   refine sp 1 hf rfl fun a hf=>?_
   replace hf:=nH (v':=.bool (((((((I.2 != 0) || (B.2 != 0)) || (D.2.2 != 0)) || (H.2.2 != 0)) || (!R)) || (!(B.1.Lo == M.Lo && B.1.Hi == M.Hi))) || (!(D.1.Lo == J.Lo && D.1.Hi == J.Hi)))) (congrArg Value.bool (orF hb)) hf
   exact zD θ he hi hf 43 rfl rfl rfl hc
 ·intro E θ a w hD hi hp he hc
  have cu:=hp.o 33 rfl
  have hf:=he.h0.mP he 43 rfl cu
  refine sp 1 hf rfl fun a hf=>zD θ he hi hf 44 rfl rfl rfl hc
 ·intro E θ a w hD hi hp he hc
  have k:=hp.o 34 rfl
  rcases dP (((((((I.2 != 0) || (B.2 != 0)) || (D.2.2 != 0)) || (H.2.2 != 0)) || (!R)) || (!(B.1.Lo == M.Lo && B.1.Hi == M.Hi))) || (!(D.1.Lo == J.Lo && D.1.Hi == J.Hi))) with hb | hb
  ·have hf:=(he.h0.mT he 5 rfl).mP he 44 rfl k
   replace hf:=bS hb hf
   refine stS hf rfl rfl rfl fun a hf=>?_
   replace hf:=jJ (u:=.slice af D.2.1.length ai) hb hf
   exact zD θ he hi hf 45 rfl rfl rfl hc
  ·have hf:=(he.h0.mT he 5 rfl).mP he 44 rfl k
   replace hf:=bS hb hf
   refine sp 1 hf rfl fun a hf=>?_
   replace hf:=jI (u:=undef) hb hf
   exact zD θ he hi hf 45 rfl rfl rfl hc
 ·intro E θ a w hD hi hp he hc
  have k:=hp.o 34 rfl
  try dsimp only at hc
  rw [hi] at hc
  rcases dP (((((((I.2 != 0) || (B.2 != 0)) || (D.2.2 != 0)) || (H.2.2 != 0)) || (!R)) || (!(B.1.Lo == M.Lo && B.1.Hi == M.Hi))) || (!(D.1.Lo == J.Lo && D.1.Hi == J.Hi))) with hb | hb
  ·have hf:=he.h0.mP he 44 rfl k
   replace hf:=bS hb hf
   refine stS hf rfl rfl rfl fun a hf=>?_
   replace hf:=jJ (u:=.slice (some ⟨(θ 288).b,0,none⟩) 1 1) hb hf
   refine zD θ he hi hf 46 rfl rfl rfl ?_
   try dsimp only
   rw [aR E 36]
   rw [aG2 (aGu hb)]
   exact hc
  ·have hf:=he.h0.mP he 44 rfl k
   replace hf:=bS hb hf
   refine mY (rows:=([3]:List Int).map aD) (vs:=[(0,i6 3)]) hf hc rfl rfl lD rfl ⟨rfl,rfl,rfl,trivial⟩ rfl rfl fun cs a w hf hc=>?_
   replace hf:=jI (u:=undef) hb hf
   refine aP ?_
   refine eY ?_
   intro ds u aq
   replace hc:=hc.drop k1
   refine ⟨(qW θ 288 ⟨cs,none,0,(fun _=>(none,0))⟩),he.put hi aq hf rfl [] trivial ⟨qq,qq,qq,qq,qq,qq,qq,qq,qq,qq,qq,qq,qq,qq,qq,qq,qq,qq,qq,qq,qq,qq,qq,qq,qq,qq,qq,qq,qq,qq,qq,qq,qq,qq,qq,qq,qq,qq,qq,qq,qq,qq,qq,qq,qq,qq,qq,qq,qq,qq,qq,qq,qq,qq,qq,qq,qq,qq,trivial⟩,?_⟩
   try dsimp only
   rw [aR E 36]
   rw [aG0 (aBw hb)]
   exact hc
 ·intro E θ a w hD hi hp he hc
  have k:=hp.o 34 rfl
  have bf:=hp.o 35 rfl
  have aa:=hp.o 36 rfl
  try dsimp only at hc
  rw [aa] at hc
  rcases dP (((((((I.2 != 0) || (B.2 != 0)) || (D.2.2 != 0)) || (H.2.2 != 0)) || (!R)) || (!(B.1.Lo == M.Lo && B.1.Hi == M.Hi))) || (!(D.1.Lo == J.Lo && D.1.Hi == J.Hi))) with hb | hb
  ·have hf:=he.h0.mP he 44 rfl k
   replace hf:=bS hb hf
   replace hf:=hf.more he 45 rfl (onP bf)
   replace hf:=fX hb hf
   replace hf:=hf.more he 46 rfl (onP aa)
   replace hf:=fX hb hf
   rw [aG2 (aGu hb)] at hc
   refine stS hf rfl rfl rfl fun a hf=>?_
   replace hf:=jJ (u:=.bool U) hb hf
   refine zD θ he hi hf 47 rfl rfl rfl ?_
   try dsimp only
   rw [cV 37 aa]
   rw [aG2 (aGu hb)]
   exact hc
  ·have hf:=he.h0.mP he 44 rfl k
   replace hf:=bS hb hf
   replace hf:=hf.more he 45 rfl (onP bf)
   replace hf:=fY hb hf
   replace hf:=hf.more he 46 rfl (onP aa)
   replace hf:=fY hb hf
   rw [aG0 (aBw hb)] at hc
   refine zQ (v:=.bool U) hf hc aH3 rfl (fun w hc=>by obtain ⟨G1,d,X,hc,Y⟩:=lend hc k5; obtain ⟨G2,g,j,hc,i⟩:=lend hc k0; exact (pI D.2.1 ([3]:List Int) (X.mono g) j hc (lF (aBw hb) a7)).mono fun e w h=>⟨h.1,((Y _ _ ((i _ _ h.2).unpick k0)).unpick k5)⟩) fun a w hf hc=>?_
   replace hf:=jI (u:=undef) hb hf
   refine zD θ he hi hf 47 rfl rfl rfl ?_
   try dsimp only
   rw [cV 37 aa]
   rw [aG0 (aBw hb)]
   exact hc
 ·intro E θ a w hD hi hp he hc
  have k:=hp.o 34 rfl
  have b5:=hp.o 37 rfl
  rcases dP (((((((I.2 != 0) || (B.2 != 0)) || (D.2.2 != 0)) || (H.2.2 != 0)) || (!R)) || (!(B.1.Lo == M.Lo && B.1.Hi == M.Hi))) || (!(D.1.Lo == J.Lo && D.1.Hi == J.Hi))) with hb | hb
  ·have hf:=he.h0.mP he 44 rfl k
   replace hf:=bS hb hf
   replace hf:=hf.more he 47 rfl (onP b5)
   replace hf:=fX hb hf
   refine stS hf rfl rfl rfl fun a hf=>?_
   replace hf:=jJ (u:=.bool (!U)) hb hf
   exact zD θ he hi hf 48 rfl rfl rfl hc
  ·have hf:=he.h0.mP he 44 rfl k
   replace hf:=bS hb hf
   replace hf:=hf.more he 47 rfl (onP b5)
   replace hf:=fY hb hf
   refine sp 1 hf rfl fun a hf=>?_
   replace hf:=jI (u:=undef) hb hf
   exact zD θ he hi hf 48 rfl rfl rfl hc
 ·intro E θ a w hD hi hp he hc
  have k:=hp.o 34 rfl
  have br:=hp.o 38 rfl
  rcases dP (((((((I.2 != 0) || (B.2 != 0)) || (D.2.2 != 0)) || (H.2.2 != 0)) || (!R)) || (!(B.1.Lo == M.Lo && B.1.Hi == M.Hi))) || (!(D.1.Lo == J.Lo && D.1.Hi == J.Hi))) with hb | hb
  ·have hf:=he.h0.mP he 44 rfl k
   replace hf:=bS hb hf
   replace hf:=hf.more he 48 rfl (onP br)
   replace hf:=fX hb hf
   refine sp 1 hf rfl fun a hf=>?_
   replace hf:=nH (v':=.bool ((((((((I.2 != 0) || (B.2 != 0)) || (D.2.2 != 0)) || (H.2.2 != 0)) || (!R)) || (!(B.1.Lo == M.Lo && B.1.Hi == M.Hi))) || (!(D.1.Lo == J.Lo && D.1.Hi == J.Hi))) || (!U))) (congrArg Value.bool (orT hb)) hf
   exact zD θ he hi hf 49 rfl rfl rfl hc
  ·have hf:=he.h0.mP he 44 rfl k
   replace hf:=bS hb hf
   replace hf:=hf.more he 48 rfl (onP br)
   replace hf:=fY hb hf
   refine sp 1 hf rfl fun a hf=>?_
   replace hf:=nH (v':=.bool ((((((((I.2 != 0) || (B.2 != 0)) || (D.2.2 != 0)) || (H.2.2 != 0)) || (!R)) || (!(B.1.Lo == M.Lo && B.1.Hi == M.Hi))) || (!(D.1.Lo == J.Lo && D.1.Hi == J.Hi))) || (!U))) (congrArg Value.bool (orF hb)) hf
   exact zD θ he hi hf 49 rfl rfl rfl hc
 ·intro E θ a w hD hi hp he hc
  have ct:=hp.o 39 rfl
  have hf:=he.h0.mP he 49 rfl ct
  refine sp 1 hf rfl fun a hf=>zD θ he hi hf 50 rfl rfl rfl hc
 ·intro E θ a w hD hi hp he hc
  have z:=hp.o 40 rfl
  rcases dP ((((((((I.2 != 0) || (B.2 != 0)) || (D.2.2 != 0)) || (H.2.2 != 0)) || (!R)) || (!(B.1.Lo == M.Lo && B.1.Hi == M.Hi))) || (!(D.1.Lo == J.Lo && D.1.Hi == J.Hi))) || (!U)) with hb | hb
  ·have hf:=(he.h0.mT he 7 rfl).mP he 50 rfl z
   replace hf:=bS hb hf
   refine stS hf rfl rfl rfl fun a hf=>?_
   replace hf:=jJ (u:=i6 H.1) hb hf
   exact zD θ he hi hf 51 rfl rfl rfl hc
  ·have hf:=(he.h0.mT he 7 rfl).mP he 50 rfl z
   replace hf:=bS hb hf
   refine sp 1 hf rfl fun a hf=>?_
   replace hf:=jI (u:=undef) hb hf
   exact zD θ he hi hf 51 rfl rfl rfl hc
 ·intro E θ a w hD hi hp he hc
  have z:=hp.o 40 rfl
  have bj:=hp.o 41 rfl
  rcases dP ((((((((I.2 != 0) || (B.2 != 0)) || (D.2.2 != 0)) || (H.2.2 != 0)) || (!R)) || (!(B.1.Lo == M.Lo && B.1.Hi == M.Hi))) || (!(D.1.Lo == J.Lo && D.1.Hi == J.Hi))) || (!U)) with hb | hb
  ·have hf:=he.h0.mP he 50 rfl z
   replace hf:=bS hb hf
   replace hf:=hf.more he 51 rfl (onP bj)
   replace hf:=fX hb hf
   refine stS hf rfl rfl rfl fun a hf=>?_
   replace hf:=jJ (u:=.bool (H.1 != 0)) hb hf
   exact zD θ he hi hf 52 rfl rfl rfl hc
  ·have hf:=he.h0.mP he 50 rfl z
   replace hf:=bS hb hf
   replace hf:=hf.more he 51 rfl (onP bj)
   replace hf:=fY hb hf
   refine sp 1 hf rfl fun a hf=>?_
   replace hf:=jI (u:=undef) hb hf
   exact zD θ he hi hf 52 rfl rfl rfl hc
 ·intro E θ a w hD hi hp he hc
  have z:=hp.o 40 rfl
  have bg:=hp.o 42 rfl
  rcases dP ((((((((I.2 != 0) || (B.2 != 0)) || (D.2.2 != 0)) || (H.2.2 != 0)) || (!R)) || (!(B.1.Lo == M.Lo && B.1.Hi == M.Hi))) || (!(D.1.Lo == J.Lo && D.1.Hi == J.Hi))) || (!U)) with hb | hb
  ·have hf:=he.h0.mP he 50 rfl z
   replace hf:=bS hb hf
   replace hf:=hf.more he 52 rfl (onP bg)
   replace hf:=fX hb hf
   refine sp 1 hf rfl fun a hf=>?_
   replace hf:=nH (v':=.bool (((((((((I.2 != 0) || (B.2 != 0)) || (D.2.2 != 0)) || (H.2.2 != 0)) || (!R)) || (!(B.1.Lo == M.Lo && B.1.Hi == M.Hi))) || (!(D.1.Lo == J.Lo && D.1.Hi == J.Hi))) || (!U)) || (H.1 != 0))) (congrArg Value.bool (orT hb)) hf
   exact zD θ he hi hf 53 rfl rfl rfl hc
  ·have hf:=he.h0.mP he 50 rfl z
   replace hf:=bS hb hf
   replace hf:=hf.more he 52 rfl (onP bg)
   replace hf:=fY hb hf
   refine sp 1 hf rfl fun a hf=>?_
   replace hf:=nH (v':=.bool (((((((((I.2 != 0) || (B.2 != 0)) || (D.2.2 != 0)) || (H.2.2 != 0)) || (!R)) || (!(B.1.Lo == M.Lo && B.1.Hi == M.Hi))) || (!(D.1.Lo == J.Lo && D.1.Hi == J.Hi))) || (!U)) || (H.1 != 0))) (congrArg Value.bool (orF hb)) hf
   exact zD θ he hi hf 53 rfl rfl rfl hc
 ·intro E θ a w hD hi hp he hc
  have c0:=hp.o 43 rfl
  have hf:=he.h0.mP he 53 rfl c0
  refine sp 1 hf rfl fun a hf=>zD θ he hi hf 54 rfl rfl rfl hc
 ·intro E θ a w hD hi hp he hc
  have x:=hp.o 44 rfl
  rcases dP (((((((((I.2 != 0) || (B.2 != 0)) || (D.2.2 != 0)) || (H.2.2 != 0)) || (!R)) || (!(B.1.Lo == M.Lo && B.1.Hi == M.Hi))) || (!(D.1.Lo == J.Lo && D.1.Hi == J.Hi))) || (!U)) || (H.1 != 0)) with hb | hb
  ·have hf:=(he.h0.mT he 8 rfl).mP he 54 rfl x
   replace hf:=bS hb hf
   refine stS hf rfl rfl rfl fun a hf=>?_
   replace hf:=jJ (u:=i6 H.2.1) hb hf
   exact zD θ he hi hf 55 rfl rfl rfl hc
  ·have hf:=(he.h0.mT he 8 rfl).mP he 54 rfl x
   replace hf:=bS hb hf
   refine sp 1 hf rfl fun a hf=>?_
   replace hf:=jI (u:=undef) hb hf
   exact zD θ he hi hf 55 rfl rfl rfl hc
 ·intro E θ a w hD hi hp he hc
  have x:=hp.o 44 rfl
  have ba:=hp.o 45 rfl
  rcases dP (((((((((I.2 != 0) || (B.2 != 0)) || (D.2.2 != 0)) || (H.2.2 != 0)) || (!R)) || (!(B.1.Lo == M.Lo && B.1.Hi == M.Hi))) || (!(D.1.Lo == J.Lo && D.1.Hi == J.Hi))) || (!U)) || (H.1 != 0)) with hb | hb
  ·have hf:=he.h0.mP he 54 rfl x
   replace hf:=bS hb hf
   replace hf:=hf.more he 55 rfl (onP ba)
   replace hf:=fX hb hf
   refine stS hf rfl rfl rfl fun a hf=>?_
   replace hf:=jJ (u:=.bool (H.2.1 != 3)) hb hf
   exact zD θ he hi hf 56 rfl rfl rfl hc
  ·have hf:=he.h0.mP he 54 rfl x
   replace hf:=bS hb hf
   replace hf:=hf.more he 55 rfl (onP ba)
   replace hf:=fY hb hf
   refine sp 1 hf rfl fun a hf=>?_
   replace hf:=jI (u:=undef) hb hf
   exact zD θ he hi hf 56 rfl rfl rfl hc
 ·intro E θ a w hD hi hp he hc
  have x:=hp.o 44 rfl
  have b7:=hp.o 46 rfl
  rcases dP (((((((((I.2 != 0) || (B.2 != 0)) || (D.2.2 != 0)) || (H.2.2 != 0)) || (!R)) || (!(B.1.Lo == M.Lo && B.1.Hi == M.Hi))) || (!(D.1.Lo == J.Lo && D.1.Hi == J.Hi))) || (!U)) || (H.1 != 0)) with hb | hb
  ·have hf:=he.h0.mP he 54 rfl x
   replace hf:=bS hb hf
   replace hf:=hf.more he 56 rfl (onP b7)
   replace hf:=fX hb hf
   refine sp 1 hf rfl fun a hf=>?_
   replace hf:=nH (v':=.bool ((((((((((I.2 != 0) || (B.2 != 0)) || (D.2.2 != 0)) || (H.2.2 != 0)) || (!R)) || (!(B.1.Lo == M.Lo && B.1.Hi == M.Hi))) || (!(D.1.Lo == J.Lo && D.1.Hi == J.Hi))) || (!U)) || (H.1 != 0)) || (H.2.1 != 3))) (congrArg Value.bool (orT hb)) hf
   exact zD θ he hi hf 57 rfl rfl rfl hc
  ·have hf:=he.h0.mP he 54 rfl x
   replace hf:=bS hb hf
   replace hf:=hf.more he 56 rfl (onP b7)
   replace hf:=fY hb hf
   refine sp 1 hf rfl fun a hf=>?_
   replace hf:=nH (v':=.bool ((((((((((I.2 != 0) || (B.2 != 0)) || (D.2.2 != 0)) || (H.2.2 != 0)) || (!R)) || (!(B.1.Lo == M.Lo && B.1.Hi == M.Hi))) || (!(D.1.Lo == J.Lo && D.1.Hi == J.Hi))) || (!U)) || (H.1 != 0)) || (H.2.1 != 3))) (congrArg Value.bool (orF hb)) hf
   exact zD θ he hi hf 57 rfl rfl rfl hc
 ·intro E θ a w ak he hc
  have hf:=he.h0
  have ab:=ak 20 rfl
  have aa:=ak 36 rfl
  have cy:=ak 47 rfl
  replace hf:=hf.more he 57 rfl (onP cy)
  try dsimp only at hc
  rw [ab,aa] at hc
  replace hc:=(hc.drop k1).drop k0
  exact ⟨hf.kp rfl,hc⟩
 rintro a w ⟨hf,hc⟩
 refine h7 _ _ ?_
 refine zI hf rfl hF ?_ ?_ <;> clear hF <;> intro hF
 ·refine zS fun K h=>sp 1 hf rfl fun a hf=>zT h ?_
  refine wp_ret ?_
  refine aO ?_
  obtain rfl:=sj hF
  replace hc:=(((((((hc.drop k7).drop k6).drop k5).drop k4).drop k3).drop k2).drop k1).drop k0
  exact zO1 Tryz.results16 hf rfl ⟨rfl,hc⟩
 ·refine wp_skip ?_
  refine h6 _ _ ?_
  refine wp_seq_k fun K9 h9=>dE ?_
  obtain ⟨ck,a1,hF⟩:=aB hF
  refine zC hf aEc rfl (lZ 58 hc a1) ?_
  rintro _ w ⟨db,c4,rfl,hc⟩
  refine ⟨_,rfl,fun a hf=>?_⟩
  refine zP hf rfl (bH (cells:=[i6 20,i6 35]) iY rfl rfl) fun a hf=>zP hf rfl (bH (cells:=[i6 30,i6 40]) iY rfl rfl) fun a hf=>zP hf rfl (bH (cells:=[i6 49,i6 60]) iY rfl rfl) fun a hf=>zP hf rfl (bH (cells:=[i6 50,i6 60]) iY rfl rfl) fun a hf=>mY (rows:=([(⟨20,35⟩:aA),(⟨30,40⟩:aA),(⟨49,60⟩:aA),(⟨50,60⟩:aA)]:List aA).map aC) (vs:=[(0,.agg #[i6 20,i6 35]),(1,.agg #[i6 30,i6 40]),(2,.agg #[i6 49,i6 60]),(3,.agg #[i6 50,i6 60])]) hf hc rfl rfl tR rfl ⟨rfl,rfl,rfl,rfl,rfl,rfl,rfl,rfl,rfl,rfl,rfl,rfl,trivial⟩ rfl rfl fun c7 a w hf hc=>?_
  obtain ⟨O,a0,hF⟩:=aB hF
  obtain ⟨G1,d,X,hc,Y⟩:=lend hc k1
  obtain ⟨G2,g,j,hc,i⟩:=lend hc k0
  refine zC hf en_47 rfl (aAi ck ([(⟨20,35⟩:aA),(⟨30,40⟩:aA),(⟨49,60⟩:aA),(⟨50,60⟩:aA)]:List aA) (X.mono g) j hc a0) ?_
  rintro _ w ⟨ac,ad,rfl,hc⟩
  refine ⟨_,rfl,fun a hf=>?_⟩
  replace hc:=i _ _ hc
  replace hc:=Y _ _ hc
  refine sp 5 hf rfl fun a hf=>aP ?_
  replace hc:=(((((((((hc.drop k10).drop k9).drop k8).drop k7).drop k6).drop k5).drop k4).drop k3).drop k1).drop k0
  refine h9 _ _ ?_
  refine zS fun K h=>mY (rows:=([10,14,12,20]:List Int).map aD) (vs:=[(0,i6 10),(1,i6 14),(2,i6 12),(3,i6 20)]) hf hc rfl rfl lD rfl ⟨rfl,rfl,rfl,rfl,rfl,rfl,rfl,rfl,rfl,rfl,rfl,rfl,trivial⟩ rfl rfl fun c8 a w hf hc=>?_
  obtain ⟨b9,a3,hF⟩:=aB hF
  obtain ⟨G1,d,X,hc,Y⟩:=lend hc k0
  refine zC hf aKr rfl (sD ([10,14,12,20]:List Int) X hc a3) ?_
  rintro _ w ⟨dc,da,rfl,hc⟩
  refine ⟨_,rfl,fun a hf=>?_⟩
  replace hc:=Y _ _ hc
  obtain ⟨S,a2,hF⟩:=aB hF
  obtain ⟨G1,d,X,hc,Y⟩:=lend hc k1
  refine zC hf en_48 rfl (xS b9 X hc a2) ?_
  rintro _ w ⟨s,q,rfl,hc⟩
  refine ⟨_,rfl,fun a hf=>?_⟩
  replace hc:=Y _ _ hc
  refine sp 7 hf rfl fun a hf=>zT h ?_
  refine zS fun K h=>mY (rows:=([9,5,7,3]:List Int).map aD) (vs:=[(0,i6 9),(1,i6 5),(2,i6 7),(3,i6 3)]) hf hc rfl rfl lD rfl ⟨rfl,rfl,rfl,rfl,rfl,rfl,rfl,rfl,rfl,rfl,rfl,rfl,trivial⟩ rfl rfl fun c9 a w hf hc=>?_
  obtain ⟨cp,a6,hF⟩:=aB hF
  obtain ⟨G1,d,X,hc,Y⟩:=lend hc k0
  refine zC hf aKr rfl (sD ([9,5,7,3]:List Int) X hc a6) ?_
  rintro _ w ⟨c1,c3,rfl,hc⟩
  refine ⟨_,rfl,fun a hf=>?_⟩
  replace hc:=Y _ _ hc
  refine zP hf rfl (bH (cells:=[i6 0,i6 1,i6 1]) aI9 rfl rfl) fun a hf=>zP hf rfl (bH (cells:=[i6 2,i6 3,i6 1]) aI9 rfl rfl) fun a hf=>mY (rows:=([(⟨0,1,1⟩:eN),(⟨2,3,1⟩:eN)]:List eN).map nP) (vs:=[(0,.agg #[i6 0,i6 1,i6 1]),(1,.agg #[i6 2,i6 3,i6 1])]) hf hc rfl rfl aLg rfl ⟨rfl,rfl,rfl,rfl,rfl,rfl,trivial⟩ rfl rfl fun c5 a w hf hc=>?_
  obtain ⟨V,ay,hF⟩:=aB hF
  refine zQ (v:=.tuple #[i6 V.1,i6 V.2]) hf hc en_50 rfl (fun w hc=>by obtain ⟨G1,d,X,hc,Y⟩:=lend hc k2; obtain ⟨G2,g,j,hc,i⟩:=lend hc k0; exact (zR cp ([(⟨0,1,1⟩:eN),(⟨2,3,1⟩:eN)]:List eN) (X.mono g) j hc ay).mono fun e w h=>⟨h.1,((Y _ _ ((i _ _ h.2).unpick k0)).unpick k2)⟩) fun a w hf hc=>sp 5 hf rfl fun a hf=>zT h ?_
  refine zS fun K h=>sp 3 hf rfl fun a hf=>hY 3 (fun a=>Has 139 a [(11,.slice ac O.1.length ad),(2,i6 O.2),(12,.slice s S.1.length q),(13,i6 S.2.1),(4,i6 S.2.2),(14,i6 V.1),(7,i6 V.2),(111,i6 O.2),(112,.bool (O.2 == 0)),(113,.bool (O.2 == 0)),(116,.bool ((O.2 == 0) && (S.2.2 == 0)))]) hc ?_ ?_
  ·cases hb:(O.2 == 0)
   ·rw [hb] at hf
    refine stS hf rfl rfl rfl fun a hf=>stS hf rfl rfl rfl fun a hf=>sp 1 hf rfl fun a hf=>aP ⟨hf.kp rfl,hc⟩
   ·rw [hb] at hf
    refine sp 3 hf rfl fun a hf=>aP ⟨hf.kp rfl,hc⟩
  intro a w ⟨hf,hc⟩
  refine sp 1 hf rfl fun a hf=>hY 3 (fun a=>Has 139 a [(11,.slice ac O.1.length ad),(2,i6 O.2),(12,.slice s S.1.length q),(13,i6 S.2.1),(4,i6 S.2.2),(14,i6 V.1),(7,i6 V.2),(111,i6 O.2),(112,.bool (O.2 == 0)),(113,.bool (O.2 == 0)),(116,.bool ((O.2 == 0) && (S.2.2 == 0))),(117,.bool ((O.2 == 0) && (S.2.2 == 0))),(120,.bool (((O.2 == 0) && (S.2.2 == 0)) && (V.2 == 0)))]) hc ?_ ?_
  ·cases hb:((O.2 == 0) && (S.2.2 == 0))
   ·rw [hb] at hf
    refine stS hf rfl rfl rfl fun a hf=>stS hf rfl rfl rfl fun a hf=>sp 1 hf rfl fun a hf=>aP ⟨hf.kp rfl,hc⟩
   ·rw [hb] at hf
    refine sp 3 hf rfl fun a hf=>aP ⟨hf.kp rfl,hc⟩
  intro a w ⟨hf,hc⟩
  refine sp 1 hf rfl fun a hf=>?_
  obtain ⟨y,av,hF⟩:=aB hF
  refine hY 4 (fun a=>Has 139 a [(11,.slice ac O.1.length ad),(2,i6 O.2),(12,.slice s S.1.length q),(13,i6 S.2.1),(4,i6 S.2.2),(14,i6 V.1),(7,i6 V.2),(111,i6 O.2),(112,.bool (O.2 == 0)),(113,.bool (O.2 == 0)),(116,.bool ((O.2 == 0) && (S.2.2 == 0))),(117,.bool ((O.2 == 0) && (S.2.2 == 0))),(120,.bool (((O.2 == 0) && (S.2.2 == 0)) && (V.2 == 0))),(121,.bool (((O.2 == 0) && (S.2.2 == 0)) && (V.2 == 0))),(125,.bool y)]) hc ?_ ?_
  ·cases hb:(((O.2 == 0) && (S.2.2 == 0)) && (V.2 == 0))
   ·rw [hb] at hf
    have hF:=nJ hb av
    obtain rfl:=sj hF
    refine stS hf rfl rfl rfl fun a hf=>stS hf rfl rfl rfl fun a hf=>stS hf rfl rfl rfl fun a hf=>sp 1 hf rfl fun a hf=>aP ⟨hf.kp rfl,hc⟩
   ·rw [hb] at hf
    have hF:=lF hb av
    refine sp 1 hf rfl fun a hf=>mY (rows:=([2]:List Int).map aD) (vs:=[(0,i6 2)]) hf hc rfl rfl lD rfl ⟨rfl,rfl,rfl,trivial⟩ rfl rfl fun c6 a w hf hc=>?_
    obtain ⟨cd,a5,hF⟩:=aB hF
    refine zQ (v:=.bool cd) hf hc aH3 rfl (fun w hc=>by obtain ⟨G1,d,X,hc,Y⟩:=lend hc k7; obtain ⟨G2,g,j,hc,i⟩:=lend hc k0; exact (pI O.1 ([2]:List Int) (X.mono g) j hc a5).mono fun e w h=>⟨h.1,((Y _ _ ((i _ _ h.2).unpick k0)).unpick k7)⟩) fun a w hf hc=>sp 1 hf rfl fun a hf=>?_
    replace hc:=hc.drop k0
    obtain rfl:=sj hF
    exact aP ⟨hf.kp rfl,hc⟩
  intro a w ⟨hf,hc⟩
  refine sp 1 hf rfl fun a hf=>?_
  obtain ⟨m,am,hF⟩:=aB hF
  refine hY 4 (fun a=>Has 139 a [(11,.slice ac O.1.length ad),(2,i6 O.2),(12,.slice s S.1.length q),(13,i6 S.2.1),(4,i6 S.2.2),(14,i6 V.1),(7,i6 V.2),(111,i6 O.2),(112,.bool (O.2 == 0)),(113,.bool (O.2 == 0)),(116,.bool ((O.2 == 0) && (S.2.2 == 0))),(117,.bool ((O.2 == 0) && (S.2.2 == 0))),(120,.bool (((O.2 == 0) && (S.2.2 == 0)) && (V.2 == 0))),(121,.bool (((O.2 == 0) && (S.2.2 == 0)) && (V.2 == 0))),(125,.bool y),(126,.bool y),(130,.bool m)]) hc ?_ ?_
  ·cases hb:y
   ·rw [hb] at hf
    try rw [hb] at hc
    have hF:=nJ hb am
    obtain rfl:=sj hF
    refine stS hf rfl rfl rfl fun a hf=>stS hf rfl rfl rfl fun a hf=>stS hf rfl rfl rfl fun a hf=>sp 1 hf rfl fun a hf=>aP ⟨hf.kp rfl,hc⟩
   ·rw [hb] at hf
    try rw [hb] at hc
    have hF:=lF hb am
    refine sp 1 hf rfl fun a hf=>mY (rows:=([10,12,12,20]:List Int).map aD) (vs:=[(0,i6 10),(1,i6 12),(2,i6 12),(3,i6 20)]) hf hc rfl rfl lD rfl ⟨rfl,rfl,rfl,rfl,rfl,rfl,rfl,rfl,rfl,rfl,rfl,rfl,trivial⟩ rfl rfl fun c2 a w hf hc=>?_
    obtain ⟨cm,a4,hF⟩:=aB hF
    refine zQ (v:=.bool cm) hf hc aH3 rfl (fun w hc=>by obtain ⟨G1,d,X,hc,Y⟩:=lend hc k5; obtain ⟨G2,g,j,hc,i⟩:=lend hc k0; exact (pI S.1 ([10,12,12,20]:List Int) (X.mono g) j hc a4).mono fun e w h=>⟨h.1,((Y _ _ ((i _ _ h.2).unpick k0)).unpick k5)⟩) fun a w hf hc=>sp 1 hf rfl fun a hf=>?_
    replace hc:=hc.drop k0
    obtain rfl:=sj hF
    exact aP ⟨hf.kp rfl,hc⟩
  intro a w ⟨hf,hc⟩
  refine sp 1 hf rfl fun a hf=>hY 3 (fun a=>Has 139 a [(11,.slice ac O.1.length ad),(2,i6 O.2),(12,.slice s S.1.length q),(13,i6 S.2.1),(4,i6 S.2.2),(14,i6 V.1),(7,i6 V.2),(111,i6 O.2),(112,.bool (O.2 == 0)),(113,.bool (O.2 == 0)),(116,.bool ((O.2 == 0) && (S.2.2 == 0))),(117,.bool ((O.2 == 0) && (S.2.2 == 0))),(120,.bool (((O.2 == 0) && (S.2.2 == 0)) && (V.2 == 0))),(121,.bool (((O.2 == 0) && (S.2.2 == 0)) && (V.2 == 0))),(125,.bool y),(126,.bool y),(130,.bool m),(131,.bool m),(134,.bool (m && (S.2.1 == 2)))]) hc ?_ ?_
  ·cases hb:m
   ·rw [hb] at hf
    try rw [hb] at hc
    refine stS hf rfl rfl rfl fun a hf=>stS hf rfl rfl rfl fun a hf=>sp 1 hf rfl fun a hf=>aP ⟨hf.kp rfl,hc⟩
   ·rw [hb] at hf
    try rw [hb] at hc
    refine sp 3 hf rfl fun a hf=>aP ⟨hf.kp rfl,hc⟩
  intro a w ⟨hf,hc⟩
  refine sp 1 hf rfl fun a hf=>hY 3 (fun a=>Has 139 a [(11,.slice ac O.1.length ad),(2,i6 O.2),(12,.slice s S.1.length q),(13,i6 S.2.1),(4,i6 S.2.2),(14,i6 V.1),(7,i6 V.2),(111,i6 O.2),(112,.bool (O.2 == 0)),(113,.bool (O.2 == 0)),(116,.bool ((O.2 == 0) && (S.2.2 == 0))),(117,.bool ((O.2 == 0) && (S.2.2 == 0))),(120,.bool (((O.2 == 0) && (S.2.2 == 0)) && (V.2 == 0))),(121,.bool (((O.2 == 0) && (S.2.2 == 0)) && (V.2 == 0))),(125,.bool y),(126,.bool y),(130,.bool m),(131,.bool m),(134,.bool (m && (S.2.1 == 2))),(135,.bool (m && (S.2.1 == 2))),(138,.bool ((m && (S.2.1 == 2)) && (V.1 == 8)))]) hc ?_ ?_
  ·cases hb:(m && (S.2.1 == 2))
   ·rw [hb] at hf
    refine stS hf rfl rfl rfl fun a hf=>stS hf rfl rfl rfl fun a hf=>sp 1 hf rfl fun a hf=>aP ⟨hf.kp rfl,hc⟩
   ·rw [hb] at hf
    refine sp 3 hf rfl fun a hf=>aP ⟨hf.kp rfl,hc⟩
  intro a w ⟨hf,hc⟩
  refine sp 1 hf rfl fun a hf=>zT h ?_
  refine wp_ret ?_
  obtain rfl:=sj hF
  replace hc:=((((((hc.drop k6).drop k5).drop k4).drop k3).drop k2).drop k1).drop k0
  exact zO1 Tryz.results16 hf rfl ⟨rfl,hc⟩

end Go.Nilo
