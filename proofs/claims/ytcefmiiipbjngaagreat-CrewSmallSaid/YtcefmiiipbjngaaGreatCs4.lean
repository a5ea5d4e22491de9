/-
  What functions of the Go text compute, as plain functions, and that they do, part 4 of 5. Conditions: what each theorem names.
-/
import Derived.Test.YtcefmiiipbjngaaGreatCs3
import Derived.Test.YtcefmiiipbjngaaGreatProg
set_option linter.unusedVariables false
set_option linter.unusedSimpArgs false
set_option maxRecDepth 100000
set_option maxHeartbeats 4000000
namespace Go.Nilo
open Go.Proofs


variable {N:Nat} {G:cJ} {Lf:List Ent} {w:World}

def cL (s_:aE) (B:Int):Bool :=
 (((decide (s_.Lo < 0)) || (decide (B < s_.Hi))) || (decide (s_.Hi < s_.Lo)))
theorem yK (s_:aE) (B:Int) (d:Ctx G (Lf) w) {D:Bool} (F:cL s_ B=D):Cz G 92 #[.agg #[i6 s_.Lo,i6 s_.Hi],i6 B] w (.bool D) (Lf):=by
 refine bY Tryz.func92 Z Tryz.ntmps92 Z λa f=>zS λK h=>zB f d Z λH a w f d=>sp 1 f Z λa f=>zT h (zS λK h=>zP f Z (pFA rC Z) λa f=>zL f d aZ m0 Z λa w f d=>sp 2 f Z λa f=>cV 5 (λa=>Has 21 a [(2,pq H),(4,.bool false),(13,.bool ((decide (s_.Lo < 0)) || (decide (B < s_.Hi))))]) d ?_ ?_)
 ·cases hb:(decide (s_.Lo < 0))
  ·rw [hb] at f
   exact zP f Z (pFA kY Z) λa f=>zL f d aZ m0 Z λa w f d=>sp 3 f Z λa f=>aN ⟨f.kp Z,d⟩
  ·rw [hb] at f
   exact sp 5 f Z λa f=>aN ⟨f.kp Z,d⟩
 intro a w ⟨f,d⟩
 refine sp 1 f Z λa f=>cV 6 (λa=>Has 21 a [(4,.bool false),(20,.bool (((decide (s_.Lo < 0)) || (decide (B < s_.Hi))) || (decide (s_.Hi < s_.Lo))))]) d ?_ ?_
 ·cases hb:((decide (s_.Lo < 0)) || (decide (B < s_.Hi)))
  ·rw [hb] at f
   exact zP f Z (pFA rC Z) λa f=>zL f d aZ m0 Z λa w f d=>zP f Z (pFA kY Z) λa f=>zL f d aZ m0 Z λa w f d=>sp 2 f Z λa f=>aN ⟨f.kp Z,d⟩
  ·rw [hb] at f
   exact sp 6 f Z λa f=>aN ⟨f.kp Z,d⟩
 intro a w ⟨f,d⟩
 refine sp 1 f Z λa f=>zT h (wp_ret ?_)
 obtain rfl:=F
 exact have d:=d.drop k0;zO1 Tryz.results92 f Z ⟨Z,d⟩

def nD (N:Nat) (l:List bV) (D:Int):Option (bC (Int) (Int)) :=
 cond (decide (D < ((l.length:Nat):Int)))
 (Option.bind (aQ l D) λB=>
 cond (((((cL B.Way 100000) || (cL B.Work 100000)) || (decide (B.Open < 0))) || (decide (100000 < B.Close))) || (decide (B.Close < B.Open)))
 (some (.ret 120))
 (some (.cont (W (D + 1)))))
 (some (.brk D))
def xB (N:Nat) (l:List bV):Option (Int) :=
 cond ((decide (((l.length:Nat):Int) < 1)) || (decide (20 < ((l.length:Nat):Int))))
 (some 3)
 (Option.bind (aS (λs7=>nD N l s7) N 0) λx7=>
 exK x7 (λs7=>some 0) some)
theorem aCa {H:Option Addr} {I:Nat} (l:List bV) (b:Rd G 6 H I (l.map hU)) (d:Ctx G (Lf) w) {M:Int} (F:xB N l=some M):Cz G 90 #[.slice H l.length I] w (i6 M) (Lf):=by
 refine bY Tryz.func90 Z Tryz.ntmps90 Z λa f=>zS λK h=>sp 1 f Z λa f=>zT h (wp_seq_k λK2 h2=>zS λK h=>sp 1 f Z λa f=>zP f Z (bA Tryz.underlying90 Z) λa f=>sp 2 f Z λa f=>cV 4 (λa=>Has 48 a [(0,.slice H l.length I),(12,.bool ((decide (((l.length:Nat):Int) < 1)) || (decide (20 < ((l.length:Nat):Int)))))]) d ?_ ?_)
 ·cases hb:(decide (((l.length:Nat):Int) < 1))
  ·rw [hb] at f
   exact sp 1 f Z λa f=>zP f Z (bA Tryz.underlying90 Z) λa f=>sp 2 f Z λa f=>aN ⟨f.kp Z,d⟩
  ·rw [hb] at f
   exact sp 4 f Z λa f=>aN ⟨f.kp Z,d⟩
 intro a w ⟨f,d⟩
 refine zT h (zI f Z F ?_ ?_) <;> intro F
 ·refine zS λK h=>sp 1 f Z λa f=>zT h (wp_ret (aL ?_))
  obtain rfl:=sj F
  exact zO1 Tryz.results90 f Z ⟨Z,d⟩
 ·refine wp_skip (h2 _ _ (wp_seq_k λK5 h5=>zS λK h=>sp 1 f Z λa f=>zT h (wp_block (aH F λx7 Y F=>?_))))
  let S7:Int→Act→World→Prop:=(λ(zz:Int) a w=>Has 48 a [(0,.slice H l.length I),(3,i6 zz)]∧Ctx G (Lf) w)
  have U:∀ (zz:Int) a w,x7=.go zz→S7 zz a w→K5 a w:=by
   rintro J a w rfl ⟨f,d⟩
   refine have F:=bI F;h5 _ _ (zS λK h=>sp 1 f Z λa f=>zT h (wp_ret ?_))
   obtain rfl:=sj F
   exact zO1 Tryz.results90 f Z ⟨Z,d⟩
  have X:∀ r,x7=.out r→r=M:=by
   rintro r rfl
   exact sj F
  refine cF N (cE (S:=S7) (x:=x7) ?_ N 0 _ _ ⟨f.kp Z,d⟩ Y)
  clear F f d
  rintro J i a w KB7 ⟨f,d⟩ F D g
  unfold nD at F
  refine wp_seq_k λK9 h9=>zS λK h=>sp 2 f Z λa f=>zP f Z (bA Tryz.underlying90 Z) λa f=>sp 1 f Z λa f=>zT h (zI f Z F ?_ ?_) <;> intro F
  ·refine wp_skip (h9 _ _ (wp_seq_k λK11 V=>wp_block (zS λK h=>sp 2 f Z λa f=>aH F λB R F=>?_)))
   obtain ⟨j,o,qa,qp⟩:=b.atm R
   refine zP f Z (pIA Tryz.underlying90 aFs Z Z qa) λa f=>zE f d Z (iY (vs:=[i6 B.Way.Lo,i6 B.Way.Hi,i6 B.Work.Lo,i6 B.Work.Hi,i6 B.Open,i6 B.Close]) aP2 Z Z (cY qp (n:=6) (o':=0) Z)) λa w f d=>zA f d aPd Z λO a w f d=>zW f d aFs u0 Z λw d=>zT h (zS λK h=>zP f Z (pFA aHz Z) λa f=>zN f d rG m0 Z λa w f d=>zQ (v:=.bool (cL B.Way 100000)) f d (eN 92) Z (λw d=>yK B.Way 100000 d Z) λa w f d=>sp 1 f Z λa f=>cV 4 (λa=>Has 48 a [(0,.slice H l.length I),(3,i6 J),(4,pq O),(30,.bool ((cL B.Way 100000) || (cL B.Work 100000)))]) d ?_ ?_)
   ·cases hb:(cL B.Way 100000)
    ·rw [hb] at f
     exact zP f Z (pFA aHh Z) λa f=>zN f d rG m0 Z λa w f d=>zQ (v:=.bool (cL B.Work 100000)) f d (eN 92) Z (λw d=>yK B.Work 100000 d Z) λa w f d=>sp 1 f Z λa f=>aN ⟨f.kp Z,d⟩
    ·rw [hb] at f
     exact sp 4 f Z λa f=>aN ⟨f.kp Z,d⟩
   intro a w ⟨f,d⟩
   refine sp 1 f Z λa f=>cV 4 (λa=>Has 48 a [(0,.slice H l.length I),(3,i6 J),(4,pq O),(35,.bool (((cL B.Way 100000) || (cL B.Work 100000)) || (decide (B.Open < 0))))]) d ?_ ?_
   ·cases hb:((cL B.Way 100000) || (cL B.Work 100000))
    ·rw [hb] at f
     exact zP f Z (pFA aAy Z) λa f=>zL f d aZ m0 Z λa w f d=>sp 2 f Z λa f=>aN ⟨f.kp Z,d⟩
    ·rw [hb] at f
     exact sp 4 f Z λa f=>aN ⟨f.kp Z,d⟩
   intro a w ⟨f,d⟩
   refine sp 1 f Z λa f=>cV 4 (λa=>Has 48 a [(0,.slice H l.length I),(3,i6 J),(4,pq O),(40,.bool ((((cL B.Way 100000) || (cL B.Work 100000)) || (decide (B.Open < 0))) || (decide (100000 < B.Close))))]) d ?_ ?_
   ·cases hb:(((cL B.Way 100000) || (cL B.Work 100000)) || (decide (B.Open < 0)))
    ·rw [hb] at f
     exact zP f Z (pFA aEp Z) λa f=>zL f d aZ m0 Z λa w f d=>sp 2 f Z λa f=>aN ⟨f.kp Z,d⟩
    ·rw [hb] at f
     exact sp 4 f Z λa f=>aN ⟨f.kp Z,d⟩
   intro a w ⟨f,d⟩
   refine sp 1 f Z λa f=>cV 6 (λa=>Has 48 a [(0,.slice H l.length I),(3,i6 J),(47,.bool (((((cL B.Way 100000) || (cL B.Work 100000)) || (decide (B.Open < 0))) || (decide (100000 < B.Close))) || (decide (B.Close < B.Open))))]) d ?_ ?_
   ·cases hb:((((cL B.Way 100000) || (cL B.Work 100000)) || (decide (B.Open < 0))) || (decide (100000 < B.Close)))
    ·rw [hb] at f
     exact zP f Z (pFA aAy Z) λa f=>zL f d aZ m0 Z λa w f d=>zP f Z (pFA aEp Z) λa f=>zL f d aZ m0 Z λa w f d=>sp 2 f Z λa f=>aN ⟨f.kp Z,d⟩
    ·rw [hb] at f
     exact sp 6 f Z λa f=>aN ⟨f.kp Z,d⟩
   intro a w ⟨f,d⟩
   refine zT h (zI f Z F ?_ ?_) <;> intro F
   ·refine zS λK h=>sp 1 f Z λa f=>zT h (wp_ret (bG (aL (aL (have D:=cB F D;have F:=X _ D;bG (aL ?_))))))
    obtain rfl:=F
    exact have d:=d.drop k0;zO1 Tryz.results90 f Z ⟨Z,d⟩
   ·exact wp_skip (V _ _ (bK (sp 3 f Z λa f=>aN (have d:=d.drop k0;g (W (J + 1)) _ _ (sj F).symm ⟨f.kp Z,d⟩))))
  ·exact wp_exit (aP (aP (have D:=cB F D;cX (U _ _ _ D ⟨f.kp Z,d⟩))))

def oA (N:Nat) (out:List aE) (I:Int) (H:bV) (D:Int) (B:Int):Option (bC (Int × Int × (List aE) × Int) ((List aE) × Int)) :=
 Option.bind (room ((out++[(⟨D,B⟩:aE)])).length) λun=>
 some (.cont (W (D + H.Work.Lo),W (B + H.Work.Hi),(out++[(⟨D,B⟩:aE)]),W (I + 1)))
def nY (N:Nat) (D:Int) (out:List aE) (I:Int) (B:bV) (H:Int):Option (bC (Int × Int × (List aE) × Int) ((List aE) × Int)) :=
 cond (decide ((W (D + B.Way.Hi)) < B.Open))
 (oA N out I B H B.Open)
 (oA N out I B H (W (D + B.Way.Hi)))
def mA (N:Nat) (l:List bV) (I:Int) (H:Int) (out:List aE) (D:Int):Option (bC (Int × Int × (List aE) × Int) ((List aE) × Int)) :=
 cond (decide (D < ((l.length:Nat):Int)))
 (Option.bind (aQ l D) λB=>
 cond (decide ((W (I + B.Way.Lo)) < B.Open))
 (nY N H out D B B.Open)
 (nY N H out D B (W (I + B.Way.Lo))))
 (some (.brk (I,H,out,D)))
def lH (N:Nat) (start:Int) (l:List bV):Option ((List aE) × Int) :=
 Option.bind (xB N l) λr=>
 cond (r != 0)
 (some (([]:List aE),r))
 (cond (aK start 0 100000)
 (some (([]:List aE),4))
 (Option.bind (aS (λB=>mA N l B.1 B.2.1 B.2.2.1 B.2.2.2) N (start,start,([]:List aE),0)) λD=>
 exK D (λB=>some (B.2.2.1,0)) some))
theorem aCh {U:Option Addr} {V:Nat} (start:Int) (l:List bV) (p:Rd G 6 U V (l.map hU)) (d:Ctx G (Lf) w) {R:(List aE) × Int} (F:lH N start l=some R):Calls Tryz.prog 34 #[i6 start,.slice U l.length V] w (λe w=>∃ (m:Option Addr) (q:Nat),e=.returned (.tuple #[.slice m R.1.length q,i6 R.2])∧Ctx G (.row m q (R.1.map cN) 43 2::Lf) w):=by
 refine bY Tryz.func34 Z Tryz.ntmps34 Z λa f=>zS λK h=>sp 2 f Z λa f=>zT h (wp_seq_k λK2 h2=>zS λK h=>sp 1 f Z λa f=>aH F λr hr F=>zQ (v:=i6 r) f d (eN 90) Z (λw d=>aCa l p d hr) λa w f d=>sp 1 f Z λa f=>zT h (zS λK h=>sp 2 f Z λa f=>zT h ?_))
 refine zI f Z F ?_ ?_ <;> intro F
 ·refine zS λK h=>sp 3 f Z λa f=>zT h (wp_ret (aL ?_))
  obtain rfl:=sj F
  exact have d:=d.nilRow 43 2;zO2 Tryz.results34 f Z Z ⟨none,0,Z,d⟩
 ·refine wp_skip (h2 _ _ (wp_seq_k λK6 h6=>zS λK h=>sp 1 f Z λa f=>zQ (v:=.bool (aK start 0 100000)) f d (eN 69) Z (λw d=>cM start 0 100000 d Z) λa w f d=>zT h (zI f Z F ?_ ?_))) <;> intro F
  ·refine zS λK h=>sp 2 f Z λa f=>zT h (wp_ret (aL ?_))
   obtain rfl:=sj F
   exact have d:=d.nilRow 43 2;zO2 Tryz.results34 f Z Z ⟨none,0,Z,d⟩
  ·refine wp_skip (h6 _ _ (zS λK h=>sp 4 f Z λa f=>zT h (zS λK h=>sp 1 f Z λa f=>zT h (wp_seq_k λK11 ab=>zS λK h=>sp 1 f Z λa f=>zT h (wp_block (aH F λg u F=>?_))))))
   let S13:(Int × Int × (List aE) × Int)→Act→World→Prop:=(λ(zz:Int × Int × (List aE) × Int) a w=>∃ (I:Option Addr) (H:Nat),Has 70 a [(1,.slice U l.length V),(7,i6 zz.1),(8,i6 zz.2.1),(9,.slice I zz.2.2.1.length H),(10,i6 zz.2.2.2)]∧Ctx G (.row I H (zz.2.2.1.map cN) 43 2::Lf) w)
   have y:∀ (zz:Int × Int × (List aE) × Int) a w,g=.go zz→S13 zz a w→K11 a w:=by
    rintro ⟨k,Y,out,O⟩ a w rfl ⟨I,H,f,d⟩
    refine have F:=bI F;ab _ _ (zS λK h=>sp 3 f Z λa f=>zT h (wp_ret ?_))
    obtain rfl:=sj F
    exact zO2 Tryz.results34 f Z Z ⟨I,H,Z,d⟩
   have ak:∀ r,g=.out r→r=R:=by
    rintro r rfl
    exact sj F
   refine have d:=d.nilRow 43 2;cF N (cE (S:=S13) (x:=g) ?_ N (start,start,([]:List aE),0) _ _ ⟨none,0,f.kp Z,d⟩ u)
   clear F f d
   rintro ⟨k,Y,out,O⟩ i a w KB13 ⟨I,H,f,d⟩ F M s
   unfold mA at F
   refine wp_seq_k λK15 ad=>zS λK h=>sp 2 f Z λa f=>zP f Z (bA Tryz.underlying90 Z) λa f=>sp 1 f Z λa f=>zT h (zI f Z F ?_ ?_) <;> intro F
   ·refine wp_skip (ad _ _ (wp_seq_k λK17 ag=>wp_block (zS λK h=>sp 2 f Z λa f=>aH F λB t F=>?_)))
    obtain ⟨an,o,qa,qp⟩:=p.atm t
    refine zP f Z (pIA Tryz.underlying90 aFs Z Z qa) λa f=>zE f d Z (iY (vs:=[i6 B.Way.Lo,i6 B.Way.Hi,i6 B.Work.Lo,i6 B.Work.Hi,i6 B.Open,i6 B.Close]) aP2 Z Z (cY qp (n:=6) (o':=0) Z)) λa w f d=>zA f d aPd Z λX a w f d=>zW f d aFs u0 Z λw d=>zT h (wp_seq_k λK19 aa=>cQ d aU (by kernel_rfl) (qp_ 1 f Z λa f=>qU f Z (pFA aHz Z) λa f=>qU f Z (pFA rC Z) λa f=>qV f Z (bB aZ Z (bN m0 Z)) λa f=>qp_ 2 f Z λa f=>qU f Z (pFA aHz Z) λa f=>qU f Z (pFA kY Z) λa f=>?_))
    refine qV f Z (bB aZ Z (bN m0 Z)) λa f=>qp_ 3 f Z λa f=>λw d=>aa _ _ (wp_seq_k λK20 ac=>?_)
    have b:∀ (D:Int) a w,Has 70 a [(1,.slice U l.length V),(7,i6 D),(8,i6 (W (Y + B.Way.Hi))),(9,.slice I out.length H),(10,i6 O),(11,pq X)]→Ctx G (.box X [i6 B.Way.Lo,i6 B.Way.Hi,i6 B.Work.Lo,i6 B.Work.Hi,i6 B.Open,i6 B.Close] 154::.row I H (out.map cN) 43 2::Lf) w→nY N Y out O B D=some i→K20 a w:=by
     repeat first | clear F | clear d | clear f
     intro D a w f d F
     unfold nY at F
     refine ac _ _ (wp_seq_k λK21 z=>?_)
     have j:∀ (J:Int) a w,Has 70 a [(1,.slice U l.length V),(7,i6 D),(8,i6 J),(9,.slice I out.length H),(10,i6 O),(11,pq X)]→Ctx G (.box X [i6 B.Way.Lo,i6 B.Way.Hi,i6 B.Work.Lo,i6 B.Work.Hi,i6 B.Open,i6 B.Close] 154::.row I H (out.map cN) 43 2::Lf) w→oA N out O B D J=some i→K21 a w:=by
      repeat first | clear F | clear d | clear f
      intro J a w f d F
      unfold oA at F
      refine z _ _ (zS λK h=>sp 3 f Z λa f=>zP f Z (bS (cells:=[i6 D,i6 J]) aBn Z Z) λa f=>gN (rows:=([(⟨D,J⟩:aE)]:List aE).map cN) (vs:=[(0,.agg #[i6 D,i6 J])]) f d Z Z aK3 Z ⟨Z,Z,Z,trivial⟩ Z Z λam a w f d=>aH F λun af F=>mV (xs:=out) (ys:=([(⟨D,J⟩:aE)]:List aE)) f d Z Z aK3 Z Z Z Z Z aAz (gL d m0) (λ_ _=>u2) (by simpa using cZ af) λai aj a w f d=>sp 1 f Z λa f=>zT h (cQ d aU (by kernel_rfl) (qp_ 1 f Z λa f=>qU f Z (pFA aHh Z) λa f=>qU f Z (pFA rC Z) λa f=>qV f Z (bB aZ Z (bN m1 Z)) λa f=>?_)))
      exact qp_ 2 f Z λa f=>qU f Z (pFA aHh Z) λa f=>qU f Z (pFA kY Z) λa f=>qV f Z (bB aZ Z (bN m1 Z)) λa f=>qp_ 3 f Z λa f=>λw d=>ag _ _ (bK (sp 3 f Z λa f=>aN (have d:=(d.drop k1).drop k0;s (W (D + B.Work.Lo),W (J + B.Work.Hi),(out++[(⟨D,J⟩:aE)]),W (O + 1)) _ _ (sj F).symm ⟨ai,aj,f.kp Z,d⟩)))
     refine zS λK h=>sp 1 f Z λa f=>zP f Z (pFA aAy Z) λa f=>zL f d aZ m0 Z λa w f d=>sp 1 f Z λa f=>zT h (zI f Z F ?_ ?_) <;> intro F
     ·exact bK (zP f Z (pFA aAy Z) λa f=>zL f d aZ m0 Z λa w f d=>sp 1 f Z λa f=>aN (j B.Open _ _  (f.kp Z) d F))
     ·exact wp_skip (j (W (Y + B.Way.Hi)) _ _  (f.kp Z) d F)
    refine zS λK h=>sp 1 f Z λa f=>zP f Z (pFA aAy Z) λa f=>zL f d aZ m0 Z λa w f d=>sp 1 f Z λa f=>zT h (zI f Z F ?_ ?_) <;> intro F
    ·exact bK (zP f Z (pFA aAy Z) λa f=>zL f d aZ m0 Z λa w f d=>sp 1 f Z λa f=>aN (b B.Open _ _  (f.kp Z) d F))
    ·exact wp_skip (b (W (k + B.Way.Lo)) _ _  (f.kp Z) d F)
   ·exact wp_exit (aP (aP (have M:=cB F M;cX (y _ _ _ M ⟨I,H,f.kp Z,d⟩))))

def nI (N:Nat) (H:Int) (D:Int) (B:Int):Option (bC (Int × Int × Int) (Int × Int × Int)) :=
 some (.cont (D,B,W (H + 1)))
def nE (N:Nat) (l:List bV) (r:(List aE) × Int) (B:Int) (D:Int) (H:Int):Option (bC (Int × Int × Int) (Int × Int × Int)) :=
 Option.bind (cond (B == (-1)) (Option.bind (aQ r.1 D) λM=>
 Option.bind (aQ l D) λJ=>
 some (decide (J.Close < M.Lo))) (some false)) λI=>
 cond I
 (nI N D H D)
 (nI N D H B)
def oV (N:Nat) (l:List bV) (r:(List aE) × Int) (H:Int) (D:Int) (B:Int):Option (bC (Int × Int × Int) (Int × Int × Int)) :=
 cond (decide (B < ((l.length:Nat):Int)))
 (Option.bind (cond (H == (-1)) (Option.bind (aQ r.1 B) λJ=>
 Option.bind (aQ l B) λM=>
 some (decide (M.Close < J.Hi))) (some false)) λI=>
 cond I
 (nE N l r D B B)
 (nE N l r D B H))
 (some (.brk (H,D,B)))
def qP (N:Nat) (start:Int) (l:List bV):Option (Int × Int × Int) :=
 Option.bind (lH N start l) λr=>
 cond (r.2 != 0)
 (some (0,0,r.2))
 (Option.bind (aS (λs9=>oV N l r s9.1 s9.2.1 s9.2.2) N ((-1),(-1),0)) λx9=>
 exK x9 (λs9=>some (s9.1,s9.2.1,0)) some)
theorem zZ {R:Option Addr} {U:Nat} (start:Int) (l:List bV) (k:Rd G 6 R U (l.map hU)) (d:Ctx G (Lf) w) {Y:Int × Int × Int} (F:qP N start l=some Y):Cz G 38 #[i6 start,.slice R l.length U] w (.tuple #[i6 Y.1,i6 Y.2.1,i6 Y.2.2]) (Lf):=by
 refine bY Tryz.func38 Z Tryz.ntmps38 Z λa f=>zS λK h=>sp 3 f Z λa f=>zT h (zS λK h=>sp 2 f Z λa f=>aH F λr hr F=>zC f (eN 34) Z (aCh start l k d hr) ?_)
 rintro _ w ⟨M,J,rfl,d⟩
 refine ⟨_,Z,λa f=>sp 5 f Z λa f=>zT h (wp_seq_k λK3 h3=>zS λK h=>sp 2 f Z λa f=>zT h (zI f Z F ?_ ?_))⟩ <;> intro F
 ·refine zS λK h=>sp 4 f Z λa f=>zT h (wp_ret (aL ?_))
  obtain rfl:=sj F
  exact have d:=d.drop k0;zO3 Tryz.results38 f Z Z Z ⟨Z,d⟩
 ·refine wp_skip (h3 _ _ (zS λK h=>sp 2 f Z λa f=>zT h (wp_seq_k λK7 h7=>zS λK h=>sp 1 f Z λa f=>zT h (wp_block (aH F λx9 af F=>?_)))))
  let S9:(Int × Int × Int)→Act→World→Prop:=(λ(zz:Int × Int × Int) a w=>Has 61 a [(1,.slice R l.length U),(7,.slice M r.1.length J),(9,i6 zz.1),(10,i6 zz.2.1),(11,i6 zz.2.2)]∧Ctx G (.row M J (r.1.map cN) 43 2::Lf) w)
  have am:∀ (zz:Int × Int × Int) a w,x9=.go zz→S9 zz a w→K7 a w:=by
   rintro ⟨V,B,H⟩ a w rfl ⟨f,d⟩
   refine have F:=bI F;h7 _ _ (zS λK h=>sp 5 f Z λa f=>zT h (wp_ret ?_))
   obtain rfl:=sj F
   exact have d:=d.drop k0;zO3 Tryz.results38 f Z Z Z ⟨Z,d⟩
  have a0:∀ r,x9=.out r→r=Y:=by
   rintro r rfl
   exact sj F
  refine cF N (cE (S:=S9) (x:=x9) ?_ N ((-1),(-1),0) _ _ ⟨f.kp Z,d⟩ af)
  clear F f d
  rintro ⟨V,B,H⟩ s a w KB9 ⟨f,d⟩ F X ak
  unfold oV at F
  refine wp_seq_k λK11 aq=>zS λK h=>sp 2 f Z λa f=>zP f Z (bA Tryz.underlying90 Z) λa f=>sp 1 f Z λa f=>zT h (zI f Z F ?_ ?_) <;> intro F
  ·refine wp_skip (aq _ _ (wp_seq_k λK13 aj=>?_))
   have p:∀ (O:Int) (D:Int) a w,Has 61 a [(1,.slice R l.length U),(7,.slice M r.1.length J),(9,i6 O),(10,i6 D),(11,i6 H)]→Ctx G (.row M J (r.1.map cN) 43 2::Lf) w→nI N H O D=some s→K13 a w:=by
    repeat first | clear F | clear d | clear f
    intro O D a w f d F
    unfold nI at F
    exact aj _ _ (bK (sp 3 f Z λa f=>aN (ak (O,D,W (H + 1)) _ _ (sj F).symm ⟨f.kp Z,d⟩)))
   refine wp_block (wp_seq_k λK14 ar=>?_)
   have q:∀ (I:Int) a w,Has 61 a [(1,.slice R l.length U),(7,.slice M r.1.length J),(9,i6 I),(10,i6 B),(11,i6 H)]→Ctx G (.row M J (r.1.map cN) 43 2::Lf) w→nE N l r B H I=some s→K14 a w:=by
    repeat first | clear F | clear d | clear f
    intro I a w f d F
    unfold nE at F
    refine ar _ _ (wp_seq_k λK15 an=>aH F λag b F=>cQ d aU (by kernel_rfl) (qp_ 3 f Z λa f=>aB5 12 (λa=>Has 61 a [(1,.slice R l.length U),(7,.slice M r.1.length J),(9,i6 I),(10,i6 B),(11,i6 H),(43,i6 B),(44,.bool (B == (-1))),(45,.bool (B == (-1))),(57,.bool ag)]) ?_ ?_))
    ·cases hb:(B == (-1))
     ·rw [hb] at f
      have F:=eG hb b
      obtain rfl:=sj F
      exact qk_ 11 f Z λa f=>qp_ 1 f Z λa f=>sZ (f.kp Z)
     ·rw [hb] at f
      refine have F:=cO hb b;aH F λau ac F=>have m:=f;?_
      obtain ⟨g,rfl,qa,qr⟩:=gW d m0 ac
      refine have f:=m;aH F λa1 v F=>?_
      obtain ⟨az,o,ab,qp⟩:=k.atm v
      refine qp_ 2 f Z λa f=>qU f Z (pIA Tryz.underlying86 uS Z Z qa) λa f=>qU f Z (pFA rC Z) λa f=>qV f Z (bB aZ Z (cA (sz:=2) (i:=H.toNat) (j:=0) m0 qr Z)) λa f=>qp_ 2 f Z λa f=>qU f Z (pIA Tryz.underlying90 aFs Z Z ab) λa f=>qU f Z (pFA aEp Z) λa f=>qV f Z (bB aZ Z (aV (j:=5) qp Z)) λa f=>qp_ 2 f Z λa f=>?_
      obtain rfl:=sj F
      exact sZ (f.kp Z)
    refine λa f=>λw d=>an _ _ (zI f Z F ?_ ?_) <;> intro F
    ·exact bK (sp 2 f Z λa f=>aN (p I H _ _  (f.kp Z) d F))
    ·exact wp_skip (p I B _ _  (f.kp Z) d F)
   refine wp_seq_k λK16 ai=>aH F λap n F=>cQ d aU (by kernel_rfl) (qp_ 3 f Z λa f=>aB5 12 (λa=>Has 61 a [(1,.slice R l.length U),(7,.slice M r.1.length J),(9,i6 V),(10,i6 B),(11,i6 H),(27,i6 V),(28,.bool (V == (-1))),(29,.bool (V == (-1))),(41,.bool ap)]) ?_ ?_)
   ·cases hb:(V == (-1))
    ·rw [hb] at f
     have F:=eG hb n
     obtain rfl:=sj F
     exact qk_ 11 f Z λa f=>qp_ 1 f Z λa f=>sZ (f.kp Z)
    ·rw [hb] at f
     refine have F:=cO hb n;aH F λay ad F=>have m:=f;?_
     obtain ⟨a3,rfl,aa,u⟩:=gW d m0 ad
     refine have f:=m;aH F λax z F=>?_
     obtain ⟨av,a2,y,t⟩:=k.atm z
     refine qp_ 2 f Z λa f=>qU f Z (pIA Tryz.underlying86 uS Z Z aa) λa f=>qU f Z (pFA kY Z) λa f=>qV f Z (bB aZ Z (cA (sz:=2) (i:=H.toNat) (j:=1) m0 u Z)) λa f=>qp_ 2 f Z λa f=>qU f Z (pIA Tryz.underlying90 aFs Z Z y) λa f=>qU f Z (pFA aEp Z) λa f=>qV f Z (bB aZ Z (aV (j:=5) t Z)) λa f=>qp_ 2 f Z λa f=>?_
     obtain rfl:=sj F
     exact sZ (f.kp Z)
   refine λa f=>λw d=>ai _ _ (zI f Z F ?_ ?_) <;> intro F
   ·exact bK (sp 2 f Z λa f=>aN (q H _ _  (f.kp Z) d F))
   ·exact wp_skip (q V _ _  (f.kp Z) d F)
  ·exact wp_exit (aP (aP (have X:=cB F X;cX (am _ _ _ X ⟨f.kp Z,d⟩))))

def kJ (N:Nat) (l:List bV) (B:Int) (bad:Int):Option (bC (Int × Int) (Int × Int)) :=
 cond (decide (1 < (W (bad - B))))
 (Option.bind (qP N (W ((W (B + bad)).tdiv 2)) l) λD=>
 cond (D.1 == (-1))
 (some (.cont (W ((W (B + bad)).tdiv 2),bad)))
 (some (.cont (B,W ((W (B + bad)).tdiv 2)))))
 (some (.brk (B,bad)))
def qQ (N:Nat) (l:List bV):Option (Int × Int) :=
 Option.bind (xB N l) λr=>
 cond (r != 0)
 (some (0,r))
 (Option.bind (qP N 0 l) λD=>
 cond (D.1 != (-1))
 (some (0,5))
 (Option.bind (aS (λB=>kJ N l B.1 B.2) N (0,100001)) λH=>
 exK H (λB=>some (B.1,0)) some))
theorem aGe {I:Option Addr} {R:Nat} (l:List bV) (U:Rd G 6 I R (l.map hU)) (d:Ctx G (Lf) w) {H:Int × Int} (F:qQ N l=some H):Cz G 40 #[.slice I l.length R] w (.tuple #[i6 H.1,i6 H.2]) (Lf):=by
 refine bY Tryz.func40 Z Tryz.ntmps40 Z λa f=>zS λK h=>sp 2 f Z λa f=>zT h (wp_seq_k λK2 h2=>zS λK h=>sp 1 f Z λa f=>aH F λr hr F=>zQ (v:=i6 r) f d (eN 90) Z (λw d=>aCa l U d hr) λa w f d=>sp 1 f Z λa f=>zT h (zS λK h=>sp 2 f Z λa f=>zT h ?_))
 refine zI f Z F ?_ ?_ <;> intro F
 ·refine zS λK h=>sp 3 f Z λa f=>zT h (wp_ret (aL ?_))
  obtain rfl:=sj F
  exact zO2 Tryz.results40 f Z Z ⟨Z,d⟩
 ·refine wp_skip (h2 _ _ (wp_seq_k λK6 h6=>zS λK h=>sp 1 f Z λa f=>aH F λO i F=>zQ (v:=.tuple #[i6 O.1,i6 O.2.1,i6 O.2.2]) f d (eN 38) Z (λw d=>zZ 0 l U d i) λa w f d=>sp 7 f Z λa f=>zT h (zS λK h=>sp 2 f Z λa f=>zT h (zI f Z F ?_ ?_)))) <;> intro F
  ·refine zS λK h=>sp 2 f Z λa f=>zT h (wp_ret (aL ?_))
   obtain rfl:=sj F
   exact zO2 Tryz.results40 f Z Z ⟨Z,d⟩
  ·refine wp_skip (h6 _ _ (zS λK h=>sp 2 f Z λa f=>zT h (wp_seq_k λK11 j=>wp_block (aH F λM g F=>?_))))
   let S12:(Int × Int)→Act→World→Prop:=(λ(zz:Int × Int) a w=>Has 47 a [(0,.slice I l.length R),(8,i6 zz.1),(9,i6 zz.2)]∧Ctx G (Lf) w)
   have Y:∀ (zz:Int × Int) a w,M=.go zz→S12 zz a w→K11 a w:=by
    rintro ⟨D,bad⟩ a w rfl ⟨f,d⟩
    refine have F:=bI F;j _ _ (zS λK h=>sp 3 f Z λa f=>zT h (wp_ret ?_))
    obtain rfl:=sj F
    exact zO2 Tryz.results40 f Z Z ⟨Z,d⟩
   have m:∀ r,M=.out r→r=H:=by
    rintro r rfl
    exact sj F
   refine cF N (cE (S:=S12) (x:=M) ?_ N (0,100001) _ _ ⟨f.kp Z,d⟩ g)
   clear F f d
   rintro ⟨D,bad⟩ n a w KB12 ⟨f,d⟩ F B J
   unfold kJ at F
   refine wp_seq_k λK14 k=>zS λK h=>sp 4 f Z λa f=>zT h (zI f Z F ?_ ?_) <;> intro F
   ·refine wp_skip (k _ _ (sR λK16 X=>wp_block (zS λK h=>sp 3 f Z λa f=>zP f Z (tL Z Z (by decide)) λa f=>sp 1 f Z λa f=>zT h (zS λK h=>sp 2 f Z λa f=>aH F λV b F=>zQ (v:=.tuple #[i6 V.1,i6 V.2.1,i6 V.2.2]) f d (eN 38) Z (λw d=>zZ (W ((W (D + bad)).tdiv 2)) l U d b) λa w f d=>sp 7 f Z λa f=>?_))))
    refine zT h (zS λK h=>sp 2 f Z λa f=>zT h (zI f Z F ?_ ?_)) <;> intro F
    ·exact bK (sp 2 f Z λa f=>aN (X _ _ (J (W ((W (D + bad)).tdiv 2),bad) _ _ (sj F).symm ⟨f.kp Z,d⟩)))
    ·exact bK (sp 2 f Z λa f=>aN (X _ _ (J (D,W ((W (D + bad)).tdiv 2)) _ _ (sj F).symm ⟨f.kp Z,d⟩)))
   ·exact wp_exit (aP (aP (have B:=cB F B;cX (Y _ _ _ B ⟨f.kp Z,d⟩))))

def sE (N:Nat) (out:Int):Option (Int × Int) :=
 some (out,0)
def sK (N:Nat) (H:Int) (D:Int) (B:Int):Option (bC (Int × Int × Int) (Int × Int)) :=
 some (.cont (D,B,W (H + 1)))
def nA (N:Nat) (H:Int) (B:List Int) (J:Int) (I:Int) (D:Int):Option (bC (Int × Int × Int) (Int × Int)) :=
 cond (decide (D < ((B.length:Nat):Int)))
 (Option.bind (aQ B D) λS=>
 cond (aK S 0 1440)
 (some (.ret (0,4)))
 (Option.bind (aQ B D) λM=>
 Option.bind (aQ B D) λO=>
 cond (decide (H < O))
 (Option.bind (aQ B D) λR=>
 sK N D (W (J + M)) (W ((W (I + R)) - H)))
 (sK N D (W (J + M)) I)))
 (some (.brk (J,I,D)))
def uJ (N:Nat) (B:Int) (J:Int) (H:Int) (I:List Int):Option (Int × Int) :=
 cond (((aK B 0 10000) || (aK J 0 1440)) || (aK H 0 1000))
 (some (0,120))
 (cond (decide (366 < ((I.length:Nat):Int)))
 (some (0,3))
 (Option.bind (aS (λD=>nA N J I D.1 D.2.1 D.2.2) N (0,0,0)) λM=>
 exK M (λD=>cond (decide ((W ((W ((W ((W ((W (B * 1000)) * D.1)) + (W ((W (B * H)) * D.2.1)))).tdiv 60000)) * 60000)) < (W ((W ((W (B * 1000)) * D.1)) + (W ((W (B * H)) * D.2.1))))))
 (sE N (W ((W ((W ((W ((W (B * 1000)) * D.1)) + (W ((W (B * H)) * D.2.1)))).tdiv 60000)) + 1)))
 (sE N (W ((W ((W ((W (B * 1000)) * D.1)) + (W ((W (B * H)) * D.2.1)))).tdiv 60000)))) some))
theorem aIi {I:Option Addr} {H:Nat} (D B J:Int) (M:List Int) (O:Rd G 1 I H (M.map aF)) (d:Ctx G (Lf) w) {Y:Int × Int} (F:uJ N D B J M=some Y):Cz G 41 #[i6 D,i6 B,i6 J,.slice I M.length H] w (.tuple #[i6 Y.1,i6 Y.2]) (Lf):=by
 refine bY Tryz.func41 Z Tryz.ntmps41 Z λa f=>zS λK h=>sp 2 f Z λa f=>zT h (wp_seq_k λK2 h2=>zS λK h=>sp 1 f Z λa f=>zQ (v:=.bool (aK D 0 10000)) f d (eN 69) Z (λw d=>cM D 0 10000 d Z) λa w f d=>sp 1 f Z λa f=>cV 3 (λa=>Has 78 a [(0,i6 D),(1,i6 B),(2,i6 J),(3,.slice I M.length H),(20,.bool ((aK D 0 10000) || (aK B 0 1440)))]) d ?_ ?_)
 ·cases hb:(aK D 0 10000)
  ·rw [hb] at f
   exact sp 1 f Z λa f=>zQ (v:=.bool (aK B 0 1440)) f d (eN 69) Z (λw d=>cM B 0 1440 d Z) λa w f d=>sp 1 f Z λa f=>aN ⟨f.kp Z,d⟩
  ·rw [hb] at f
   exact sp 3 f Z λa f=>aN ⟨f.kp Z,d⟩
 intro a w ⟨f,d⟩
 refine sp 1 f Z λa f=>cV 3 (λa=>Has 78 a [(0,i6 D),(1,i6 B),(2,i6 J),(3,.slice I M.length H),(24,.bool (((aK D 0 10000) || (aK B 0 1440)) || (aK J 0 1000)))]) d ?_ ?_
 ·cases hb:((aK D 0 10000) || (aK B 0 1440))
  ·rw [hb] at f
   exact sp 1 f Z λa f=>zQ (v:=.bool (aK J 0 1000)) f d (eN 69) Z (λw d=>cM J 0 1000 d Z) λa w f d=>sp 1 f Z λa f=>aN ⟨f.kp Z,d⟩
  ·rw [hb] at f
   exact sp 3 f Z λa f=>aN ⟨f.kp Z,d⟩
 intro a w ⟨f,d⟩
 refine zT h (zI f Z F ?_ ?_) <;> intro F
 ·refine zS λK h=>sp 2 f Z λa f=>zT h (wp_ret (aL ?_))
  obtain rfl:=sj F
  exact zO2 Tryz.results41 f Z Z ⟨Z,d⟩
 ·refine wp_skip (h2 _ _ (wp_seq_k λK5 h5=>zS λK h=>sp 1 f Z λa f=>zP f Z (bA Tryz.underlying22 Z) λa f=>sp 1 f Z λa f=>zT h (zI f Z F ?_ ?_))) <;> intro F
  ·refine zS λK h=>sp 2 f Z λa f=>zT h (wp_ret (aL ?_))
   obtain rfl:=sj F
   exact zO2 Tryz.results41 f Z Z ⟨Z,d⟩
  ·refine wp_skip (h5 _ _ (zS λK h=>sp 2 f Z λa f=>zT h (wp_seq_k λK9 h9=>zS λK h=>sp 1 f Z λa f=>zT h (wp_block (aH F λk ak F=>?_)))))
   let S11:(Int × Int × Int)→Act→World→Prop:=(λ(zz:Int × Int × Int) a w=>Has 78 a [(0,i6 D),(1,i6 B),(2,i6 J),(3,.slice I M.length H),(10,i6 zz.1),(11,i6 zz.2.1),(12,i6 zz.2.2)]∧Ctx G (Lf) w)
   have ai:∀ (zz:Int × Int × Int) a w,k=.go zz→S11 zz a w→K9 a w:=by
    rintro ⟨b,X,g⟩ a w rfl ⟨f,d⟩
    refine have F:=bI F;h9 _ _ (zS λK h=>sp 11 f Z λa f=>zT h (zS λK h=>sp 1 f Z λa f=>zP f Z (tL Z Z (by decide)) λa f=>sp 1 f Z λa f=>zT h (wp_seq_k λK14 ar=>?_)))
    have i:∀ (out:Int) a w,Has 78 a [(14,i6 out)]→Ctx G (Lf) w→sE N out=some Y→K14 a w:=by
     repeat first | clear F | clear d | clear f
     intro out a w f d F
     unfold sE at F
     refine ar _ _ (zS λK h=>sp 3 f Z λa f=>zT h (wp_ret ?_))
     obtain rfl:=sj F
     exact zO2 Tryz.results41 f Z Z ⟨Z,d⟩
    refine zS λK h=>sp 4 f Z λa f=>zT h (zI f Z F ?_ ?_) <;> intro F
    ·exact bK (sp 3 f Z λa f=>aN (i (W ((W ((W ((W ((W (D * 1000)) * b)) + (W ((W (D * J)) * X)))).tdiv 60000)) + 1)) _ _  (f.kp Z) d F))
    ·exact wp_skip (i (W ((W ((W ((W (D * 1000)) * b)) + (W ((W (D * J)) * X)))).tdiv 60000)) _ _  (f.kp Z) d F)
   have u:∀ r,k=.out r→r=Y:=by
    rintro r rfl
    exact sj F
   refine cF N (cE (S:=S11) (x:=k) ?_ N (0,0,0) _ _ ⟨f.kp Z,d⟩ ak)
   clear F f d
   rintro ⟨b,X,g⟩ q a w KB11 ⟨f,d⟩ F R af
   unfold nA at F
   refine wp_seq_k λK17 aq=>zS λK h=>sp 2 f Z λa f=>zP f Z (bA Tryz.underlying22 Z) λa f=>sp 1 f Z λa f=>zT h (zI f Z F ?_ ?_) <;> intro F
   ·refine wp_skip (aq _ _ (wp_seq_k λK19 am=>?_))
    have m:∀ (V:Int) (U:Int) a w,Has 78 a [(0,i6 D),(1,i6 B),(2,i6 J),(3,.slice I M.length H),(10,i6 V),(11,i6 U),(12,i6 g)]→Ctx G (Lf) w→sK N g V U=some q→K19 a w:=by
     repeat first | clear F | clear d | clear f
     intro V U a w f d F
     unfold sK at F
     exact am _ _ (bK (sp 3 f Z λa f=>aN (af (V,U,W (g + 1)) _ _ (sj F).symm ⟨f.kp Z,d⟩)))
    refine wp_block (wp_seq_k λK20 an=>zS λK h=>sp 2 f Z λa f=>aH F λn aa F=>?_)
    obtain ⟨a0,o,qa,qp⟩:=O.atm aa
    refine zP f Z (pIA Tryz.underlying22 cS Z Z qa) λa f=>zE f d Z (bB aZ Z (aV (j:=0) qp Z)) λa w f d=>zQ (v:=.bool (aK n 0 1440)) f d (eN 69) Z (λw d=>cM n 0 1440 d Z) λa w f d=>zT h (zI f Z F ?_ ?_) <;> intro F
    ·refine zS λK h=>sp 2 f Z λa f=>zT h (wp_ret (aL (bG (aL (aL (have R:=cB F R;have F:=u _ R;bG (aL ?_)))))))
     obtain rfl:=F
     exact zO2 Tryz.results41 f Z Z ⟨Z,d⟩
    ·refine wp_skip (an _ _ (zS λK h=>sp 3 f Z λa f=>aH F λp s F=>?_))
     obtain ⟨a1,au,y,t⟩:=O.atm s
     refine zP f Z (pIA Tryz.underlying22 cS Z Z y) λa f=>zE f d Z (bB aZ Z (aV (j:=0) t Z)) λa w f d=>sp 2 f Z λa f=>zT h (zS λK h=>sp 2 f Z λa f=>aH F λaz ad F=>?_)
     obtain ⟨ax,ay,ac,aj⟩:=O.atm ad
     refine zP f Z (pIA Tryz.underlying22 cS Z Z ac) λa f=>zE f d Z (bB aZ Z (aV (j:=0) aj Z)) λa w f d=>sp 2 f Z λa f=>zT h (zI f Z F ?_ ?_) <;> intro F
     ·refine bK (sp 3 f Z λa f=>aH F λap ab F=>?_)
      obtain ⟨a2,av,z,ag⟩:=O.atm ab
      exact zP f Z (pIA Tryz.underlying22 cS Z Z z) λa f=>zE f d Z (bB aZ Z (aV (j:=0) ag Z)) λa w f d=>sp 4 f Z λa f=>aN (m (W (b + p)) (W ((W (X + ap)) - B)) _ _  (f.kp Z) d F)
     ·exact wp_skip (m (W (b + p)) X _ _  (f.kp Z) d F)
   ·exact wp_exit (aP (aP (have R:=cB F R;cX (ai _ _ _ R ⟨f.kp Z,d⟩))))

def jC (N:Nat) (a_:List aG) (b_:List aG) (H:Int):Option (bC (Int) (Bool)) :=
 cond (decide (H < ((a_.length:Nat):Int)))
 (Option.bind (aQ a_ H) λD=>
 Option.bind (aQ b_ H) λB=>
 cond (!(D.Way.Lo == B.Way.Lo && D.Way.Hi == B.Way.Hi && D.Work.Lo == B.Work.Lo && D.Work.Hi == B.Work.Hi && D.Open == B.Open && D.Close == B.Close))
 (some (.ret false))
 (some (.cont (W (H + 1)))))
 (some (.brk H))
def pJ (N:Nat) (a_:List aG) (b_:List aG):Option (Bool) :=
 cond (((a_.length:Nat):Int) != ((b_.length:Nat):Int))
 (some false)
 (Option.bind (aS (λs7=>jC N a_ b_ s7) N 0) λx7=>
 exK x7 (λs7=>some true) some)
theorem aBb {M I:Option Addr} {J O:Nat} (a_ b_:List aG) (b:Rd G 6 M J (a_.map aX)) (i:Rd G 6 I O (b_.map aX)) (d:Ctx G (Lf) w) {R:Bool} (F:pJ N a_ b_=some R):Cz G 42 #[.slice M a_.length J,.slice I b_.length O] w (.bool R) (Lf):=by
 refine bY Tryz.func42 Z Tryz.ntmps42 Z λa f=>zS λK h=>sp 1 f Z λa f=>zT h (wp_seq_k λK2 h2=>zS λK h=>sp 1 f Z λa f=>zP f Z (bA Tryz.underlying31 Z) λa f=>sp 1 f Z λa f=>zP f Z (bA Tryz.underlying31 Z) λa f=>sp 1 f Z λa f=>zT h (zI f Z F ?_ ?_)) <;> intro F
 ·refine zS λK h=>sp 1 f Z λa f=>zT h (wp_ret (aL ?_))
  obtain rfl:=sj F
  exact zO1 Tryz.results42 f Z ⟨Z,d⟩
 ·refine wp_skip (h2 _ _ (wp_seq_k λK5 h5=>zS λK h=>sp 1 f Z λa f=>zT h (wp_block (aH F λx7 q F=>?_))))
  let S7:Int→Act→World→Prop:=(λ(zz:Int) a w=>Has 26 a [(0,.slice M a_.length J),(1,.slice I b_.length O),(5,i6 zz)]∧Ctx G (Lf) w)
  have j:∀ (zz:Int) a w,x7=.go zz→S7 zz a w→K5 a w:=by
   rintro U a w rfl ⟨f,d⟩
   refine have F:=bI F;h5 _ _ (zS λK h=>sp 1 f Z λa f=>zT h (wp_ret ?_))
   obtain rfl:=sj F
   exact zO1 Tryz.results42 f Z ⟨Z,d⟩
  have m:∀ r,x7=.out r→r=R:=by
   rintro r rfl
   exact sj F
  refine cF N (cE (S:=S7) (x:=x7) ?_ N 0 _ _ ⟨f.kp Z,d⟩ q)
  clear F f d
  rintro U u a w KB7 ⟨f,d⟩ F B s
  unfold jC at F
  refine wp_seq_k λK9 h9=>zS λK h=>sp 2 f Z λa f=>zP f Z (bA Tryz.underlying31 Z) λa f=>sp 1 f Z λa f=>zT h (zI f Z F ?_ ?_) <;> intro F
  ·refine wp_skip (h9 _ _ (wp_seq_k λK11 k=>wp_block (wp_seq_k λK12 p=>aH F λD g F=>?_)))
   obtain ⟨v,o,qa,qp⟩:=b.atm g
   obtain ⟨H,V,F⟩:=cU F
   obtain ⟨y,t,Y,X⟩:=i.atm V
   refine cQ d aU (by kernel_rfl) (qp_ 2 f Z λa f=>qU f Z (pIA Tryz.underlying31 tT Z Z qa) λa f=>qV f Z (iY (vs:=[i6 D.Way.Lo,i6 D.Way.Hi,i6 D.Work.Lo,i6 D.Work.Hi,i6 D.Open,i6 D.Close]) aF5 Z Z (cY qp (n:=6) (o':=0) Z)) λa f=>qp_ 2 f Z λa f=>qU f Z (pIA Tryz.underlying31 tT Z Z Y) λa f=>qV f Z (iY (vs:=[i6 H.Way.Lo,i6 H.Way.Hi,i6 H.Work.Lo,i6 H.Work.Hi,i6 H.Open,i6 H.Close]) aF5 Z Z (cY X (n:=6) (o':=0) Z)) λa f=>qU f Z (aMc ge_45 Z Z (aS5 _ _ _ _ _ _ _ _ _ _ _ _)) λa f=>λw d=>p _ _ (zI f Z F ?_ ?_)) <;> intro F
   ·refine zS λK h=>sp 1 f Z λa f=>zT h (wp_ret (bG (aL (aL (have B:=cB F B;have F:=m _ B;bG (aL ?_))))))
    obtain rfl:=F
    exact zO1 Tryz.results42 f Z ⟨Z,d⟩
   ·exact wp_skip (k _ _ (bK (sp 3 f Z λa f=>aN (s (W (U + 1)) _ _ (sj F).symm ⟨f.kp Z,d⟩))))
  ·exact wp_exit (aP (aP (have B:=cB F B;cX (j _ _ _ B ⟨f.kp Z,d⟩))))

def mW (N:Nat) (start:Int) (l:List aG) (p_:dN) (B:List Int):Option (Bool) :=
 cond ((decide (25 < ((l.length:Nat):Int))) || (decide (370 < ((B.length:Nat):Int))))
 (Option.bind (gC N) λr=>
 some r)
 (Option.bind (pF N l) λD=>
 Option.bind (gO N B) λV=>
 Option.bind (mI N start D) λS=>
 Option.bind (sV N l) λm=>
 Option.bind (lH N start m) λU=>
 Option.bind (oM N S.1 U.1) λo=>
 cond ((!o) || (S.2 != U.2))
 (some false)
 (Option.bind (uV N start D) λJ=>
 Option.bind (sV N l) λn=>
 Option.bind (qP N start n) λM=>
 cond (((J.1 != M.1) || (J.2.1 != M.2.1)) || (J.2.2 != M.2.2))
 (some false)
 (Option.bind (qM N D) λR=>
 Option.bind (sV N l) λY=>
 Option.bind (qQ N Y) λH=>
 cond ((R.1 != H.1) || (R.2 != H.2))
 (some false)
 (Option.bind (kI N p_ V) λO=>
 Option.bind (uJ N p_.Rate p_.Normal p_.Extra B) λI=>
 Option.bind (cond ((O.1 == I.1) && (O.2 == I.2)) (Option.bind (pJ N D l) λb=>
 some b) (some false)) λj=>
 Option.bind (cond j (Option.bind (dW N V B) λX=>
 some X) (some false)) λk=>
 Option.bind (cond k (Option.bind (gC N) λg=>
 some g) (some false)) λi=>
 some i))))
theorem tE {Y D:Option Addr} {b H:Nat} (start:Int) (l:List aG) (p_:dN) (B:List Int) (o:Rd G 6 Y b (l.map aX)) (S:Rd G 1 D H (B.map aF)) (d:Ctx G (Lf) w) {aj:Bool} (F:mW N start l p_ B=some aj):Cz G 8 #[i6 start,.slice Y l.length b,.agg #[i6 p_.Rate,i6 p_.Normal,i6 p_.Extra],.slice D B.length H] w (.bool aj) (Lf):=by
 refine bY Tryz.func8 Z Tryz.ntmps8 Z λa f=>zS λK h=>zB f d Z λq a w f d=>sp 1 f Z λa f=>zT h (wp_seq_k λK2 h2=>zS λK h=>sp 1 f Z λa f=>zP f Z (bA Tryz.underlying31 Z) λa f=>sp 2 f Z λa f=>cV 4 (λa=>Has 141 a [(0,i6 start),(1,.slice Y l.length b),(3,.slice D B.length H),(6,pq q),(28,.bool ((decide (25 < ((l.length:Nat):Int))) || (decide (370 < ((B.length:Nat):Int)))))]) d ?_ ?_)
 ·cases hb:(decide (25 < ((l.length:Nat):Int)))
  ·rw [hb] at f
   exact sp 1 f Z λa f=>zP f Z (bA Tryz.underlying22 Z) λa f=>sp 2 f Z λa f=>aN ⟨f.kp Z,d⟩
  ·rw [hb] at f
   exact sp 4 f Z λa f=>aN ⟨f.kp Z,d⟩
 intro a w ⟨f,d⟩
 refine zT h (zI f Z F ?_ ?_) <;> intro F
 ·refine zS λK h=>aH F λr hr F=>zQ (v:=.bool r) f d (eN 14) Z (λw d=>jH d hr) λa w f d=>sp 1 f Z λa f=>zT h (wp_ret (aL ?_))
  obtain rfl:=sj F
  exact have d:=d.drop k0;zO1 Tryz.results8 f Z ⟨Z,d⟩
 ·refine wp_skip (h2 _ _ (zS λK h=>sp 1 f Z λa f=>aH F λX a6 F=>zC f (eN 32) Z (aBi l o d a6) ?_))
  rintro _ w ⟨n,p,rfl,d⟩
  refine ⟨_,Z,λa f=>sp 1 f Z λa f=>aH F λg ap F=>zC f (eN 16) Z (rQ B S d ap) ?_⟩
  rintro _ w ⟨m,k,rfl,d⟩
  refine ⟨_,Z,λa f=>sp 2 f Z λa f=>zT h (zS λK h=>sp 2 f Z λa f=>aH F λak av F=>?_)⟩
  obtain ⟨G1,M,J,d,I⟩:=lend d k1
  refine zC f (eN 33) Z (aAe start X J d av) ?_
  rintro _ w ⟨bq,bn,rfl,d⟩
  refine ⟨_,Z,λa f=>have d:=I _ _ d;sp 5 f Z λa f=>zT h (zS λK h=>sp 2 f Z λa f=>aH F λa8 ar F=>zC f (eN 35) Z (xM l o d ar) ?_)⟩
  rintro _ w ⟨bi,bf,rfl,d⟩
  refine ⟨_,Z,λa f=>aH F λai au F=>?_⟩
  obtain ⟨G1,M,J,d,I⟩:=lend d k0
  refine zC f (eN 34) Z (aCh start a8 J d au) ?_
  rintro _ w ⟨bk,bj,rfl,d⟩
  refine ⟨_,Z,λa f=>have d:=I _ _ d;sp 5 f Z λa f=>zT h (wp_seq_k λK8 h8=>zS λK h=>sp 2 f Z λa f=>aH F λs a5 F=>zQ (v:=.bool s) f d (eN 36) Z (λw d=>by obtain ⟨G1,M,J,d,I⟩:=lend d k3;obtain ⟨G2,aq,ax,d,ay⟩:=lend d k1;exact (wV ak.1 ai.1 (J.mono aq) ax d a5).mono λe w h=>⟨h.1,((I _ _ ((ay _ _ h.2).unpick k1)).unpick k3)⟩) λa w f d=>sp 2 f Z λa f=>cV 4 (λa=>Has 141 a [(0,i6 start),(1,.slice Y l.length b),(3,.slice D B.length H),(6,pq q),(9,.slice n X.length p),(10,.slice m g.length k),(55,.bool ((!s) || (ak.2 != ai.2)))]) d ?_ ?_)⟩
  ·cases hb:(!s) <;> (rw [hb] at f;exact sp 4 f Z λa f=>aN ⟨f.kp Z,d⟩)
  intro a w ⟨f,d⟩
  refine zT h (zI f Z F ?_ ?_) <;> intro F
  ·refine zS λK h=>sp 1 f Z λa f=>zT h (wp_ret (aL ?_))
   obtain rfl:=sj F
   exact have d:=(((((d.drop k5).drop k4).drop k3).drop k2).drop k1).drop k0;zO1 Tryz.results8 f Z ⟨Z,d⟩
  ·refine wp_skip (h8 _ _ (zS λK h=>sp 2 f Z λa f=>aH F λR a7 F=>zQ (v:=.tuple #[i6 R.1,i6 R.2.1,i6 R.2.2]) f d (eN 37) Z (λw d=>by obtain ⟨G1,M,J,d,I⟩:=lend d k2;exact (aEx start X J d a7).mono λe w h=>⟨h.1,((I _ _ h.2).unpick k2)⟩) λa w f d=>sp 7 f Z λa f=>zT h (zS λK h=>sp 2 f Z λa f=>aH F λbc a3 F=>zC f (eN 35) Z (xM l o d a3) ?_)))
   rintro _ w ⟨bp,bm,rfl,d⟩
   refine ⟨_,Z,λa f=>aH F λO az F=>zQ (v:=.tuple #[i6 O.1,i6 O.2.1,i6 O.2.2]) f d (eN 38) Z (λw d=>by obtain ⟨G1,M,J,d,I⟩:=lend d k0;exact (zZ start bc J d az).mono λe w h=>⟨h.1,((I _ _ h.2).unpick k0)⟩) λa w f d=>sp 7 f Z λa f=>zT h (wp_seq_k λK13 a9=>zS λK h=>sp 4 f Z λa f=>cV 4 (λa=>Has 141 a [(1,.slice Y l.length b),(3,.slice D B.length H),(6,pq q),(9,.slice n X.length p),(10,.slice m g.length k),(12,i6 R.2.2),(14,i6 O.2.2),(78,.bool ((R.1 != O.1) || (R.2.1 != O.2.1)))]) d ?_ ?_)⟩
   ·cases hb:(R.1 != O.1) <;> (rw [hb] at f;exact sp 4 f Z λa f=>aN ⟨f.kp Z,d⟩)
   intro a w ⟨f,d⟩
   refine sp 1 f Z λa f=>cV 4 (λa=>Has 141 a [(1,.slice Y l.length b),(3,.slice D B.length H),(6,pq q),(9,.slice n X.length p),(10,.slice m g.length k),(83,.bool (((R.1 != O.1) || (R.2.1 != O.2.1)) || (R.2.2 != O.2.2)))]) d ?_ ?_
   ·cases hb:((R.1 != O.1) || (R.2.1 != O.2.1)) <;> (rw [hb] at f;exact sp 4 f Z λa f=>aN ⟨f.kp Z,d⟩)
   intro a w ⟨f,d⟩
   refine zT h (zI f Z F ?_ ?_) <;> intro F
   ·refine zS λK h=>sp 1 f Z λa f=>zT h (wp_ret (aL ?_))
    obtain rfl:=sj F
    exact have d:=((((((d.drop k6).drop k5).drop k4).drop k3).drop k2).drop k1).drop k0;zO1 Tryz.results8 f Z ⟨Z,d⟩
   ·refine wp_skip (a9 _ _ (zS λK h=>sp 1 f Z λa f=>aH F λj ad F=>zQ (v:=.tuple #[i6 j.1,i6 j.2]) f d (eN 39) Z (λw d=>by obtain ⟨G1,M,J,d,I⟩:=lend d k3;exact (aCo X J d ad).mono λe w h=>⟨h.1,((I _ _ h.2).unpick k3)⟩) λa w f d=>sp 5 f Z λa f=>zT h (zS λK h=>sp 1 f Z λa f=>aH F λa0 y F=>zC f (eN 35) Z (xM l o d y) ?_)))
    rintro _ w ⟨bd,bg,rfl,d⟩
    refine ⟨_,Z,λa f=>aH F λi aa F=>zQ (v:=.tuple #[i6 i.1,i6 i.2]) f d (eN 40) Z (λw d=>by obtain ⟨G1,M,J,d,I⟩:=lend d k0;exact (aGe a0 J d aa).mono λe w h=>⟨h.1,((I _ _ h.2).unpick k0)⟩) λa w f d=>sp 5 f Z λa f=>zT h (wp_seq_k λK18 bb=>zS λK h=>sp 4 f Z λa f=>cV 4 (λa=>Has 141 a [(1,.slice Y l.length b),(3,.slice D B.length H),(6,pq q),(9,.slice n X.length p),(10,.slice m g.length k),(102,.bool ((j.1 != i.1) || (j.2 != i.2)))]) d ?_ ?_)⟩
    ·cases hb:(j.1 != i.1) <;> (rw [hb] at f;exact sp 4 f Z λa f=>aN ⟨f.kp Z,d⟩)
    intro a w ⟨f,d⟩
    refine zT h (zI f Z F ?_ ?_) <;> intro F
    ·refine zS λK h=>sp 1 f Z λa f=>zT h (wp_ret (aL ?_))
     obtain rfl:=sj F
     exact have d:=(((((((d.drop k7).drop k6).drop k5).drop k4).drop k3).drop k2).drop k1).drop k0;zO1 Tryz.results8 f Z ⟨Z,d⟩
    ·refine wp_skip (bb _ _ (zS λK h=>zN f d aSl m7 Z λa w f d=>sp 1 f Z λa f=>aH F λV z F=>zQ (v:=.tuple #[i6 V.1,i6 V.2]) f d (eN 13) Z (λw d=>by obtain ⟨G1,M,J,d,I⟩:=lend d k6;exact (yB p_ g J d z).mono λe w h=>⟨h.1,((I _ _ h.2).unpick k6)⟩) λa w f d=>sp 5 f Z λa f=>zT h (zS λK h=>zP f Z (pFA aGv Z) λa f=>zL f d aZ m7 Z λa w f d=>zP f Z (pFA aGp Z) λa f=>zL f d aZ m7 Z λa w f d=>?_)))
     refine zP f Z (pFA aGs Z) λa f=>zL f d aZ m7 Z λa w f d=>sp 1 f Z λa f=>aH F λU ag F=>zQ (v:=.tuple #[i6 U.1,i6 U.2]) f d (eN 41) Z (λw d=>aIi p_.Rate p_.Normal p_.Extra B S d ag) λa w f d=>sp 5 f Z λa f=>zT h (zS λK h=>sp 4 f Z λa f=>cV 4 (λa=>Has 141 a [(1,.slice Y l.length b),(3,.slice D B.length H),(9,.slice n X.length p),(10,.slice m g.length k),(127,.bool ((V.1 == U.1) && (V.2 == U.2)))]) d ?_ ?_)
     ·cases hb:(V.1 == U.1) <;> (rw [hb] at f;exact sp 4 f Z λa f=>aN ⟨f.kp Z,d⟩)
     intro a w ⟨f,d⟩
     refine sp 1 f Z λa f=>aH F λam t F=>cV 4 (λa=>Has 141 a [(3,.slice D B.length H),(10,.slice m g.length k),(132,.bool am)]) d ?_ ?_
     ·cases hb:((V.1 == U.1) && (V.2 == U.2))
      ·rw [hb] at f
       have F:=eG hb t
       obtain rfl:=sj F
       exact sp 4 f Z λa f=>aN ⟨f.kp Z,d⟩
      ·rw [hb] at f
       refine have F:=cO hb t;sp 2 f Z λa f=>aH F λa4 ab F=>zQ (v:=.bool a4) f d (eN 42) Z (λw d=>by obtain ⟨G1,M,J,d,I⟩:=lend d k4;exact (aBb X l J (o.mono M) d ab).mono λe w h=>⟨h.1,((I _ _ h.2).unpick k4)⟩) λa w f d=>sp 1 f Z λa f=>?_
       obtain rfl:=sj F
       exact aN ⟨f.kp Z,d⟩
     intro a w ⟨f,d⟩
     refine sp 1 f Z λa f=>aH F λan u F=>cV 4 (λa=>Has 141 a [(137,.bool an)]) d ?_ ?_
     ·cases hb:am
      ·rw [hb] at f
       try rw [hb] at d
       have F:=eG hb u
       obtain rfl:=sj F
       exact sp 4 f Z λa f=>aN ⟨f.kp Z,d⟩
      ·rw [hb] at f
       try rw [hb] at d
       refine have F:=cO hb u;sp 2 f Z λa f=>aH F λa2 af F=>zQ (v:=.bool a2) f d (eN 27) Z (λw d=>by obtain ⟨G1,M,J,d,I⟩:=lend d k6;exact (jL g B J (S.mono M) d af).mono λe w h=>⟨h.1,((I _ _ h.2).unpick k6)⟩) λa w f d=>sp 1 f Z λa f=>?_
       obtain rfl:=sj F
       exact aN ⟨f.kp Z,d⟩
     intro a w ⟨f,d⟩
     refine sp 1 f Z λa f=>aH F λba x F=>cV 2 (λa=>Has 141 a [(140,.bool ba)]) d ?_ ?_
     ·cases hb:an
      ·rw [hb] at f
       try rw [hb] at d
       have F:=eG hb x
       obtain rfl:=sj F
       exact sp 2 f Z λa f=>aN ⟨f.kp Z,d⟩
      ·rw [hb] at f
       try rw [hb] at d
       refine have F:=cO hb x;aH F λa1 ac F=>zQ (v:=.bool a1) f d (eN 14) Z (λw d=>jH d ac) λa w f d=>sp 1 f Z λa f=>?_
       obtain rfl:=sj F
       exact aN ⟨f.kp Z,d⟩
     intro a w ⟨f,d⟩
     refine sp 1 f Z λa f=>zT h (wp_ret ?_)
     obtain rfl:=sj F
     exact have d:=(((((((d.drop k7).drop k6).drop k5).drop k4).drop k3).drop k2).drop k1).drop k0;zO1 Tryz.results8 f Z ⟨Z,d⟩

def uF (N:Nat) (l:List aC):Option ((List aC)) :=
 Option.bind (room (l).length) λun=>
 some l
theorem aBv {I:Option Addr} {J:Nat} (l:List aC) (R:Rd G 4 I J (l.map aI)) (d:Ctx G (Lf) w) {B:(List aC)} (F:uF N l=some B):Calls Tryz.prog 91 #[.slice I l.length J] w (λe w=>∃ (H:Option Addr) (D:Nat),e=.returned (.slice H B.length D)∧Ctx G (.row H D (B.map aI) 47 4::Lf) w):=by
 refine bY Tryz.func91 Z Tryz.ntmps91 Z λa f=>zS λK h=>sp 1 f Z λa f=>zT h (zS λK h=>sp 1 f Z λa f=>zT h (zS λK h=>sp 2 f Z λa f=>have d:=d.nilRow 47 4;aH F λun S F=>mV (xs:=([]:List aC)) (ys:=l) f d Z Z aBo Z Z Z Z Z dX (aDn d R) (λ_ _=>u0) (by simpa using cZ S) λO M a w f d=>sp 1 f Z λa f=>zT h ?_))
 refine wp_ret ?_
 obtain rfl:=sj F
 exact zO1 Tryz.results91 f Z ⟨O,M,Z,d⟩

def tX (N:Nat) (c_:aJ):Option (aJ) :=
 Option.bind (uF N c_.Rides) λr=>
 some (⟨c_.Car,c_.Wide,c_.Sag,c_.Most,r⟩:aJ)
theorem aD5 {B:Option Addr} {D:Nat} (c_:aJ) (I:Rd G 4 B D (c_.Rides.map aI)) (d:Ctx G (Lf) w) {H:aJ} (F:tX N c_=some H):Calls Tryz.prog 43 #[.agg #[i6 c_.Car,i6 c_.Wide,i6 c_.Sag,i6 c_.Most,.slice B c_.Rides.length D]] w (λe w=>∃ (J:Option Addr) (R:Nat),e=.returned (.agg #[i6 H.Car,i6 H.Wide,i6 H.Sag,i6 H.Most,.slice J H.Rides.length R])∧Ctx G (.row J R (H.Rides.map aI) 47 4::Lf) w):=by
 refine bY Tryz.func43 Z Tryz.ntmps43 Z λa f=>zS λK h=>zB f d Z λS a w f d=>zA f d aE9 Z λU a w f d=>zT h (zS λK h=>zP f Z (pFA fR Z) λa f=>zL f d sL m1 Z λa w f d=>aH F λr hr F=>zC f (eN 91) Z (aBv c_.Rides I d hr) ?_)
 rintro _ w ⟨O,M,rfl,d⟩
 refine ⟨_,Z,λa f=>zP f Z (pFA fR Z) λa f=>zW f d aJa u2 Z λw d=>zT h (zS λK h=>zN f d lC m2 Z λa w f d=>zW f d aDj u1 Z λw d=>zT h (wp_ret ?_))⟩
 obtain rfl:=sj F
 exact have d:=d.drop k2;yY (by simp) Z Tryz.results43 f d (eE (vs:=[i6 c_.Car,i6 c_.Wide,i6 c_.Sag,i6 c_.Most,.slice O r.length M]) lC Z Z (bT (n:=5) m1 Z)) ⟨O,M,Z,(d.drop k1)⟩

def pR (N:Nat) (c_:aJ) (x:Int) (D:List aY):Option (bC (Int × (List aY)) (cD)) :=
 cond (decide (x < ((c_.Rides.length:Nat):Int)))
 (Option.bind (aQ c_.Rides x) λB=>
 Option.bind (room ((D++[(⟨B.From,B.Long,B.Weight⟩:aY)])).length) λun=>
 some (.cont (W (x + 1),(D++[(⟨B.From,B.Long,B.Weight⟩:aY)]))))
 (some (.brk (x,D)))
def sM (N:Nat) (c_:aJ):Option (cD) :=
 Option.bind (aS (λs5=>pR N c_ s5.1 s5.2) N (0,([]:List aY))) λx5=>
 exK x5 (λs5=>some (⟨c_.Car,c_.Wide,c_.Sag,c_.Most,s5.2⟩:cD)) some
theorem vQ {D:Option Addr} {H:Nat} (c_:aJ) (R:Rd G 4 D H (c_.Rides.map aI)) (d:Ctx G (Lf) w) {I:cD} (F:sM N c_=some I):Calls Tryz.prog 45 #[.agg #[i6 c_.Car,i6 c_.Wide,i6 c_.Sag,i6 c_.Most,.slice D c_.Rides.length H]] w (λe w=>∃ (V:Option Addr) (X:Nat),e=.returned (.agg #[i6 I.Car,i6 I.Wide,i6 I.Sag,i6 I.Most,.slice V I.Rides.length X])∧Ctx G (.row V X (I.Rides.map bM) 156 4::Lf) w):=by
 refine bY Tryz.func45 Z Tryz.ntmps45 Z λa f=>zS λK h=>zB f d Z λy a w f d=>zA f d aMp Z λb a w f d=>zT h (zS λK h=>zP f Z (pFA xX Z) λa f=>zL f d aZ m1 Z λa w f d=>zP f Z (pFA aC6 Z) λa f=>zL f d aZ m1 Z λa w f d=>zP f Z (pFA aDb Z) λa f=>zL f d aZ m1 Z λa w f d=>zP f Z (pFA aC9 Z) λa f=>zL f d aZ m1 Z λa w f d=>?_)
 refine zP f Z (bS (cells:=[i6 c_.Car,i6 c_.Wide,i6 c_.Sag,i6 c_.Most,.slice none 0 0]) aS3 Z Z) λa f=>zA f d aMp Z λY a w f d=>zW f d aLu u0 Z λw d=>zT h (wp_seq_k λK3 h3=>zS λK h=>zP f Z (pFA fR Z) λa f=>zL f d sL m2 Z λa w f d=>zP f Z (bA Tryz.underlying35 Z) λa f=>sp 1 f Z λa f=>zT h (wp_block (aH F λx5 k F=>?_)))
 let S5:(Int × (List aY))→Act→World→Prop:=(λ(zz:Int × (List aY)) a w=>∃ (M:Option Addr) (J:Nat),Has 30 a [(2,pq b),(3,pq Y),(16,.slice D c_.Rides.length H),(17,i6 ((c_.Rides.length:Nat):Int)),(18,i6 zz.1)]∧Ctx G (.row M J (zz.2.map bM) 156 4::.box Y [i6 c_.Car,i6 c_.Wide,i6 c_.Sag,i6 c_.Most,.slice M zz.2.length J] 104::.box b [i6 0,i6 0,i6 0,i6 0,.slice none 0 0] 104::Lf) w)
 have j:∀ (zz:Int × (List aY)) a w,x5=.go zz→S5 zz a w→K3 a w:=by
  rintro ⟨x,U⟩ a w rfl ⟨M,J,f,d⟩
  refine have F:=bI F;h3 _ _ (zS λK h=>zN f d vK m1 Z λa w f d=>zW f d aLu u2 Z λw d=>zT h (wp_ret ?_))
  obtain rfl:=sj F
  exact have d:=d.drop k1;yY (by simp) Z Tryz.results45 f d (eE (vs:=[i6 c_.Car,i6 c_.Wide,i6 c_.Sag,i6 c_.Most,.slice M U.length J]) vK Z Z (bT (n:=5) m1 Z)) ⟨M,J,Z,(d.drop k1)⟩
 have s:∀ r,x5=.out r→r=I:=by
  rintro r rfl
  exact sj F
 refine have d:=d.nilRow 156 4;have d:=d.drop k3;cF N (cE (S:=S5) (x:=x5) ?_ N (0,([]:List aY)) _ _ ⟨none,0,f.kp Z,d⟩ k)
 clear F f d
 rintro ⟨x,U⟩ t a w KB5 ⟨M,J,f,d⟩ F O i
 refine zS λK h=>sp 1 f Z λa f=>zT h (wp_seq_k λK8 h8=>zI f Z F ?_ ?_) <;> intro F
 ·refine wp_skip (h8 _ _ (wp_seq_k λK9 h9=>wp_block (zS λK h=>aH F λB g F=>?_)))
  obtain ⟨z,o,qa,qp⟩:=R.atm g
  refine zP f Z (pIA Tryz.underlying35 tD Z Z qa) λa f=>zE f d Z (iY (vs:=[i6 B.From,i6 B.Long,i6 B.Weight.Lo,i6 B.Weight.Hi]) vA Z Z (cY qp (n:=4) (o':=0) Z)) λa w f d=>zA f d aIy Z λu a w f d=>zW f d tD u0 Z λw d=>zT h (bK (zP f Z (pFA gZ Z) λa f=>zL f d rZ m2 Z λa w f d=>zN f d vA m0 Z λa w f d=>gN (rows:=([(⟨B.From,B.Long,B.Weight⟩:aY)]:List aY).map bM) (vs:=[(0,.agg #[i6 B.From,i6 B.Long,i6 B.Weight.Lo,i6 B.Weight.Hi])]) f d Z Z aFq Z ⟨Z,Z,Z,trivial⟩ Z Z λv a w f d=>aH F λun m F=>mV (xs:=U) (ys:=([(⟨B.From,B.Long,B.Weight⟩:aY)]:List aY)) f d Z Z aFq Z Z Z Z Z uD (gL d m0) (λ_ _=>u2) (by simpa using cZ m) λq p a w f d=>zP f Z (pFA gZ Z) λa f=>zW f d aMj u3 Z λw d=>?_))
  exact aN (h9 _ _ (bK (sp 2 f Z λa f=>aN (have d:=(d.drop k1).drop k0;i (W (x + 1),(U++[(⟨B.From,B.Long,B.Weight⟩:aY)])) _ _ (sj F).symm ⟨q,p,f.kp Z,d⟩))))
 ·exact wp_exit (aP (aP (have O:=cB F O;cX (j _ _ _ O ⟨M,J,f.kp Z,d⟩))))

def gD (N:Nat) (c_:cD) (B:Int):Option (bC (Int) (Int)) :=
 cond (decide (B < ((c_.Rides.length:Nat):Int)))
 (Option.bind (aQ c_.Rides B) λD=>
 cond (((aK D.From 0 100000) || (aK D.Long 1 100000)) || (cL D.Weight 1000))
 (some (.ret 120))
 (some (.cont (W (B + 1)))))
 (some (.brk B))
def kR (N:Nat) (c_:cD):Option (Int) :=
 cond (decide (30 < ((c_.Rides.length:Nat):Int)))
 (some 3)
 (cond ((((aK c_.Car 0 1000) || (aK c_.Wide 1 1000)) || (aK c_.Sag 1 10000)) || (aK c_.Most 0 10000000))
 (some 120)
 (Option.bind (aS (λB=>gD N c_ B) N 0) λD=>
 exK D (λB=>some 0) some))
theorem pK {H:Option Addr} {I:Nat} (c_:cD) (M:Rd G 4 H I (c_.Rides.map bM)) (d:Ctx G (Lf) w) {R:Int} (F:kR N c_=some R):Cz G 44 #[.agg #[i6 c_.Car,i6 c_.Wide,i6 c_.Sag,i6 c_.Most,.slice H c_.Rides.length I]] w (i6 R) (Lf):=by
 refine bY Tryz.func44 Z Tryz.ntmps44 Z λa f=>zS λK h=>zB f d Z λJ a w f d=>sp 1 f Z λa f=>zT h (wp_seq_k λK2 h2=>zS λK h=>zP f Z (pFA gZ Z) λa f=>zL f d rZ m0 Z λa w f d=>zP f Z (bA Tryz.underlying102 Z) λa f=>sp 1 f Z λa f=>zT h (zI f Z F ?_ ?_)) <;> intro F
 ·refine zS λK h=>sp 1 f Z λa f=>zT h (wp_ret (aL ?_))
  obtain rfl:=sj F
  exact have d:=d.drop k0;zO1 Tryz.results44 f Z ⟨Z,d⟩
 ·refine wp_skip (h2 _ _ (wp_seq_k λK5 h5=>zS λK h=>zP f Z (pFA aCn Z) λa f=>zL f d aZ m0 Z λa w f d=>zQ (v:=.bool (aK c_.Car 0 1000)) f d (eN 69) Z (λw d=>cM c_.Car 0 1000 d Z) λa w f d=>sp 1 f Z λa f=>cV 4 (λa=>Has 52 a [(1,pq J),(16,.bool ((aK c_.Car 0 1000) || (aK c_.Wide 1 1000)))]) d ?_ ?_))
  ·cases hb:(aK c_.Car 0 1000)
   ·rw [hb] at f
    exact zP f Z (pFA aKm Z) λa f=>zL f d aZ m0 Z λa w f d=>zQ (v:=.bool (aK c_.Wide 1 1000)) f d (eN 69) Z (λw d=>cM c_.Wide 1 1000 d Z) λa w f d=>sp 1 f Z λa f=>aN ⟨f.kp Z,d⟩
   ·rw [hb] at f
    exact sp 4 f Z λa f=>aN ⟨f.kp Z,d⟩
  intro a w ⟨f,d⟩
  refine sp 1 f Z λa f=>cV 4 (λa=>Has 52 a [(1,pq J),(21,.bool (((aK c_.Car 0 1000) || (aK c_.Wide 1 1000)) || (aK c_.Sag 1 10000)))]) d ?_ ?_
  ·cases hb:((aK c_.Car 0 1000) || (aK c_.Wide 1 1000))
   ·rw [hb] at f
    exact zP f Z (pFA aK8 Z) λa f=>zL f d aZ m0 Z λa w f d=>zQ (v:=.bool (aK c_.Sag 1 10000)) f d (eN 69) Z (λw d=>cM c_.Sag 1 10000 d Z) λa w f d=>sp 1 f Z λa f=>aN ⟨f.kp Z,d⟩
   ·rw [hb] at f
    exact sp 4 f Z λa f=>aN ⟨f.kp Z,d⟩
  intro a w ⟨f,d⟩
  refine sp 1 f Z λa f=>cV 4 (λa=>Has 52 a [(1,pq J),(26,.bool ((((aK c_.Car 0 1000) || (aK c_.Wide 1 1000)) || (aK c_.Sag 1 10000)) || (aK c_.Most 0 10000000)))]) d ?_ ?_
  ·cases hb:(((aK c_.Car 0 1000) || (aK c_.Wide 1 1000)) || (aK c_.Sag 1 10000))
   ·rw [hb] at f
    exact zP f Z (pFA aKs Z) λa f=>zL f d aZ m0 Z λa w f d=>zQ (v:=.bool (aK c_.Most 0 10000000)) f d (eN 69) Z (λw d=>cM c_.Most 0 10000000 d Z) λa w f d=>sp 1 f Z λa f=>aN ⟨f.kp Z,d⟩
   ·rw [hb] at f
    exact sp 4 f Z λa f=>aN ⟨f.kp Z,d⟩
  intro a w ⟨f,d⟩
  refine zT h (zI f Z F ?_ ?_) <;> intro F
  ·refine zS λK h=>sp 1 f Z λa f=>zT h (wp_ret (aL ?_))
   obtain rfl:=sj F
   exact have d:=d.drop k0;zO1 Tryz.results44 f Z ⟨Z,d⟩
  ·refine wp_skip (h5 _ _ (wp_seq_k λK8 h8=>zS λK h=>sp 1 f Z λa f=>zT h (wp_block (aH F λU V F=>?_))))
   let S10:Int→Act→World→Prop:=(λ(zz:Int) a w=>Has 52 a [(1,pq J),(3,i6 zz)]∧Ctx G (.box J [i6 c_.Car,i6 c_.Wide,i6 c_.Sag,i6 c_.Most,.slice H c_.Rides.length I] 104::Lf) w)
   have X:∀ (zz:Int) a w,U=.go zz→S10 zz a w→K8 a w:=by
    rintro O a w rfl ⟨f,d⟩
    refine have F:=bI F;h8 _ _ (zS λK h=>sp 1 f Z λa f=>zT h (wp_ret ?_))
    obtain rfl:=sj F
    exact have d:=d.drop k0;zO1 Tryz.results44 f Z ⟨Z,d⟩
   have g:∀ r,U=.out r→r=R:=by
    rintro r rfl
    exact sj F
   refine cF N (cE (S:=S10) (x:=U) ?_ N 0 _ _ ⟨f.kp Z,d⟩ V)
   clear F f d
   rintro O m a w KB10 ⟨f,d⟩ F D b
   unfold gD at F
   refine wp_seq_k λK12 j=>zS λK h=>sp 1 f Z λa f=>zP f Z (pFA gZ Z) λa f=>zL f d rZ m0 Z λa w f d=>zP f Z (bA Tryz.underlying102 Z) λa f=>sp 1 f Z λa f=>zT h (zI f Z F ?_ ?_) <;> intro F
   ·refine wp_skip (j _ _ (wp_seq_k λK14 k=>wp_block (zS λK h=>zP f Z (pFA gZ Z) λa f=>zL f d rZ m0 Z λa w f d=>sp 1 f Z λa f=>aH F λB Y F=>?_)))
    obtain ⟨p,o,qa,qp⟩:=M.atm Y
    refine zP f Z (pIA Tryz.underlying102 yX Z Z qa) λa f=>zE f d Z (iY (vs:=[i6 B.From,i6 B.Long,i6 B.Weight.Lo,i6 B.Weight.Hi]) aJx Z Z (cY qp (n:=4) (o':=0) Z)) λa w f d=>zA f d aMl Z λi a w f d=>zW f d yX u0 Z λw d=>zT h (zS λK h=>zP f Z (pFA wZ Z) λa f=>zL f d aZ m0 Z λa w f d=>zQ (v:=.bool (aK B.From 0 100000)) f d (eN 69) Z (λw d=>cM B.From 0 100000 d Z) λa w f d=>sp 1 f Z λa f=>cV 4 (λa=>Has 52 a [(1,pq J),(3,i6 O),(4,pq i),(46,.bool ((aK B.From 0 100000) || (aK B.Long 1 100000)))]) d ?_ ?_)
    ·cases hb:(aK B.From 0 100000)
     ·rw [hb] at f
      exact zP f Z (pFA aE1 Z) λa f=>zL f d aZ m0 Z λa w f d=>zQ (v:=.bool (aK B.Long 1 100000)) f d (eN 69) Z (λw d=>cM B.Long 1 100000 d Z) λa w f d=>sp 1 f Z λa f=>aN ⟨f.kp Z,d⟩
     ·rw [hb] at f
      exact sp 4 f Z λa f=>aN ⟨f.kp Z,d⟩
    intro a w ⟨f,d⟩
    refine sp 1 f Z λa f=>cV 4 (λa=>Has 52 a [(1,pq J),(3,i6 O),(51,.bool (((aK B.From 0 100000) || (aK B.Long 1 100000)) || (cL B.Weight 1000)))]) d ?_ ?_
    ·cases hb:((aK B.From 0 100000) || (aK B.Long 1 100000))
     ·rw [hb] at f
      exact zP f Z (pFA aCc Z) λa f=>zN f d rG m0 Z λa w f d=>zQ (v:=.bool (cL B.Weight 1000)) f d (eN 92) Z (λw d=>yK B.Weight 1000 d Z) λa w f d=>sp 1 f Z λa f=>aN ⟨f.kp Z,d⟩
     ·rw [hb] at f
      exact sp 4 f Z λa f=>aN ⟨f.kp Z,d⟩
    intro a w ⟨f,d⟩
    refine zT h (zI f Z F ?_ ?_) <;> intro F
    ·refine zS λK h=>sp 1 f Z λa f=>zT h (wp_ret (bG (aL (aL (have D:=cB F D;have F:=g _ D;bG (aL ?_))))))
     obtain rfl:=F
     exact have d:=(d.drop k1).drop k0;zO1 Tryz.results44 f Z ⟨Z,d⟩
    ·exact wp_skip (k _ _ (bK (sp 3 f Z λa f=>aN (have d:=d.drop k0;b (W (O + 1)) _ _ (sj F).symm ⟨f.kp Z,d⟩))))
   ·exact wp_exit (aP (aP (have D:=cB F D;cX (X _ _ _ D ⟨f.kp Z,d⟩))))

def tQ (N:Nat) (D:Int) (H:Int) (B:Int):Option (bC (Int × Int × Int) (aE)) :=
 some (.cont (W (D + 1),H,B))
def oW (N:Nat) (c_:cD) (B:Int) (D:Int) (x:Int) (I:Int):Option (bC (Int × Int × Int) (aE)) :=
 cond (decide (D < ((c_.Rides.length:Nat):Int)))
 (Option.bind (aQ c_.Rides D) λH=>
 cond ((decide (H.From≤B)) && (decide (B≤(W ((W (H.From + H.Long)) - 1)))))
 (tQ N D (W (x + H.Weight.Lo)) (W (I + H.Weight.Hi)))
 (tQ N D x I))
 (some (.brk (D,x,I)))
def uI (N:Nat) (c_:cD) (B:Int):Option (aE) :=
 Option.bind (aS (λs5=>oW N c_ B s5.1 s5.2.1 s5.2.2) N (0,c_.Car,c_.Car)) λx5=>
 exK x5 (λs5=>some (⟨s5.2.1,s5.2.2⟩:aE)) some
theorem aAj {D:Option Addr} {H:Nat} (c_:cD) (B:Int) (J:Rd G 4 D H (c_.Rides.map bM)) (d:Ctx G (Lf) w) {Y:aE} (F:uI N c_ B=some Y):Cz G 94 #[.agg #[i6 c_.Car,i6 c_.Wide,i6 c_.Sag,i6 c_.Most,.slice D c_.Rides.length H],i6 B] w (.agg #[i6 Y.Lo,i6 Y.Hi]) (Lf):=by
 refine bY Tryz.func94 Z Tryz.ntmps94 Z λa f=>zS λK h=>zB f d Z λU a w f d=>zA f d aE8 Z λV a w f d=>zT h (zS λK h=>zP f Z (pFA aCn Z) λa f=>zL f d aZ m1 Z λa w f d=>zP f Z (pFA aCn Z) λa f=>zL f d aZ m1 Z λa w f d=>zP f Z (bS (cells:=[i6 c_.Car,i6 c_.Car]) aBn Z Z) λa f=>zA f d aE8 Z λR a w f d=>zW f d uS u0 Z λw d=>zT h ?_)
 refine wp_seq_k λK3 h3=>zS λK h=>sp 1 f Z λa f=>zT h (wp_block (aH F λx5 p F=>?_))
 let S5:(Int × Int × Int)→Act→World→Prop:=(λ(zz:Int × Int × Int) a w=>Has 53 a [(1,i6 B),(2,pq U),(4,pq V),(5,pq R),(6,i6 zz.1)]∧Ctx G (.box R [i6 zz.2.1,i6 zz.2.2] 43::.box V [i6 0,i6 0] 43::.box U [i6 c_.Car,i6 c_.Wide,i6 c_.Sag,i6 c_.Most,.slice D c_.Rides.length H] 104::Lf) w)
 have m:∀ (zz:Int × Int × Int) a w,x5=.go zz→S5 zz a w→K3 a w:=by
  rintro ⟨X,x,O⟩ a w rfl ⟨f,d⟩
  refine have F:=bI F;h3 _ _ (zS λK h=>zN f d rG m0 Z λa w f d=>zW f d uS u1 Z λw d=>zT h (wp_ret ?_))
  obtain rfl:=sj F
  exact have d:=(d.drop k2).drop k0;yY (by simp) Z Tryz.results94 f d (eE (vs:=[i6 x,i6 O]) rG Z Z (bT (n:=2) m0 Z)) ⟨Z,(d.drop k0)⟩
 have t:∀ r,x5=.out r→r=Y:=by
  rintro r rfl
  exact sj F
 refine cF N (cE (S:=S5) (x:=x5) ?_ N (0,c_.Car,c_.Car) _ _ ⟨f.kp Z,d⟩ p)
 clear F f d
 rintro ⟨X,x,O⟩ q a w KB5 ⟨f,d⟩ F M k
 unfold oW at F
 refine wp_seq_k λK7 h7=>zS λK h=>sp 1 f Z λa f=>zP f Z (pFA gZ Z) λa f=>zL f d rZ m2 Z λa w f d=>zP f Z (bA Tryz.underlying102 Z) λa f=>sp 1 f Z λa f=>zT h (zI f Z F ?_ ?_) <;> intro F
 ·refine wp_skip (h7 _ _ (wp_seq_k λK9 h9=>?_))
  have i:∀ (b:Int) (g:Int) a w,Has 53 a [(1,i6 B),(2,pq U),(4,pq V),(5,pq R),(6,i6 X)]→Ctx G (.box R [i6 b,i6 g] 43::.box V [i6 0,i6 0] 43::.box U [i6 c_.Car,i6 c_.Wide,i6 c_.Sag,i6 c_.Most,.slice D c_.Rides.length H] 104::Lf) w→tQ N X b g=some q→K9 a w:=by
   repeat first | clear F | clear d | clear f
   intro b g a w f d F
   unfold tQ at F
   exact h9 _ _ (bK (sp 3 f Z λa f=>aN (k (W (X + 1),b,g) _ _ (sj F).symm ⟨f.kp Z,d⟩)))
  refine wp_block (zS λK h=>zP f Z (pFA gZ Z) λa f=>zL f d rZ m2 Z λa w f d=>sp 1 f Z λa f=>aH F λI j F=>?_)
  obtain ⟨u,o,qa,qp⟩:=J.atm j
  refine zP f Z (pIA Tryz.underlying102 yX Z Z qa) λa f=>zE f d Z (iY (vs:=[i6 I.From,i6 I.Long,i6 I.Weight.Lo,i6 I.Weight.Hi]) aJx Z Z (cY qp (n:=4) (o':=0) Z)) λa w f d=>zA f d aMl Z λs a w f d=>zW f d yX u0 Z λw d=>zT h (zS λK h=>zP f Z (pFA wZ Z) λa f=>zL f d aZ m0 Z λa w f d=>sp 3 f Z λa f=>cV 9 (λa=>Has 53 a [(1,i6 B),(2,pq U),(4,pq V),(5,pq R),(6,i6 X),(7,pq s),(38,.bool ((decide (I.From≤B)) && (decide (B≤(W ((W (I.From + I.Long)) - 1))))))]) d ?_ ?_)
  ·cases hb:(decide (I.From≤B))
   ·rw [hb] at f
    exact sp 9 f Z λa f=>aN ⟨f.kp Z,d⟩
   ·rw [hb] at f
    exact sp 1 f Z λa f=>zP f Z (pFA wZ Z) λa f=>zL f d aZ m0 Z λa w f d=>zP f Z (pFA aE1 Z) λa f=>zL f d aZ m0 Z λa w f d=>sp 4 f Z λa f=>aN ⟨f.kp Z,d⟩
  intro a w ⟨f,d⟩
  refine zT h (zI f Z F ?_ ?_) <;> intro F
  ·refine bK (zP f Z (pFA rC Z) λa f=>zL f d aZ m1 Z λa w f d=>zP f Z (pFA aCc Z) λa f=>zP f Z (pFA rC Z) λa f=>zL f d aZ m0 Z λa w f d=>sp 1 f Z λa f=>zP f Z (pFA kY Z) λa f=>zL f d aZ m1 Z λa w f d=>zP f Z (pFA aCc Z) λa f=>zP f Z (pFA kY Z) λa f=>zL f d aZ m0 Z λa w f d=>sp 1 f Z λa f=>zP f Z (bS (cells:=[i6 (W (x + I.Weight.Lo)),i6 (W (O + I.Weight.Hi))]) aBn Z Z) λa f=>?_)
   exact zW f d uS u1 Z λw d=>aN (have d:=d.drop k0;i (W (x + I.Weight.Lo)) (W (O + I.Weight.Hi)) _ _  (f.kp Z) d F)
  ·exact wp_skip (have d:=d.drop k0;i x O _ _  (f.kp Z) d F)
 ·exact wp_exit (aP (aP (have M:=cB F M;cX (m _ _ _ M ⟨f.kp Z,d⟩))))

def uH (N:Nat) (c_:cD) (B:Int):Option (aE × Int) :=
 Option.bind (kR N c_) λr=>
 cond (r != 0)
 (some ((⟨0,0⟩:aE),r))
 (cond (aK B 0 200000)
 (some ((⟨0,0⟩:aE),4))
 (Option.bind (uI N c_ B) λD=>
 some (D,0)))
theorem aIk {H:Option Addr} {I:Nat} (c_:cD) (B:Int) (D:Rd G 4 H I (c_.Rides.map bM)) (d:Ctx G (Lf) w) {J:aE × Int} (F:uH N c_ B=some J):Cz G 47 #[.agg #[i6 c_.Car,i6 c_.Wide,i6 c_.Sag,i6 c_.Most,.slice H c_.Rides.length I],i6 B] w (.tuple #[.agg #[i6 J.1.Lo,i6 J.1.Hi],i6 J.2]) (Lf):=by
 refine bY Tryz.func47 Z Tryz.ntmps47 Z λa f=>zS λK h=>zB f d Z λR a w f d=>zA f d aE8 Z λS a w f d=>sp 1 f Z λa f=>zT h (wp_seq_k λK2 h2=>zS λK h=>zN f d vK m1 Z λa w f d=>aH F λr hr F=>zQ (v:=i6 r) f d (eN 44) Z (λw d=>pK c_ D d hr) λa w f d=>sp 1 f Z λa f=>zT h (zS λK h=>?_))
 refine sp 2 f Z λa f=>zT h (zI f Z F ?_ ?_) <;> intro F
 ·refine zS λK h=>zP f Z (bS (cells:=[i6 0,i6 0]) aBn Z Z) λa f=>sp 1 f Z λa f=>zW f d uS u0 Z λw d=>sp 1 f Z λa f=>zT h (wp_ret (aL ?_))
  obtain rfl:=sj F
  exact have d:=d.drop k1;xI (by simp) Z Tryz.results47 f d (eE (vs:=[i6 0,i6 0]) rG Z Z (bT (n:=2) m0 Z)) (show kH _ 5=_ from Z) ⟨Z,(d.drop k0)⟩
 ·refine wp_skip (h2 _ _ (wp_seq_k λK6 h6=>zS λK h=>sp 1 f Z λa f=>zQ (v:=.bool (aK B 0 200000)) f d (eN 69) Z (λw d=>cM B 0 200000 d Z) λa w f d=>zT h (zI f Z F ?_ ?_))) <;> intro F
  ·refine zS λK h=>zP f Z (bS (cells:=[i6 0,i6 0]) aBn Z Z) λa f=>zW f d uS u0 Z λw d=>sp 1 f Z λa f=>zT h (wp_ret (aL ?_))
   obtain rfl:=sj F
   exact have d:=d.drop k1;xI (by simp) Z Tryz.results47 f d (eE (vs:=[i6 0,i6 0]) rG Z Z (bT (n:=2) m0 Z)) (show kH _ 5=_ from Z) ⟨Z,(d.drop k0)⟩
  ·refine wp_skip (h6 _ _ (zS λK h=>zN f d vK m1 Z λa w f d=>sp 1 f Z λa f=>aH F λM O F=>zQ (v:=.agg #[i6 M.Lo,i6 M.Hi]) f d (eN 94) Z (λw d=>aAj c_ B D d O) λa w f d=>zW f d uS u0 Z λw d=>sp 1 f Z λa f=>zT h (wp_ret ?_)))
   obtain rfl:=sj F
   exact have d:=d.drop k1;xI (by simp) Z Tryz.results47 f d (eE (vs:=[i6 M.Lo,i6 M.Hi]) rG Z Z (bT (n:=2) m0 Z)) (show kH _ 5=_ from Z) ⟨Z,(d.drop k0)⟩

def dV (c_:cD) (B:Int):Bool :=
 (decide ((W (c_.Sag * c_.Most)) < (W ((W (25 * c_.Wide)) * B))))
theorem rO {B:Option Addr} {D:Nat} (c_:cD) (H:Int) (I:Rd G 4 B D (c_.Rides.map bM)) (d:Ctx G (Lf) w) {J:Bool} (F:dV c_ H=J):Cz G 100 #[.agg #[i6 c_.Car,i6 c_.Wide,i6 c_.Sag,i6 c_.Most,.slice B c_.Rides.length D],i6 H] w (.bool J) (Lf):=by
 refine bY Tryz.func100 Z Tryz.ntmps100 Z λa f=>zS λK h=>zB f d Z λM a w f d=>sp 1 f Z λa f=>zT h (zS λK h=>zP f Z (pFA aKm Z) λa f=>zL f d aZ m0 Z λa w f d=>sp 3 f Z λa f=>zP f Z (pFA aK8 Z) λa f=>zL f d aZ m0 Z λa w f d=>zP f Z (pFA aKs Z) λa f=>zL f d aZ m0 Z λa w f d=>sp 3 f Z λa f=>?_)
 refine zT h (wp_ret ?_)
 obtain rfl:=F
 exact have d:=d.drop k0;zO1 Tryz.results100 f Z ⟨Z,d⟩

def qB (N:Nat) (H:Int) (D:Int) (B:Int):Option (bC (Int × Int × Int) (Int × Int × Int)) :=
 some (.cont (D,B,W (H + 1)))
def pO (N:Nat) (c_:cD) (B:Int) (I:Int) (D:Int) (J:aE) (H:Int):Option (bC (Int × Int × Int) (Int × Int × Int)) :=
 cond ((dV c_ J.Lo) && ((B == (-1)) || (decide (D < B))))
 (qB N I H D)
 (qB N I H B)
def kQ (N:Nat) (c_:cD) (I:Int) (D:Int) (J:Int) (B:Int):Option (bC (Int × Int × Int) (Int × Int × Int)) :=
 Option.bind (uI N c_ B) λH=>
 cond ((dV c_ H.Hi) && ((I == (-1)) || (decide (B < I))))
 (pO N c_ D J B H B)
 (pO N c_ D J B H I)
def hQ (N:Nat) (c_:cD) (H:Int) (B:Int) (D:Int):Option (bC (Int × Int × Int) (Int × Int × Int)) :=
 cond (decide (D < ((c_.Rides.length:Nat):Int)))
 (cond (decide (0≤D))
 (Option.bind (aQ c_.Rides D) λI=>
 kQ N c_ H B D I.From)
 (kQ N c_ H B D 0))
 (some (.brk (H,B,D)))
def tA (N:Nat) (c_:cD):Option (Int × Int × Int) :=
 Option.bind (kR N c_) λr=>
 cond (r != 0)
 (some (0,0,r))
 (Option.bind (aS (λs9=>hQ N c_ s9.1 s9.2.1 s9.2.2) N ((-1),(-1),(-1))) λx9=>
 exK x9 (λs9=>some (s9.1,s9.2.1,0)) some)
theorem aGd {H:Option Addr} {I:Nat} (c_:cD) (J:Rd G 4 H I (c_.Rides.map bM)) (d:Ctx G (Lf) w) {g:Int × Int × Int} (F:tA N c_=some g):Cz G 49 #[.agg #[i6 c_.Car,i6 c_.Wide,i6 c_.Sag,i6 c_.Most,.slice H c_.Rides.length I]] w (.tuple #[i6 g.1,i6 g.2.1,i6 g.2.2]) (Lf):=by
 refine bY Tryz.func49 Z Tryz.ntmps49 Z λa f=>zS λK h=>zB f d Z λV a w f d=>sp 3 f Z λa f=>zT h (wp_seq_k λK2 h2=>zS λK h=>zN f d vK m0 Z λa w f d=>aH F λr hr F=>zQ (v:=i6 r) f d (eN 44) Z (λw d=>pK c_ J d hr) λa w f d=>sp 1 f Z λa f=>zT h (zS λK h=>sp 2 f Z λa f=>?_))
 refine zT h (zI f Z F ?_ ?_) <;> intro F
 ·refine zS λK h=>sp 4 f Z λa f=>zT h (wp_ret (aL ?_))
  obtain rfl:=sj F
  exact have d:=d.drop k0;zO3 Tryz.results49 f Z Z Z ⟨Z,d⟩
 ·refine wp_skip (h2 _ _ (zS λK h=>sp 2 f Z λa f=>zT h (wp_seq_k λK7 h7=>zS λK h=>sp 1 f Z λa f=>zT h (wp_block (aH F λx9 u F=>?_)))))
  let S9:(Int × Int × Int)→Act→World→Prop:=(λ(zz:Int × Int × Int) a w=>Has 64 a [(1,pq V),(6,i6 zz.1),(7,i6 zz.2.1),(8,i6 zz.2.2)]∧Ctx G (.box V [i6 c_.Car,i6 c_.Wide,i6 c_.Sag,i6 c_.Most,.slice H c_.Rides.length I] 104::Lf) w)
  have ad:∀ (zz:Int × Int × Int) a w,x9=.go zz→S9 zz a w→K7 a w:=by
   rintro ⟨X,D,U⟩ a w rfl ⟨f,d⟩
   refine have F:=bI F;h7 _ _ (zS λK h=>sp 5 f Z λa f=>zT h (wp_ret ?_))
   obtain rfl:=sj F
   exact have d:=d.drop k0;zO3 Tryz.results49 f Z Z Z ⟨Z,d⟩
  have af:∀ r,x9=.out r→r=g:=by
   rintro r rfl
   exact sj F
  refine cF N (cE (S:=S9) (x:=x9) ?_ N ((-1),(-1),(-1)) _ _ ⟨f.kp Z,d⟩ u)
  clear F f d
  rintro ⟨X,D,U⟩ m a w KB9 ⟨f,d⟩ F b z
  unfold hQ at F
  refine wp_seq_k λK11 y=>zS λK h=>sp 1 f Z λa f=>zP f Z (pFA gZ Z) λa f=>zL f d rZ m0 Z λa w f d=>zP f Z (bA Tryz.underlying102 Z) λa f=>sp 1 f Z λa f=>zT h (zI f Z F ?_ ?_) <;> intro F
  ·refine wp_skip (y _ _ (wp_seq_k λK13 t=>?_))
   have n:∀ (Y:Int) (R:Int) a w,Has 64 a [(1,pq V),(6,i6 Y),(7,i6 R),(8,i6 U)]→Ctx G (.box V [i6 c_.Car,i6 c_.Wide,i6 c_.Sag,i6 c_.Most,.slice H c_.Rides.length I] 104::Lf) w→qB N U Y R=some m→K13 a w:=by
    repeat first | clear F | clear d | clear f
    intro Y R a w f d F
    unfold qB at F
    exact t _ _ (bK (sp 3 f Z λa f=>aN (z (Y,R,W (U + 1)) _ _ (sj F).symm ⟨f.kp Z,d⟩)))
   refine wp_block (zS λK h=>sp 1 f Z λa f=>zT h (wp_seq_k λK15 ab=>?_))
   have k:∀ (B:Int) a w,Has 64 a [(1,pq V),(6,i6 X),(7,i6 D),(8,i6 U),(9,i6 B)]→Ctx G (.box V [i6 c_.Car,i6 c_.Wide,i6 c_.Sag,i6 c_.Most,.slice H c_.Rides.length I] 104::Lf) w→kQ N c_ X D U B=some m→K15 a w:=by
    repeat first | clear F | clear d | clear f
    intro B a w f d F
    unfold kQ at F
    refine ab _ _ (zS λK h=>zN f d vK m0 Z λa w f d=>sp 1 f Z λa f=>aH F λM s F=>zQ (v:=.agg #[i6 M.Lo,i6 M.Hi]) f d (eN 94) Z (λw d=>aAj c_ B J d s) λa w f d=>zA f d aE8 Z λi a w f d=>zW f d uS u0 Z λw d=>zT h (wp_seq_k λK17 ac=>?_))
    have p:∀ (O:Int) a w,Has 64 a [(1,pq V),(6,i6 O),(7,i6 D),(8,i6 U),(9,i6 B),(10,pq i)]→Ctx G (.box i [i6 M.Lo,i6 M.Hi] 43::.box V [i6 c_.Car,i6 c_.Wide,i6 c_.Sag,i6 c_.Most,.slice H c_.Rides.length I] 104::Lf) w→pO N c_ D U B M O=some m→K17 a w:=by
     repeat first | clear F | clear d | clear f
     intro O a w f d F
     unfold pO at F
     refine ac _ _ (zS λK h=>zN f d vK m1 Z λa w f d=>zP f Z (pFA rC Z) λa f=>zL f d aZ m0 Z λa w f d=>zQ (v:=.bool (dV c_ M.Lo)) f d (eN 100) Z (λw d=>rO c_ M.Lo J d Z) λa w f d=>sp 1 f Z λa f=>cV 8 (λa=>Has 64 a [(1,pq V),(6,i6 O),(7,i6 D),(8,i6 U),(9,i6 B),(60,.bool ((dV c_ M.Lo) && ((D == (-1)) || (decide (B < D)))))]) d ?_ ?_)
     ·cases hb:(dV c_ M.Lo)
      ·rw [hb] at f
       exact sp 8 f Z λa f=>aN ⟨f.kp Z,d⟩
      ·rw [hb] at f
       refine sp 3 f Z λa f=>cV 4 (λa=>Has 64 a [(1,pq V),(6,i6 O),(7,i6 D),(8,i6 U),(9,i6 B),(52,.bool true),(59,.bool ((D == (-1)) || (decide (B < D))))]) d ?_ ?_
       ·cases hb:(D == (-1)) <;> (rw [hb] at f;exact sp 4 f Z λa f=>aN ⟨f.kp Z,d⟩)
       intro a w ⟨f,d⟩
       exact sp 1 f Z λa f=>aN ⟨f.kp Z,d⟩
     intro a w ⟨f,d⟩
     refine zT h (zI f Z F ?_ ?_) <;> intro F
     ·exact bK (sp 2 f Z λa f=>aN (have d:=d.drop k0;n O B _ _  (f.kp Z) d F))
     ·exact wp_skip (have d:=d.drop k0;n O D _ _  (f.kp Z) d F)
    refine zS λK h=>zN f d vK m1 Z λa w f d=>zP f Z (pFA kY Z) λa f=>zL f d aZ m0 Z λa w f d=>zQ (v:=.bool (dV c_ M.Hi)) f d (eN 100) Z (λw d=>rO c_ M.Hi J d Z) λa w f d=>sp 1 f Z λa f=>cV 8 (λa=>Has 64 a [(1,pq V),(6,i6 X),(7,i6 D),(8,i6 U),(9,i6 B),(10,pq i),(46,.bool ((dV c_ M.Hi) && ((X == (-1)) || (decide (B < X)))))]) d ?_ ?_
    ·cases hb:(dV c_ M.Hi)
     ·rw [hb] at f
      exact sp 8 f Z λa f=>aN ⟨f.kp Z,d⟩
     ·rw [hb] at f
      refine sp 3 f Z λa f=>cV 4 (λa=>Has 64 a [(1,pq V),(6,i6 X),(7,i6 D),(8,i6 U),(9,i6 B),(10,pq i),(38,.bool true),(45,.bool ((X == (-1)) || (decide (B < X))))]) d ?_ ?_
      ·cases hb:(X == (-1)) <;> (rw [hb] at f;exact sp 4 f Z λa f=>aN ⟨f.kp Z,d⟩)
      intro a w ⟨f,d⟩
      exact sp 1 f Z λa f=>aN ⟨f.kp Z,d⟩
    intro a w ⟨f,d⟩
    refine zT h (zI f Z F ?_ ?_) <;> intro F
    ·exact bK (sp 2 f Z λa f=>aN (p B _ _  (f.kp Z) d F))
    ·exact wp_skip (p X _ _  (f.kp Z) d F)
   refine zS λK h=>sp 2 f Z λa f=>zT h (zI f Z F ?_ ?_) <;> intro F
   ·refine bK (zP f Z (pFA gZ Z) λa f=>zL f d rZ m0 Z λa w f d=>sp 1 f Z λa f=>aH F λaa q F=>?_)
    obtain ⟨ag,o,qa,qp⟩:=J.atm q
    exact zP f Z (pIA Tryz.underlying102 yX Z Z qa) λa f=>zP f Z (pFA wZ Z) λa f=>zE f d Z (bB aZ Z (aV (j:=0) qp Z)) λa w f d=>sp 1 f Z λa f=>aN (k aa.From _ _  (f.kp Z) d F)
   ·exact wp_skip (k 0 _ _  (f.kp Z) d F)
  ·exact wp_exit (aP (aP (have b:=cB F b;cX (ad _ _ _ b ⟨f.kp Z,d⟩))))

def oE (N:Nat) (k:Int) (B:Int):Option (bC (Int × Int) (bC ((List Int) × Int × (List aY)) ((List Int) × Int))) :=
 some (.cont (B,W (k + 1)))
def rN (N:Nat) (D:Int) (B:Bool):Option (bC (Bool × Int) (bC (Int × Int) (bC ((List Int) × Int × (List aY)) ((List Int) × Int)))) :=
 some (.cont (B,W (D + 1)))
def oH (N:Nat) (c_:cD) (x:List aY) (H:aY) (at_:Int) (I:Bool) (D:Int) (B:Int):Option (bC (Bool × Int) (bC (Int × Int) (bC ((List Int) × Int × (List aY)) ((List Int) × Int)))) :=
 Option.bind (cond ((decide (at_≤B)) && (decide (B < (W (at_ + H.Long))))) (Option.bind (uI N (⟨c_.Car,c_.Wide,c_.Sag,c_.Most,x⟩:cD) B) λM=>
 some (dV c_ (W (M.Hi + H.Weight.Hi)))) (some false)) λJ=>
 cond J
 (rN N D false)
 (rN N D I)
def jP (N:Nat) (c_:cD) (x:List aY) (H:aY) (at_:Int) (D:Bool) (B:Int):Option (bC (Bool × Int) (bC (Int × Int) (bC ((List Int) × Int × (List aY)) ((List Int) × Int)))) :=
 cond (decide (B < ((x.length:Nat):Int)))
 (cond (decide (0≤B))
 (Option.bind (aQ x B) λI=>
 oH N c_ x H at_ D B I.From)
 (oH N c_ x H at_ D B at_))
 (some (.brk (D,B)))
def mL (N:Nat) (c_:cD) (x:List aY) (I:aY) (first:Int) (B:Int) (k:Int) (at_:Int):Option (bC (Int × Int) (bC ((List Int) × Int × (List aY)) ((List Int) × Int))) :=
 cond ((decide (at_ < first)) || ((B != (-1)) && (decide (B≤at_))))
 (oE N k B)
 (Option.bind (aS (λD=>jP N c_ x I at_ D.1 D.2) N (true,(-1))) λH=>
 exK H (λD=>cond D.1
 (oE N k at_)
 (oE N k B)) some)
def gH (N:Nat) (c_:cD) (x:List aY) (D:aY) (first:Int) (B:Int) (k:Int):Option (bC (Int × Int) (bC ((List Int) × Int × (List aY)) ((List Int) × Int))) :=
 cond (decide (k < ((x.length:Nat):Int)))
 (cond (decide (0≤k))
 (Option.bind (aQ x k) λH=>
 Option.bind (aQ x k) λI=>
 mL N c_ x D first B k (W (H.From + I.Long)))
 (mL N c_ x D first B k first))
 (some (.brk (B,k)))
def oI (N:Nat) (c_:cD) (out:List Int) (I:Int) (x:List aY) (D:aY) (first:Int):Option (bC ((List Int) × Int × (List aY)) ((List Int) × Int)) :=
 Option.bind (aS (λB=>gH N c_ x D first B.1 B.2) N ((-1),(-1))) λH=>
 exK H (λB=>Option.bind (room (x).length) λun=>
 Option.bind (room ((x++[(⟨B.1,D.Long,D.Weight⟩:aY)])).length) λM=>
 Option.bind (room ((out++[B.1])).length) λJ=>
 some (.cont ((out++[B.1]),W (I + 1),(x++[(⟨B.1,D.Long,D.Weight⟩:aY)])))) some
def mC (N:Nat) (c_:cD) (out:List Int) (B:Int) (x:List aY):Option (bC ((List Int) × Int × (List aY)) ((List Int) × Int)) :=
 cond (decide (B < ((c_.Rides.length:Nat):Int)))
 (Option.bind (aQ c_.Rides B) λD=>
 Option.bind (cond (decide (0 < B)) (Option.bind (aQ out (W (B - 1))) λH=>
 some (decide (D.From < H))) (some false)) λJ=>
 cond J
 (Option.bind (aQ out (W (B - 1))) λI=>
 oI N c_ out B x D I)
 (oI N c_ out B x D D.From))
 (some (.brk (out,B,x)))
def mF (N:Nat) (c_:cD) (B:Int):Option (bC (Int) ((List Int) × Int)) :=
 cond (decide (B < ((c_.Rides.length:Nat):Int)))
 (Option.bind (aQ c_.Rides B) λD=>
 cond (dV c_ (W (c_.Car + D.Weight.Hi)))
 (some (.ret (([]:List Int),6)))
 (some (.cont (W (B + 1)))))
 (some (.brk B))
def uU (N:Nat) (c_:cD):Option ((List Int) × Int) :=
 Option.bind (kR N c_) λr=>
 cond (r != 0)
 (some (([]:List Int),r))
 (cond (dV c_ c_.Car)
 (some (([]:List Int),6))
 (Option.bind (aS (λD=>mF N c_ D) N 0) λH=>
 exK H (λD=>Option.bind (aS (λB=>mC N c_ B.1 B.2.1 B.2.2) N (([]:List Int),0,([]:List aY))) λI=>
 exK I (λB=>some (B.1,0)) some) some))
theorem aHa {H:Option Addr} {D:Nat} (c_:cD) (V:Rd G 4 H D (c_.Rides.map bM)) (d:Ctx G (Lf) w) {az:(List Int) × Int} (F:uU N c_=some az):Calls Tryz.prog 51 #[.agg #[i6 c_.Car,i6 c_.Wide,i6 c_.Sag,i6 c_.Most,.slice H c_.Rides.length D]] w (λe w=>∃ (bt:Option Addr) (bu:Nat),e=.returned (.tuple #[.slice bt az.1.length bu,i6 az.2])∧Ctx G (.row bt bu (az.1.map aF) 3 1::Lf) w):=by
 refine bY Tryz.func51 Z Tryz.ntmps51 Z λa f=>zS λK h=>zB f d Z λO a w f d=>sp 2 f Z λa f=>zT h (wp_seq_k λK2 h2=>zS λK h=>zN f d vK m0 Z λa w f d=>aH F λr hr F=>zQ (v:=i6 r) f d (eN 44) Z (λw d=>pK c_ V d hr) λa w f d=>sp 1 f Z λa f=>zT h (zS λK h=>sp 2 f Z λa f=>?_))
 refine zT h (zI f Z F ?_ ?_) <;> intro F
 ·refine zS λK h=>sp 3 f Z λa f=>zT h (wp_ret (aL ?_))
  obtain rfl:=sj F
  exact have d:=d.nilRow 3 1;have d:=d.drop k1;zO2 Tryz.results51 f Z Z ⟨none,0,Z,d⟩
 ·refine wp_skip (h2 _ _ (wp_seq_k λK6 h6=>zS λK h=>zN f d vK m0 Z λa w f d=>zP f Z (pFA aCn Z) λa f=>zL f d aZ m0 Z λa w f d=>zQ (v:=.bool (dV c_ c_.Car)) f d (eN 100) Z (λw d=>rO c_ c_.Car V d Z) λa w f d=>zT h (zI f Z F ?_ ?_))) <;> intro F
  ·refine zS λK h=>sp 2 f Z λa f=>zT h (wp_ret (aL ?_))
   obtain rfl:=sj F
   exact have d:=d.nilRow 3 1;have d:=d.drop k1;zO2 Tryz.results51 f Z Z ⟨none,0,Z,d⟩
  ·refine wp_skip (h6 _ _ (wp_seq_k λK9 h9=>zS λK h=>sp 1 f Z λa f=>zT h (wp_block (aH F λbg cz F=>?_))))
   let S11:Int→Act→World→Prop:=(λ(zz:Int) a w=>Has 168 a [(1,pq O),(5,i6 zz)]∧Ctx G (.box O [i6 c_.Car,i6 c_.Wide,i6 c_.Sag,i6 c_.Most,.slice H c_.Rides.length D] 104::Lf) w)
   have cx:∀ (zz:Int) a w,bg=.go zz→S11 zz a w→K9 a w:=by
    rintro bv a w rfl ⟨f,d⟩
    refine have F:=bI F;h9 _ _ (zS λK h=>zN f d vK m0 Z λa w f d=>zA f d aMp Z λM a w f d=>zW f d aLu u0 Z λw d=>zT h (zS λK h=>zP f Z (pFA gZ Z) λa f=>zW f d aMj u0 Z λw d=>zT h (zS λK h=>sp 1 f Z λa f=>zT h ?_)))
    refine wp_seq_k λK15 dn=>zS λK h=>sp 1 f Z λa f=>zT h (wp_block (aH F λbf b5 F=>?_))
    let S17:((List Int) × Int × (List aY))→Act→World→Prop:=(λ(zz:(List Int) × Int × (List aY)) a w=>∃ (am:Option Addr) (ac:Nat) (ak:Option Addr) (aj:Nat),Has 168 a [(1,pq O),(6,pq M),(7,.slice am zz.1.length ac),(8,i6 zz.2.1)]∧Ctx G (.row ak aj (zz.2.2.map bM) 156 4::.row am ac (zz.1.map aF) 3 1::.box M [i6 c_.Car,i6 c_.Wide,i6 c_.Sag,i6 c_.Most,.slice ak zz.2.2.length aj] 104::.box O [i6 c_.Car,i6 c_.Wide,i6 c_.Sag,i6 c_.Most,.slice H c_.Rides.length D] 104::Lf) w)
    have bz:∀ (zz:(List Int) × Int × (List aY)) a w,bf=.go zz→S17 zz a w→K15 a w:=by
     rintro ⟨out,Y,x⟩ a w rfl ⟨am,ac,ak,aj,f,d⟩
     refine have F:=bI F;dn _ _ (zS λK h=>sp 3 f Z λa f=>zT h (wp_ret ?_))
     obtain rfl:=sj F
     exact have d:=((d.drop k3).drop k2).drop k0;zO2 Tryz.results51 f Z Z ⟨am,ac,Z,d⟩
    have d7:∀ r,bf=.out r→r=az:=by
     rintro r rfl
     exact sj F
    refine have d:=d.nilRow 3 1;have d:=d.nilRow 156 4;cF N (cE (S:=S17) (x:=bf) ?_ N (([]:List Int),0,([]:List aY)) _ _ ⟨none,0,none,0,f.kp Z,d⟩ b5)
    clear F f d
    rintro ⟨out,Y,x⟩ bc a w KB17 ⟨am,ac,ak,aj,f,d⟩ F ar ct
    unfold mC at F
    refine wp_seq_k λK19 da=>zS λK h=>sp 1 f Z λa f=>zP f Z (pFA gZ Z) λa f=>zL f d rZ m3 Z λa w f d=>zP f Z (bA Tryz.underlying102 Z) λa f=>sp 1 f Z λa f=>zT h (zI f Z F ?_ ?_) <;> intro F
    ·refine wp_skip (da _ _ (wp_seq_k λK21 c8=>wp_block (zS λK h=>zP f Z (pFA gZ Z) λa f=>zL f d rZ m3 Z λa w f d=>sp 1 f Z λa f=>aH F λB ci F=>?_)))
     obtain ⟨gg,o,qa,qp⟩:=V.atm ci
     refine zP f Z (pIA Tryz.underlying102 yX Z Z qa) λa f=>zE f d Z (iY (vs:=[i6 B.From,i6 B.Long,i6 B.Weight.Lo,i6 B.Weight.Hi]) aJx Z Z (cY qp (n:=4) (o':=0) Z)) λa w f d=>zA f d aMl Z λX a w f d=>zW f d yX u0 Z λw d=>zT h (zS λK h=>zP f Z (pFA wZ Z) λa f=>zL f d aZ m0 Z λa w f d=>sp 1 f Z λa f=>zT h (wp_seq_k λK24 c6=>?_))
     have bn:∀ (first:Int) (U:Option Addr) (R:Nat) a w,Has 168 a [(1,pq O),(6,pq M),(7,.slice U out.length R),(8,i6 Y),(9,pq X),(10,i6 first)]→Ctx G (.box X [i6 B.From,i6 B.Long,i6 B.Weight.Lo,i6 B.Weight.Hi] 156::.row ak aj (x.map bM) 156 4::.row U R (out.map aF) 3 1::.box M [i6 c_.Car,i6 c_.Wide,i6 c_.Sag,i6 c_.Most,.slice ak x.length aj] 104::.box O [i6 c_.Car,i6 c_.Wide,i6 c_.Sag,i6 c_.Most,.slice H c_.Rides.length D] 104::Lf) w→oI N c_ out Y x B first=some bc→K24 a w:=by
      repeat first | clear F | clear d | clear f
      intro first U R a w f d F
      unfold oI at F
      refine c6 _ _ (zS λK h=>sp 1 f Z λa f=>zT h (wp_seq_k λK26 dm=>zS λK h=>sp 1 f Z λa f=>zT h (wp_block (aH F λbi b3 F=>?_))))
      let S28:(Int × Int)→Act→World→Prop:=(λ(zz:Int × Int) a w=>∃ (z:Option Addr) (s:Nat),Has 168 a [(1,pq O),(6,pq M),(7,.slice U out.length R),(8,i6 Y),(9,pq X),(10,i6 first),(11,i6 zz.1),(12,i6 zz.2)]∧Ctx G (.box X [i6 B.From,i6 B.Long,i6 B.Weight.Lo,i6 B.Weight.Hi] 156::.row z s (x.map bM) 156 4::.row U R (out.map aF) 3 1::.box M [i6 c_.Car,i6 c_.Wide,i6 c_.Sag,i6 c_.Most,.slice z x.length s] 104::.box O [i6 c_.Car,i6 c_.Wide,i6 c_.Sag,i6 c_.Most,.slice H c_.Rides.length D] 104::Lf) w)
      have b1:∀ (zz:Int × Int) a w,bi=.go zz→S28 zz a w→K26 a w:=by
       rintro ⟨I,k⟩ a w rfl ⟨z,s,f,d⟩
       refine have F:=bI F;dm _ _ (zS λK h=>sp 1 f Z λa f=>zP f Z (pFA wZ Z) λa f=>zW f d cS u0 Z λw d=>zT h (wp_seq_k λK30 c2=>aH F λun dd F=>aH F λd8 br F=>have d:=d.nilRow 0 0;have d:=d.nilRow 0 0;jV (λθ=>[f0 1 (pq O),f0 6 (pq M),f0 7 (.slice U out.length R),f0 8 (i6 Y),f0 9 (pq X),f0 11 (i6 I),f1 0 155 (.slice (some ⟨(θ 0).b,0,none⟩) 0 0),f1 1 156 (.pointer (some ⟨M,4,none⟩)),f1 2 157 (.slice z x.length s),f1 3 158 (.slice ((θ 24).p) x.length ((θ 24).c)),f1 4 159 (.agg #[i6 I,i6 B.Long,i6 B.Weight.Lo,i6 B.Weight.Hi]),f1 5 160 (.slice (some ⟨(θ 40).b,0,none⟩) 1 1),f1 6 161 (.slice ((θ 48).p) ((x++[(⟨I,B.Long,B.Weight⟩:aY)]).length) ((θ 48).c)),f1 7 162 (.pointer (some ⟨M,4,none⟩))]) (λE θ=>(bif E 5 then .row (some ⟨(θ 40).b,0,none⟩) 1 (([(⟨I,B.Long,B.Weight⟩:aY)]:List aY).map bM) 156 4 else .row none 0 [] 0 0)::(bif E 6 then .row ((θ 48).p) ((θ 48).c) ((x++[(⟨I,B.Long,B.Weight⟩:aY)]).map bM) 156 4 else bif E 3 then .row ((θ 24).p) ((θ 24).c) (x.map bM) 156 4 else bif E 0 then .row (some ⟨(θ 0).b,0,none⟩) 0 (([]:List aY).map bM) 156 4 else .row none 0 [] 0 0)::.box X [i6 I,i6 B.Long,i6 B.Weight.Lo,i6 B.Weight.Hi] 156::.row z s (x.map bM) 156 4::.row U R (out.map aF) 3 1::(bif E 8 then .box M [i6 c_.Car,i6 c_.Wide,i6 c_.Sag,i6 c_.Most,.slice ((θ 48).p) ((x++[(⟨I,B.Long,B.Weight⟩:aY)]).length) ((θ 48).c)] 104 else .box M [i6 c_.Car,i6 c_.Wide,i6 c_.Sag,i6 c_.Most,.slice z x.length s] 104)::.box O [i6 c_.Car,i6 c_.Wide,i6 c_.Sag,i6 c_.Most,.slice H c_.Rides.length D] 104::Lf) [(3,0),(6,3),(8,2),(8,6)] (λa w=>∃ (bs:Nat) (a6:Option Addr) (a8:Nat),Has 168 a [(1,pq O),(6,pq M),(7,.slice U out.length R),(8,i6 Y),(11,i6 I)]∧Ctx G (.row (sa bs) 1 (([(⟨I,B.Long,B.Weight⟩:aY)]:List aY).map bM) 156 4::.row a6 a8 ((x++[(⟨I,B.Long,B.Weight⟩:aY)]).map bM) 156 4::.box X [i6 I,i6 B.Long,i6 B.Weight.Lo,i6 B.Weight.Hi] 156::.row z s (x.map bM) 156 4::.row U R (out.map aF) 3 1::.box M [i6 c_.Car,i6 c_.Wide,i6 c_.Sag,i6 c_.Most,.slice a6 ((x++[(⟨I,B.Long,B.Weight⟩:aY)]).length) a8] 104::.box O [i6 c_.Car,i6 c_.Wide,i6 c_.Sag,i6 c_.Most,.slice H c_.Rides.length D] 104::Lf) w) aU (by kernel_rfl) (by kernel_rfl) (iW.of f ⟨Z,Z,Z,Z,Z,Z,trivial,trivial,trivial,trivial,trivial,trivial,trivial,trivial,trivial⟩) d ⟨?_,?_,?_,?_,?_,?_,?_,?_,?_,trivial⟩ ?_ ?_))
       ·refine λE θ a w hD hi hp he d=>have e3:=hD.f 0 Z hi;have e6:=hD.f 1 Z e3;?_
        try dsimp only at d
        rw [hi,e3,e6] at d
        refine have f:=he.h0;gN (rows:=([]:List aY).map bM) (vs:=[]) f d Z Z aFq Z trivial Z Z λdi a w f d=>aN (eS (λds u ax=>have d:=((d.drop k2).pick k0).pick k1;?_))
        refine ⟨(qR θ 0 ⟨di,none,0,(λ_=>(none,0))⟩),he.put hi ax f Z [] trivial ⟨qq,qq,qq,qq,qq,qq,qq,qq,qq,qq,qq,qq,qq,qq,trivial⟩,?_⟩
        try dsimp only
        rw [bE E 0,cR 0 e3 Z,cR 0 e6 Z]
        exact d
       ·exact λE θ a w hD hi hp he d=>have f:=he.h0.mT he 1 Z;zP f Z (pFA gZ Z) λa f=>zD θ he hi f 7 Z Z Z d
       ·refine λE θ a w hD hi hp he d=>have e1:=hp.o 1 Z;have e8:=hD.f 2 Z hi;?_
        try dsimp only at d
        rw [e8] at d
        refine have f:=he.h0.mP he 7 Z e1;zL f d rZ m5 Z λa w f d=>zD θ he hi f 8 Z Z Z ?_
        try dsimp only
        rw [cR 2 e8 Z]
        exact d
       ·refine λE θ a w hD hi hp he d=>have e0:=hp.o 0 Z;have e2:=hp.o 2 Z;have e6:=hD.f 1 Z hi;?_
        try dsimp only at d
        rw [e0,hi,e6] at d
        refine have f:=(he.h0.mP he 6 Z e0).mP he 8 Z e2;mV (xs:=([]:List aY)) (ys:=x) f d Z Z aFq Z Z Z Z Z uD (gL d m3) (λ_ _=>u1) (by simpa using cZ dd) λdb dy a w f d=>aN (eS (λds u ax=>?_))
        refine ⟨(qR θ 24 ⟨0,db,dy,(λ_=>(none,0))⟩),he.put hi ax f Z [] trivial ⟨qq,qq,qq,qq,qq,qq,qq,qq,qq,qq,qq,qq,qq,qq,trivial⟩,?_⟩
        try dsimp only
        rw [eD 3 e0,bE E 3,cR 3 e6 Z]
        exact d
       ·exact λE θ a w hD hi hp he d=>have f:=he.h0.mT he 4 Z;zN f d aJx m2 Z λa w f d=>zD θ he hi f 10 Z Z Z d
       ·refine λE θ a w hD hi hp he d=>have e4:=hp.o 4 Z;?_
        try dsimp only at d
        rw [hi] at d
        refine have f:=he.h0.mP he 10 Z e4;gN (rows:=([(⟨I,B.Long,B.Weight⟩:aY)]:List aY).map bM) (vs:=[(0,.agg #[i6 I,i6 B.Long,i6 B.Weight.Lo,i6 B.Weight.Hi])]) f d Z Z aFq Z ⟨Z,Z,Z,trivial⟩ Z Z λc5 a w f d=>aN (eS (λds u ax=>have d:=d.drop k1;?_))
        refine ⟨(qR θ 40 ⟨c5,none,0,(λ_=>(none,0))⟩),he.put hi ax f Z [] trivial ⟨qq,qq,qq,qq,qq,qq,qq,qq,qq,qq,qq,qq,qq,qq,trivial⟩,?_⟩
        try dsimp only
        rw [bE E 5]
        exact d
       ·refine λE θ a w hD hi hp he d=>have e3:=hp.o 3 Z;have e5:=hp.o 5 Z;have e0:=hD.t 0 Z e3;have e8:=hD.f 3 Z hi;?_
        try dsimp only at d
        rw [e5,e0,e3,hi,e8] at d
        refine have f:=(he.h0.mP he 9 Z e3).mP he 11 Z e5;mV (xs:=x) (ys:=([(⟨I,B.Long,B.Weight⟩:aY)]:List aY)) f d Z Z aFq Z Z Z Z Z uD (gL d m0) (λ_ _=>u1) (by simpa using cZ br) λd3 dc a w f d=>aN (eS (λds u ax=>?_))
        refine ⟨(qR θ 48 ⟨0,d3,dc,(λ_=>(none,0))⟩),he.put hi ax f Z [] trivial ⟨qq,qq,qq,qq,qq,qq,qq,qq,qq,qq,qq,qq,qq,qq,trivial⟩,?_⟩
        try dsimp only
        rw [eD 6 e5,eD 6 e0,eD 6 e3,bE E 6,cR 6 e8 Z]
        exact d
       ·exact λE θ a w hD hi hp he d=>have f:=he.h0.mT he 1 Z;zP f Z (pFA gZ Z) λa f=>zD θ he hi f 13 Z Z Z d
       ·refine λE θ a w hD hi hp he d=>have e6:=hp.o 6 Z;have e7:=hp.o 7 Z;?_
        try dsimp only at d
        rw [hi] at d
        refine have f:=(he.h0.mP he 12 Z e6).mP he 13 Z e7;zW f d aMj u5 Z λw d=>zG θ he hi f Z ?_
        try dsimp only
        rw [bE E 8]
        exact d
       ·refine λE θ a w ap he d=>have f:=he.h0;have e0:=ap 0 Z;have e3:=ap 3 Z;have e5:=ap 5 Z;have e6:=ap 6 Z;have e8:=ap 8 Z;have f:=f.more he 5 Z (onT);have f:=f.more he 3 Z (onT);have f:=f.more he 2 Z (onT);have f:=f.more he 1 Z (onT);have f:=f.more he 0 Z (onT);?_
        try dsimp only at d
        rw [e0,e3,e5,e6,e8] at d
        exact ⟨(θ 40).b,(θ 48).p,(θ 48).c,f.kp Z,d⟩
       rintro a w ⟨bs,a6,a8,f,d⟩
       exact c2 _ _ (bK (sp 2 f Z λa f=>gN (rows:=([I]:List Int).map aF) (vs:=[(0,i6 I)]) f d Z Z eV Z ⟨Z,Z,Z,trivial⟩ Z Z λgi a w f d=>aH F λd6 bq F=>mV (xs:=out) (ys:=([I]:List Int)) f d Z Z eV Z Z Z Z Z bQ (gL d m0) (λ_ _=>u5) (by simpa using cZ bq) λdz dx a w f d=>sp 1 f Z λa f=>aN (c8 _ _ (bK (sp 3 f Z λa f=>aN (have d:=(((d.drop k4).drop k3).drop k1).drop k0;ct ((out++[I]),W (Y + 1),(x++[(⟨I,B.Long,B.Weight⟩:aY)])) _ _ (sj F).symm ⟨dz,dx,a6,a8,f.kp Z,d⟩))))))
      have gc:∀ r,bi=.out r→r=bc:=by
       rintro r rfl
       exact sj F
      refine cF N (cE (S:=S28) (x:=bi) ?_ N ((-1),(-1)) _ _ ⟨ak,aj,f.kp Z,d⟩ b3)
      clear F f d
      rintro ⟨I,k⟩ a4 a w KB28 ⟨z,s,f,d⟩ F aq ck
      unfold gH at F
      refine wp_seq_k λK31 c4=>zS λK h=>sp 1 f Z λa f=>zP f Z (pFA gZ Z) λa f=>zL f d rZ m3 Z λa w f d=>zP f Z (bA Tryz.underlying102 Z) λa f=>sp 1 f Z λa f=>zT h (zI f Z F ?_ ?_) <;> intro F
      ·refine wp_skip (c4 _ _ (wp_seq_k λK33 c7=>?_))
       have a3:∀ (af:Int) (a5:Option Addr) (a7:Nat) a w,Has 168 a [(1,pq O),(6,pq M),(7,.slice U out.length R),(8,i6 Y),(9,pq X),(10,i6 first),(11,i6 af),(12,i6 k)]→Ctx G (.box X [i6 B.From,i6 B.Long,i6 B.Weight.Lo,i6 B.Weight.Hi] 156::.row a5 a7 (x.map bM) 156 4::.row U R (out.map aF) 3 1::.box M [i6 c_.Car,i6 c_.Wide,i6 c_.Sag,i6 c_.Most,.slice a5 x.length a7] 104::.box O [i6 c_.Car,i6 c_.Wide,i6 c_.Sag,i6 c_.Most,.slice H c_.Rides.length D] 104::Lf) w→oE N k af=some a4→K33 a w:=by
        repeat first | clear F | clear d | clear f
        intro af a5 a7 a w f d F
        unfold oE at F
        exact c7 _ _ (bK (sp 3 f Z λa f=>aN (ck (af,W (k + 1)) _ _ (sj F).symm ⟨a5,a7,f.kp Z,d⟩)))
       refine wp_block (zS λK h=>sp 2 f Z λa f=>zT h (wp_seq_k λK35 d5=>?_))
       have bj:∀ (at_:Int) (ay:Option Addr) (an:Nat) a w,Has 168 a [(1,pq O),(6,pq M),(7,.slice U out.length R),(8,i6 Y),(9,pq X),(10,i6 first),(11,i6 I),(12,i6 k),(13,i6 at_)]→Ctx G (.box X [i6 B.From,i6 B.Long,i6 B.Weight.Lo,i6 B.Weight.Hi] 156::.row ay an (x.map bM) 156 4::.row U R (out.map aF) 3 1::.box M [i6 c_.Car,i6 c_.Wide,i6 c_.Sag,i6 c_.Most,.slice ay x.length an] 104::.box O [i6 c_.Car,i6 c_.Wide,i6 c_.Sag,i6 c_.Most,.slice H c_.Rides.length D] 104::Lf) w→mL N c_ x B first I k at_=some a4→K35 a w:=by
        repeat first | clear F | clear d | clear f
        intro at_ ay an a w f d F
        unfold mL at F
        refine d5 _ _ (wp_seq_k λK36 dj=>zS λK h=>sp 4 f Z λa f=>cV 8 (λa=>Has 168 a [(1,pq O),(6,pq M),(7,.slice U out.length R),(8,i6 Y),(9,pq X),(10,i6 first),(11,i6 I),(12,i6 k),(13,i6 at_),(111,.bool ((decide (at_ < first)) || ((I != (-1)) && (decide (I≤at_)))))]) d ?_ ?_)
        ·cases hb:(decide (at_ < first))
         ·rw [hb] at f
          refine sp 3 f Z λa f=>cV 4 (λa=>Has 168 a [(1,pq O),(6,pq M),(7,.slice U out.length R),(8,i6 Y),(9,pq X),(10,i6 first),(11,i6 I),(12,i6 k),(13,i6 at_),(103,.bool false),(110,.bool ((I != (-1)) && (decide (I≤at_))))]) d ?_ ?_
          ·cases hb:(I != (-1)) <;> (rw [hb] at f;exact sp 4 f Z λa f=>aN ⟨f.kp Z,d⟩)
          intro a w ⟨f,d⟩
          exact sp 1 f Z λa f=>aN ⟨f.kp Z,d⟩
         ·rw [hb] at f
          exact sp 8 f Z λa f=>aN ⟨f.kp Z,d⟩
        intro a w ⟨f,d⟩
        refine zT h (zI f Z F ?_ ?_) <;> intro F
        ·exact wp_exit (aP (cX (a3 I ay an _ _  (f.kp Z) d F)))
        ·refine wp_skip (dj _ _ (zS λK h=>sp 1 f Z λa f=>zT h (wp_seq_k λK39 c3=>zS λK h=>sp 1 f Z λa f=>zT h (wp_block (aH F λbp cd F=>?_)))))
         let S41:(Bool × Int)→Act→World→Prop:=(λ(zz:Bool × Int) a w=>∃ (y:Option Addr) (q:Nat),Has 168 a [(1,pq O),(6,pq M),(7,.slice U out.length R),(8,i6 Y),(9,pq X),(10,i6 first),(11,i6 I),(12,i6 k),(13,i6 at_),(14,.bool zz.1),(15,i6 zz.2)]∧Ctx G (.box X [i6 B.From,i6 B.Long,i6 B.Weight.Lo,i6 B.Weight.Hi] 156::.row y q (x.map bM) 156 4::.row U R (out.map aF) 3 1::.box M [i6 c_.Car,i6 c_.Wide,i6 c_.Sag,i6 c_.Most,.slice y x.length q] 104::.box O [i6 c_.Car,i6 c_.Wide,i6 c_.Sag,i6 c_.Most,.slice H c_.Rides.length D] 104::Lf) w)
         have cr:∀ (zz:Bool × Int) a w,bp=.go zz→S41 zz a w→K39 a w:=by
          rintro ⟨ai,ad⟩ a w rfl ⟨y,q,f,d⟩
          refine have F:=bI F;c3 _ _ (zS λK h=>sp 1 f Z λa f=>zT h (zI f Z F ?_ ?_)) <;> intro F
          ·exact bK (sp 2 f Z λa f=>aN (a3 at_ y q _ _  (f.kp Z) d F))
          ·exact wp_skip (a3 I y q _ _  (f.kp Z) d F)
         have ga:∀ r,bp=.out r→r=a4:=by
          rintro r rfl
          exact sj F
         refine cF N (cE (S:=S41) (x:=bp) ?_ N (true,(-1)) _ _ ⟨ay,an,f.kp Z,d⟩ cd)
         clear F f d
         rintro ⟨ai,ad⟩ ba a w KB41 ⟨y,q,f,d⟩ F au cs
         unfold jP at F
         refine wp_seq_k λK43 dq=>zS λK h=>sp 1 f Z λa f=>zP f Z (pFA gZ Z) λa f=>zL f d rZ m3 Z λa w f d=>zP f Z (bA Tryz.underlying102 Z) λa f=>sp 1 f Z λa f=>zT h (zI f Z F ?_ ?_) <;> intro F
         ·refine wp_skip (dq _ _ (wp_seq_k λK45 dp=>?_))
          have a9:∀ (ag:Bool) (a1:Option Addr) (a0:Nat) a w,Has 168 a [(1,pq O),(6,pq M),(7,.slice U out.length R),(8,i6 Y),(9,pq X),(10,i6 first),(11,i6 I),(12,i6 k),(13,i6 at_),(14,.bool ag),(15,i6 ad)]→Ctx G (.box X [i6 B.From,i6 B.Long,i6 B.Weight.Lo,i6 B.Weight.Hi] 156::.row a1 a0 (x.map bM) 156 4::.row U R (out.map aF) 3 1::.box M [i6 c_.Car,i6 c_.Wide,i6 c_.Sag,i6 c_.Most,.slice a1 x.length a0] 104::.box O [i6 c_.Car,i6 c_.Wide,i6 c_.Sag,i6 c_.Most,.slice H c_.Rides.length D] 104::Lf) w→rN N ad ag=some ba→K45 a w:=by
           repeat first | clear F | clear d | clear f
           intro ag a1 a0 a w f d F
           unfold rN at F
           exact dp _ _ (bK (sp 3 f Z λa f=>aN (cs (ag,W (ad + 1)) _ _ (sj F).symm ⟨a1,a0,f.kp Z,d⟩)))
          refine wp_block (zS λK h=>sp 2 f Z λa f=>zT h (wp_seq_k λK47 d4=>?_))
          have bm:∀ (J:Int) (ab:Option Addr) (aa:Nat) a w,Has 168 a [(1,pq O),(6,pq M),(7,.slice U out.length R),(8,i6 Y),(9,pq X),(10,i6 first),(11,i6 I),(12,i6 k),(13,i6 at_),(14,.bool ai),(15,i6 ad),(16,i6 J)]→Ctx G (.box X [i6 B.From,i6 B.Long,i6 B.Weight.Lo,i6 B.Weight.Hi] 156::.row ab aa (x.map bM) 156 4::.row U R (out.map aF) 3 1::.box M [i6 c_.Car,i6 c_.Wide,i6 c_.Sag,i6 c_.Most,.slice ab x.length aa] 104::.box O [i6 c_.Car,i6 c_.Wide,i6 c_.Sag,i6 c_.Most,.slice H c_.Rides.length D] 104::Lf) w→oH N c_ x B at_ ai ad J=some ba→K47 a w:=by
           repeat first | clear F | clear d | clear f
           intro J ab aa a w f d F
           unfold oH at F
           refine d4 _ _ (wp_seq_k λK48 d2=>aH F λc1 bb F=>cQ d aU (by kernel_rfl) (qp_ 4 f Z λa f=>aB5 7 (λa=>Has 168 a [(1,pq O),(6,pq M),(7,.slice U out.length R),(8,i6 Y),(9,pq X),(10,i6 first),(11,i6 I),(12,i6 k),(13,i6 at_),(14,.bool ai),(15,i6 ad),(16,i6 J),(128,i6 J),(129,i6 at_),(130,.bool (decide (at_≤J))),(131,.bool (decide (at_≤J))),(138,.bool ((decide (at_≤J)) && (decide (J < (W (at_ + B.Long))))))]) ?_ ?_))
           ·cases hb:(decide (at_≤J))
            ·rw [hb] at f
             exact qk_ 6 f Z λa f=>qp_ 1 f Z λa f=>sZ (f.kp Z)
            ·rw [hb] at f
             exact qp_ 2 f Z λa f=>qU f Z (pFA aE1 Z) λa f=>qV f Z (bB aZ Z (bN m0 Z)) λa f=>qp_ 3 f Z λa f=>sZ (f.kp Z)
           refine λa f=>qp_ 1 f Z λa f=>aB5 11 (λa=>Has 168 a [(1,pq O),(6,pq M),(7,.slice U out.length R),(8,i6 Y),(9,pq X),(10,i6 first),(11,i6 I),(12,i6 k),(13,i6 at_),(14,.bool ai),(15,i6 ad),(16,i6 J),(128,i6 J),(129,i6 at_),(130,.bool (decide (at_≤J))),(131,.bool (decide (at_≤J))),(138,.bool ((decide (at_≤J)) && (decide (J < (W (at_ + B.Long)))))),(139,.bool ((decide (at_≤J)) && (decide (J < (W (at_ + B.Long)))))),(150,.bool c1)]) ?_ ?_
           ·cases hb:((decide (at_≤J)) && (decide (J < (W (at_ + B.Long)))))
            ·rw [hb] at f
             have F:=eG hb bb
             obtain rfl:=sj F
             exact qk_ 10 f Z λa f=>qp_ 1 f Z λa f=>sZ (f.kp Z)
            ·rw [hb] at f
             refine have F:=cO hb bb;aH F λa2 cy F=>qV f Z (iY (vs:=[i6 c_.Car,i6 c_.Wide,i6 c_.Sag,i6 c_.Most,.slice H c_.Rides.length D]) vK Z Z (bT (n:=5) m4 Z)) λa f=>qV f Z (iY (vs:=[i6 c_.Car,i6 c_.Wide,i6 c_.Sag,i6 c_.Most,.slice ab x.length aa]) vK Z Z (bT (n:=5) m3 Z)) λa f=>qp_ 1 f Z λa f=>qV f Z (eC (v:=.agg #[i6 a2.Lo,i6 a2.Hi]) (vs:=[.agg #[i6 c_.Car,i6 c_.Wide,i6 c_.Sag,i6 c_.Most,.slice ab x.length aa],i6 J]) (caps:=[]) (eN 94) Z Z Z Z (λw d=>by obtain ⟨G1,d9,b4,d,cj⟩:=lend d k1;exact (aAj (⟨c_.Car,c_.Wide,c_.Sag,c_.Most,x⟩:cD) J b4 d cy).mono λe w h=>⟨h.1,((cj _ _ h.2).unpick k1)⟩)) λa f=>qU f Z (aRk Tryz.underlying43 Z aZ Z Z) λa f=>qU f Z (pFA aCc Z) λa f=>qU f Z (pFA kY Z) λa f=>qV f Z (bB aZ Z (bN m0 Z)) λa f=>qp_ 1 f Z λa f=>qV f Z (eC (v:=.bool (dV c_ (W (a2.Hi + B.Weight.Hi)))) (vs:=[.agg #[i6 c_.Car,i6 c_.Wide,i6 c_.Sag,i6 c_.Most,.slice H c_.Rides.length D],i6 (W (a2.Hi + B.Weight.Hi))]) (caps:=[]) (eN 100) Z Z Z Z (λw d=>rO c_ (W (a2.Hi + B.Weight.Hi)) V d Z)) λa f=>qp_ 1 f Z λa f=>?_
             obtain rfl:=sj F
             exact sZ (f.kp Z)
           refine λa f=>λw d=>d2 _ _ (zI f Z F ?_ ?_) <;> intro F
           ·exact bK (sp 1 f Z λa f=>aN (a9 false ab aa _ _  (f.kp Z) d F))
           ·exact wp_skip (a9 ai ab aa _ _  (f.kp Z) d F)
          refine zS λK h=>sp 2 f Z λa f=>zT h (zI f Z F ?_ ?_) <;> intro F
          ·refine bK (zP f Z (pFA gZ Z) λa f=>zL f d rZ m3 Z λa w f d=>sp 1 f Z λa f=>aH F λdv b7 F=>have av:=f;?_)
           obtain ⟨g,rfl,cg,qr⟩:=gW d m1 b7
           exact have f:=av;zP f Z (pIA Tryz.underlying102 yX Z Z cg) λa f=>zP f Z (pFA wZ Z) λa f=>zE f d Z (bB aZ Z (cA (sz:=4) (i:=ad.toNat) (j:=0) m1 qr Z)) λa w f d=>sp 1 f Z λa f=>aN (bm dv.From (sa g) q _ _  (f.kp Z) d F)
          ·exact wp_skip (bm at_ y q _ _  (f.kp Z) d F)
         ·exact wp_exit (aP (aP (have au:=cB F au;cX (cr _ _ _ au ⟨y,q,f.kp Z,d⟩))))
       refine zS λK h=>sp 2 f Z λa f=>zT h (zI f Z F ?_ ?_) <;> intro F
       ·refine aH F λdk cm F=>have av:=f;?_
        obtain ⟨d0,rfl,cc,b2⟩:=gW d m1 cm
        refine have f:=av;aH F λdg cb F=>?_
        obtain ⟨ca,b8⟩:=cK d m1 cb
        refine cQ d aU (by kernel_rfl) (qU f Z (pFA gZ Z) λa f=>qV f Z (bB rZ Z (bN m3 Z)) λa f=>qp_ 1 f Z λa f=>qU f Z (pIA Tryz.underlying102 yX Z Z cc) λa f=>qU f Z (pFA wZ Z) λa f=>qV f Z (bB aZ Z (cA (sz:=4) (i:=k.toNat) (j:=0) m1 b2 Z)) λa f=>qU f Z (pFA gZ Z) λa f=>qV f Z (bB rZ Z (bN m3 Z)) λa f=>qp_ 1 f Z λa f=>qU f Z (pIA Tryz.underlying102 yX Z Z ca) λa f=>qU f Z (pFA aE1 Z) λa f=>qV f Z (bB aZ Z (cA (sz:=4) (i:=k.toNat) (j:=1) m1 b8 Z)) λa f=>qp_ 2 f Z λa f=>?_)
        exact λw d=>bj (W (dk.From + dg.Long)) (sa d0) s _ _  (f.kp Z) d F
       ·exact wp_skip (bj first z s _ _  (f.kp Z) d F)
      ·exact wp_exit (aP (aP (have aq:=cB F aq;cX (b1 _ _ _ aq ⟨z,s,f.kp Z,d⟩))))
     refine zS λK h=>sp 3 f Z λa f=>aH F λdu bd F=>cV 8 (λa=>Has 168 a [(1,pq O),(6,pq M),(7,.slice am out.length ac),(8,i6 Y),(9,pq X),(10,i6 B.From),(71,.bool du)]) d ?_ ?_
     ·cases hb:(decide (0 < Y))
      ·rw [hb] at f
       have F:=eG hb bd
       obtain rfl:=sj F
       exact sp 8 f Z λa f=>aN ⟨f.kp Z,d⟩
      ·rw [hb] at f
       refine have F:=cO hb bd;sp 3 f Z λa f=>aH F λgf cu F=>have av:=f;?_
       obtain ⟨gk,rfl,cn,cf⟩:=gW d m2 cu
       refine have f:=av;zP f Z (pIA Tryz.underlying22 cS Z Z cn) λa f=>zE f d Z (bB aZ Z (cA (sz:=1) (i:=(W (Y - 1)).toNat) (j:=0) m2 cf Z)) λa w f d=>sp 3 f Z λa f=>?_
       obtain rfl:=sj F
       exact aN ⟨f.kp Z,d⟩
     intro a w ⟨f,d⟩
     refine zT h (zI f Z F ?_ ?_) <;> intro F
     ·refine bK (sp 3 f Z λa f=>aH F λd1 b6 F=>have av:=f;?_)
      obtain ⟨dr,rfl,cp,b0⟩:=gW d m2 b6
      exact have f:=av;zP f Z (pIA Tryz.underlying22 cS Z Z cp) λa f=>zE f d Z (bB aZ Z (cA (sz:=1) (i:=(W (Y - 1)).toNat) (j:=0) m2 b0 Z)) λa w f d=>sp 1 f Z λa f=>aN (bn d1 (sa dr) ac _ _  (f.kp Z) d F)
     ·exact wp_skip (bn B.From am ac _ _  (f.kp Z) d F)
    ·exact wp_exit (aP (aP (have ar:=cB F ar;cX (bz _ _ _ ar ⟨am,ac,ak,aj,f.kp Z,d⟩))))
   have b9:∀ r,bg=.out r→r=az:=by
    rintro r rfl
    exact sj F
   refine cF N (cE (S:=S11) (x:=bg) ?_ N 0 _ _ ⟨f.kp Z,d⟩ cz)
   clear F f d
   rintro bv gb a w KB11 ⟨f,d⟩ F m cv
   unfold mF at F
   refine wp_seq_k λK52 c9=>zS λK h=>sp 1 f Z λa f=>zP f Z (pFA gZ Z) λa f=>zL f d rZ m0 Z λa w f d=>zP f Z (bA Tryz.underlying102 Z) λa f=>sp 1 f Z λa f=>zT h (zI f Z F ?_ ?_) <;> intro F
   ·refine wp_skip (c9 _ _ (wp_seq_k λK54 df=>wp_block (wp_seq_k λK55 dt=>aH F λbk c0 F=>?_)))
    obtain ⟨gd,gj,cq,bx⟩:=V.atm c0
    refine cQ d aU (by kernel_rfl) (qV f Z (iY (vs:=[i6 c_.Car,i6 c_.Wide,i6 c_.Sag,i6 c_.Most,.slice H c_.Rides.length D]) vK Z Z (bT (n:=5) m0 Z)) λa f=>qU f Z (pFA aCn Z) λa f=>qV f Z (bB aZ Z (bN m0 Z)) λa f=>qU f Z (pFA gZ Z) λa f=>qV f Z (bB rZ Z (bN m0 Z)) λa f=>qp_ 1 f Z λa f=>qU f Z (pIA Tryz.underlying102 yX Z Z cq) λa f=>qU f Z (pFA aCc Z) λa f=>qU f Z (pFA kY Z) λa f=>qV f Z (bB aZ Z (aV (j:=3) bx Z)) λa f=>qp_ 1 f Z λa f=>qV f Z (eC (v:=.bool (dV c_ (W (c_.Car + bk.Weight.Hi)))) (vs:=[.agg #[i6 c_.Car,i6 c_.Wide,i6 c_.Sag,i6 c_.Most,.slice H c_.Rides.length D],i6 (W (c_.Car + bk.Weight.Hi))]) (caps:=[]) (eN 100) Z Z Z Z (λw d=>rO c_ (W (c_.Car + bk.Weight.Hi)) V d Z)) λa f=>λw d=>?_)
    refine dt _ _ (zI f Z F ?_ ?_) <;> intro F
    ·refine zS λK h=>sp 2 f Z λa f=>zT h (wp_ret (bG (aL (aL (have m:=cB F m;have F:=b9 _ m;bG (aL ?_))))))
     obtain rfl:=F
     exact have d:=d.nilRow 3 1;have d:=d.drop k1;zO2 Tryz.results51 f Z Z ⟨none,0,Z,d⟩
    ·exact wp_skip (df _ _ (bK (sp 3 f Z λa f=>aN (cv (W (bv + 1)) _ _ (sj F).symm ⟨f.kp Z,d⟩))))
   ·exact wp_exit (aP (aP (have m:=cB F m;cX (cx _ _ _ m ⟨f.kp Z,d⟩))))

def kA (N:Nat) (a_:List aC) (b_:List aC) (B:Int):Option (bC (Int) (Bool)) :=
 cond (decide (B < ((a_.length:Nat):Int)))
 (Option.bind (aQ a_ B) λH=>
 Option.bind (aQ b_ B) λD=>
 cond (!(H.From == D.From && H.Long == D.Long && H.Weight.Lo == D.Weight.Lo && H.Weight.Hi == D.Weight.Hi))
 (some (.ret false))
 (some (.cont (W (B + 1)))))
 (some (.brk B))
def rE (N:Nat) (a_:List aC) (b_:List aC):Option (Bool) :=
 cond (((a_.length:Nat):Int) != ((b_.length:Nat):Int))
 (some false)
 (Option.bind (aS (λs7=>kA N a_ b_ s7) N 0) λx7=>
 exK x7 (λs7=>some true) some)
theorem aBu {I D:Option Addr} {H J:Nat} (a_ b_:List aC) (b:Rd G 4 I H (a_.map aI)) (i:Rd G 4 D J (b_.map aI)) (d:Ctx G (Lf) w) {R:Bool} (F:rE N a_ b_=some R):Cz G 52 #[.slice I a_.length H,.slice D b_.length J] w (.bool R) (Lf):=by
 refine bY Tryz.func52 Z Tryz.ntmps52 Z λa f=>zS λK h=>sp 1 f Z λa f=>zT h (wp_seq_k λK2 h2=>zS λK h=>sp 1 f Z λa f=>zP f Z (bA Tryz.underlying35 Z) λa f=>sp 1 f Z λa f=>zP f Z (bA Tryz.underlying35 Z) λa f=>sp 1 f Z λa f=>zT h (zI f Z F ?_ ?_)) <;> intro F
 ·refine zS λK h=>sp 1 f Z λa f=>zT h (wp_ret (aL ?_))
  obtain rfl:=sj F
  exact zO1 Tryz.results52 f Z ⟨Z,d⟩
 ·refine wp_skip (h2 _ _ (wp_seq_k λK5 h5=>zS λK h=>sp 1 f Z λa f=>zT h (wp_block (aH F λx7 q F=>?_))))
  let S7:Int→Act→World→Prop:=(λ(zz:Int) a w=>Has 26 a [(0,.slice I a_.length H),(1,.slice D b_.length J),(5,i6 zz)]∧Ctx G (Lf) w)
  have j:∀ (zz:Int) a w,x7=.go zz→S7 zz a w→K5 a w:=by
   rintro U a w rfl ⟨f,d⟩
   refine have F:=bI F;h5 _ _ (zS λK h=>sp 1 f Z λa f=>zT h (wp_ret ?_))
   obtain rfl:=sj F
   exact zO1 Tryz.results52 f Z ⟨Z,d⟩
  have m:∀ r,x7=.out r→r=R:=by
   rintro r rfl
   exact sj F
  refine cF N (cE (S:=S7) (x:=x7) ?_ N 0 _ _ ⟨f.kp Z,d⟩ q)
  clear F f d
  rintro U u a w KB7 ⟨f,d⟩ F B s
  unfold kA at F
  refine wp_seq_k λK9 h9=>zS λK h=>sp 2 f Z λa f=>zP f Z (bA Tryz.underlying35 Z) λa f=>sp 1 f Z λa f=>zT h (zI f Z F ?_ ?_) <;> intro F
  ·refine wp_skip (h9 _ _ (wp_seq_k λK11 k=>wp_block (wp_seq_k λK12 p=>aH F λM g F=>?_)))
   obtain ⟨v,o,qa,qp⟩:=b.atm g
   obtain ⟨O,V,F⟩:=cU F
   obtain ⟨y,t,Y,X⟩:=i.atm V
   refine cQ d aU (by kernel_rfl) (qp_ 2 f Z λa f=>qU f Z (pIA Tryz.underlying35 tD Z Z qa) λa f=>qV f Z (iY (vs:=[i6 M.From,i6 M.Long,i6 M.Weight.Lo,i6 M.Weight.Hi]) vA Z Z (cY qp (n:=4) (o':=0) Z)) λa f=>qp_ 2 f Z λa f=>qU f Z (pIA Tryz.underlying35 tD Z Z Y) λa f=>qV f Z (iY (vs:=[i6 O.From,i6 O.Long,i6 O.Weight.Lo,i6 O.Weight.Hi]) vA Z Z (cY X (n:=4) (o':=0) Z)) λa f=>qU f Z (aMc ge_47 Z Z (aTk _ _ _ _ _ _ _ _)) λa f=>λw d=>p _ _ (zI f Z F ?_ ?_)) <;> intro F
   ·refine zS λK h=>sp 1 f Z λa f=>zT h (wp_ret (bG (aL (aL (have B:=cB F B;have F:=m _ B;bG (aL ?_))))))
    obtain rfl:=F
    exact zO1 Tryz.results52 f Z ⟨Z,d⟩
   ·exact wp_skip (k _ _ (bK (sp 3 f Z λa f=>aN (s (W (U + 1)) _ _ (sj F).symm ⟨f.kp Z,d⟩))))
  ·exact wp_exit (aP (aP (have B:=cB F B;cX (j _ _ _ B ⟨f.kp Z,d⟩))))

def mY (N:Nat) (c_:aJ) (D:Int):Option (Bool) :=
 cond (decide (35 < ((c_.Rides.length:Nat):Int)))
 (Option.bind (gC N) λr=>
 some r)
 (Option.bind (tX N c_) λB=>
 Option.bind (fF N B) λj=>
 Option.bind (sM N c_) λY=>
 Option.bind (kR N Y) λi=>
 cond (j != i)
 (some false)
 (Option.bind (sX N B D) λI=>
 Option.bind (sM N c_) λm=>
 Option.bind (uH N m D) λO=>
 cond ((!(I.1.Lo == O.1.Lo && I.1.Hi == O.1.Hi)) || (I.2 != O.2))
 (some false)
 (Option.bind (oN N B) λM=>
 Option.bind (sM N c_) λk=>
 Option.bind (tA N k) λH=>
 cond (((M.1 != H.1) || (M.2.1 != H.2.1)) || (M.2.2 != H.2.2))
 (some false)
 (Option.bind (uL N B) λJ=>
 Option.bind (sM N c_) λU=>
 Option.bind (uU N U) λR=>
 Option.bind (dW N J.1 R.1) λV=>
 Option.bind (cond (((((V && (J.2 == R.2)) && (B.Car == c_.Car)) && (B.Wide == c_.Wide)) && (B.Sag == c_.Sag)) && (B.Most == c_.Most)) (Option.bind (rE N B.Rides c_.Rides) λX=>
 some X) (some false)) λb=>
 Option.bind (cond b (Option.bind (gC N) λS=>
 some S) (some false)) λg=>
 some g))))
theorem tM {J:Option Addr} {M:Nat} (c_:aJ) (X:Int) (I:Rd G 4 J M (c_.Rides.map aI)) (d:Ctx G (Lf) w) {ai:Bool} (F:mY N c_ X=some ai):Cz G 9 #[.agg #[i6 c_.Car,i6 c_.Wide,i6 c_.Sag,i6 c_.Most,.slice J c_.Rides.length M],i6 X] w (.bool ai) (Lf):=by
 refine bY Tryz.func9 Z Tryz.ntmps9 Z λa f=>zS λK h=>zB f d Z λb a w f d=>sp 1 f Z λa f=>zT h (wp_seq_k λK2 h2=>zS λK h=>zP f Z (pFA fR Z) λa f=>zL f d sL m0 Z λa w f d=>zP f Z (bA Tryz.underlying35 Z) λa f=>sp 1 f Z λa f=>zT h (zI f Z F ?_ ?_)) <;> intro F
 ·refine zS λK h=>aH F λr hr F=>zQ (v:=.bool r) f d (eN 14) Z (λw d=>jH d hr) λa w f d=>sp 1 f Z λa f=>zT h (wp_ret (aL ?_))
  obtain rfl:=sj F
  exact have d:=d.drop k0;zO1 Tryz.results9 f Z ⟨Z,d⟩
 ·refine wp_skip (h2 _ _ (zS λK h=>zN f d lC m0 Z λa w f d=>aH F λB a4 F=>zC f (eN 43) Z (aD5 c_ I d a4) ?_))
  rintro _ w ⟨m,n,rfl,d⟩
  refine ⟨_,Z,λa f=>zA f d aE9 Z λY a w f d=>zW f d aDj u0 Z λw d=>zT h (wp_seq_k λK6 h6=>wp_seq_k λK7 h7=>aH F λs an F=>aH F λj au F=>aH F λq aq F=>have d:=d.nilRow 0 0;jV (λθ=>[f0 1 (i6 X),f0 2 (pq b),f0 5 (pq Y),f1 0 23 (.agg #[i6 B.Car,i6 B.Wide,i6 B.Sag,i6 B.Most,.slice m B.Rides.length n]),f1 1 24 (i6 s),f1 2 25 (.agg #[i6 c_.Car,i6 c_.Wide,i6 c_.Sag,i6 c_.Most,.slice J c_.Rides.length M]),f1 3 26 (.agg #[i6 j.Car,i6 j.Wide,i6 j.Sag,i6 j.Most,.slice ((θ 24).p) j.Rides.length ((θ 24).c)]),f1 4 27 (i6 q),f1 5 28 (.bool (s != q))]) (λE θ=>(bif E 3 then .row ((θ 24).p) ((θ 24).c) (j.Rides.map bM) 156 4 else .row none 0 [] 0 0)::.box Y [i6 B.Car,i6 B.Wide,i6 B.Sag,i6 B.Most,.slice m B.Rides.length n] 37::.row m n (B.Rides.map aI) 47 4::.box b [i6 c_.Car,i6 c_.Wide,i6 c_.Sag,i6 c_.Most,.slice J c_.Rides.length M] 37::Lf) [] (λa w=>∃ (am:Option Addr) (ak:Nat),Has 133 a [(1,i6 X),(2,pq b),(5,pq Y),(28,.bool (s != q))]∧Ctx G (.row am ak (j.Rides.map bM) 156 4::.box Y [i6 B.Car,i6 B.Wide,i6 B.Sag,i6 B.Most,.slice m B.Rides.length n] 37::.row m n (B.Rides.map aI) 47 4::.box b [i6 c_.Car,i6 c_.Wide,i6 c_.Sag,i6 c_.Most,.slice J c_.Rides.length M] 37::Lf) w) aU (by kernel_rfl) (by kernel_rfl) (iW.of f ⟨Z,Z,Z,trivial,trivial,trivial,trivial,trivial,trivial,trivial⟩) d ⟨?_,?_,?_,?_,?_,?_,trivial⟩ ?_ ?_)⟩
  ·exact λE θ a w hD hi hp he d=>have f:=he.h0.mT he 2 Z;zN f d lC m1 Z λa w f d=>zD θ he hi f 3 Z Z Z d
  ·exact λE θ a w hD hi hp he d=>have e0:=hp.o 0 Z;have f:=he.h0.mP he 3 Z e0;zQ (v:=i6 s) f d (eN 12) Z (λw d=>by obtain ⟨G1,V,H,d,D⟩:=lend d k2;exact (nL B H d an).mono λe w h=>⟨h.1,((D _ _ h.2).unpick k2)⟩) λa w f d=>zD θ he hi f 4 Z Z Z d
  ·exact λE θ a w hD hi hp he d=>have f:=he.h0.mT he 1 Z;zN f d lC m3 Z λa w f d=>zD θ he hi f 5 Z Z Z d
  ·refine λE θ a w hD hi hp he d=>have e2:=hp.o 2 Z;?_
   try dsimp only at d
   rw [hi] at d
   refine have f:=he.h0.mP he 5 Z e2;zC f (eN 45) Z (vQ c_ I d au) ?_
   rintro _ w ⟨bb,ba,rfl,d⟩
   refine ⟨_,Z,λa f=>aN (eS (λds u bf=>have d:=d.drop k1;?_))⟩
   refine ⟨(qR θ 24 ⟨0,bb,ba,(λ_=>(none,0))⟩),he.put hi bf f Z [] trivial ⟨qq,qq,qq,qq,qq,qq,qq,qq,qq,trivial⟩,?_⟩
   try dsimp only
   rw [bE E 3]
   exact d
  ·refine λE θ a w hD hi hp he d=>have e3:=hp.o 3 Z;?_
   try dsimp only at d
   rw [e3] at d
   refine have f:=he.h0.mP he 6 Z e3;zQ (v:=i6 q) f d (eN 44) Z (λw d=>by obtain ⟨G1,V,H,d,D⟩:=lend d k0;exact (pK j H d aq).mono λe w h=>⟨h.1,((D _ _ h.2).unpick k0)⟩) λa w f d=>zD θ he hi f 7 Z Z Z ?_
   try dsimp only
   rw [eD 4 e3]
   exact d
  ·exact λE θ a w hD hi hp he d=>have e1:=hp.o 1 Z;have e4:=hp.o 4 Z;have f:=(he.h0.mP he 4 Z e1).mP he 7 Z e4;sp 1 f Z λa f=>zD θ he hi f 8 Z Z Z d
  ·refine λE θ a w t he d=>have f:=he.h0;have e3:=t 3 Z;have e5:=t 5 Z;have f:=f.more he 8 Z (onP e5);have f:=f.more he 2 Z (onT);have f:=f.more he 1 Z (onT);have f:=f.more he 0 Z (onT);?_
   try dsimp only at d
   rw [e3] at d
   exact ⟨(θ 24).p,(θ 24).c,f.kp Z,d⟩
  rintro a w ⟨am,ak,f,d⟩
  refine h7 _ _ (zI f Z F ?_ ?_) <;> intro F
  ·refine zS λK h=>sp 1 f Z λa f=>zT h (wp_ret (aL ?_))
   obtain rfl:=sj F
   exact have d:=(((d.drop k3).drop k2).drop k1).drop k0;zO1 Tryz.results9 f Z ⟨Z,d⟩
  ·refine wp_skip (h6 _ _ (zS λK h=>zN f d lC m1 Z λa w f d=>sp 1 f Z λa f=>aH F λi ar F=>zQ (v:=.tuple #[.agg #[i6 i.1.Lo,i6 i.1.Hi],i6 i.2]) f d (eN 46) Z (λw d=>by obtain ⟨G1,V,H,d,D⟩:=lend d k2;exact (aEl B X H d ar).mono λe w h=>⟨h.1,((D _ _ h.2).unpick k2)⟩) λa w f d=>sp 3 f Z λa f=>zA f d aE8 Z λbt a w f d=>zW f d uS u0 Z λw d=>sp 1 f Z λa f=>zT h (zS λK h=>zN f d lC m4 Z λa w f d=>?_)))
   refine aH F λa7 a3 F=>zC f (eN 45) Z (vQ c_ I d a3) ?_
   rintro _ w ⟨bn,bi,rfl,d⟩
   refine ⟨_,Z,λa f=>sp 1 f Z λa f=>aH F λk a5 F=>zQ (v:=.tuple #[.agg #[i6 k.1.Lo,i6 k.1.Hi],i6 k.2]) f d (eN 47) Z (λw d=>by obtain ⟨G1,V,H,d,D⟩:=lend d k0;exact (aIk a7 X H d a5).mono λe w h=>⟨h.1,((D _ _ h.2).unpick k0)⟩) λa w f d=>sp 3 f Z λa f=>zA f d aE8 Z λbj a w f d=>zW f d uS u0 Z λw d=>sp 1 f Z λa f=>zT h (wp_seq_k λK11 bd=>zS λK h=>zN f d rG m2 Z λa w f d=>zN f d rG m0 Z λa w f d=>zP f Z (aMc aPj Z Z (aLs _ _ _ _)) λa f=>?_)⟩
   refine sp 1 f Z λa f=>cV 4 (λa=>Has 133 a [(2,pq b),(5,pq Y),(49,.bool ((!(i.1.Lo == k.1.Lo && i.1.Hi == k.1.Hi)) || (i.2 != k.2)))]) d ?_ ?_
   ·cases hb:(!(i.1.Lo == k.1.Lo && i.1.Hi == k.1.Hi)) <;> (rw [hb] at f;exact sp 4 f Z λa f=>aN ⟨f.kp Z,d⟩)
   intro a w ⟨f,d⟩
   refine zT h (zI f Z F ?_ ?_) <;> intro F
   ·refine zS λK h=>sp 1 f Z λa f=>zT h (wp_ret (aL ?_))
    obtain rfl:=sj F
    exact have d:=((((((d.drop k6).drop k5).drop k4).drop k3).drop k2).drop k1).drop k0;zO1 Tryz.results9 f Z ⟨Z,d⟩
   ·refine wp_skip (bd _ _ (zS λK h=>zN f d lC m4 Z λa w f d=>aH F λg a1 F=>zQ (v:=.tuple #[i6 g.1,i6 g.2.1,i6 g.2.2]) f d (eN 48) Z (λw d=>by obtain ⟨G1,V,H,d,D⟩:=lend d k5;exact (aB9 B H d a1).mono λe w h=>⟨h.1,((D _ _ h.2).unpick k5)⟩) λa w f d=>sp 7 f Z λa f=>zT h (zS λK h=>zN f d lC m6 Z λa w f d=>aH F λa9 ay F=>zC f (eN 45) Z (vQ c_ I d ay) ?_)))
    rintro _ w ⟨bq,bp,rfl,d⟩
    refine ⟨_,Z,λa f=>aH F λR ad F=>zQ (v:=.tuple #[i6 R.1,i6 R.2.1,i6 R.2.2]) f d (eN 49) Z (λw d=>by obtain ⟨G1,V,H,d,D⟩:=lend d k0;exact (aGd a9 H d ad).mono λe w h=>⟨h.1,((D _ _ h.2).unpick k0)⟩) λa w f d=>sp 7 f Z λa f=>zT h (wp_seq_k λK16 a6=>zS λK h=>sp 4 f Z λa f=>cV 4 (λa=>Has 133 a [(2,pq b),(5,pq Y),(7,i6 g.2.2),(9,i6 R.2.2),(70,.bool ((g.1 != R.1) || (g.2.1 != R.2.1)))]) d ?_ ?_)⟩
    ·cases hb:(g.1 != R.1) <;> (rw [hb] at f;exact sp 4 f Z λa f=>aN ⟨f.kp Z,d⟩)
    intro a w ⟨f,d⟩
    refine sp 1 f Z λa f=>cV 4 (λa=>Has 133 a [(2,pq b),(5,pq Y),(75,.bool (((g.1 != R.1) || (g.2.1 != R.2.1)) || (g.2.2 != R.2.2)))]) d ?_ ?_
    ·cases hb:((g.1 != R.1) || (g.2.1 != R.2.1)) <;> (rw [hb] at f;exact sp 4 f Z λa f=>aN ⟨f.kp Z,d⟩)
    intro a w ⟨f,d⟩
    refine zT h (zI f Z F ?_ ?_) <;> intro F
    ·refine zS λK h=>sp 1 f Z λa f=>zT h (wp_ret (aL ?_))
     obtain rfl:=sj F
     exact have d:=(((((((d.drop k7).drop k6).drop k5).drop k4).drop k3).drop k2).drop k1).drop k0;zO1 Tryz.results9 f Z ⟨Z,d⟩
    ·refine wp_skip (a6 _ _ (wp_seq_k λK19 bc=>bK (zN f d lC m5 Z λa w f d=>aH F λS z F=>?_)))
     obtain ⟨G1,V,H,d,D⟩:=lend d k6
     refine zC f (eN 50) Z (aDi B H d z) ?_
     rintro _ w ⟨bu,br,rfl,d⟩
     refine ⟨_,Z,λa f=>have d:=D _ _ d;sp 5 f Z λa f=>aN (have d:=((((d.drop k6).drop k5).drop k4).drop k3).drop k2;bc _ _ (zS λK h=>zN f d lC m3 Z λa w f d=>aH F λa0 ab F=>zC f (eN 45) Z (vQ c_ I d ab) ?_))⟩
     rintro _ w ⟨bg,bm,rfl,d⟩
     refine ⟨_,Z,λa f=>aH F λU aa F=>?_⟩
     obtain ⟨G1,V,H,d,D⟩:=lend d k0
     refine zC f (eN 51) Z (aHa a0 H d aa) ?_
     rintro _ w ⟨bs,bk,rfl,d⟩
     refine ⟨_,Z,λa f=>have d:=D _ _ d;sp 5 f Z λa f=>zT h (zS λK h=>sp 2 f Z λa f=>aH F λO ag F=>zQ (v:=.bool O) f d (eN 27) Z (λw d=>by obtain ⟨G1,V,H,d,D⟩:=lend d k3;obtain ⟨G2,ap,av,d,ax⟩:=lend d k1;exact (jL S.1 U.1 (H.mono ap) av d ag).mono λe w h=>⟨h.1,((D _ _ ((ax _ _ h.2).unpick k1)).unpick k3)⟩) λa w f d=>sp 1 f Z λa f=>cV 4 (λa=>Has 133 a [(2,pq b),(5,pq Y),(94,.bool (O && (S.2 == U.2)))]) d ?_ ?_)⟩
     ·cases hb:O <;> (rw [hb] at f;(try rw [hb] at d);exact sp 4 f Z λa f=>aN ⟨f.kp Z,d⟩)
     intro a w ⟨f,d⟩
     refine sp 1 f Z λa f=>cV 6 (λa=>Has 133 a [(2,pq b),(5,pq Y),(101,.bool ((O && (S.2 == U.2)) && (B.Car == c_.Car)))]) d ?_ ?_
     ·cases hb:(O && (S.2 == U.2))
      ·rw [hb] at f
       exact sp 6 f Z λa f=>aN ⟨f.kp Z,d⟩
      ·rw [hb] at f
       exact zP f Z (pFA xX Z) λa f=>zL f d aZ m4 Z λa w f d=>zP f Z (pFA xX Z) λa f=>zL f d aZ m5 Z λa w f d=>sp 2 f Z λa f=>aN ⟨f.kp Z,d⟩
     intro a w ⟨f,d⟩
     refine sp 1 f Z λa f=>cV 6 (λa=>Has 133 a [(2,pq b),(5,pq Y),(108,.bool (((O && (S.2 == U.2)) && (B.Car == c_.Car)) && (B.Wide == c_.Wide)))]) d ?_ ?_
     ·cases hb:((O && (S.2 == U.2)) && (B.Car == c_.Car))
      ·rw [hb] at f
       exact sp 6 f Z λa f=>aN ⟨f.kp Z,d⟩
      ·rw [hb] at f
       exact zP f Z (pFA aC6 Z) λa f=>zL f d aZ m4 Z λa w f d=>zP f Z (pFA aC6 Z) λa f=>zL f d aZ m5 Z λa w f d=>sp 2 f Z λa f=>aN ⟨f.kp Z,d⟩
     intro a w ⟨f,d⟩
     refine sp 1 f Z λa f=>cV 6 (λa=>Has 133 a [(2,pq b),(5,pq Y),(115,.bool ((((O && (S.2 == U.2)) && (B.Car == c_.Car)) && (B.Wide == c_.Wide)) && (B.Sag == c_.Sag)))]) d ?_ ?_
     ·cases hb:(((O && (S.2 == U.2)) && (B.Car == c_.Car)) && (B.Wide == c_.Wide))
      ·rw [hb] at f
       exact sp 6 f Z λa f=>aN ⟨f.kp Z,d⟩
      ·rw [hb] at f
       exact zP f Z (pFA aDb Z) λa f=>zL f d aZ m4 Z λa w f d=>zP f Z (pFA aDb Z) λa f=>zL f d aZ m5 Z λa w f d=>sp 2 f Z λa f=>aN ⟨f.kp Z,d⟩
     intro a w ⟨f,d⟩
     refine sp 1 f Z λa f=>cV 6 (λa=>Has 133 a [(2,pq b),(5,pq Y),(122,.bool (((((O && (S.2 == U.2)) && (B.Car == c_.Car)) && (B.Wide == c_.Wide)) && (B.Sag == c_.Sag)) && (B.Most == c_.Most)))]) d ?_ ?_
     ·cases hb:((((O && (S.2 == U.2)) && (B.Car == c_.Car)) && (B.Wide == c_.Wide)) && (B.Sag == c_.Sag))
      ·rw [hb] at f
       exact sp 6 f Z λa f=>aN ⟨f.kp Z,d⟩
      ·rw [hb] at f
       exact zP f Z (pFA aC9 Z) λa f=>zL f d aZ m4 Z λa w f d=>zP f Z (pFA aC9 Z) λa f=>zL f d aZ m5 Z λa w f d=>sp 2 f Z λa f=>aN ⟨f.kp Z,d⟩
     intro a w ⟨f,d⟩
     refine sp 1 f Z λa f=>aH F λaj x F=>cV 6 (λa=>Has 133 a [(129,.bool aj)]) d ?_ ?_
     ·cases hb:(((((O && (S.2 == U.2)) && (B.Car == c_.Car)) && (B.Wide == c_.Wide)) && (B.Sag == c_.Sag)) && (B.Most == c_.Most))
      ·rw [hb] at f
       have F:=eG hb x
       obtain rfl:=sj F
       exact sp 6 f Z λa f=>aN ⟨f.kp Z,d⟩
      ·rw [hb] at f
       refine have F:=cO hb x;zP f Z (pFA fR Z) λa f=>zL f d sL m4 Z λa w f d=>zP f Z (pFA fR Z) λa f=>zL f d sL m5 Z λa w f d=>aH F λa2 ac F=>zQ (v:=.bool a2) f d (eN 52) Z (λw d=>by obtain ⟨G1,V,H,d,D⟩:=lend d k2;exact (aBu B.Rides c_.Rides H (I.mono V) d ac).mono λe w h=>⟨h.1,((D _ _ h.2).unpick k2)⟩) λa w f d=>sp 1 f Z λa f=>?_
       obtain rfl:=sj F
       exact aN ⟨f.kp Z,d⟩
     intro a w ⟨f,d⟩
     refine sp 1 f Z λa f=>aH F λa8 y F=>cV 2 (λa=>Has 133 a [(132,.bool a8)]) d ?_ ?_
     ·cases hb:aj
      ·rw [hb] at f
       try rw [hb] at d
       have F:=eG hb y
       obtain rfl:=sj F
       exact sp 2 f Z λa f=>aN ⟨f.kp Z,d⟩
      ·rw [hb] at f
       try rw [hb] at d
       refine have F:=cO hb y;aH F λaz af F=>zQ (v:=.bool az) f d (eN 14) Z (λw d=>jH d af) λa w f d=>sp 1 f Z λa f=>?_
       obtain rfl:=sj F
       exact aN ⟨f.kp Z,d⟩
     intro a w ⟨f,d⟩
     refine sp 1 f Z λa f=>zT h (wp_ret ?_)
     obtain rfl:=sj F
     exact have d:=(((((d.drop k5).drop k4).drop k3).drop k2).drop k1).drop k0;zO1 Tryz.results9 f Z ⟨Z,d⟩

end Go.Nilo
