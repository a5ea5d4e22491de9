/-
 What functions of the Go text compute, as plain functions, and that they do, part 4 of 5. Conditions: what each theorem names.
-/
import Derived.Test.YtkcmofifepmkdaaGreatTd3
import Derived.Test.YtkcmofifepmkdaaGreatProg
set_option linter.unusedVariables false
set_option linter.unusedSimpArgs false
set_option maxRecDepth 100000
set_option maxHeartbeats 4000000
namespace Go.Nilo
open Go.Proofs


def iM (N:Nat) (H:Int) (B:Nat→Int) (D:Nat→aK):Option (dA (Int × (Nat→Int) × (Nat→aK)) (dA (Int × (Nat→Int) × (Nat→aK)) ((Nat→Int) × (Nat→aK)))) :=
 some (.cont (W (H + 1),B,D))
def kN (N:Nat) (w_:bX) (H:Int) (R:Int) (B:Nat→Int) (D:Nat→aK) (xv:aK):Option (Rs ((Nat→Int) × (Nat→aK))) :=
 Option.bind (inR R 13) fun U=>
 Option.bind (nG N (⟨w_.Net,B,D⟩:bX) xv) fun S=>
 Option.bind (aAq N ([(B (H * 13 + R).toNat),S]:List Int)) fun J=>
 Option.bind (jF N (⟨w_.Net,B,D⟩:bX) xv) fun M=>
 Option.bind (inR M 13) fun Y=>
 cond (decide (J < (B (H * 13 + M).toNat)))
 (Option.bind (jF N (⟨w_.Net,B,D⟩:bX) xv) fun O=>
 Option.bind (jF N (⟨w_.Net,B,D⟩:bX) xv) fun I=>
 Option.bind (inR O 13) fun V=>
 Option.bind (inR I 13) fun X=>
 some (.go ((kR B (H * 13 + O).toNat J),(kR D (H * 13 + I).toNat xv))))
 (some (.go (B,D)))
def qQ (N:Nat) (w_:bX) (J:Int) (B:Int) (D:Nat→Int) (H:Nat→aK):Option (dA (Int × (Nat→Int) × (Nat→aK)) (dA (Int × (Nat→Int) × (Nat→aK)) ((Nat→Int) × (Nat→aK)))) :=
 cond (decide (B < w_.Net.Marks))
 (Option.bind (inR B 13) fun R=>
 cond ((D (J * 13 + B).toNat) == 1099511627776)
 (iM N B D H)
 (Option.bind (nH N (⟨w_.Net,D,H⟩:bX) B) fun r=>
 Option.bind (lN N w_.Net.Marks w_.Net.Lines r (rY (fun (zz:(Nat→Int) × (Nat→aK)) (M:aK)=>kN N w_ J B zz.1 zz.2 M)) (.go (D,H))) fun O=>
 rsK O (fun I=>iM N B I.1 I.2) (fun I=>none)))
 (some (.brk (B,D,H)))
def rH (N:Nat) (w_:bX) (I:Int) (x:Int) (H:Nat→Int) (D:Nat→aK):Option (dA (Int × (Nat→Int) × (Nat→aK)) ((Nat→Int) × (Nat→aK))) :=
 cond (decide (x < w_.Net.Marks))
 (Option.bind (bN (fun B=>qQ N w_ I B.1 B.2.1 B.2.2) N (0,H,D)) fun J=>
 exK J (fun B=>some (.cont (W (x + 1),B.2.1,B.2.2))) some)
 (some (.brk (x,H,D)))
def pU (N:Nat) (w_:bX) (B:Int):Option ((Nat→Int) × (Nat→aK)) :=
 Option.bind (inR B 13) fun un=>
 Option.bind (inR B 13) fun D=>
 Option.bind (bN (fun s5=>rH N w_ B s5.1 s5.2.1 s5.2.2) N (0,w_.can,w_.by_)) fun x5=>
 exK x5 (fun s5=>some (s5.2.1,s5.2.2)) some
theorem wX {N:Nat} {G:bA} {Lf:List Ent} {w:World} (w_:bX) (I:Int) {b_:Nat} {H:Option Addr} {D:Nat} (Z:Rd G 5 H D (w_.Net.Lines.map bR)) (hc:Ctx G (.box b_ (aY [i6 w_.Net.Marks,.slice H w_.Net.Lines.length D] 169 aD w_.can (aY [] 169 aG w_.by_ [])) 130::Lf) w) {a5:(Nat→Int) × (Nat→aK)} (hF:pU N w_ I=some a5):Calls Tryz.prog 135 #[pq b_,i6 I] w (fun e w=>e=.returned (.tuple #[])∧Ctx G (.box b_ (aY [i6 w_.Net.Marks,.slice H w_.Net.Lines.length D] 169 aD a5.1 (aY [] 169 aG a5.2 [])) 130::Lf) w):=by
 unfold pU at hF
 refine aEy Tryz.func135 rfl Tryz.ntmps135 rfl fun a hf=>zS fun K h=>zB hf hc rfl fun V a w hf hc=>zT h ?_
 refine wp_seq_k fun K2 h2=>?_
 obtain ⟨un,y,hF⟩:=aC hF
 obtain ⟨ci,an,hF⟩:=aC hF
 replace hc:=hc.nilRow 0 0
 replace hc:=hc.nilRow 0 0
 refine cU (fun θ=>[⟨none,none,1,i6 I⟩,⟨none,none,2,pq V⟩,⟨some 0,none,9,pq b_⟩,⟨some 1,none,10,i6 I⟩,⟨some 2,none,11,pq b_⟩,⟨some 3,none,12,.pointer (some ⟨b_,2,none⟩)⟩,⟨some 4,none,13,.pointer (some ⟨b_,2 + I.toNat * 13,none⟩)⟩,⟨some 5,none,14,pq b_⟩,⟨some 6,none,15,i6 I⟩,⟨some 7,none,16,pq b_⟩,⟨some 8,none,17,.pointer (some ⟨b_,171,none⟩)⟩,⟨some 9,none,18,.pointer (some ⟨b_,171 + I.toNat * 26,none⟩)⟩,⟨some 10,none,4,.pointer (some ⟨(θ 80).b,0,none⟩)⟩,⟨some 11,none,5,.pointer (some ⟨(θ 88).b,0,none⟩)⟩]) (fun E θ=>(bif E 13 then .box (θ 88).b [.pointer (some ⟨b_,171 + I.toNat * 26,none⟩)] 229 else bif E 11 then .box (θ 88).b [.pointer none] 229 else .row none 0 [] 0 0)::(bif E 12 then .box (θ 80).b [.pointer (some ⟨b_,2 + I.toNat * 13,none⟩)] 228 else bif E 10 then .box (θ 80).b [.pointer none] 228 else .row none 0 [] 0 0)::.box V [pq b_] 119::.box b_ (aY [i6 w_.Net.Marks,.slice H w_.Net.Lines.length D] 169 aD w_.can (aY [] 169 aG w_.by_ [])) 130::Lf) [(12,10),(13,11)] (fun a w=>∃ (X:Nat) (Y:Nat),Has 79 a [(2,pq V),(4,pq X),(5,pq Y)]∧Ctx G (.box Y [.pointer (some ⟨b_,171 + I.toNat * 26,none⟩)] 229::.box X [.pointer (some ⟨b_,2 + I.toNat * 13,none⟩)] 228::.box V [pq b_] 119::.box b_ (aY [i6 w_.Net.Marks,.slice H w_.Net.Lines.length D] 169 aD w_.can (aY [] 169 aG w_.by_ [])) 130::Lf) w) aT (by kernel_rfl) (by kernel_rfl) (dL.of hf ⟨rfl,rfl,trivial,trivial,trivial,trivial,trivial,trivial,trivial,trivial,trivial,trivial,trivial,trivial,trivial⟩) hc ⟨?_,?_,?_,?_,?_,?_,?_,?_,?_,?_,?_,?_,?_,?_,trivial⟩ ?_ ?_
 ·intro E θ a w hD hi hp he hc
  have hf:=he.h0.mT he 1 rfl
  refine zL hf hc lI m2 rfl fun a w hf hc=>zD θ he hi hf 2 rfl rfl rfl hc
 ·intro E θ a w hD hi hp he hc
  have hf:=he.h0.mT he 0 rfl
  refine sp 1 hf rfl fun a hf=>zD θ he hi hf 3 rfl rfl rfl hc
 ·intro E θ a w hD hi hp he hc
  have e0:=hp.o 0 rfl
  have hf:=he.h0.mP he 2 rfl e0
  refine sp 1 hf rfl fun a hf=>zD θ he hi hf 4 rfl rfl rfl hc
 ·intro E θ a w hD hi hp he hc
  have e2:=hp.o 2 rfl
  have hf:=he.h0.mP he 4 rfl e2
  refine zP hf rfl (pFA oP rfl) fun a hf=>zD θ he hi hf 5 rfl rfl rfl hc
 ·intro E θ a w hD hi hp he hc
  have e1:=hp.o 1 rfl
  have e3:=hp.o 3 rfl
  have hf:=(he.h0.mP he 3 rfl e1).mP he 5 rfl e3
  refine zP hf rfl (nS Tryz.underlying124 uH rfl rfl (bF y).1 (bF y).2) fun a hf=>zD θ he hi hf 6 rfl rfl rfl hc
 ·intro E θ a w hD hi hp he hc
  have hf:=he.h0.mT he 1 rfl
  refine zL hf hc lI m2 rfl fun a w hf hc=>zD θ he hi hf 7 rfl rfl rfl hc
 ·intro E θ a w hD hi hp he hc
  have hf:=he.h0.mT he 0 rfl
  refine sp 1 hf rfl fun a hf=>zD θ he hi hf 8 rfl rfl rfl hc
 ·intro E θ a w hD hi hp he hc
  have e5:=hp.o 5 rfl
  have hf:=he.h0.mP he 7 rfl e5
  refine sp 1 hf rfl fun a hf=>zD θ he hi hf 9 rfl rfl rfl hc
 ·intro E θ a w hD hi hp he hc
  have e7:=hp.o 7 rfl
  have hf:=he.h0.mP he 9 rfl e7
  refine zP hf rfl (pFA aMg rfl) fun a hf=>zD θ he hi hf 10 rfl rfl rfl hc
 ·intro E θ a w hD hi hp he hc
  have e6:=hp.o 6 rfl
  have e8:=hp.o 8 rfl
  have hf:=(he.h0.mP he 8 rfl e6).mP he 10 rfl e8
  refine zP hf rfl (nS Tryz.underlying128 aP0 rfl rfl (bF an).1 (bF an).2) fun a hf=>zD θ he hi hf 11 rfl rfl rfl hc
 ·intro E θ a w hD hi hp he hc
  have n:=hD.f 0 rfl hi
  try dsimp only at hc
  rw [hi,n] at hc
  have hf:=he.h0
  refine zA hf hc aPj rfl fun b2 a w hf hc=>aQ ?_
  refine bV ?_
  intro ds u a2
  replace hc:=((hc.drop k2).pick k0).pick k1
  refine ⟨(hZ θ 80 ⟨b2,none,0,(fun _=>(none,0))⟩),he.put hi a2 hf rfl [] trivial ⟨qq,qq,qq,qq,qq,qq,qq,qq,qq,qq,qq,qq,qq,qq,trivial⟩,?_⟩
  try dsimp only
  rw [aN E 10,aS 10 n rfl]
  exact hc
 ·intro E θ a w hD hi hp he hc
  have au:=hD.f 1 rfl hi
  try dsimp only at hc
  rw [hi,au] at hc
  have hf:=he.h0
  refine zA hf hc aQf rfl fun b7 a w hf hc=>aQ ?_
  refine bV ?_
  intro ds u a2
  replace hc:=hc.drop k1
  refine ⟨(hZ θ 88 ⟨b7,none,0,(fun _=>(none,0))⟩),he.put hi a2 hf rfl [] trivial ⟨qq,qq,qq,qq,qq,qq,qq,qq,qq,qq,qq,qq,qq,qq,trivial⟩,?_⟩
  try dsimp only
  rw [aN E 11,aS 11 au rfl]
  exact hc
 ·intro E θ a w hD hi hp he hc
  have e4:=hp.o 4 rfl
  have aa:=hp.o 10 rfl
  try dsimp only at hc
  rw [aa,hi] at hc
  have hf:=(he.h0.mP he 6 rfl e4).mP he 12 rfl aa
  refine zW hf hc aPr u1 rfl fun w hc=>zG θ he hi hf rfl ?_
  try dsimp only
  rw [cB 12 aa,aN E 12]
  exact hc
 ·intro E θ a w hD hi hp he hc
  have e9:=hp.o 9 rfl
  have af:=hp.o 11 rfl
  try dsimp only at hc
  rw [af,hi] at hc
  have hf:=(he.h0.mP he 11 rfl e9).mP he 13 rfl af
  refine zW hf hc aP9 u0 rfl fun w hc=>zG θ he hi hf rfl ?_
  try dsimp only
  rw [cB 13 af,aN E 13]
  exact hc
 ·intro E θ a w i he hc
  have hf:=he.h0
  have aa:=i 10 rfl
  have af:=i 11 rfl
  have n:=i 12 rfl
  have au:=i 13 rfl
  replace hf:=hf.more he 13 rfl (onP af)
  replace hf:=hf.more he 12 rfl (onP aa)
  replace hf:=hf.more he 1 rfl (onT)
  try dsimp only at hc
  rw [aa,af,n,au] at hc
  exact ⟨(θ 80).b,(θ 88).b,hf.kp rfl,hc⟩
 rintro a w ⟨X,Y,hf,hc⟩
 refine h2 _ _ ?_
 refine zS fun K h=>zL hf hc lI m2 rfl fun a w hf hc=>sp 1 hf rfl fun a hf=>zP hf rfl (pFA rI rfl) fun a hf=>zP hf rfl (pFA pW rfl) fun a hf=>zL hf hc aX m3 rfl fun a w hf hc=>sp 1 hf rfl fun a hf=>zT h ?_
 refine lR fun K4 h4=>wp_block ?_
 obtain ⟨x5,bt,hF⟩:=aC hF
 let S5:(Int × (Nat→Int) × (Nat→aK))→Act→World→Prop:=(fun (zz:Int × (Nat→Int) × (Nat→aK)) a w=>∃ (Ds:List Nat),Has ⟨79,lK Ds⟩ a [(2,pq V),(4,pq X),(5,pq Y),(23,i6 w_.Net.Marks),(24,i6 zz.1)]∧Ctx G (.box Y [.pointer (some ⟨b_,171 + I.toNat * 26,none⟩)] 229::.box X [.pointer (some ⟨b_,2 + I.toNat * 13,none⟩)] 228::.box V [pq b_] 119::.box b_ (aY [i6 w_.Net.Marks,.slice H w_.Net.Lines.length D] 169 aD zz.2.1 (aY [] 169 aG zz.2.2 [])) 130::(nI Ds++Lf)) w)
 have b9:∀ (zz:Int × (Nat→Int) × (Nat→aK)) a w,x5=.go zz→S5 zz a w→K4 a w:=by
  rintro ⟨x,a0,a1⟩ a w rfl ⟨Ds,hf,hc⟩
  replace hF:=cJ hF
  refine h4 _ _ ?_
  obtain rfl:=sj hF
  replace hc:=((hc.drop k2).drop k1).drop k0
  refine aFx hf ?_
  refine aAd [.box b_ (aY [i6 w_.Net.Marks,.slice H w_.Net.Lines.length D] 169 aD a0 (aY [] 169 aG a1 [])) 130] Ds hc fun w hc=>?_
  replace hc:Ctx G (.box b_ (aY [i6 w_.Net.Marks,.slice H w_.Net.Lines.length D] 169 aD a0 (aY [] 169 aG a1 [])) 130::Lf) w:=hc
  exact outM0 Tryz.results135 ⟨rfl,hc⟩
 have ck:∀ r,x5=.out r→r=a5:=by
  rintro r rfl
  exact sj hF
 replace hf:=aJm hf
 replace hc:Ctx G (.box Y [.pointer (some ⟨b_,171 + I.toNat * 26,none⟩)] 229::.box X [.pointer (some ⟨b_,2 + I.toNat * 13,none⟩)] 228::.box V [pq b_] 119::.box b_ (aY [i6 w_.Net.Marks,.slice H w_.Net.Lines.length D] 169 aD w_.can (aY [] 169 aG w_.by_ [])) 130::(nI []++Lf)) w:=hc
 refine dQ N (dP (S:=S5) (x:=x5) ?_ N (0,w_.can,w_.by_) _ _ ⟨[],hf.kp rfl,hc⟩ bt)
 clear hF hf hc
 rintro ⟨x,a0,a1⟩ b5 a w KB5 ⟨Ds,hf,hc⟩ hF a6 bs
 unfold rH at hF
 refine zS fun K h=>sp 1 hf rfl fun a hf=>zT h ?_
 refine wp_seq_k fun K7 h7=>zI hf rfl hF ?_ ?_ <;> clear hF <;> intro hF
 ·refine wp_skip ?_
  refine h7 _ _ ?_
  refine wp_seq_k fun K8 h8=>wp_block ?_
  refine zS fun K h=>zL hf hc lI m2 rfl fun a w hf hc=>sp 1 hf rfl fun a hf=>zP hf rfl (pFA rI rfl) fun a hf=>zP hf rfl (pFA pW rfl) fun a hf=>zL hf hc aX m3 rfl fun a w hf hc=>sp 1 hf rfl fun a hf=>zT h ?_
  refine lR fun K10 bz=>wp_block ?_
  obtain ⟨a7,bp,hF⟩:=aC hF
  let S11:(Int × (Nat→Int) × (Nat→aK))→Act→World→Prop:=(fun (zz:Int × (Nat→Int) × (Nat→aK)) a w=>∃ (Ds_1:List Nat),Has ⟨79,lK Ds_1⟩ a [(2,pq V),(4,pq X),(5,pq Y),(23,i6 w_.Net.Marks),(24,i6 x),(30,i6 w_.Net.Marks),(31,i6 zz.1)]∧Ctx G (.box Y [.pointer (some ⟨b_,171 + I.toNat * 26,none⟩)] 229::.box X [.pointer (some ⟨b_,2 + I.toNat * 13,none⟩)] 228::.box V [pq b_] 119::.box b_ (aY [i6 w_.Net.Marks,.slice H w_.Net.Lines.length D] 169 aD zz.2.1 (aY [] 169 aG zz.2.2 [])) 130::(nI Ds_1++Lf)) w)
  have bb:∀ (zz:Int × (Nat→Int) × (Nat→aK)) a w,a7=.go zz→S11 zz a w→K10 a w:=by
   rintro ⟨R,ad,ab⟩ a w rfl ⟨Ds_1,hf,hc⟩
   replace hF:=cJ hF
   refine bz _ _ ?_
   refine h8 _ _ ?_
   refine cX ?_
   refine sp 2 hf rfl fun a hf=>aQ ?_
   exact bs (W (x + 1),ad,ab) _ _ (sj hF).symm ⟨Ds_1,hf.kp rfl,hc⟩
  have cg:∀ r,a7=.out r→r=b5:=by
   rintro r rfl
   exact sj hF
  refine dQ N (dP (S:=S11) (x:=a7) ?_ N (0,a0,a1) _ _ ⟨Ds,hf.kp rfl,hc⟩ bp)
  clear hF hf hc
  rintro ⟨R,ad,ab⟩ a4 a w KB11 ⟨Ds_1,hf,hc⟩ hF a3 bn
  unfold qQ at hF
  refine zS fun K h=>sp 1 hf rfl fun a hf=>zT h ?_
  refine wp_seq_k fun K13 b0=>zI hf rfl hF ?_ ?_ <;> clear hF <;> intro hF
  ·refine wp_skip ?_
   refine b0 _ _ ?_
   refine wp_seq_k fun K14 b4=>?_
   have a9:∀ (ay:Nat→Int) (az:Nat→aK) (Ds_2:List Nat) a w,Has ⟨79,lK Ds_2⟩ a [(2,pq V),(4,pq X),(5,pq Y),(23,i6 w_.Net.Marks),(24,i6 x),(30,i6 w_.Net.Marks),(31,i6 R)]→Ctx G (.box Y [.pointer (some ⟨b_,171 + I.toNat * 26,none⟩)] 229::.box X [.pointer (some ⟨b_,2 + I.toNat * 13,none⟩)] 228::.box V [pq b_] 119::.box b_ (aY [i6 w_.Net.Marks,.slice H w_.Net.Lines.length D] 169 aD ay (aY [] 169 aG az [])) 130::(nI Ds_2++Lf)) w→iM N R ay az=some a4→K14 a w:=by
    repeat (clear hF)
    repeat (clear hc)
    repeat (clear hf)
    intro ay az Ds_2 a w hf hc hF
    unfold iM at hF
    refine b4 _ _ ?_
    refine cX ?_
    refine sp 2 hf rfl fun a hf=>aQ ?_
    exact bn (W (R + 1),ay,az) _ _ (sj hF).symm ⟨Ds_2,hf.kp rfl,hc⟩
   refine wp_block ?_
   refine zS fun K h=>sp 1 hf rfl fun a hf=>zA hf hc zr_3 rfl fun d a w hf hc=>zW hf hc fD u0 rfl fun w hc=>zT h ?_
   refine wp_seq_k fun K16 bv=>wp_seq_k fun K17 b8=>?_
   obtain ⟨cd,ai,hF⟩:=aC hF
   refine cQ hc aT (by kernel_rfl) ?_
   refine qE hf rfl rfl rfl (cV aF6 rfl (bQ m2 rfl)) fun a hf=>qE hf rfl rfl rfl (cV aX rfl (bQ m0 rfl)) fun a hf=>qE hf rfl rfl rfl (Pu.ev (pNC rfl)) fun a hf=>qE hf rfl rfl rfl (Pu.ev (Pu.cast (nS Tryz.underlying122 fD rfl rfl (bF ai).1 (bF ai).2) (congrArg (fun k=>Value.pointer (some ⟨b_,k,none⟩)) (mA (M:=13) (2) y ai rfl)))) fun a hf=>qE hf rfl rfl rfl (cV aX rfl (kA (j:=0) m4 (fun x=>(bG x).1) rfl (yZ y ai rfl) rfl)) fun a hf=>qE hf rfl rfl rfl (Pu.ev (pEq rfl rfl)) fun a hf=>?_
   intro w hc
   refine b8 _ _ ?_
   refine zI hf rfl hF ?_ ?_ <;> clear hF <;> intro hF
   ·refine wp_exit ?_
    refine bI ?_
    refine fB ?_
    replace hc:=hc.drop k0
    exact a9 ad ab Ds_1 _ _  (hf.kp rfl) hc hF
   ·refine wp_skip ?_
    refine bv _ _ ?_
    refine zS fun K h=>zL hf hc lI m3 rfl fun a w hf hc=>zL hf hc aX m0 rfl fun a w hf hc=>?_
    obtain ⟨r,hr,hF⟩:=aC hF
    refine zC hf aNf rfl (rF (⟨w_.Net,ad,ab⟩:bX) R Z (hc.pick k4) hr) ?_
    rintro _ w ⟨av,ax,rfl,hc⟩
    refine ⟨_,rfl,fun a hf=>?_⟩
    refine zT h ?_
    obtain ⟨b1,bd,hF⟩:=aC hF
    refine aJy (C:=[.box av [pq b_] 119,.box ax [i6 r] 3]) (C2:=[.box av [pq b_] 119,.box ax [i6 r] 3]) (L0:=[.box b_ (aY [i6 w_.Net.Marks,.slice H w_.Net.Lines.length D] 169 aD ad (aY [] 169 aG ab [])) 130,.box d [i6 R] 3,.box Y [.pointer (some ⟨b_,171 + I.toNat * 26,none⟩)] 229,.box X [.pointer (some ⟨b_,2 + I.toNat * 13,none⟩)] 228,.box V [pq b_] 119]) (Lf:=(nI Ds_1++Lf)) (encs:=fun x:aK=>[.agg #[i6 x.Line,.bool x.Back]]) (fun (zz:(Nat→Int) × (Nat→aK)) L=>L=[.box b_ (aY [i6 w_.Net.Marks,.slice H w_.Net.Lines.length D] 169 aD zz.1 (aY [] 169 aG zz.2 [])) 130,.box d [i6 R] 3,.box Y [.pointer (some ⟨b_,171 + I.toNat * 26,none⟩)] 229,.box X [.pointer (some ⟨b_,2 + I.toNat * 13,none⟩)] 228,.box V [pq b_] 119]) (fun (zz:(Nat→Int) × (Nat→aK)) (b6:aK)=>kN N w_ I R zz.1 zz.2 b6) (ad,ab) b1 hf hc rfl aLn (fun _=>rfl) rfl rfl ?_ ?_ ?_ ?_
    ·intro lq mq J L Lx w hy hQ hJ hc
     have bg:∀ (zz:(Nat→Int) × (Nat→aK)) (M:List Ent),(fun (zz:(Nat→Int) × (Nat→aK)) L=>L=[.box b_ (aY [i6 w_.Net.Marks,.slice H w_.Net.Lines.length D] 169 aD zz.1 (aY [] 169 aG zz.2 [])) 130,.box d [i6 R] 3,.box Y [.pointer (some ⟨b_,171 + I.toNat * 26,none⟩)] 229,.box X [.pointer (some ⟨b_,2 + I.toNat * 13,none⟩)] 228,.box V [pq b_] 119]) zz M→∃ A B,∃ xx:(Nat→Int) × (Nat→aK),M=A++(.box b_ (aY [i6 w_.Net.Marks,.slice H w_.Net.Lines.length D] 169 aD xx.1 (aY [] 169 aG xx.2 [])) 130::B):=by
      rintro ⟨O,U⟩ _ ⟨rfl⟩
      exact ⟨[],_,(O,U),rfl⟩
     exact qC w_.Net.Marks w_.Net.Lines r Z J _ hy _ hJ (hQ _ (fun xx:(Nat→Int) × (Nat→aK)=>.box b_ (aY [i6 w_.Net.Marks,.slice H w_.Net.Lines.length D] 169 aD xx.1 (aY [] 169 aG xx.2 [])) 130) bg) hc bd
    ·clear hF hf hc
     rintro lq mq ⟨O,U⟩ xv oq _ Lr Lb a w cm rfl hF hf hc hK
     replace hf:Has 79 a [(2,pq V),(4,pq X),(5,pq Y),(6,pq d),(23,i6 w_.Net.Marks),(24,i6 x),(30,i6 w_.Net.Marks),(31,i6 R),(43,.agg #[i6 xv.Line,.bool xv.Back])]:=hf.kp rfl
     replace hc:Ctx G (.box b_ (aY [i6 w_.Net.Marks,.slice H w_.Net.Lines.length D] 169 aD O (aY [] 169 aG U [])) 130::.box d [i6 R] 3::.box Y [.pointer (some ⟨b_,171 + I.toNat * 26,none⟩)] 229::.box X [.pointer (some ⟨b_,2 + I.toNat * 13,none⟩)] 228::.box V [pq b_] 119::Lr) w:=hc
     replace hF:kN N w_ I R O U xv=some oq:=hF
     unfold kN at hF
     refine sP (fun _ _ h=>h) rfl ?_
     refine zA hf hc aIn rfl fun p a w hf hc=>zW hf hc aAr u0 rfl fun w hc=>aQ ?_
     refine hK _ _ [.box p [i6 xv.Line,.bool xv.Back] 126,.box b_ (aY [i6 w_.Net.Marks,.slice H w_.Net.Lines.length D] 169 aD O (aY [] 169 aG U [])) 130,.box d [i6 R] 3,.box Y [.pointer (some ⟨b_,171 + I.toNat * 26,none⟩)] 229,.box X [.pointer (some ⟨b_,2 + I.toNat * 13,none⟩)] 228,.box V [pq b_] 119] hc fun w hc=>?_
     replace hc:Ctx G (.box p [i6 xv.Line,.bool xv.Back] 126::.box b_ (aY [i6 w_.Net.Marks,.slice H w_.Net.Lines.length D] 169 aD O (aY [] 169 aG U [])) 130::.box d [i6 R] 3::.box Y [.pointer (some ⟨b_,171 + I.toNat * 26,none⟩)] 229::.box X [.pointer (some ⟨b_,2 + I.toNat * 13,none⟩)] 228::.box V [pq b_] 119::Lb) w:=hc
     refine xA fun K20 ba=>vZ ?_
     refine sE fun K21 bu=>?_
     obtain ⟨cc,ak,hF⟩:=aC hF
     obtain ⟨s,bi,hF⟩:=aC hF
     obtain ⟨g,bf,hF⟩:=aC hF
     replace hc:=hc.nilRow 0 0
     refine xP (fun _ _ h=>h) rfl (fun θ=>[⟨none,none,2,pq V⟩,⟨none,none,4,pq X⟩,⟨none,none,5,pq Y⟩,⟨none,none,6,pq d⟩,⟨none,none,7,pq p⟩,⟨none,none,23,i6 w_.Net.Marks⟩,⟨none,none,24,i6 x⟩,⟨none,none,30,i6 w_.Net.Marks⟩,⟨none,none,31,i6 R⟩,⟨some 0,none,44,.pointer (some ⟨b_,2 + I.toNat * 13,none⟩)⟩,⟨some 1,none,45,i6 R⟩,⟨some 2,none,46,.pointer (some ⟨b_,2 + I.toNat * 13,none⟩)⟩,⟨some 3,none,47,.pointer (some ⟨b_,2 + (I * 13 + R).toNat * 1,none⟩)⟩,⟨some 4,none,48,i6 (O (I * 13 + R).toNat)⟩,⟨some 5,none,49,pq b_⟩,⟨some 6,none,50,.agg #[i6 xv.Line,.bool xv.Back]⟩,⟨some 7,none,51,i6 s⟩,⟨some 8,none,52,.slice (some ⟨(θ 64).b,0,none⟩) 2 2⟩,⟨some 9,none,53,i6 g⟩,⟨some 10,none,8,i6 g⟩]) (fun E θ=>(bif E 8 then .row (some ⟨(θ 64).b,0,none⟩) 2 (([(O (I * 13 + R).toNat),s]:List Int).map aD) 3 1 else .row none 0 [] 0 0)::.box p [i6 xv.Line,.bool xv.Back] 126::.box b_ (aY [i6 w_.Net.Marks,.slice H w_.Net.Lines.length D] 169 aD O (aY [] 169 aG U [])) 130::.box d [i6 R] 3::.box Y [.pointer (some ⟨b_,171 + I.toNat * 26,none⟩)] 229::.box X [.pointer (some ⟨b_,2 + I.toNat * 13,none⟩)] 228::.box V [pq b_] 119::Lb) [] (fun a w=>∃ (ac:Nat),Has 79 a [(2,pq V),(4,pq X),(5,pq Y),(6,pq d),(7,pq p),(23,i6 w_.Net.Marks),(24,i6 x),(30,i6 w_.Net.Marks),(31,i6 R),(8,i6 g)]∧Ctx G (.row (some ⟨ac,0,none⟩) 2 (([(O (I * 13 + R).toNat),s]:List Int).map aD) 3 1::.box p [i6 xv.Line,.bool xv.Back] 126::.box b_ (aY [i6 w_.Net.Marks,.slice H w_.Net.Lines.length D] 169 aD O (aY [] 169 aG U [])) 130::.box d [i6 R] 3::.box Y [.pointer (some ⟨b_,171 + I.toNat * 26,none⟩)] 229::.box X [.pointer (some ⟨b_,2 + I.toNat * 13,none⟩)] 228::.box V [pq b_] 119::Lb) w) aT (by kernel_rfl) (by kernel_rfl) (dL.of hf ⟨rfl,rfl,rfl,rfl,rfl,rfl,rfl,rfl,rfl,trivial,trivial,trivial,trivial,trivial,trivial,trivial,trivial,trivial,trivial,trivial,trivial⟩) hc ⟨?_,?_,?_,?_,?_,?_,?_,?_,?_,?_,?_,trivial⟩ ?_ ?_
     ·intro E θ a w hD hi hp he hc
      have hf:=he.h0.mT he 1 rfl
      refine zL hf hc aF6 m5 rfl fun a w hf hc=>zD θ he hi hf 9 rfl rfl rfl hc
     ·intro E θ a w hD hi hp he hc
      have hf:=he.h0.mT he 3 rfl
      refine zL hf hc aX m3 rfl fun a w hf hc=>zD θ he hi hf 10 rfl rfl rfl hc
     ·intro E θ a w hD hi hp he hc
      have e0:=hp.o 0 rfl
      have hf:=he.h0.mP he 9 rfl e0
      refine sp 1 hf rfl fun a hf=>zD θ he hi hf 11 rfl rfl rfl hc
     ·intro E θ a w hD hi hp he hc
      have e1:=hp.o 1 rfl
      have e2:=hp.o 2 rfl
      have hf:=(he.h0.mP he 10 rfl e1).mP he 11 rfl e2
      refine zP hf rfl (Pu.cast (nS Tryz.underlying122 fD rfl rfl (bF ak).1 (bF ak).2) (congrArg (fun k=>Value.pointer (some ⟨b_,k,none⟩)) (mA (M:=13) (2) y ak rfl))) fun a hf=>zD θ he hi hf 12 rfl rfl rfl hc
     ·intro E θ a w hD hi hp he hc
      have e3:=hp.o 3 rfl
      have hf:=he.h0.mP he 12 rfl e3
      refine zE hf hc rfl (cV aX rfl (kA (j:=0) m2 (fun x=>(bG x).1) rfl (yZ y ak rfl) rfl)) fun a w hf hc=>zD θ he hi hf 13 rfl rfl rfl hc
     ·intro E θ a w hD hi hp he hc
      have hf:=he.h0.mT he 0 rfl
      refine zL hf hc lI m6 rfl fun a w hf hc=>zD θ he hi hf 14 rfl rfl rfl hc
     ·intro E θ a w hD hi hp he hc
      have hf:=he.h0.mT he 4 rfl
      refine zN hf hc sV m1 rfl fun a w hf hc=>zD θ he hi hf 15 rfl rfl rfl hc
     ·intro E θ a w hD hi hp he hc
      have e5:=hp.o 5 rfl
      have e6:=hp.o 6 rfl
      have hf:=(he.h0.mP he 14 rfl e5).mP he 15 rfl e6
      refine zQ (v:=i6 s) hf hc aKr rfl (fun w hc=>(rO (⟨w_.Net,O,U⟩:bX) xv Z (hc.pick k2) bi).mono fun e w h=>⟨h.1,(h.2.unpick k2)⟩) fun a w hf hc=>zD θ he hi hf 16 rfl rfl rfl hc
     ·intro E θ a w hD hi hp he hc
      have e4:=hp.o 4 rfl
      have e7:=hp.o 7 rfl
      try dsimp only at hc
      rw [hi] at hc
      have hf:=(he.h0.mP he 13 rfl e4).mP he 16 rfl e7
      refine oJ (rows:=([(O (I * 13 + R).toNat),s]:List Int).map aD) (vs:=[(0,i6 (O (I * 13 + R).toNat)),(1,i6 s)]) hf hc rfl rfl lQ rfl ⟨rfl,rfl,rfl,rfl,rfl,rfl,trivial⟩ rfl rfl fun bk a w hf hc=>aQ ?_
      refine bV ?_
      intro ds u a2
      replace hc:=hc.drop k1
      refine ⟨(hZ θ 64 ⟨bk,none,0,(fun _=>(none,0))⟩),he.put hi a2 hf rfl [] trivial ⟨qq,qq,qq,qq,qq,qq,qq,qq,qq,qq,qq,qq,qq,qq,qq,qq,qq,qq,qq,qq,trivial⟩,?_⟩
      try dsimp only
      rw [aN E 8]
      exact hc
     ·intro E θ a w hD hi hp he hc
      have e8:=hp.o 8 rfl
      try dsimp only at hc
      rw [e8] at hc
      have hf:=he.h0.mP he 17 rfl e8
      refine zQ (v:=i6 g) hf hc aPx rfl (fun w hc=>by obtain ⟨G1,cb,br,hc,bm⟩:=lend hc k0; exact (aFv ([(O (I * 13 + R).toNat),s]:List Int) br hc bf).mono fun e w h=>⟨h.1,((bm _ _ h.2).unpick k0)⟩) fun a w hf hc=>zD θ he hi hf 18 rfl rfl rfl ?_
      try dsimp only
      rw [cB 9 e8]
      exact hc
     ·intro E θ a w hD hi hp he hc
      have e9:=hp.o 9 rfl
      have hf:=he.h0.mP he 18 rfl e9
      refine sp 1 hf rfl fun a hf=>zD θ he hi hf 19 rfl rfl rfl hc
     ·intro E θ a w i he hc
      have hf:=he.h0
      have e8:=i 8 rfl
      have aa:=i 10 rfl
      replace hf:=hf.more he 19 rfl (onP aa)
      replace hf:=hf.more he 8 rfl (onT)
      replace hf:=hf.more he 7 rfl (onT)
      replace hf:=hf.more he 6 rfl (onT)
      replace hf:=hf.more he 5 rfl (onT)
      replace hf:=hf.more he 4 rfl (onT)
      replace hf:=hf.more he 3 rfl (onT)
      replace hf:=hf.more he 2 rfl (onT)
      replace hf:=hf.more he 1 rfl (onT)
      replace hf:=hf.more he 0 rfl (onT)
      try dsimp only at hc
      rw [e8] at hc
      exact ⟨(θ 64).b,hf.kp rfl,hc⟩
     rintro a w ⟨ac,hf,hc⟩
     refine bu _ _ ?_
     refine sE fun K22 b3=>?_
     obtain ⟨ap,bc,hF⟩:=aC hF
     obtain ⟨ca,ag,hF⟩:=aC hF
     refine xP (fun _ _ h=>h) rfl (fun θ=>[⟨none,none,2,pq V⟩,⟨none,none,4,pq X⟩,⟨none,none,5,pq Y⟩,⟨none,none,6,pq d⟩,⟨none,none,7,pq p⟩,⟨none,none,8,i6 g⟩,⟨none,none,23,i6 w_.Net.Marks⟩,⟨none,none,24,i6 x⟩,⟨none,none,30,i6 w_.Net.Marks⟩,⟨none,none,31,i6 R⟩,⟨some 0,none,54,i6 g⟩,⟨some 1,none,55,.pointer (some ⟨b_,2 + I.toNat * 13,none⟩)⟩,⟨some 2,none,56,pq b_⟩,⟨some 3,none,57,.agg #[i6 xv.Line,.bool xv.Back]⟩,⟨some 4,none,58,i6 ap⟩,⟨some 5,none,59,.pointer (some ⟨b_,2 + I.toNat * 13,none⟩)⟩,⟨some 6,none,60,.pointer (some ⟨b_,2 + (I * 13 + ap).toNat * 1,none⟩)⟩,⟨some 7,none,61,i6 (O (I * 13 + ap).toNat)⟩,⟨some 8,none,62,.bool (decide (g < (O (I * 13 + ap).toNat)))⟩]) (fun E θ=>.row (some ⟨ac,0,none⟩) 2 (([(O (I * 13 + R).toNat),s]:List Int).map aD) 3 1::.box p [i6 xv.Line,.bool xv.Back] 126::.box b_ (aY [i6 w_.Net.Marks,.slice H w_.Net.Lines.length D] 169 aD O (aY [] 169 aG U [])) 130::.box d [i6 R] 3::.box Y [.pointer (some ⟨b_,171 + I.toNat * 26,none⟩)] 229::.box X [.pointer (some ⟨b_,2 + I.toNat * 13,none⟩)] 228::.box V [pq b_] 119::Lb) [] (fun a w=>Has 79 a [(2,pq V),(4,pq X),(5,pq Y),(6,pq d),(7,pq p),(8,i6 g),(23,i6 w_.Net.Marks),(24,i6 x),(30,i6 w_.Net.Marks),(31,i6 R),(62,.bool (decide (g < (O (I * 13 + ap).toNat))))]∧Ctx G (.row (some ⟨ac,0,none⟩) 2 (([(O (I * 13 + R).toNat),s]:List Int).map aD) 3 1::.box p [i6 xv.Line,.bool xv.Back] 126::.box b_ (aY [i6 w_.Net.Marks,.slice H w_.Net.Lines.length D] 169 aD O (aY [] 169 aG U [])) 130::.box d [i6 R] 3::.box Y [.pointer (some ⟨b_,171 + I.toNat * 26,none⟩)] 229::.box X [.pointer (some ⟨b_,2 + I.toNat * 13,none⟩)] 228::.box V [pq b_] 119::Lb) w) aT (by kernel_rfl) (by kernel_rfl) (dL.of hf ⟨rfl,rfl,rfl,rfl,rfl,rfl,rfl,rfl,rfl,rfl,trivial,trivial,trivial,trivial,trivial,trivial,trivial,trivial,trivial,trivial⟩) hc ⟨?_,?_,?_,?_,?_,?_,?_,?_,?_,trivial⟩ ?_ ?_
     ·intro E θ a w hD hi hp he hc
      have hf:=he.h0.mT he 5 rfl
      refine sp 1 hf rfl fun a hf=>zD θ he hi hf 10 rfl rfl rfl hc
     ·intro E θ a w hD hi hp he hc
      have hf:=he.h0.mT he 1 rfl
      refine zL hf hc aF6 m5 rfl fun a w hf hc=>zD θ he hi hf 11 rfl rfl rfl hc
     ·intro E θ a w hD hi hp he hc
      have hf:=he.h0.mT he 0 rfl
      refine zL hf hc lI m6 rfl fun a w hf hc=>zD θ he hi hf 12 rfl rfl rfl hc
     ·intro E θ a w hD hi hp he hc
      have hf:=he.h0.mT he 4 rfl
      refine zN hf hc sV m1 rfl fun a w hf hc=>zD θ he hi hf 13 rfl rfl rfl hc
     ·intro E θ a w hD hi hp he hc
      have e2:=hp.o 2 rfl
      have e3:=hp.o 3 rfl
      have hf:=(he.h0.mP he 12 rfl e2).mP he 13 rfl e3
      refine zQ (v:=i6 ap) hf hc aGp rfl (fun w hc=>(lE (⟨w_.Net,O,U⟩:bX) xv Z (hc.pick k2) bc).mono fun e w h=>⟨h.1,(h.2.unpick k2)⟩) fun a w hf hc=>zD θ he hi hf 14 rfl rfl rfl hc
     ·intro E θ a w hD hi hp he hc
      have e1:=hp.o 1 rfl
      have hf:=he.h0.mP he 11 rfl e1
      refine sp 1 hf rfl fun a hf=>zD θ he hi hf 15 rfl rfl rfl hc
     ·intro E θ a w hD hi hp he hc
      have e4:=hp.o 4 rfl
      have e5:=hp.o 5 rfl
      have hf:=(he.h0.mP he 14 rfl e4).mP he 15 rfl e5
      refine zP hf rfl (Pu.cast (nS Tryz.underlying122 fD rfl rfl (bF ag).1 (bF ag).2) (congrArg (fun k=>Value.pointer (some ⟨b_,k,none⟩)) (mA (M:=13) (2) y ag rfl))) fun a hf=>zD θ he hi hf 16 rfl rfl rfl hc
     ·intro E θ a w hD hi hp he hc
      have e6:=hp.o 6 rfl
      have hf:=he.h0.mP he 16 rfl e6
      refine zE hf hc rfl (cV aX rfl (kA (j:=0) m2 (fun x=>(bG x).1) rfl (yZ y ag rfl) rfl)) fun a w hf hc=>zD θ he hi hf 17 rfl rfl rfl hc
     ·intro E θ a w hD hi hp he hc
      have e0:=hp.o 0 rfl
      have e7:=hp.o 7 rfl
      have hf:=(he.h0.mP he 10 rfl e0).mP he 17 rfl e7
      refine sp 1 hf rfl fun a hf=>zD θ he hi hf 18 rfl rfl rfl hc
     ·intro E θ a w i he hc
      have hf:=he.h0
      have e8:=i 8 rfl
      replace hf:=hf.more he 18 rfl (onP e8)
      replace hf:=hf.more he 9 rfl (onT)
      replace hf:=hf.more he 8 rfl (onT)
      replace hf:=hf.more he 7 rfl (onT)
      replace hf:=hf.more he 6 rfl (onT)
      replace hf:=hf.more he 5 rfl (onT)
      replace hf:=hf.more he 4 rfl (onT)
      replace hf:=hf.more he 3 rfl (onT)
      replace hf:=hf.more he 2 rfl (onT)
      replace hf:=hf.more he 1 rfl (onT)
      replace hf:=hf.more he 0 rfl (onT)
      exact ⟨hf.kp rfl,hc⟩
     rintro a w ⟨hf,hc⟩
     refine b3 _ _ ?_
     refine aDe (b:=(decide (g < (O (I * 13 + ap).toNat)))) hf rfl (fun hb=>?_) (fun hb=>?_)
     ·replace hF:=gI hb hF
      clear hb
      obtain ⟨aq,bq,hF⟩:=aC hF
      obtain ⟨ar,bj,hF⟩:=aC hF
      obtain ⟨cf,am,hF⟩:=aC hF
      obtain ⟨cj,aj,hF⟩:=aC hF
      refine xP (fun _ _ h=>h) rfl (fun θ=>[⟨none,none,2,pq V⟩,⟨none,none,4,pq X⟩,⟨none,none,5,pq Y⟩,⟨none,none,6,pq d⟩,⟨none,none,7,pq p⟩,⟨none,none,8,i6 g⟩,⟨none,none,23,i6 w_.Net.Marks⟩,⟨none,none,24,i6 x⟩,⟨none,none,30,i6 w_.Net.Marks⟩,⟨none,none,31,i6 R⟩,⟨some 0,none,63,.pointer (some ⟨b_,2 + I.toNat * 13,none⟩)⟩,⟨some 1,none,64,pq b_⟩,⟨some 2,none,65,.agg #[i6 xv.Line,.bool xv.Back]⟩,⟨some 3,none,66,i6 aq⟩,⟨some 4,none,67,.pointer (some ⟨b_,171 + I.toNat * 26,none⟩)⟩,⟨some 5,none,68,pq b_⟩,⟨some 6,none,69,.agg #[i6 xv.Line,.bool xv.Back]⟩,⟨some 7,none,70,i6 ar⟩,⟨some 8,none,71,i6 g⟩,⟨some 9,none,72,.agg #[i6 xv.Line,.bool xv.Back]⟩,⟨some 10,none,73,.pointer (some ⟨b_,2 + I.toNat * 13,none⟩)⟩,⟨some 11,none,74,.pointer (some ⟨b_,2 + (I * 13 + aq).toNat * 1,none⟩)⟩,⟨some 13,none,75,.pointer (some ⟨b_,171 + I.toNat * 26,none⟩)⟩,⟨some 14,none,76,.pointer (some ⟨b_,171 + (I * 13 + ar).toNat * 2,none⟩)⟩]) (fun E θ=>.row (some ⟨ac,0,none⟩) 2 (([(O (I * 13 + R).toNat),s]:List Int).map aD) 3 1::.box p [i6 xv.Line,.bool xv.Back] 126::(bif E 15 then .box b_ (aY [i6 w_.Net.Marks,.slice H w_.Net.Lines.length D] 169 aD (kR O (I * 13 + aq).toNat g) (aY [] 169 aG (kR U (I * 13 + ar).toNat xv) [])) 130 else bif E 12 then .box b_ (aY [i6 w_.Net.Marks,.slice H w_.Net.Lines.length D] 169 aD (kR O (I * 13 + aq).toNat g) (aY [] 169 aG U [])) 130 else .box b_ (aY [i6 w_.Net.Marks,.slice H w_.Net.Lines.length D] 169 aD O (aY [] 169 aG U [])) 130)::.box d [i6 R] 3::.box Y [.pointer (some ⟨b_,171 + I.toNat * 26,none⟩)] 229::.box X [.pointer (some ⟨b_,2 + I.toNat * 13,none⟩)] 228::.box V [pq b_] 119::Lb) [(12,3),(15,3),(12,7),(15,7),(15,12)] (fun a w=>Has 79 a [(2,pq V),(4,pq X),(5,pq Y),(6,pq d),(23,i6 w_.Net.Marks),(24,i6 x),(30,i6 w_.Net.Marks),(31,i6 R)]∧Ctx G (.row (some ⟨ac,0,none⟩) 2 (([(O (I * 13 + R).toNat),s]:List Int).map aD) 3 1::.box p [i6 xv.Line,.bool xv.Back] 126::.box b_ (aY [i6 w_.Net.Marks,.slice H w_.Net.Lines.length D] 169 aD (kR O (I * 13 + aq).toNat g) (aY [] 169 aG (kR U (I * 13 + ar).toNat xv) [])) 130::.box d [i6 R] 3::.box Y [.pointer (some ⟨b_,171 + I.toNat * 26,none⟩)] 229::.box X [.pointer (some ⟨b_,2 + I.toNat * 13,none⟩)] 228::.box V [pq b_] 119::Lb) w) aT (by kernel_rfl) (by kernel_rfl) (dL.of hf ⟨rfl,rfl,rfl,rfl,rfl,rfl,rfl,rfl,rfl,rfl,trivial,trivial,trivial,trivial,trivial,trivial,trivial,trivial,trivial,trivial,trivial,trivial,trivial,trivial,trivial⟩) hc ⟨?_,?_,?_,?_,?_,?_,?_,?_,?_,?_,?_,?_,?_,?_,?_,?_,trivial⟩ ?_ ?_
      ·intro E θ a w hD hi hp he hc
       have hf:=he.h0.mT he 1 rfl
       refine zL hf hc aF6 m5 rfl fun a w hf hc=>zD θ he hi hf 10 rfl rfl rfl hc
      ·intro E θ a w hD hi hp he hc
       have hf:=he.h0.mT he 0 rfl
       refine zL hf hc lI m6 rfl fun a w hf hc=>zD θ he hi hf 11 rfl rfl rfl hc
      ·intro E θ a w hD hi hp he hc
       have hf:=he.h0.mT he 4 rfl
       refine zN hf hc sV m1 rfl fun a w hf hc=>zD θ he hi hf 12 rfl rfl rfl hc
      ·intro E θ a w hD hi hp he hc
       have e1:=hp.o 1 rfl
       have e2:=hp.o 2 rfl
       have n:=hD.f 0 rfl hi
       have t:=hD.f 1 rfl hi
       try dsimp only at hc
       rw [n,t] at hc
       have hf:=(he.h0.mP he 11 rfl e1).mP he 12 rfl e2
       refine zQ (v:=i6 aq) hf hc aGp rfl (fun w hc=>(lE (⟨w_.Net,O,U⟩:bX) xv Z (hc.pick k2) bq).mono fun e w h=>⟨h.1,(h.2.unpick k2)⟩) fun a w hf hc=>zD θ he hi hf 13 rfl rfl rfl ?_
       try dsimp only
       rw [aS 3 n rfl,aS 3 t rfl]
       exact hc
      ·intro E θ a w hD hi hp he hc
       have hf:=he.h0.mT he 2 rfl
       refine zL hf hc aPs m4 rfl fun a w hf hc=>zD θ he hi hf 14 rfl rfl rfl hc
      ·intro E θ a w hD hi hp he hc
       have hf:=he.h0.mT he 0 rfl
       refine zL hf hc lI m6 rfl fun a w hf hc=>zD θ he hi hf 15 rfl rfl rfl hc
      ·intro E θ a w hD hi hp he hc
       have hf:=he.h0.mT he 4 rfl
       refine zN hf hc sV m1 rfl fun a w hf hc=>zD θ he hi hf 16 rfl rfl rfl hc
      ·intro E θ a w hD hi hp he hc
       have e5:=hp.o 5 rfl
       have e6:=hp.o 6 rfl
       have n:=hD.f 2 rfl hi
       have t:=hD.f 3 rfl hi
       try dsimp only at hc
       rw [n,t] at hc
       have hf:=(he.h0.mP he 15 rfl e5).mP he 16 rfl e6
       refine zQ (v:=i6 ar) hf hc aGp rfl (fun w hc=>(lE (⟨w_.Net,O,U⟩:bX) xv Z (hc.pick k2) bj).mono fun e w h=>⟨h.1,(h.2.unpick k2)⟩) fun a w hf hc=>zD θ he hi hf 17 rfl rfl rfl ?_
       try dsimp only
       rw [aS 7 n rfl,aS 7 t rfl]
       exact hc
      ·intro E θ a w hD hi hp he hc
       have hf:=he.h0.mT he 5 rfl
       refine sp 1 hf rfl fun a hf=>zD θ he hi hf 18 rfl rfl rfl hc
      ·intro E θ a w hD hi hp he hc
       have hf:=he.h0.mT he 4 rfl
       refine zN hf hc sV m1 rfl fun a w hf hc=>zD θ he hi hf 19 rfl rfl rfl hc
      ·intro E θ a w hD hi hp he hc
       have e0:=hp.o 0 rfl
       have hf:=he.h0.mP he 10 rfl e0
       refine sp 1 hf rfl fun a hf=>zD θ he hi hf 20 rfl rfl rfl hc
      ·intro E θ a w hD hi hp he hc
       have e3:=hp.o 3 rfl
       have aa:=hp.o 10 rfl
       have hf:=(he.h0.mP he 13 rfl e3).mP he 20 rfl aa
       refine zP hf rfl (Pu.cast (nS Tryz.underlying122 fD rfl rfl (bF am).1 (bF am).2) (congrArg (fun k=>Value.pointer (some ⟨b_,k,none⟩)) (mA (M:=13) (2) y am rfl))) fun a hf=>zD θ he hi hf 21 rfl rfl rfl hc
      ·intro E θ a w hD hi hp he hc
       have e8:=hp.o 8 rfl
       have af:=hp.o 11 rfl
       have t:=hD.f 4 rfl hi
       try dsimp only at hc
       rw [hi,t] at hc
       have hf:=(he.h0.mP he 18 rfl e8).mP he 21 rfl af
       refine aIj (vs:=[i6 g]) (o':=0) (z:=g) hf hc rfl rfl rfl rfl fD rfl (fun x=>(bG x).1) rfl (yZ y am rfl) rfl rfl u2 fun w hc=>zG θ he hi hf rfl ?_
       try dsimp only
       rw [aN E 12,aS 12 t rfl]
       exact hc
      ·intro E θ a w hD hi hp he hc
       have e4:=hp.o 4 rfl
       have hf:=he.h0.mP he 14 rfl e4
       refine sp 1 hf rfl fun a hf=>zD θ he hi hf 22 rfl rfl rfl hc
      ·intro E θ a w hD hi hp he hc
       have e7:=hp.o 7 rfl
       have au:=hp.o 13 rfl
       have hf:=(he.h0.mP he 17 rfl e7).mP he 22 rfl au
       refine zP hf rfl (Pu.cast (nS Tryz.underlying127 aAr rfl rfl (bF aj).1 (bF aj).2) (congrArg (fun k=>Value.pointer (some ⟨b_,k,none⟩)) (aKi (m:=13) (sz:=2) (M:=13) (q:=26) (171) an aj rfl rfl))) fun a hf=>zD θ he hi hf 23 rfl rfl rfl hc
      ·intro E θ a w hD hi hp he hc
       have e9:=hp.o 9 rfl
       have bx:=hp.o 14 rfl
       have n:=hp.o 12 rfl
       try dsimp only at hc
       rw [n,hi] at hc
       have hf:=(he.h0.mP he 19 rfl e9).mP he 23 rfl bx
       refine stAr2 (vs:=[i6 xv.Line,.bool xv.Back]) (o':=0) (z:=xv) hf hc rfl rfl rfl rfl aAr rfl (fun x=>(aAm x).1) (fun x=>(bG x).1) rfl (yZ an aj rfl) rfl rfl u2 fun w hc=>zG θ he hi hf rfl ?_
       try dsimp only
       rw [cB 15 n,aN E 15]
       exact hc
      ·intro E θ a w i he hc
       have hf:=he.h0
       have n:=i 12 rfl
       have t:=i 15 rfl
       replace hf:=hf.more he 9 rfl (onT)
       replace hf:=hf.more he 8 rfl (onT)
       replace hf:=hf.more he 7 rfl (onT)
       replace hf:=hf.more he 6 rfl (onT)
       replace hf:=hf.more he 3 rfl (onT)
       replace hf:=hf.more he 2 rfl (onT)
       replace hf:=hf.more he 1 rfl (onT)
       replace hf:=hf.more he 0 rfl (onT)
       try dsimp only at hc
       rw [n,t] at hc
       exact ⟨hf.kp rfl,hc⟩
      rintro a w ⟨hf,hc⟩
      refine ba _ _ ?_
      replace hc:=(hc.drop k1).drop k0
      exact ⟨((kR O (I * 13 + aq).toNat g),(kR U (I * 13 + ar).toNat xv)),_,(sj hF).symm,rfl,hc⟩
     ·replace hF:=nU hb hF
      clear hb
      refine aC4 ?_
      refine ba _ _ ?_
      replace hc:=(hc.drop k1).drop k0
      exact ⟨(O,U),_,(sj hF).symm,rfl,hc⟩
    ·rintro D_1 ⟨O,U⟩ _ a w a8 rfl hf hc
     replace hf:Has ⟨79,lK (D_1::Ds_1)⟩ a [(2,pq V),(4,pq X),(5,pq Y),(6,pq d),(23,i6 w_.Net.Marks),(24,i6 x),(30,i6 w_.Net.Marks),(31,i6 R)]:=hf.kp rfl
     replace hc:Ctx G (.box av [pq b_] 119::.box ax [i6 r] 3::.box b_ (aY [i6 w_.Net.Marks,.slice H w_.Net.Lines.length D] 169 aD O (aY [] 169 aG U [])) 130::.box d [i6 R] 3::.box Y [.pointer (some ⟨b_,171 + I.toNat * 26,none⟩)] 229::.box X [.pointer (some ⟨b_,2 + I.toNat * 13,none⟩)] 228::.box V [pq b_] 119::(nI (D_1::Ds_1)++Lf)) w:=pK (C:=[.box av [pq b_] 119,.box ax [i6 r] 3]) (L:=[.box b_ (aY [i6 w_.Net.Marks,.slice H w_.Net.Lines.length D] 169 aD O (aY [] 169 aG U [])) 130,.box d [i6 R] 3,.box Y [.pointer (some ⟨b_,171 + I.toNat * 26,none⟩)] 229,.box X [.pointer (some ⟨b_,2 + I.toNat * 13,none⟩)] 228,.box V [pq b_] 119]) hc
     replace hF:(iM N R O U)=some a4:=by rcases a8 with rfl | rfl <;> exact hF
     replace hc:=((((((hc.drop k3).drop k1).drop k0).pick k0).pick k3).pick k3).pick k3
     exact a9 O U (D_1::Ds_1) _ _  (hf.kp rfl) hc hF
    ·rintro D_1 ⟨O,U⟩ _ a w a8 rfl hf hc
     replace hf:Has ⟨79,lK (D_1::Ds_1)⟩ a [(2,pq V),(4,pq X),(5,pq Y),(6,pq d),(23,i6 w_.Net.Marks),(24,i6 x),(30,i6 w_.Net.Marks),(31,i6 R)]:=hf.kp rfl
     replace hc:Ctx G (.box av [pq b_] 119::.box ax [i6 r] 3::.box b_ (aY [i6 w_.Net.Marks,.slice H w_.Net.Lines.length D] 169 aD O (aY [] 169 aG U [])) 130::.box d [i6 R] 3::.box Y [.pointer (some ⟨b_,171 + I.toNat * 26,none⟩)] 229::.box X [.pointer (some ⟨b_,2 + I.toNat * 13,none⟩)] 228::.box V [pq b_] 119::(nI (D_1::Ds_1)++Lf)) w:=pK (C:=[.box av [pq b_] 119,.box ax [i6 r] 3]) (L:=[.box b_ (aY [i6 w_.Net.Marks,.slice H w_.Net.Lines.length D] 169 aD O (aY [] 169 aG U [])) 130,.box d [i6 R] 3,.box Y [.pointer (some ⟨b_,171 + I.toNat * 26,none⟩)] 229,.box X [.pointer (some ⟨b_,2 + I.toNat * 13,none⟩)] 228,.box V [pq b_] 119]) hc
     replace hF:(none)=some a4:=by subst a8; exact hF
     cases hF
  ·refine wp_exit ?_
   refine bI ?_
   refine bI ?_
   have he:=sj hF
   rw [← he] at a3
   refine fB ?_
   exact bb _ _ _ a3 ⟨Ds_1,hf.kp rfl,hc⟩
 ·refine wp_exit ?_
  refine bI ?_
  refine bI ?_
  have he:=sj hF
  rw [← he] at a6
  refine fB ?_
  exact b9 _ _ _ a6 ⟨Ds,hf.kp rfl,hc⟩

def wI (N:Nat) (n:aO) (B:Int) (D:Nat→Int) (H:Nat→aK):Option (dA (Int × (Nat→Int) × (Nat→aK)) (Int × (Nat→Int) × (Nat→aK))) :=
 cond (decide (B < n.Marks))
 (Option.bind (pU N (⟨n,D,H⟩:bX) B) fun r=>
 some (.cont (W (B + 1),r.1,r.2)))
 (some (.brk (B,D,H)))
def vF (N:Nat) (n:aO) (x:Int) (B:Int) (D:Nat→Int):Option (dA (Int × (Nat→Int)) (dA (Int × (Nat→Int)) (Int × (Nat→Int) × (Nat→aK)))) :=
 cond (decide (B < n.Marks))
 (Option.bind (inR x 13) fun H=>
 Option.bind (inR B 13) fun I=>
 some (.cont (W (B + 1),(kR D (x * 13 + B).toNat 1099511627776))))
 (some (.brk (B,D)))
def wG (N:Nat) (n:aO) (x:Int) (D:Nat→Int):Option (dA (Int × (Nat→Int)) (Int × (Nat→Int) × (Nat→aK))) :=
 cond (decide (x < n.Marks))
 (Option.bind (bN (fun B=>vF N n x B.1 B.2) N (0,D)) fun H=>
 exK H (fun B=>Option.bind (inR x 13) fun un=>
 Option.bind (inR x 13) fun I=>
 some (.cont (W (x + 1),(kR B.2 (x * 13 + x).toNat 0)))) some)
 (some (.brk (x,D)))
def vP (N:Nat) (n:aO):Option (Int × (Nat→Int) × (Nat→aK)) :=
 Option.bind (bN (fun s5=>wG N n s5.1 s5.2) N (0,(fun _=>0))) fun x5=>
 exK x5 (fun s5=>Option.bind (bN (fun s8=>wI N n s8.1 s8.2.1 s8.2.2) N (0,s5.2,(fun _=>(⟨0,false⟩:aK)))) fun x8=>
 exK x8 (fun s8=>some (n.Marks,s8.2.1,s8.2.2)) some) some
theorem aBw {N:Nat} {G:bA} {Lf:List Ent} {w:World} (n:aO) {B:Option Addr} {D:Nat} (V:Rd G 5 B D (n.Lines.map bR)) (hc:Ctx G (Lf) w) {R:Int × (Nat→Int) × (Nat→aK)} (hF:vP N n=some R):Calls Tryz.prog 125 #[.agg #[i6 n.Marks,.slice B n.Lines.length D]] w (fun e w=>∃ (o:Nat),e=.returned (pq o)∧Ctx G (.box o (aY [i6 R.1,.slice B n.Lines.length D] 169 aD R.2.1 (aY [] 169 aG R.2.2 [])) 130::Lf) w):=by
 unfold vP at hF
 refine cC Tryz.func125 rfl Tryz.ntmps125 rfl fun a hf=>zS fun K h=>zB hf hc rfl fun Z a w hf hc=>sp 1 hf rfl fun a hf=>zT h ?_
 refine zS fun K h=>zN hf hc aBm m0 rfl fun a w hf hc=>zP hf rfl (bJ (cells:=(aY [i6 n.Marks,.slice B n.Lines.length D] 169 aD (fun _=>0) (aY [] 169 aG (fun _=>(⟨0,false⟩:aK)) []))) aQr rfl rfl) fun a hf=>stBx (cs:=(aY [i6 n.Marks,.slice B n.Lines.length D] 169 aD (fun _=>0) (aY [] 169 aG (fun _=>(⟨0,false⟩:aK)) []))) hf hc rfl rfl rfl rfl fun H a w hf hc=>sp 1 hf rfl fun a hf=>zT h ?_
 refine wp_seq_k fun K3 h3=>zS fun K h=>zP hf rfl (pFA pW rfl) fun a hf=>zL hf hc aX m1 rfl fun a w hf hc=>sp 1 hf rfl fun a hf=>zT h ?_
 refine wp_block ?_
 obtain ⟨x5,ab,hF⟩:=aC hF
 let S5:(Int × (Nat→Int))→Act→World→Prop:=(fun (zz:Int × (Nat→Int)) a w=>Has 46 a [(1,pq Z),(3,pq H),(11,i6 n.Marks),(12,i6 zz.1)]∧Ctx G (.box H (aY [i6 n.Marks,.slice B n.Lines.length D] 169 aD zz.2 (aY [] 169 aG (fun _=>(⟨0,false⟩:aK)) [])) 130::.box Z [i6 n.Marks,.slice B n.Lines.length D] 94::Lf) w)
 have am:∀ (zz:Int × (Nat→Int)) a w,x5=.go zz→S5 zz a w→K3 a w:=by
  rintro ⟨x,m⟩ a w rfl ⟨hf,hc⟩
  replace hF:=cJ hF
  refine h3 _ _ ?_
  refine wp_seq_k fun K6 h6=>zS fun K h=>zP hf rfl (pFA pW rfl) fun a hf=>zL hf hc aX m1 rfl fun a w hf hc=>sp 1 hf rfl fun a hf=>zT h ?_
  refine wp_block ?_
  obtain ⟨x8,v,hF⟩:=aC hF
  let S8:(Int × (Nat→Int) × (Nat→aK))→Act→World→Prop:=(fun (zz:Int × (Nat→Int) × (Nat→aK)) a w=>Has 46 a [(3,pq H),(37,i6 n.Marks),(38,i6 zz.1)]∧Ctx G (.box H (aY [i6 n.Marks,.slice B n.Lines.length D] 169 aD zz.2.1 (aY [] 169 aG zz.2.2 [])) 130::Lf) w)
  have ac:∀ (zz:Int × (Nat→Int) × (Nat→aK)) a w,x8=.go zz→S8 zz a w→K6 a w:=by
   rintro ⟨i,q,p⟩ a w rfl ⟨hf,hc⟩
   replace hF:=cJ hF
   refine h6 _ _ ?_
   refine zS fun K h=>sp 2 hf rfl fun a hf=>zT h ?_
   refine wp_ret ?_
   obtain rfl:=sj hF
   exact zO1 Tryz.results125 hf rfl ⟨H,rfl,hc⟩
  have az:∀ r,x8=.out r→r=R:=by
   rintro r rfl
   exact sj hF
  replace hc:=hc.drop k1
  refine dQ N (dP (S:=S8) (x:=x8) ?_ N (0,m,(fun _=>(⟨0,false⟩:aK))) _ _ ⟨hf.kp rfl,hc⟩ v)
  clear hF hf hc
  rintro ⟨i,q,p⟩ ay a w KB8 ⟨hf,hc⟩ hF Y ak
  unfold wI at hF
  refine zS fun K h=>sp 1 hf rfl fun a hf=>zT h ?_
  refine wp_seq_k fun K11 ap=>zI hf rfl hF ?_ ?_ <;> clear hF <;> intro hF
  ·refine wp_skip ?_
   refine ap _ _ ?_
   refine wp_seq_k fun K12 aj=>wp_block ?_
   refine zS fun K h=>sp 2 hf rfl fun a hf=>zT h ?_
   refine cX ?_
   refine sp 2 hf rfl fun a hf=>?_
   obtain ⟨r,hr,hF⟩:=aC hF
   refine zC hf aPe rfl (wX (⟨n,q,p⟩:bX) i V (hc.pick k0) hr) ?_
   rintro _ w ⟨rfl,hc⟩
   refine ⟨_,rfl,fun a hf=>?_⟩
   refine aQ ?_
   refine aj _ _ ?_
   refine cX ?_
   refine sp 2 hf rfl fun a hf=>aQ ?_
   exact ak (W (i + 1),r.1,r.2) _ _ (sj hF).symm ⟨hf.kp rfl,hc⟩
  ·refine wp_exit ?_
   refine bI ?_
   refine bI ?_
   have he:=sj hF
   rw [← he] at Y
   refine fB ?_
   exact ac _ _ _ Y ⟨hf.kp rfl,hc⟩
 have a0:∀ r,x5=.out r→r=R:=by
  rintro r rfl
  exact sj hF
 refine dQ N (dP (S:=S5) (x:=x5) ?_ N (0,(fun _=>0)) _ _ ⟨hf.kp rfl,hc⟩ ab)
 clear hF hf hc
 rintro ⟨x,m⟩ ai a w KB5 ⟨hf,hc⟩ hF b aa
 unfold wG at hF
 refine zS fun K h=>sp 1 hf rfl fun a hf=>zT h ?_
 refine wp_seq_k fun K15 y=>zI hf rfl hF ?_ ?_ <;> clear hF <;> intro hF
 ·refine wp_skip ?_
  refine y _ _ ?_
  refine wp_seq_k fun K16 ad=>wp_block ?_
  refine zS fun K h=>sp 2 hf rfl fun a hf=>zT h ?_
  refine wp_seq_k fun K18 af=>zS fun K h=>zP hf rfl (pFA pW rfl) fun a hf=>zL hf hc aX m1 rfl fun a w hf hc=>sp 1 hf rfl fun a hf=>zT h ?_
  refine wp_block ?_
  obtain ⟨g,t,hF⟩:=aC hF
  let S20:(Int × (Nat→Int))→Act→World→Prop:=(fun (zz:Int × (Nat→Int)) a w=>Has 46 a [(1,pq Z),(3,pq H),(4,i6 x),(11,i6 n.Marks),(12,i6 x),(16,i6 n.Marks),(17,i6 zz.1)]∧Ctx G (.box H (aY [i6 n.Marks,.slice B n.Lines.length D] 169 aD zz.2 (aY [] 169 aG (fun _=>(⟨0,false⟩:aK)) [])) 130::.box Z [i6 n.Marks,.slice B n.Lines.length D] 94::Lf) w)
  have s:∀ (zz:Int × (Nat→Int)) a w,g=.go zz→S20 zz a w→K18 a w:=by
   rintro ⟨j,d⟩ a w rfl ⟨hf,hc⟩
   replace hF:=cJ hF
   refine af _ _ ?_
   refine cX ?_
   refine sp 4 hf rfl fun a hf=>zP hf rfl (pFA oP rfl) fun a hf=>?_
   obtain ⟨un,X,hF⟩:=aC hF
   refine zP hf rfl (nS Tryz.underlying124 uH rfl rfl (bF X).1 (bF X).2) fun a hf=>?_
   obtain ⟨ar,O,hF⟩:=aC hF
   refine zP hf rfl (Pu.cast (nS Tryz.underlying122 fD rfl rfl (bF O).1 (bF O).2) (congrArg (fun k=>Value.pointer (some ⟨H,k,none⟩)) (mA (M:=13) (2) X O rfl))) fun a hf=>aIj (vs:=[i6 0]) (o':=0) (z:=0) hf hc rfl rfl rfl rfl fD rfl (fun x=>(bG x).1) rfl (yZ X O rfl) rfl rfl u0 fun w hc=>aQ ?_
   refine ad _ _ ?_
   refine cX ?_
   refine sp 2 hf rfl fun a hf=>aQ ?_
   exact aa (W (x + 1),(kR d (x * 13 + x).toNat 0)) _ _ (sj hF).symm ⟨hf.kp rfl,hc⟩
  have ax:∀ r,g=.out r→r=ai:=by
   rintro r rfl
   exact sj hF
  refine dQ N (dP (S:=S20) (x:=g) ?_ N (0,m) _ _ ⟨hf.kp rfl,hc⟩ t)
  clear hF hf hc
  rintro ⟨j,d⟩ av a w KB20 ⟨hf,hc⟩ hF U u
  unfold vF at hF
  refine zS fun K h=>sp 1 hf rfl fun a hf=>zT h ?_
  refine wp_seq_k fun K22 an=>zI hf rfl hF ?_ ?_ <;> clear hF <;> intro hF
  ·refine wp_skip ?_
   refine an _ _ ?_
   refine wp_seq_k fun K23 ag=>wp_block ?_
   refine zS fun K h=>sp 2 hf rfl fun a hf=>zT h ?_
   refine cX ?_
   refine sp 4 hf rfl fun a hf=>zP hf rfl (pFA oP rfl) fun a hf=>?_
   obtain ⟨au,I,hF⟩:=aC hF
   refine zP hf rfl (nS Tryz.underlying124 uH rfl rfl (bF I).1 (bF I).2) fun a hf=>?_
   obtain ⟨aq,J,hF⟩:=aC hF
   refine zP hf rfl (Pu.cast (nS Tryz.underlying122 fD rfl rfl (bF J).1 (bF J).2) (congrArg (fun k=>Value.pointer (some ⟨H,k,none⟩)) (mA (M:=13) (2) I J rfl))) fun a hf=>aIj (vs:=[i6 1099511627776]) (o':=0) (z:=1099511627776) hf hc rfl rfl rfl rfl fD rfl (fun x=>(bG x).1) rfl (yZ I J rfl) rfl rfl u0 fun w hc=>aQ ?_
   refine ag _ _ ?_
   refine cX ?_
   refine sp 2 hf rfl fun a hf=>aQ ?_
   exact u (W (j + 1),(kR d (x * 13 + j).toNat 1099511627776)) _ _ (sj hF).symm ⟨hf.kp rfl,hc⟩
  ·refine wp_exit ?_
   refine bI ?_
   refine bI ?_
   have he:=sj hF
   rw [← he] at U
   refine fB ?_
   exact s _ _ _ U ⟨hf.kp rfl,hc⟩
 ·refine wp_exit ?_
  refine bI ?_
  refine bI ?_
  have he:=sj hF
  rw [← he] at b
  refine fB ?_
  exact am _ _ _ b ⟨hf.kp rfl,hc⟩

def vT (N:Nat) (n:aO):Option ((Int) ⊕ (Int × (Nat→Int) × (Nat→aK) × Int)) :=
 Option.bind (uB N n) fun r=>
 cond (r != 0)
 (some (.inl r))
 (Option.bind (vP N n) fun B=>
 some (.inr (B.1,B.2.1,B.2.2,0)))
theorem wL {N:Nat} {G:bA} {Lf:List Ent} {w:World} (n:aO) {B:Option Addr} {D:Nat} (H:Rd G 5 B D (n.Lines.map bR)) (hc:Ctx G (Lf) w) {J:(Int) ⊕ (Int × (Nat→Int) × (Nat→aK) × Int)} (hF:vT N n=some J):Calls Tryz.prog 108 #[.agg #[i6 n.Marks,.slice B n.Lines.length D]] w (fun e w=>aAb (fun rr=>e=.returned (.tuple #[.pointer none,i6 rr])∧Ctx G (Lf) w) (fun rr=>∃ (I:Nat),e=.returned (.tuple #[pq I,i6 rr.2.2.2])∧Ctx G (.box I (aY [i6 rr.1,.slice B n.Lines.length D] 169 aD rr.2.1 (aY [] 169 aG rr.2.2.1 [])) 130::Lf) w) J):=by
 unfold vT at hF
 refine cC Tryz.func108 rfl Tryz.ntmps108 rfl fun a hf=>zS fun K h=>zB hf hc rfl fun R a w hf hc=>sp 2 hf rfl fun a hf=>zT h ?_
 refine wp_seq_k fun K2 h2=>zS fun K h=>zN hf hc aBm m0 rfl fun a w hf hc=>?_
 obtain ⟨r,hr,hF⟩:=aC hF
 refine zQ (v:=i6 r) hf hc aNx rfl (fun w hc=>xC n H hc hr) fun a w hf hc=>sp 1 hf rfl fun a hf=>zT h ?_
 refine zS fun K h=>sp 2 hf rfl fun a hf=>zT h ?_
 refine zI hf rfl hF ?_ ?_ <;> clear hF <;> intro hF
 ·refine zS fun K h=>sp 3 hf rfl fun a hf=>zT h ?_
  refine wp_ret ?_
  refine aU ?_
  obtain rfl:=sj hF
  replace hc:=hc.drop k0
  exact zO2 Tryz.results108 hf rfl rfl ⟨rfl,hc⟩
 ·refine wp_skip ?_
  refine h2 _ _ ?_
  refine zS fun K h=>zN hf hc aBm m0 rfl fun a w hf hc=>?_
  obtain ⟨S,M,hF⟩:=aC hF
  refine zC hf aQg rfl (aBw n H hc M) ?_
  rintro _ w ⟨O,rfl,hc⟩
  refine ⟨_,rfl,fun a hf=>?_⟩
  refine sp 2 hf rfl fun a hf=>zT h ?_
  refine wp_ret ?_
  obtain rfl:=sj hF
  replace hc:=hc.drop k1
  exact zO2 Tryz.results108 hf rfl rfl ⟨O,rfl,hc⟩

def qI (N:Nat) (w_:bX) (x:Int) (xv:aK) (B:Int):Option (dA (Int) (Rs (Bool))) :=
 cond (decide (B < w_.Net.Marks))
 (Option.bind (inR B 13) fun un=>
 Option.bind (inR x 13) fun O=>
 Option.bind (cond (decide ((w_.can (B * 13 + x).toNat) < 1099511627776)) (inR B 13) (some ())) fun I=>
 Option.bind (cond (decide ((w_.can (B * 13 + x).toNat) < 1099511627776)) (inR x 13) (some ())) fun J=>
 Option.bind (cond (decide ((w_.can (B * 13 + x).toNat) < 1099511627776)) (nG N w_ xv) (some 0)) fun H=>
 Option.bind (cond (decide ((w_.can (B * 13 + x).toNat) < 1099511627776)) (jF N w_ xv) (some 0)) fun D=>
 Option.bind (cond (decide ((w_.can (B * 13 + x).toNat) < 1099511627776)) (inR B 13) (some ())) fun R=>
 Option.bind (cond (decide ((w_.can (B * 13 + x).toNat) < 1099511627776)) (inR D 13) (some ())) fun M=>
 cond ((decide ((w_.can (B * 13 + x).toNat) < 1099511627776)) && (decide ((W ((w_.can (B * 13 + x).toNat) + H)) < (w_.can (B * 13 + D).toNat))))
 (some (.ret (.ret true)))
 (some (.cont (W (B + 1)))))
 (some (.brk B))
def kO (N:Nat) (w_:bX) (x:Int) (H:Bool) (xv:aK):Option (Rs (Bool)) :=
 Option.bind (bN (fun B=>qI N w_ x xv B) N 0) fun D=>
 exK D (fun B=>some (.go H)) some
def rG (N:Nat) (w_:bX) (x:Int) (D:Bool):Option (dA (Int × Bool) (Bool)) :=
 cond (decide (x < w_.Net.Marks))
 (Option.bind (nH N w_ x) fun r=>
 Option.bind (lN N w_.Net.Marks w_.Net.Lines r (rY (fun (zz:Bool) (I:aK)=>kO N w_ x zz I)) (.go D)) fun H=>
 rsK H (fun B=>Option.bind (inR x 13) fun J=>
 Option.bind (inR x 13) fun M=>
 cond (decide ((w_.can (x * 13 + x).toNat) < 0))
 (some (.ret true))
 (some (.cont (W (x + 1),B)))) (fun B=>some (.ret B)))
 (some (.brk (x,D)))
def qA (N:Nat) (w_:bX):Option (Bool) :=
 Option.bind (bN (fun s4=>rG N w_ s4.1 s4.2) N (0,false)) fun x4=>
 exK x4 (fun s4=>some false) some
theorem xS {N:Nat} {G:bA} {Lf:List Ent} {w:World} (w_:bX) {b_:Nat} {H:Option Addr} {D:Nat} (R:Rd G 5 H D (w_.Net.Lines.map bR)) (hc:Ctx G (.box b_ (aY [i6 w_.Net.Marks,.slice H w_.Net.Lines.length D] 169 aD w_.can (aY [] 169 aG w_.by_ [])) 130::Lf) w) {ac:Bool} (hF:qA N w_=some ac):Calls Tryz.prog 109 #[pq b_] w (fun e w=>e=.returned (.bool ac)∧Ctx G (.box b_ (aY [i6 w_.Net.Marks,.slice H w_.Net.Lines.length D] 169 aD w_.can (aY [] 169 aG w_.by_ [])) 130::Lf) w):=by
 unfold qA at hF
 refine aEy Tryz.func109 rfl Tryz.ntmps109 rfl fun a hf=>zS fun K h=>zB hf hc rfl fun U a w hf hc=>zA hf hc aMo rfl fun O a w hf hc=>zT h ?_
 refine wp_seq_k fun K2 h2=>zS fun K h=>zL hf hc lI m1 rfl fun a w hf hc=>sp 1 hf rfl fun a hf=>zP hf rfl (pFA rI rfl) fun a hf=>zP hf rfl (pFA pW rfl) fun a hf=>zL hf hc aX m2 rfl fun a w hf hc=>sp 1 hf rfl fun a hf=>zT h ?_
 refine wp_block ?_
 obtain ⟨x4,b5,hF⟩:=aC hF
 let S4:(Int × Bool)→Act→World→Prop:=(fun (zz:Int × Bool) a w=>∃ (Ds:List Nat),Has ⟨71,lK Ds⟩ a [(1,pq U),(2,pq O),(10,i6 w_.Net.Marks),(11,i6 zz.1)]∧Ctx G (.box O [.bool zz.2] 4::.box U [pq b_] 119::.box b_ (aY [i6 w_.Net.Marks,.slice H w_.Net.Lines.length D] 169 aD w_.can (aY [] 169 aG w_.by_ [])) 130::(nI Ds++Lf)) w)
 have b4:∀ (zz:Int × Bool) a w,x4=.go zz→S4 zz a w→K2 a w:=by
  rintro ⟨x,af⟩ a w rfl ⟨Ds,hf,hc⟩
  replace hF:=cJ hF
  refine h2 _ _ ?_
  refine zS fun K h=>zW hf hc aBv u0 rfl fun w hc=>zT h ?_
  refine wp_ret ?_
  obtain rfl:=sj hF
  replace hc:=((hc.drop k1).pick k0).pick k1
  refine aFx hf ?_
  refine aAd [.box b_ (aY [i6 w_.Net.Marks,.slice H w_.Net.Lines.length D] 169 aD w_.can (aY [] 169 aG w_.by_ [])) 130,.box O [.bool false] 4] Ds hc fun w hc=>?_
  replace hc:Ctx G (.box b_ (aY [i6 w_.Net.Marks,.slice H w_.Net.Lines.length D] 169 aD w_.can (aY [] 169 aG w_.by_ [])) 130::.box O [.bool false] 4::Lf) w:=hc
  exact aFs Tryz.results109 hf hc (aDb vC rfl (bQ m1 rfl)) ⟨rfl,(hc.drop k1)⟩
 have a1:∀ r,x4=.out r→r=ac:=by
  rintro r rfl
  exact sj hF
 replace hf:=aJm hf
 replace hc:Ctx G (.box O [.bool false] 4::.box U [pq b_] 119::.box b_ (aY [i6 w_.Net.Marks,.slice H w_.Net.Lines.length D] 169 aD w_.can (aY [] 169 aG w_.by_ [])) 130::(nI []++Lf)) w:=hc
 refine dQ N (dP (S:=S4) (x:=x4) ?_ N (0,false) _ _ ⟨[],hf.kp rfl,hc⟩ b5)
 clear hF hf hc
 rintro ⟨x,af⟩ a6 a w KB4 ⟨Ds,hf,hc⟩ hF d b8
 unfold rG at hF
 refine zS fun K h=>sp 1 hf rfl fun a hf=>zT h ?_
 refine wp_seq_k fun K7 h7=>zI hf rfl hF ?_ ?_ <;> clear hF <;> intro hF
 ·refine wp_skip ?_
  refine h7 _ _ ?_
  refine wp_seq_k fun K8 h8=>wp_block ?_
  refine zS fun K h=>sp 1 hf rfl fun a hf=>zA hf hc zr_3 rfl fun X a w hf hc=>zW hf hc fD u0 rfl fun w hc=>zT h ?_
  refine wp_seq_k fun K10 bt=>zS fun K h=>zL hf hc lI m2 rfl fun a w hf hc=>zL hf hc aX m0 rfl fun a w hf hc=>?_
  obtain ⟨r,hr,hF⟩:=aC hF
  refine zC hf aNf rfl (rF w_ x R (hc.pick k3) hr) ?_
  rintro _ w ⟨z,aa,rfl,hc⟩
  refine ⟨_,rfl,fun a hf=>?_⟩
  refine zT h ?_
  obtain ⟨bv,bm,hF⟩:=aC hF
  refine aJy (C:=[.box z [pq b_] 119,.box aa [i6 r] 3]) (C2:=[.box z [pq b_] 119,.box aa [i6 r] 3]) (L0:=[.box b_ (aY [i6 w_.Net.Marks,.slice H w_.Net.Lines.length D] 169 aD w_.can (aY [] 169 aG w_.by_ [])) 130,.box X [i6 x] 3,.box O [.bool af] 4,.box U [pq b_] 119]) (Lf:=(nI Ds++Lf)) (encs:=fun x:aK=>[.agg #[i6 x.Line,.bool x.Back]]) (fun (zz:Bool) L=>L=[.box b_ (aY [i6 w_.Net.Marks,.slice H w_.Net.Lines.length D] 169 aD w_.can (aY [] 169 aG w_.by_ [])) 130,.box X [i6 x] 3,.box O [.bool zz] 4,.box U [pq b_] 119]) (fun (zz:Bool) (b3:aK)=>kO N w_ x zz b3) af bv hf hc rfl aLn (fun _=>rfl) rfl rfl ?_ ?_ ?_ ?_
  ·intro lq mq J L Lx w hy hQ hJ hc
   have bf:∀ (zz:Bool) (M:List Ent),(fun (zz:Bool) L=>L=[.box b_ (aY [i6 w_.Net.Marks,.slice H w_.Net.Lines.length D] 169 aD w_.can (aY [] 169 aG w_.by_ [])) 130,.box X [i6 x] 3,.box O [.bool zz] 4,.box U [pq b_] 119]) zz M→∃ A B,∃ xx:(Nat→Int) × (Nat→aK),M=A++(.box b_ (aY [i6 w_.Net.Marks,.slice H w_.Net.Lines.length D] 169 aD xx.1 (aY [] 169 aG xx.2 [])) 130::B):=by
    rintro V _ ⟨rfl⟩
    exact ⟨[],_,(w_.can,w_.by_),rfl⟩
   exact qC w_.Net.Marks w_.Net.Lines r R J _ hy _ hJ (hQ _ (fun xx:(Nat→Int) × (Nat→aK)=>.box b_ (aY [i6 w_.Net.Marks,.slice H w_.Net.Lines.length D] 169 aD xx.1 (aY [] 169 aG xx.2 [])) 130) bf) hc bm
  ·clear hF hf hc
   rintro lq mq V xv oq _ Lr Lb a w ci rfl hF hf hc hK
   replace hf:Has 71 a [(1,pq U),(2,pq O),(3,pq X),(10,i6 w_.Net.Marks),(11,i6 x),(17,.agg #[i6 xv.Line,.bool xv.Back])]:=hf.kp rfl
   replace hc:Ctx G (.box b_ (aY [i6 w_.Net.Marks,.slice H w_.Net.Lines.length D] 169 aD w_.can (aY [] 169 aG w_.by_ [])) 130::.box X [i6 x] 3::.box O [.bool V] 4::.box U [pq b_] 119::Lr) w:=hc
   replace hF:kO N w_ x V xv=some oq:=hF
   unfold kO at hF
   refine sP (fun _ _ h=>h) rfl ?_
   refine zA hf hc aIn rfl fun i a w hf hc=>zW hf hc aAr u0 rfl fun w hc=>aQ ?_
   refine hK _ _ [.box i [i6 xv.Line,.bool xv.Back] 126,.box b_ (aY [i6 w_.Net.Marks,.slice H w_.Net.Lines.length D] 169 aD w_.can (aY [] 169 aG w_.by_ [])) 130,.box X [i6 x] 3,.box O [.bool V] 4,.box U [pq b_] 119] hc fun w hc=>?_
   replace hc:Ctx G (.box i [i6 xv.Line,.bool xv.Back] 126::.box b_ (aY [i6 w_.Net.Marks,.slice H w_.Net.Lines.length D] 169 aD w_.can (aY [] 169 aG w_.by_ [])) 130::.box X [i6 x] 3::.box O [.bool V] 4::.box U [pq b_] 119::Lb) w:=hc
   refine xA fun K13 bx=>vZ ?_
   refine sE fun K14 b6=>sP (fun _ _ h=>h) rfl ?_
   refine zL hf hc lI m4 rfl fun a w hf hc=>sp 1 hf rfl fun a hf=>zP hf rfl (pFA rI rfl) fun a hf=>zP hf rfl (pFA pW rfl) fun a hf=>zL hf hc aX m1 rfl fun a w hf hc=>sp 1 hf rfl fun a hf=>aQ ?_
   refine b6 _ _ ?_
   refine xA fun K15 b0=>vZ ?_
   obtain ⟨ad,bi,hF⟩:=aC hF
   let S16:Int→Act→World→Prop:=(fun (zz:Int) a w=>Has 71 a [(1,pq U),(2,pq O),(3,pq X),(4,pq i),(10,i6 w_.Net.Marks),(11,i6 x),(22,i6 w_.Net.Marks),(23,i6 zz)]∧Ctx G (.box i [i6 xv.Line,.bool xv.Back] 126::.box b_ (aY [i6 w_.Net.Marks,.slice H w_.Net.Lines.length D] 169 aD w_.can (aY [] 169 aG w_.by_ [])) 130::.box X [i6 x] 3::.box O [.bool V] 4::.box U [pq b_] 119::Lb) w)
   have bc:∀ (zz:Int) a w,ad=.go zz→S16 zz a w→K15 a w:=by
    rintro I a w rfl ⟨hf,hc⟩
    replace hF:=cJ hF
    refine b0 _ _ ?_
    refine bx _ _ ?_
    replace hc:=hc.drop k0
    exact ⟨V,_,(sj hF).symm,rfl,hc⟩
   have bp:∀ r,ad=.out r→r=oq:=by
    rintro r rfl
    exact sj hF
   refine rLoop N (aOm (S:=S16) (x:=ad) ?_ N 0 _ _ ⟨hf.kp rfl,hc⟩ bi)
   clear hF hf hc
   rintro I cf a w KB16 ⟨hf,hc⟩ hF g bj
   unfold qI at hF
   refine sE fun K17 b7=>sP (fun _ _ h=>h) rfl ?_
   refine sp 1 hf rfl fun a hf=>aQ ?_
   refine b7 _ _ ?_
   refine sE fun K18 b1=>aDe (b:=(decide (I < w_.Net.Marks))) hf rfl (fun hb=>?_) (fun hb=>?_)
   ·replace hF:=gI hb hF
    clear hb
    refine aC4 ?_
    refine b1 _ _ ?_
    refine sE fun K19 b2=>vZ ?_
    refine sE fun K20 bu=>sP (fun _ _ h=>h) rfl ?_
    refine sp 2 hf rfl fun a hf=>aQ ?_
    refine bu _ _ ?_
    refine sE fun K21 br=>?_
    obtain ⟨un,ab,hF⟩:=aC hF
    obtain ⟨cg,y,hF⟩:=aC hF
    obtain ⟨cc,q,hF⟩:=aC hF
    obtain ⟨cb,m,hF⟩:=aC hF
    obtain ⟨Z,bg,hF⟩:=aC hF
    obtain ⟨Y,bd,hF⟩:=aC hF
    obtain ⟨ca,p,hF⟩:=aC hF
    obtain ⟨cd,t,hF⟩:=aC hF
    refine xP (fun _ _ h=>h) rfl (fun θ=>(⟨none,none,1,pq U⟩::⟨none,none,2,pq O⟩::⟨none,none,3,pq X⟩::⟨none,none,4,pq i⟩::⟨none,none,5,i6 I⟩::⟨none,none,10,i6 w_.Net.Marks⟩::⟨none,none,11,i6 x⟩::⟨none,none,22,i6 w_.Net.Marks⟩::⟨none,none,23,i6 I⟩::⟨some 0,none,26,pq b_⟩::⟨some 1,none,27,i6 I⟩::⟨some 2,none,28,i6 x⟩::⟨some 3,none,29,pq b_⟩::⟨some 4,none,30,.pointer (some ⟨b_,2,none⟩)⟩::⟨some 5,none,31,.pointer (some ⟨b_,2 + I.toNat * 13,none⟩)⟩::⟨some 6,none,32,.pointer (some ⟨b_,2 + (I * 13 + x).toNat * 1,none⟩)⟩::⟨some 7,none,33,i6 (w_.can (I * 13 + x).toNat)⟩::⟨some 8,none,34,.bool (decide ((w_.can (I * 13 + x).toNat) < 1099511627776))⟩::⟨some 9,none,35,.bool (decide ((w_.can (I * 13 + x).toNat) < 1099511627776))⟩::⟨some 10,none,36,(bif (decide ((w_.can (I * 13 + x).toNat) < 1099511627776)) then pq b_ else undef)⟩::⟨some 11,none,37,(bif (decide ((w_.can (I * 13 + x).toNat) < 1099511627776)) then i6 I else undef)⟩::⟨some 12,none,38,(bif (decide ((w_.can (I * 13 + x).toNat) < 1099511627776)) then i6 x else undef)⟩::⟨some 13,none,39,(bif (decide ((w_.can (I * 13 + x).toNat) < 1099511627776)) then pq b_ else undef)⟩::⟨some 14,none,40,(bif (decide ((w_.can (I * 13 + x).toNat) < 1099511627776)) then .pointer (some ⟨b_,2,none⟩) else undef)⟩::⟨some 15,none,41,(bif (decide ((w_.can (I * 13 + x).toNat) < 1099511627776)) then .pointer (some ⟨b_,2 + I.toNat * 13,none⟩) else undef)⟩::⟨some 16,none,42,(bif (decide ((w_.can (I * 13 + x).toNat) < 1099511627776)) then .pointer (some ⟨b_,2 + (I * 13 + x).toNat * 1,none⟩) else undef)⟩::⟨some 17,none,43,(bif (decide ((w_.can (I * 13 + x).toNat) < 1099511627776)) then i6 (w_.can (I * 13 + x).toNat) else undef)⟩::⟨some 18,none,44,(bif (decide ((w_.can (I * 13 + x).toNat) < 1099511627776)) then pq b_ else undef)⟩::⟨some 19,none,45,(bif (decide ((w_.can (I * 13 + x).toNat) < 1099511627776)) then .agg #[i6 xv.Line,.bool xv.Back] else undef)⟩::⟨some 20,none,46,(bif (decide ((w_.can (I * 13 + x).toNat) < 1099511627776)) then i6 Z else undef)⟩::⟨some 21,none,47,(bif (decide ((w_.can (I * 13 + x).toNat) < 1099511627776)) then i6 (W ((w_.can (I * 13 + x).toNat) + Z)) else undef)⟩::⟨some 22,none,48,(bif (decide ((w_.can (I * 13 + x).toNat) < 1099511627776)) then pq b_ else undef)⟩::⟨some 23,none,49,(bif (decide ((w_.can (I * 13 + x).toNat) < 1099511627776)) then i6 I else undef)⟩::⟨some 24,none,50,(bif (decide ((w_.can (I * 13 + x).toNat) < 1099511627776)) then pq b_ else undef)⟩::⟨some 25,none,51,(bif (decide ((w_.can (I * 13 + x).toNat) < 1099511627776)) then .agg #[i6 xv.Line,.bool xv.Back] else undef)⟩::⟨some 26,none,52,(bif (decide ((w_.can (I * 13 + x).toNat) < 1099511627776)) then i6 Y else undef)⟩::⟨some 27,none,53,(bif (decide ((w_.can (I * 13 + x).toNat) < 1099511627776)) then pq b_ else undef)⟩::⟨some 28,none,54,(bif (decide ((w_.can (I * 13 + x).toNat) < 1099511627776)) then .pointer (some ⟨b_,2,none⟩) else undef)⟩::⟨some 29,none,55,(bif (decide ((w_.can (I * 13 + x).toNat) < 1099511627776)) then .pointer (some ⟨b_,2 + I.toNat * 13,none⟩) else undef)⟩::⟨some 30,none,56,(bif (decide ((w_.can (I * 13 + x).toNat) < 1099511627776)) then .pointer (some ⟨b_,2 + (I * 13 + Y).toNat * 1,none⟩) else undef)⟩::⟨some 31,none,57,(bif (decide ((w_.can (I * 13 + x).toNat) < 1099511627776)) then i6 (w_.can (I * 13 + Y).toNat) else undef)⟩::⟨some 32,none,58,(bif (decide ((w_.can (I * 13 + x).toNat) < 1099511627776)) then .bool (decide ((W ((w_.can (I * 13 + x).toNat) + Z)) < (w_.can (I * 13 + Y).toNat))) else undef)⟩::⟨some 33,none,59,.bool ((decide ((w_.can (I * 13 + x).toNat) < 1099511627776)) && (decide ((W ((w_.can (I * 13 + x).toNat) + Z)) < (w_.can (I * 13 + Y).toNat))))⟩::[])) (fun E θ=>.box i [i6 xv.Line,.bool xv.Back] 126::.box b_ (aY [i6 w_.Net.Marks,.slice H w_.Net.Lines.length D] 169 aD w_.can (aY [] 169 aG w_.by_ [])) 130::.box X [i6 x] 3::.box O [.bool V] 4::.box U [pq b_] 119::Lb) [] (fun a w=>Has 71 a [(1,pq U),(2,pq O),(3,pq X),(4,pq i),(10,i6 w_.Net.Marks),(11,i6 x),(22,i6 w_.Net.Marks),(23,i6 I),(59,.bool ((decide ((w_.can (I * 13 + x).toNat) < 1099511627776)) && (decide ((W ((w_.can (I * 13 + x).toNat) + Z)) < (w_.can (I * 13 + Y).toNat)))))]∧Ctx G (.box i [i6 xv.Line,.bool xv.Back] 126::.box b_ (aY [i6 w_.Net.Marks,.slice H w_.Net.Lines.length D] 169 aD w_.can (aY [] 169 aG w_.by_ [])) 130::.box X [i6 x] 3::.box O [.bool V] 4::.box U [pq b_] 119::Lb) w) aT (by kernel_rfl) (by kernel_rfl) (dL.of hf ⟨rfl,rfl,rfl,rfl,rfl,rfl,rfl,rfl,rfl,trivial,trivial,trivial,trivial,trivial,trivial,trivial,trivial,trivial,trivial,trivial,trivial,trivial,trivial,trivial,trivial,trivial,trivial,trivial,trivial,trivial,trivial,trivial,trivial,trivial,trivial,trivial,trivial,trivial,trivial,trivial,trivial,trivial,trivial,trivial⟩) hc ⟨?_,?_,?_,?_,?_,?_,?_,?_,?_,?_,?_,?_,?_,?_,?_,?_,?_,?_,?_,?_,?_,?_,?_,?_,?_,?_,?_,?_,?_,?_,?_,?_,?_,?_,trivial⟩ ?_ ?_
    ·intro E θ a w hD hi hp he hc
     have hf:=he.h0.mT he 0 rfl
     refine zL hf hc lI m4 rfl fun a w hf hc=>zD θ he hi hf 9 rfl rfl rfl hc
    ·intro E θ a w hD hi hp he hc
     have hf:=he.h0.mT he 4 rfl
     refine sp 1 hf rfl fun a hf=>zD θ he hi hf 10 rfl rfl rfl hc
    ·intro E θ a w hD hi hp he hc
     have hf:=he.h0.mT he 2 rfl
     refine zL hf hc aX m2 rfl fun a w hf hc=>zD θ he hi hf 11 rfl rfl rfl hc
    ·intro E θ a w hD hi hp he hc
     have e0:=hp.o 0 rfl
     have hf:=he.h0.mP he 9 rfl e0
     refine sp 1 hf rfl fun a hf=>zD θ he hi hf 12 rfl rfl rfl hc
    ·intro E θ a w hD hi hp he hc
     have e3:=hp.o 3 rfl
     have hf:=he.h0.mP he 12 rfl e3
     refine zP hf rfl (pFA oP rfl) fun a hf=>zD θ he hi hf 13 rfl rfl rfl hc
    ·intro E θ a w hD hi hp he hc
     have e1:=hp.o 1 rfl
     have e4:=hp.o 4 rfl
     have hf:=(he.h0.mP he 10 rfl e1).mP he 13 rfl e4
     refine zP hf rfl (nS Tryz.underlying124 uH rfl rfl (bF ab).1 (bF ab).2) fun a hf=>zD θ he hi hf 14 rfl rfl rfl hc
    ·intro E θ a w hD hi hp he hc
     have e2:=hp.o 2 rfl
     have e5:=hp.o 5 rfl
     have hf:=(he.h0.mP he 11 rfl e2).mP he 14 rfl e5
     refine zP hf rfl (Pu.cast (nS Tryz.underlying122 fD rfl rfl (bF y).1 (bF y).2) (congrArg (fun k=>Value.pointer (some ⟨b_,k,none⟩)) (mA (M:=13) (2) ab y rfl))) fun a hf=>zD θ he hi hf 15 rfl rfl rfl hc
    ·intro E θ a w hD hi hp he hc
     have e6:=hp.o 6 rfl
     have hf:=he.h0.mP he 15 rfl e6
     refine zE hf hc rfl (cV aX rfl (kA (j:=0) m1 (fun x=>(bG x).1) rfl (yZ ab y rfl) rfl)) fun a w hf hc=>zD θ he hi hf 16 rfl rfl rfl hc
    ·intro E θ a w hD hi hp he hc
     have e7:=hp.o 7 rfl
     have hf:=he.h0.mP he 16 rfl e7
     refine sp 1 hf rfl fun a hf=>zD θ he hi hf 17 rfl rfl rfl hc
    ·intro E θ a w hD hi hp he hc
     have e8:=hp.o 8 rfl
     have hf:=he.h0.mP he 17 rfl e8
     refine sp 1 hf rfl fun a hf=>zD θ he hi hf 18 rfl rfl rfl hc
    ·intro E θ a w hD hi hp he hc
     have e9:=hp.o 9 rfl
     rcases gW (decide ((w_.can (I * 13 + x).toNat) < 1099511627776)) with hb | hb
     ·have hf:=(he.h0.mT he 0 rfl).mP he 18 rfl e9
      replace hf:=dI hb hf
      refine zL hf hc lI m4 rfl fun a w hf hc=>?_
      replace hf:=nN (u:=undef) hb hf
      exact zD θ he hi hf 19 rfl rfl rfl hc
     ·have hf:=(he.h0.mT he 0 rfl).mP he 18 rfl e9
      replace hf:=dI hb hf
      refine stS hf rfl rfl rfl fun a hf=>?_
      replace hf:=nZ (u:=pq b_) hb hf
      exact zD θ he hi hf 19 rfl rfl rfl hc
    ·intro E θ a w hD hi hp he hc
     have e9:=hp.o 9 rfl
     rcases gW (decide ((w_.can (I * 13 + x).toNat) < 1099511627776)) with hb | hb
     ·have hf:=(he.h0.mT he 4 rfl).mP he 18 rfl e9
      replace hf:=dI hb hf
      refine sp 1 hf rfl fun a hf=>?_
      replace hf:=nN (u:=undef) hb hf
      exact zD θ he hi hf 20 rfl rfl rfl hc
     ·have hf:=(he.h0.mT he 4 rfl).mP he 18 rfl e9
      replace hf:=dI hb hf
      refine stS hf rfl rfl rfl fun a hf=>?_
      replace hf:=nZ (u:=i6 I) hb hf
      exact zD θ he hi hf 20 rfl rfl rfl hc
    ·intro E θ a w hD hi hp he hc
     have e9:=hp.o 9 rfl
     rcases gW (decide ((w_.can (I * 13 + x).toNat) < 1099511627776)) with hb | hb
     ·have hf:=(he.h0.mT he 2 rfl).mP he 18 rfl e9
      replace hf:=dI hb hf
      refine zL hf hc aX m2 rfl fun a w hf hc=>?_
      replace hf:=nN (u:=undef) hb hf
      exact zD θ he hi hf 21 rfl rfl rfl hc
     ·have hf:=(he.h0.mT he 2 rfl).mP he 18 rfl e9
      replace hf:=dI hb hf
      refine stS hf rfl rfl rfl fun a hf=>?_
      replace hf:=nZ (u:=i6 x) hb hf
      exact zD θ he hi hf 21 rfl rfl rfl hc
    ·intro E θ a w hD hi hp he hc
     have e9:=hp.o 9 rfl
     have a5:=hp.o 10 rfl
     rcases gW (decide ((w_.can (I * 13 + x).toNat) < 1099511627776)) with hb | hb
     ·have hf:=he.h0.mP he 18 rfl e9
      replace hf:=dI hb hf
      replace hf:=hf.more he 19 rfl (onP a5)
      replace hf:=kJ hb hf
      refine sp 1 hf rfl fun a hf=>?_
      replace hf:=nN (u:=undef) hb hf
      exact zD θ he hi hf 22 rfl rfl rfl hc
     ·have hf:=he.h0.mP he 18 rfl e9
      replace hf:=dI hb hf
      replace hf:=hf.more he 19 rfl (onP a5)
      replace hf:=kC hb hf
      refine stS hf rfl rfl rfl fun a hf=>?_
      replace hf:=nZ (u:=pq b_) hb hf
      exact zD θ he hi hf 22 rfl rfl rfl hc
    ·intro E θ a w hD hi hp he hc
     have e9:=hp.o 9 rfl
     have a2:=hp.o 13 rfl
     rcases gW (decide ((w_.can (I * 13 + x).toNat) < 1099511627776)) with hb | hb
     ·have hf:=he.h0.mP he 18 rfl e9
      replace hf:=dI hb hf
      replace hf:=hf.more he 22 rfl (onP a2)
      replace hf:=kJ hb hf
      refine zP hf rfl (pFA oP rfl) fun a hf=>?_
      replace hf:=nN (u:=undef) hb hf
      exact zD θ he hi hf 23 rfl rfl rfl hc
     ·have hf:=he.h0.mP he 18 rfl e9
      replace hf:=dI hb hf
      replace hf:=hf.more he 22 rfl (onP a2)
      replace hf:=kC hb hf
      refine stS hf rfl rfl rfl fun a hf=>?_
      replace hf:=nZ (u:=.pointer (some ⟨b_,2,none⟩)) hb hf
      exact zD θ he hi hf 23 rfl rfl rfl hc
    ·intro E θ a w hD hi hp he hc
     have e9:=hp.o 9 rfl
     have au:=hp.o 11 rfl
     have az:=hp.o 14 rfl
     rcases gW (decide ((w_.can (I * 13 + x).toNat) < 1099511627776)) with hb | hb
     ·have hf:=he.h0.mP he 18 rfl e9
      replace hf:=dI hb hf
      replace hf:=hf.more he 20 rfl (onP au)
      replace hf:=kJ hb hf
      replace hf:=hf.more he 23 rfl (onP az)
      replace hf:=kJ hb hf
      refine zP hf rfl (nS Tryz.underlying124 uH rfl rfl (bF (gI hb q)).1 (bF (gI hb q)).2) fun a hf=>?_
      replace hf:=nN (u:=undef) hb hf
      exact zD θ he hi hf 24 rfl rfl rfl hc
     ·have hf:=he.h0.mP he 18 rfl e9
      replace hf:=dI hb hf
      replace hf:=hf.more he 20 rfl (onP au)
      replace hf:=kC hb hf
      replace hf:=hf.more he 23 rfl (onP az)
      replace hf:=kC hb hf
      refine stS hf rfl rfl rfl fun a hf=>?_
      replace hf:=nZ (u:=.pointer (some ⟨b_,2 + I.toNat * 13,none⟩)) hb hf
      exact zD θ he hi hf 24 rfl rfl rfl hc
    ·intro E θ a w hD hi hp he hc
     have e9:=hp.o 9 rfl
     have bb:=hp.o 12 rfl
     have a4:=hp.o 15 rfl
     rcases gW (decide ((w_.can (I * 13 + x).toNat) < 1099511627776)) with hb | hb
     ·have hf:=he.h0.mP he 18 rfl e9
      replace hf:=dI hb hf
      replace hf:=hf.more he 21 rfl (onP bb)
      replace hf:=kJ hb hf
      replace hf:=hf.more he 24 rfl (onP a4)
      replace hf:=kJ hb hf
      refine zP hf rfl (Pu.cast (nS Tryz.underlying122 fD rfl rfl (bF (gI hb m)).1 (bF (gI hb m)).2) (congrArg (fun k=>Value.pointer (some ⟨b_,k,none⟩)) (mA (M:=13) (2) (gI hb q) (gI hb m) rfl))) fun a hf=>?_
      replace hf:=nN (u:=undef) hb hf
      exact zD θ he hi hf 25 rfl rfl rfl hc
     ·have hf:=he.h0.mP he 18 rfl e9
      replace hf:=dI hb hf
      replace hf:=hf.more he 21 rfl (onP bb)
      replace hf:=kC hb hf
      replace hf:=hf.more he 24 rfl (onP a4)
      replace hf:=kC hb hf
      refine stS hf rfl rfl rfl fun a hf=>?_
      replace hf:=nZ (u:=.pointer (some ⟨b_,2 + (I * 13 + x).toNat * 1,none⟩)) hb hf
      exact zD θ he hi hf 25 rfl rfl rfl hc
    ·intro E θ a w hD hi hp he hc
     have e9:=hp.o 9 rfl
     have aj:=hp.o 16 rfl
     rcases gW (decide ((w_.can (I * 13 + x).toNat) < 1099511627776)) with hb | hb
     ·have hf:=he.h0.mP he 18 rfl e9
      replace hf:=dI hb hf
      replace hf:=hf.more he 25 rfl (onP aj)
      replace hf:=kJ hb hf
      refine zE hf hc rfl (cV aX rfl (kA (j:=0) m1 (fun x=>(bG x).1) rfl (yZ (gI hb q) (gI hb m) rfl) rfl)) fun a w hf hc=>?_
      replace hf:=nN (u:=undef) hb hf
      exact zD θ he hi hf 26 rfl rfl rfl hc
     ·have hf:=he.h0.mP he 18 rfl e9
      replace hf:=dI hb hf
      replace hf:=hf.more he 25 rfl (onP aj)
      replace hf:=kC hb hf
      refine stS hf rfl rfl rfl fun a hf=>?_
      replace hf:=nZ (u:=i6 (w_.can (I * 13 + x).toNat)) hb hf
      exact zD θ he hi hf 26 rfl rfl rfl hc
    ·intro E θ a w hD hi hp he hc
     have e9:=hp.o 9 rfl
     rcases gW (decide ((w_.can (I * 13 + x).toNat) < 1099511627776)) with hb | hb
     ·have hf:=(he.h0.mT he 0 rfl).mP he 18 rfl e9
      replace hf:=dI hb hf
      refine zL hf hc lI m4 rfl fun a w hf hc=>?_
      replace hf:=nN (u:=undef) hb hf
      exact zD θ he hi hf 27 rfl rfl rfl hc
     ·have hf:=(he.h0.mT he 0 rfl).mP he 18 rfl e9
      replace hf:=dI hb hf
      refine stS hf rfl rfl rfl fun a hf=>?_
      replace hf:=nZ (u:=pq b_) hb hf
      exact zD θ he hi hf 27 rfl rfl rfl hc
    ·intro E θ a w hD hi hp he hc
     have e9:=hp.o 9 rfl
     rcases gW (decide ((w_.can (I * 13 + x).toNat) < 1099511627776)) with hb | hb
     ·have hf:=(he.h0.mT he 3 rfl).mP he 18 rfl e9
      replace hf:=dI hb hf
      refine zN hf hc sV m0 rfl fun a w hf hc=>?_
      replace hf:=nN (u:=undef) hb hf
      exact zD θ he hi hf 28 rfl rfl rfl hc
     ·have hf:=(he.h0.mT he 3 rfl).mP he 18 rfl e9
      replace hf:=dI hb hf
      refine stS hf rfl rfl rfl fun a hf=>?_
      replace hf:=nZ (u:=.agg #[i6 xv.Line,.bool xv.Back]) hb hf
      exact zD θ he hi hf 28 rfl rfl rfl hc
    ·intro E θ a w hD hi hp he hc
     have e9:=hp.o 9 rfl
     have ai:=hp.o 18 rfl
     have a8:=hp.o 19 rfl
     rcases gW (decide ((w_.can (I * 13 + x).toNat) < 1099511627776)) with hb | hb
     ·have hf:=he.h0.mP he 18 rfl e9
      replace hf:=dI hb hf
      replace hf:=hf.more he 27 rfl (onP ai)
      replace hf:=kJ hb hf
      replace hf:=hf.more he 28 rfl (onP a8)
      replace hf:=kJ hb hf
      refine zQ (v:=i6 Z) hf hc aKr rfl (fun w hc=>(rO w_ xv R (hc.pick k1) (gI hb bg)).mono fun e w h=>⟨h.1,(h.2.unpick k1)⟩) fun a w hf hc=>?_
      replace hf:=nN (u:=undef) hb hf
      exact zD θ he hi hf 29 rfl rfl rfl hc
     ·have hf:=he.h0.mP he 18 rfl e9
      replace hf:=dI hb hf
      replace hf:=hf.more he 27 rfl (onP ai)
      replace hf:=kC hb hf
      replace hf:=hf.more he 28 rfl (onP a8)
      replace hf:=kC hb hf
      refine stS hf rfl rfl rfl fun a hf=>?_
      replace hf:=nZ (u:=i6 Z) hb hf
      exact zD θ he hi hf 29 rfl rfl rfl hc
    ·intro E θ a w hD hi hp he hc
     have e9:=hp.o 9 rfl
     have av:=hp.o 17 rfl
     have a7:=hp.o 20 rfl
     rcases gW (decide ((w_.can (I * 13 + x).toNat) < 1099511627776)) with hb | hb
     ·have hf:=he.h0.mP he 18 rfl e9
      replace hf:=dI hb hf
      replace hf:=hf.more he 26 rfl (onP av)
      replace hf:=kJ hb hf
      replace hf:=hf.more he 29 rfl (onP a7)
      replace hf:=kJ hb hf
      refine sp 1 hf rfl fun a hf=>?_
      replace hf:=nN (u:=undef) hb hf
      exact zD θ he hi hf 30 rfl rfl rfl hc
     ·have hf:=he.h0.mP he 18 rfl e9
      replace hf:=dI hb hf
      replace hf:=hf.more he 26 rfl (onP av)
      replace hf:=kC hb hf
      replace hf:=hf.more he 29 rfl (onP a7)
      replace hf:=kC hb hf
      refine stS hf rfl rfl rfl fun a hf=>?_
      replace hf:=nZ (u:=i6 (W ((w_.can (I * 13 + x).toNat) + Z))) hb hf
      exact zD θ he hi hf 30 rfl rfl rfl hc
    ·intro E θ a w hD hi hp he hc
     have e9:=hp.o 9 rfl
     rcases gW (decide ((w_.can (I * 13 + x).toNat) < 1099511627776)) with hb | hb
     ·have hf:=(he.h0.mT he 0 rfl).mP he 18 rfl e9
      replace hf:=dI hb hf
      refine zL hf hc lI m4 rfl fun a w hf hc=>?_
      replace hf:=nN (u:=undef) hb hf
      exact zD θ he hi hf 31 rfl rfl rfl hc
     ·have hf:=(he.h0.mT he 0 rfl).mP he 18 rfl e9
      replace hf:=dI hb hf
      refine stS hf rfl rfl rfl fun a hf=>?_
      replace hf:=nZ (u:=pq b_) hb hf
      exact zD θ he hi hf 31 rfl rfl rfl hc
    ·intro E θ a w hD hi hp he hc
     have e9:=hp.o 9 rfl
     rcases gW (decide ((w_.can (I * 13 + x).toNat) < 1099511627776)) with hb | hb
     ·have hf:=(he.h0.mT he 4 rfl).mP he 18 rfl e9
      replace hf:=dI hb hf
      refine sp 1 hf rfl fun a hf=>?_
      replace hf:=nN (u:=undef) hb hf
      exact zD θ he hi hf 32 rfl rfl rfl hc
     ·have hf:=(he.h0.mT he 4 rfl).mP he 18 rfl e9
      replace hf:=dI hb hf
      refine stS hf rfl rfl rfl fun a hf=>?_
      replace hf:=nZ (u:=i6 I) hb hf
      exact zD θ he hi hf 32 rfl rfl rfl hc
    ·intro E θ a w hD hi hp he hc
     have e9:=hp.o 9 rfl
     rcases gW (decide ((w_.can (I * 13 + x).toNat) < 1099511627776)) with hb | hb
     ·have hf:=(he.h0.mT he 0 rfl).mP he 18 rfl e9
      replace hf:=dI hb hf
      refine zL hf hc lI m4 rfl fun a w hf hc=>?_
      replace hf:=nN (u:=undef) hb hf
      exact zD θ he hi hf 33 rfl rfl rfl hc
     ·have hf:=(he.h0.mT he 0 rfl).mP he 18 rfl e9
      replace hf:=dI hb hf
      refine stS hf rfl rfl rfl fun a hf=>?_
      replace hf:=nZ (u:=pq b_) hb hf
      exact zD θ he hi hf 33 rfl rfl rfl hc
    ·intro E θ a w hD hi hp he hc
     have e9:=hp.o 9 rfl
     rcases gW (decide ((w_.can (I * 13 + x).toNat) < 1099511627776)) with hb | hb
     ·have hf:=(he.h0.mT he 3 rfl).mP he 18 rfl e9
      replace hf:=dI hb hf
      refine zN hf hc sV m0 rfl fun a w hf hc=>?_
      replace hf:=nN (u:=undef) hb hf
      exact zD θ he hi hf 34 rfl rfl rfl hc
     ·have hf:=(he.h0.mT he 3 rfl).mP he 18 rfl e9
      replace hf:=dI hb hf
      refine stS hf rfl rfl rfl fun a hf=>?_
      replace hf:=nZ (u:=.agg #[i6 xv.Line,.bool xv.Back]) hb hf
      exact zD θ he hi hf 34 rfl rfl rfl hc
    ·intro E θ a w hD hi hp he hc
     have e9:=hp.o 9 rfl
     have a0:=hp.o 24 rfl
     have aq:=hp.o 25 rfl
     rcases gW (decide ((w_.can (I * 13 + x).toNat) < 1099511627776)) with hb | hb
     ·have hf:=he.h0.mP he 18 rfl e9
      replace hf:=dI hb hf
      replace hf:=hf.more he 33 rfl (onP a0)
      replace hf:=kJ hb hf
      replace hf:=hf.more he 34 rfl (onP aq)
      replace hf:=kJ hb hf
      refine zQ (v:=i6 Y) hf hc aGp rfl (fun w hc=>(lE w_ xv R (hc.pick k1) (gI hb bd)).mono fun e w h=>⟨h.1,(h.2.unpick k1)⟩) fun a w hf hc=>?_
      replace hf:=nN (u:=undef) hb hf
      exact zD θ he hi hf 35 rfl rfl rfl hc
     ·have hf:=he.h0.mP he 18 rfl e9
      replace hf:=dI hb hf
      replace hf:=hf.more he 33 rfl (onP a0)
      replace hf:=kC hb hf
      replace hf:=hf.more he 34 rfl (onP aq)
      replace hf:=kC hb hf
      refine stS hf rfl rfl rfl fun a hf=>?_
      replace hf:=nZ (u:=i6 Y) hb hf
      exact zD θ he hi hf 35 rfl rfl rfl hc
    ·intro E θ a w hD hi hp he hc
     have e9:=hp.o 9 rfl
     have ay:=hp.o 22 rfl
     rcases gW (decide ((w_.can (I * 13 + x).toNat) < 1099511627776)) with hb | hb
     ·have hf:=he.h0.mP he 18 rfl e9
      replace hf:=dI hb hf
      replace hf:=hf.more he 31 rfl (onP ay)
      replace hf:=kJ hb hf
      refine sp 1 hf rfl fun a hf=>?_
      replace hf:=nN (u:=undef) hb hf
      exact zD θ he hi hf 36 rfl rfl rfl hc
     ·have hf:=he.h0.mP he 18 rfl e9
      replace hf:=dI hb hf
      replace hf:=hf.more he 31 rfl (onP ay)
      replace hf:=kC hb hf
      refine stS hf rfl rfl rfl fun a hf=>?_
      replace hf:=nZ (u:=pq b_) hb hf
      exact zD θ he hi hf 36 rfl rfl rfl hc
    ·intro E θ a w hD hi hp he hc
     have e9:=hp.o 9 rfl
     have a9:=hp.o 27 rfl
     rcases gW (decide ((w_.can (I * 13 + x).toNat) < 1099511627776)) with hb | hb
     ·have hf:=he.h0.mP he 18 rfl e9
      replace hf:=dI hb hf
      replace hf:=hf.more he 36 rfl (onP a9)
      replace hf:=kJ hb hf
      refine zP hf rfl (pFA oP rfl) fun a hf=>?_
      replace hf:=nN (u:=undef) hb hf
      exact zD θ he hi hf 37 rfl rfl rfl hc
     ·have hf:=he.h0.mP he 18 rfl e9
      replace hf:=dI hb hf
      replace hf:=hf.more he 36 rfl (onP a9)
      replace hf:=kC hb hf
      refine stS hf rfl rfl rfl fun a hf=>?_
      replace hf:=nZ (u:=.pointer (some ⟨b_,2,none⟩)) hb hf
      exact zD θ he hi hf 37 rfl rfl rfl hc
    ·intro E θ a w hD hi hp he hc
     have e9:=hp.o 9 rfl
     have ax:=hp.o 23 rfl
     have ak:=hp.o 28 rfl
     rcases gW (decide ((w_.can (I * 13 + x).toNat) < 1099511627776)) with hb | hb
     ·have hf:=he.h0.mP he 18 rfl e9
      replace hf:=dI hb hf
      replace hf:=hf.more he 32 rfl (onP ax)
      replace hf:=kJ hb hf
      replace hf:=hf.more he 37 rfl (onP ak)
      replace hf:=kJ hb hf
      refine zP hf rfl (nS Tryz.underlying124 uH rfl rfl (bF (gI hb p)).1 (bF (gI hb p)).2) fun a hf=>?_
      replace hf:=nN (u:=undef) hb hf
      exact zD θ he hi hf 38 rfl rfl rfl hc
     ·have hf:=he.h0.mP he 18 rfl e9
      replace hf:=dI hb hf
      replace hf:=hf.more he 32 rfl (onP ax)
      replace hf:=kC hb hf
      replace hf:=hf.more he 37 rfl (onP ak)
      replace hf:=kC hb hf
      refine stS hf rfl rfl rfl fun a hf=>?_
      replace hf:=nZ (u:=.pointer (some ⟨b_,2 + I.toNat * 13,none⟩)) hb hf
      exact zD θ he hi hf 38 rfl rfl rfl hc
    ·intro E θ a w hD hi hp he hc
     have e9:=hp.o 9 rfl
     have a3:=hp.o 26 rfl
     have am:=hp.o 29 rfl
     rcases gW (decide ((w_.can (I * 13 + x).toNat) < 1099511627776)) with hb | hb
     ·have hf:=he.h0.mP he 18 rfl e9
      replace hf:=dI hb hf
      replace hf:=hf.more he 35 rfl (onP a3)
      replace hf:=kJ hb hf
      replace hf:=hf.more he 38 rfl (onP am)
      replace hf:=kJ hb hf
      refine zP hf rfl (Pu.cast (nS Tryz.underlying122 fD rfl rfl (bF (gI hb t)).1 (bF (gI hb t)).2) (congrArg (fun k=>Value.pointer (some ⟨b_,k,none⟩)) (mA (M:=13) (2) (gI hb p) (gI hb t) rfl))) fun a hf=>?_
      replace hf:=nN (u:=undef) hb hf
      exact zD θ he hi hf 39 rfl rfl rfl hc
     ·have hf:=he.h0.mP he 18 rfl e9
      replace hf:=dI hb hf
      replace hf:=hf.more he 35 rfl (onP a3)
      replace hf:=kC hb hf
      replace hf:=hf.more he 38 rfl (onP am)
      replace hf:=kC hb hf
      refine stS hf rfl rfl rfl fun a hf=>?_
      replace hf:=nZ (u:=.pointer (some ⟨b_,2 + (I * 13 + Y).toNat * 1,none⟩)) hb hf
      exact zD θ he hi hf 39 rfl rfl rfl hc
    ·intro E θ a w hD hi hp he hc
     have e9:=hp.o 9 rfl
     have ap:=hp.o 30 rfl
     rcases gW (decide ((w_.can (I * 13 + x).toNat) < 1099511627776)) with hb | hb
     ·have hf:=he.h0.mP he 18 rfl e9
      replace hf:=dI hb hf
      replace hf:=hf.more he 39 rfl (onP ap)
      replace hf:=kJ hb hf
      refine zE hf hc rfl (cV aX rfl (kA (j:=0) m1 (fun x=>(bG x).1) rfl (yZ (gI hb p) (gI hb t) rfl) rfl)) fun a w hf hc=>?_
      replace hf:=nN (u:=undef) hb hf
      exact zD θ he hi hf 40 rfl rfl rfl hc
     ·have hf:=he.h0.mP he 18 rfl e9
      replace hf:=dI hb hf
      replace hf:=hf.more he 39 rfl (onP ap)
      replace hf:=kC hb hf
      refine stS hf rfl rfl rfl fun a hf=>?_
      replace hf:=nZ (u:=i6 (w_.can (I * 13 + Y).toNat)) hb hf
      exact zD θ he hi hf 40 rfl rfl rfl hc
    ·intro E θ a w hD hi hp he hc
     have e9:=hp.o 9 rfl
     have ar:=hp.o 21 rfl
     have ba:=hp.o 31 rfl
     rcases gW (decide ((w_.can (I * 13 + x).toNat) < 1099511627776)) with hb | hb
     ·have hf:=he.h0.mP he 18 rfl e9
      replace hf:=dI hb hf
      replace hf:=hf.more he 30 rfl (onP ar)
      replace hf:=kJ hb hf
      replace hf:=hf.more he 40 rfl (onP ba)
      replace hf:=kJ hb hf
      refine sp 1 hf rfl fun a hf=>?_
      replace hf:=nN (u:=undef) hb hf
      exact zD θ he hi hf 41 rfl rfl rfl hc
     ·have hf:=he.h0.mP he 18 rfl e9
      replace hf:=dI hb hf
      replace hf:=hf.more he 30 rfl (onP ar)
      replace hf:=kC hb hf
      replace hf:=hf.more he 40 rfl (onP ba)
      replace hf:=kC hb hf
      refine stS hf rfl rfl rfl fun a hf=>?_
      replace hf:=nZ (u:=.bool (decide ((W ((w_.can (I * 13 + x).toNat) + Z)) < (w_.can (I * 13 + Y).toNat)))) hb hf
      exact zD θ he hi hf 41 rfl rfl rfl hc
    ·intro E θ a w hD hi hp he hc
     have e9:=hp.o 9 rfl
     have an:=hp.o 32 rfl
     rcases gW (decide ((w_.can (I * 13 + x).toNat) < 1099511627776)) with hb | hb
     ·have hf:=he.h0.mP he 18 rfl e9
      replace hf:=dI hb hf
      replace hf:=hf.more he 41 rfl (onP an)
      replace hf:=kJ hb hf
      refine sp 1 hf rfl fun a hf=>?_
      replace hf:=aOv (v':=.bool ((decide ((w_.can (I * 13 + x).toNat) < 1099511627776)) && (decide ((W ((w_.can (I * 13 + x).toNat) + Z)) < (w_.can (I * 13 + Y).toNat))))) (congrArg Value.bool (andT hb)) hf
      exact zD θ he hi hf 42 rfl rfl rfl hc
     ·have hf:=he.h0.mP he 18 rfl e9
      replace hf:=dI hb hf
      replace hf:=hf.more he 41 rfl (onP an)
      replace hf:=kC hb hf
      refine sp 1 hf rfl fun a hf=>?_
      replace hf:=aOv (v':=.bool ((decide ((w_.can (I * 13 + x).toNat) < 1099511627776)) && (decide ((W ((w_.can (I * 13 + x).toNat) + Z)) < (w_.can (I * 13 + Y).toNat))))) (congrArg Value.bool (andF hb)) hf
      exact zD θ he hi hf 42 rfl rfl rfl hc
    ·intro E θ a w bq he hc
     have hf:=he.h0
     have b9:=bq 33 rfl
     replace hf:=hf.more he 42 rfl (onP b9)
     replace hf:=hf.more he 8 rfl (onT)
     replace hf:=hf.more he 7 rfl (onT)
     replace hf:=hf.more he 6 rfl (onT)
     replace hf:=hf.more he 5 rfl (onT)
     replace hf:=hf.more he 3 rfl (onT)
     replace hf:=hf.more he 2 rfl (onT)
     replace hf:=hf.more he 1 rfl (onT)
     replace hf:=hf.more he 0 rfl (onT)
     exact ⟨hf.kp rfl,hc⟩
    rintro a w ⟨hf,hc⟩
    refine br _ _ ?_
    refine aDe (b:=((decide ((w_.can (I * 13 + x).toNat) < 1099511627776)) && (decide ((W ((w_.can (I * 13 + x).toNat) + Z)) < (w_.can (I * 13 + Y).toNat))))) hf rfl (fun hb=>?_) (fun hb=>?_)
    ·replace hF:=gI hb hF
     clear hb
     refine sE fun K22 bz=>sP (fun _ _ h=>h) rfl ?_
     refine zW hf hc aBv u3 rfl fun w hc=>aQ ?_
     refine bz _ _ ?_
     refine rRet ?_
     refine cI ?_
     refine aU ?_
     refine aU ?_
     have he:=sj hF
     rw [← he] at g
     replace hF:=bp _ g
     refine cI ?_
     refine aU ?_
     refine cI ?_
     refine aU ?_
     replace hc:=hc.drop k0
     exact ⟨true,_,hF.symm,rfl,hc⟩
    ·replace hF:=nU hb hF
     clear hb
     refine aC4 ?_
     refine b2 _ _ ?_
     refine sP (fun _ _ h=>h) rfl ?_
     refine sp 2 hf rfl fun a hf=>aQ ?_
     exact bj (W (I + 1)) _ _ (sj hF).symm ⟨hf.kp rfl,hc⟩
   ·replace hF:=nU hb hF
    clear hb
    refine aKz ?_
    refine bI ?_
    refine bI ?_
    have he:=sj hF
    rw [← he] at g
    refine fB ?_
    exact bc _ _ _ g ⟨hf.kp rfl,hc⟩
  ·rintro D_1 V _ a w ag rfl hf hc
   replace hf:Has ⟨71,lK (D_1::Ds)⟩ a [(1,pq U),(2,pq O),(3,pq X),(10,i6 w_.Net.Marks),(11,i6 x)]:=hf.kp rfl
   replace hc:Ctx G (.box z [pq b_] 119::.box aa [i6 r] 3::.box b_ (aY [i6 w_.Net.Marks,.slice H w_.Net.Lines.length D] 169 aD w_.can (aY [] 169 aG w_.by_ [])) 130::.box X [i6 x] 3::.box O [.bool V] 4::.box U [pq b_] 119::(nI (D_1::Ds)++Lf)) w:=pK (C:=[.box z [pq b_] 119,.box aa [i6 r] 3]) (L:=[.box b_ (aY [i6 w_.Net.Marks,.slice H w_.Net.Lines.length D] 169 aD w_.can (aY [] 169 aG w_.by_ [])) 130,.box X [i6 x] 3,.box O [.bool V] 4,.box U [pq b_] 119]) hc
   replace hF:(Option.bind (inR x 13) fun bk=>Option.bind (inR x 13) fun bn=>cond (decide ((w_.can (x * 13 + x).toNat) < 0)) (some (.ret true)) (some (.cont (W (x + 1),V))))=some a6:=by rcases ag with rfl | rfl <;> exact hF
   refine bt _ _ ?_
   refine wp_seq_k fun K23 bs=>?_
   obtain ⟨bk,s,hF⟩:=aC hF
   obtain ⟨bn,n,hF⟩:=aC hF
   refine cQ hc aT (by kernel_rfl) ?_
   refine qE hf rfl rfl rfl (cV lI rfl (bQ m5 rfl)) fun a hf=>qE hf rfl rfl rfl (cV aX rfl (bQ m3 rfl)) fun a hf=>qE hf rfl rfl rfl (cV aX rfl (bQ m3 rfl)) fun a hf=>qE hf rfl rfl rfl (Pu.ev (pNC rfl)) fun a hf=>qE hf rfl rfl rfl (Pu.ev (pFA oP rfl)) fun a hf=>qE hf rfl rfl rfl (Pu.ev (nS Tryz.underlying124 uH rfl rfl (bF s).1 (bF s).2)) fun a hf=>qE hf rfl rfl rfl (Pu.ev (Pu.cast (nS Tryz.underlying122 fD rfl rfl (bF n).1 (bF n).2) (congrArg (fun k=>Value.pointer (some ⟨b_,k,none⟩)) (mA (M:=13) (2) s n rfl)))) fun a hf=>qE hf rfl rfl rfl (cV aX rfl (kA (j:=0) m2 (fun x=>(bG x).1) rfl (yZ s n rfl) rfl)) fun a hf=>qE hf rfl rfl rfl (Pu.ev (pLt rfl rfl)) fun a hf=>?_
   intro w hc
   refine bs _ _ ?_
   refine zI hf rfl hF ?_ ?_ <;> clear hF <;> intro hF
   ·refine zS fun K h=>zW hf hc aBv u4 rfl fun w hc=>zT h ?_
    refine wp_ret ?_
    refine cI ?_
    refine aU ?_
    refine aU ?_
    have he:=sj hF
    rw [← he] at d
    replace hF:=a1 _ d
    refine cI ?_
    refine aU ?_
    obtain rfl:=hF
    replace hc:=(((hc.drop k5).drop k3).drop k1).drop k0
    refine aFx hf ?_
    refine aAd [.box b_ (aY [i6 w_.Net.Marks,.slice H w_.Net.Lines.length D] 169 aD w_.can (aY [] 169 aG w_.by_ [])) 130,.box O [.bool true] 4] (D_1::Ds) hc fun w hc=>?_
    replace hc:Ctx G (.box b_ (aY [i6 w_.Net.Marks,.slice H w_.Net.Lines.length D] 169 aD w_.can (aY [] 169 aG w_.by_ [])) 130::.box O [.bool true] 4::Lf) w:=hc
    exact aFs Tryz.results109 hf hc (aDb vC rfl (bQ m1 rfl)) ⟨rfl,(hc.drop k1)⟩
   ·refine wp_skip ?_
    refine h8 _ _ ?_
    refine cX ?_
    refine sp 2 hf rfl fun a hf=>aQ ?_
    replace hc:=(((((hc.drop k3).drop k1).drop k0).pick k0).pick k2).pick k2
    exact b8 (W (x + 1),V) _ _ (sj hF).symm ⟨(D_1::Ds),hf.kp rfl,hc⟩
  ·rintro D_1 V _ a w ag rfl hf hc
   replace hf:Has ⟨71,lK (D_1::Ds)⟩ a [(1,pq U),(2,pq O),(3,pq X),(10,i6 w_.Net.Marks),(11,i6 x)]:=hf.kp rfl
   replace hc:Ctx G (.box z [pq b_] 119::.box aa [i6 r] 3::.box b_ (aY [i6 w_.Net.Marks,.slice H w_.Net.Lines.length D] 169 aD w_.can (aY [] 169 aG w_.by_ [])) 130::.box X [i6 x] 3::.box O [.bool V] 4::.box U [pq b_] 119::(nI (D_1::Ds)++Lf)) w:=pK (C:=[.box z [pq b_] 119,.box aa [i6 r] 3]) (L:=[.box b_ (aY [i6 w_.Net.Marks,.slice H w_.Net.Lines.length D] 169 aD w_.can (aY [] 169 aG w_.by_ [])) 130,.box X [i6 x] 3,.box O [.bool V] 4,.box U [pq b_] 119]) hc
   replace hF:(some (.ret V))=some a6:=by subst ag; exact hF
   refine aU ?_
   refine cI ?_
   refine aU ?_
   refine aU ?_
   have he:=sj hF
   rw [← he] at d
   replace hF:=a1 _ d
   refine cI ?_
   refine aU ?_
   obtain rfl:=hF
   replace hc:=(((hc.drop k5).drop k3).drop k1).drop k0
   refine aFx hf ?_
   refine aAd [.box b_ (aY [i6 w_.Net.Marks,.slice H w_.Net.Lines.length D] 169 aD w_.can (aY [] 169 aG w_.by_ [])) 130,.box O [.bool V] 4] (D_1::Ds) hc fun w hc=>?_
   replace hc:Ctx G (.box b_ (aY [i6 w_.Net.Marks,.slice H w_.Net.Lines.length D] 169 aD w_.can (aY [] 169 aG w_.by_ [])) 130::.box O [.bool V] 4::Lf) w:=hc
   exact aFs Tryz.results109 hf hc (aDb vC rfl (bQ m1 rfl)) ⟨rfl,(hc.drop k1)⟩
 ·refine wp_exit ?_
  refine bI ?_
  refine bI ?_
  have he:=sj hF
  rw [← he] at d
  refine fB ?_
  exact b4 _ _ _ d ⟨Ds,hf.kp rfl,hc⟩

def oR (N:Nat) (B:Int × (Nat→Int) × (Nat→aK) × Int) (D:Int):Option (Int × (Nat→Int) × (Nat→aK) × Int) :=
 some (B.1,B.2.1,B.2.2.1,D)
def vJ (N:Nat) (n:aO):Option (Int × (Nat→Int) × (Nat→aK) × Int) :=
 Option.bind (vT N n) (aAb (fun r=>none)
 (fun B=>Option.bind (cond (B.2.2.2 == 0) (Option.bind (qA N (⟨(⟨B.1,n.Lines⟩:aO),B.2.1,B.2.2.1⟩:bX)) fun D=>
 some D) (some false)) fun H=>
 cond H
 (oR N B 7)
 (oR N B B.2.2.2)))
theorem aBq {N:Nat} {G:bA} {Lf:List Ent} {w:World} (n:aO) {D:Option Addr} {B:Nat} (I:Rd G 5 D B (n.Lines.map bR)) (hc:Ctx G (Lf) w) {J:Int × (Nat→Int) × (Nat→aK) × Int} (hF:vJ N n=some J):Calls Tryz.prog 79 #[.agg #[i6 n.Marks,.slice D n.Lines.length B]] w (fun e w=>∃ (S:Nat),e=.returned (.tuple #[pq S,i6 J.2.2.2])∧Ctx G (.box S (aY [i6 J.1,.slice D n.Lines.length B] 169 aD J.2.1 (aY [] 169 aG J.2.2.1 [])) 130::Lf) w):=by
 unfold vJ at hF
 refine cC Tryz.func79 rfl Tryz.ntmps79 rfl fun a hf=>zS fun K h=>zB hf hc rfl fun b a w hf hc=>sp 2 hf rfl fun a hf=>zT h ?_
 refine zS fun K h=>zN hf hc aBm m0 rfl fun a w hf hc=>?_
 obtain ⟨r,hr,hF⟩:=aC hF
 cases r with
 | inl r=>
  replace hF:=aE0 hF
  refine zC hf aLf rfl (wL n I hc hr) ?_
  rintro _ w ⟨rfl,hc⟩
  refine ⟨_,rfl,fun a hf=>?_⟩
  refine sp 5 hf rfl fun a hf=>zT h ?_
  refine wp_seq_k fun K3 h3=>wp_seq_k fun K4 h4=>aI9 hF
 | inr H=>
  replace hF:=aFl hF
  have X:=hr
  refine zC hf aLf rfl (wL n I hc X) ?_
  rintro _ w ⟨M,rfl,hc⟩
  refine ⟨_,rfl,fun a hf=>?_⟩
  refine sp 5 hf rfl fun a hf=>zT h ?_
  refine wp_seq_k fun K5 h5=>?_
  have U:∀ (O:Int) a w,Has 19 a [(4,pq M),(5,i6 O)]→Ctx G (.box M (aY [i6 H.1,.slice D n.Lines.length B] 169 aD H.2.1 (aY [] 169 aG H.2.2.1 [])) 130::Lf) w→oR N H O=some J→K5 a w:=by
   repeat (clear hF)
   repeat (clear hc)
   repeat (clear hf)
   intro O a w hf hc hF
   unfold oR at hF
   refine h5 _ _ ?_
   refine zS fun K h=>sp 4 hf rfl fun a hf=>zT h ?_
   refine wp_ret ?_
   obtain rfl:=sj hF
   exact zO2 Tryz.results79 hf rfl rfl ⟨M,rfl,hc⟩
  refine zS fun K h=>sp 3 hf rfl fun a hf=>?_
  obtain ⟨Y,R,hF⟩:=aC hF
  refine fL 3 (fun a=>Has 19 a [(4,pq M),(5,i6 H.2.2.2),(11,i6 H.2.2.2),(12,.bool (H.2.2.2 == 0)),(13,.bool (H.2.2.2 == 0)),(16,.bool Y)]) hc ?_ ?_
  ·cases hb:(H.2.2.2 == 0)
   ·rw [hb] at hf
    have hF:=nU hb R
    obtain rfl:=sj hF
    refine stS hf rfl rfl rfl fun a hf=>stS hf rfl rfl rfl fun a hf=>sp 1 hf rfl fun a hf=>aQ ⟨hf.kp rfl,hc⟩
   ·rw [hb] at hf
    have hF:=gI hb R
    refine sp 1 hf rfl fun a hf=>?_
    obtain ⟨Z,V,hF⟩:=aC hF
    refine zQ (v:=.bool Z) hf hc aQj rfl (fun w hc=>(xS (⟨(⟨H.1,n.Lines⟩:aO),H.2.1,H.2.2.1⟩:bX) I (hc.pick k0) V).mono fun e w h=>⟨h.1,(h.2.unpick k0)⟩) fun a w hf hc=>sp 1 hf rfl fun a hf=>?_
    obtain rfl:=sj hF
    exact aQ ⟨hf.kp rfl,hc⟩
  intro a w ⟨hf,hc⟩
  refine zT h ?_
  refine zI hf rfl hF ?_ ?_ <;> clear hF <;> intro hF
  ·refine cX ?_
   refine sp 1 hf rfl fun a hf=>aQ ?_
   replace hc:=hc.drop k1
   exact U 7 _ _  (hf.kp rfl) hc hF
  ·refine wp_skip ?_
   replace hc:=hc.drop k1
   exact U H.2.2.2 _ _  (hf.kp rfl) hc hF

def oV (N:Nat) (B:Int × (Nat→Int) × (Nat→aK) × Int) (D:Int):Option ((Int) ⊕ (Int × (Nat→Int) × (Nat→aK) × Int)) :=
 some (.inr (B.1,B.2.1,B.2.2.1,D))
def xE (N:Nat) (n:aO) (B:Int) (H:Int) (I:Bool):Option ((Int) ⊕ (Int × (Nat→Int) × (Nat→aK) × Int)) :=
 Option.bind (uB N n) fun r=>
 cond (r != 0)
 (some (.inl r))
 (cond (((!(bO B 0 (W (n.Marks - 1)))) || (!(bO H 0 (W (n.Marks - 1))))) || ((!I) && (B == H)))
 (some (.inl 2))
 (Option.bind (vJ N n) fun D=>
 Option.bind (cond (D.2.2.2 == 0) (Option.bind (inR B 13) fun un=>
 Option.bind (inR H 13) fun M=>
 some ((D.2.1 (B * 13 + H).toNat) == 1099511627776)) (some false)) fun J=>
 cond J
 (oV N D 5)
 (oV N D D.2.2.2)))
theorem wZ {N:Nat} {G:bA} {Lf:List Ent} {w:World} (n:aO) (B:Int) (H:Int) (D:Bool) {J:Option Addr} {I:Nat} (R:Rd G 5 J I (n.Lines.map bR)) (hc:Ctx G (Lf) w) {b:(Int) ⊕ (Int × (Nat→Int) × (Nat→aK) × Int)} (hF:xE N n B H D=some b):Calls Tryz.prog 49 #[.agg #[i6 n.Marks,.slice J n.Lines.length I],i6 B,i6 H,.bool D] w (fun e w=>aAb (fun rr=>e=.returned (.tuple #[.pointer none,i6 rr])∧Ctx G (Lf) w) (fun rr=>∃ (g:Nat),e=.returned (.tuple #[pq g,i6 rr.2.2.2])∧Ctx G (.box g (aY [i6 rr.1,.slice J n.Lines.length I] 169 aD rr.2.1 (aY [] 169 aG rr.2.2.1 [])) 130::Lf) w) b):=by
 unfold xE at hF
 refine cC Tryz.func49 rfl Tryz.ntmps49 rfl fun a hf=>zS fun K h=>zB hf hc rfl fun U a w hf hc=>sp 2 hf rfl fun a hf=>zT h ?_
 refine wp_seq_k fun K2 h2=>zS fun K h=>zN hf hc aBm m0 rfl fun a w hf hc=>?_
 obtain ⟨r,hr,hF⟩:=aC hF
 refine zQ (v:=i6 r) hf hc aNx rfl (fun w hc=>xC n R hc hr) fun a w hf hc=>sp 1 hf rfl fun a hf=>zT h ?_
 refine zS fun K h=>sp 2 hf rfl fun a hf=>zT h ?_
 refine zI hf rfl hF ?_ ?_ <;> clear hF <;> intro hF
 ·refine zS fun K h=>sp 3 hf rfl fun a hf=>zT h ?_
  refine wp_ret ?_
  refine aU ?_
  obtain rfl:=sj hF
  replace hc:=hc.drop k0
  exact zO2 Tryz.results49 hf rfl rfl ⟨rfl,hc⟩
 ·refine wp_skip ?_
  refine h2 _ _ ?_
  refine wp_seq_k fun K6 h6=>zS fun K h=>sp 1 hf rfl fun a hf=>zP hf rfl (pFA pW rfl) fun a hf=>zL hf hc aX m0 rfl fun a w hf hc=>sp 1 hf rfl fun a hf=>zQ (v:=.bool (bO B 0 (W (n.Marks - 1)))) hf hc aCv rfl (fun w hc=>nV B 0 (W (n.Marks - 1)) hc rfl) fun a w hf hc=>sp 2 hf rfl fun a hf=>fL 7 (fun a=>Has 61 a [(1,i6 B),(2,i6 H),(3,.bool D),(4,pq U),(18,i6 B),(19,pq U),(20,i6 n.Marks),(21,i6 (W (n.Marks - 1))),(22,.bool (bO B 0 (W (n.Marks - 1)))),(23,.bool (!(bO B 0 (W (n.Marks - 1))))),(24,.bool (!(bO B 0 (W (n.Marks - 1))))),(31,.bool ((!(bO B 0 (W (n.Marks - 1)))) || (!(bO H 0 (W (n.Marks - 1))))))]) hc ?_ ?_
  ·cases hb:(!(bO B 0 (W (n.Marks - 1))))
   ·rw [hb] at hf
    refine sp 1 hf rfl fun a hf=>zP hf rfl (pFA pW rfl) fun a hf=>zL hf hc aX m0 rfl fun a w hf hc=>sp 1 hf rfl fun a hf=>zQ (v:=.bool (bO H 0 (W (n.Marks - 1)))) hf hc aCv rfl (fun w hc=>nV H 0 (W (n.Marks - 1)) hc rfl) fun a w hf hc=>sp 2 hf rfl fun a hf=>aQ ⟨hf.kp rfl,hc⟩
   ·rw [hb] at hf
    refine stS hf rfl rfl rfl fun a hf=>stS hf rfl rfl rfl fun a hf=>stS hf rfl rfl rfl fun a hf=>stS hf rfl rfl rfl fun a hf=>stS hf rfl rfl rfl fun a hf=>stS hf rfl rfl rfl fun a hf=>sp 1 hf rfl fun a hf=>aQ ⟨hf.kp rfl,hc⟩
  intro a w ⟨hf,hc⟩
  refine sp 1 hf rfl fun a hf=>fL 8 (fun a=>Has 61 a [(1,i6 B),(2,i6 H),(3,.bool D),(4,pq U),(18,i6 B),(19,pq U),(20,i6 n.Marks),(21,i6 (W (n.Marks - 1))),(22,.bool (bO B 0 (W (n.Marks - 1)))),(23,.bool (!(bO B 0 (W (n.Marks - 1))))),(24,.bool (!(bO B 0 (W (n.Marks - 1))))),(31,.bool ((!(bO B 0 (W (n.Marks - 1)))) || (!(bO H 0 (W (n.Marks - 1)))))),(32,.bool ((!(bO B 0 (W (n.Marks - 1)))) || (!(bO H 0 (W (n.Marks - 1)))))),(40,.bool (((!(bO B 0 (W (n.Marks - 1)))) || (!(bO H 0 (W (n.Marks - 1))))) || ((!D) && (B == H))))]) hc ?_ ?_
  ·cases hb:((!(bO B 0 (W (n.Marks - 1)))) || (!(bO H 0 (W (n.Marks - 1)))))
   ·rw [hb] at hf
    refine sp 3 hf rfl fun a hf=>fL 4 (fun a=>Has 61 a [(1,i6 B),(2,i6 H),(3,.bool D),(4,pq U),(18,i6 B),(19,pq U),(20,i6 n.Marks),(21,i6 (W (n.Marks - 1))),(22,.bool (bO B 0 (W (n.Marks - 1)))),(23,.bool (!(bO B 0 (W (n.Marks - 1))))),(24,.bool (!(bO B 0 (W (n.Marks - 1))))),(31,.bool false),(32,.bool false),(33,.bool D),(34,.bool (!D)),(35,.bool (!D)),(39,.bool ((!D) && (B == H)))]) hc ?_ ?_
    ·cases hb:(!D)
     ·rw [hb] at hf
      refine stS hf rfl rfl rfl fun a hf=>stS hf rfl rfl rfl fun a hf=>stS hf rfl rfl rfl fun a hf=>sp 1 hf rfl fun a hf=>aQ ⟨hf.kp rfl,hc⟩
     ·rw [hb] at hf
      refine sp 4 hf rfl fun a hf=>aQ ⟨hf.kp rfl,hc⟩
    intro a w ⟨hf,hc⟩
    refine sp 1 hf rfl fun a hf=>aQ ⟨hf.kp rfl,hc⟩
   ·rw [hb] at hf
    refine stS hf rfl rfl rfl fun a hf=>stS hf rfl rfl rfl fun a hf=>stS hf rfl rfl rfl fun a hf=>stS hf rfl rfl rfl fun a hf=>stS hf rfl rfl rfl fun a hf=>stS hf rfl rfl rfl fun a hf=>stS hf rfl rfl rfl fun a hf=>sp 1 hf rfl fun a hf=>aQ ⟨hf.kp rfl,hc⟩
  intro a w ⟨hf,hc⟩
  refine zT h ?_
  refine zI hf rfl hF ?_ ?_ <;> clear hF <;> intro hF
  ·refine zS fun K h=>sp 2 hf rfl fun a hf=>zT h ?_
   refine wp_ret ?_
   refine aU ?_
   obtain rfl:=sj hF
   replace hc:=hc.drop k0
   exact zO2 Tryz.results49 hf rfl rfl ⟨rfl,hc⟩
  ·refine wp_skip ?_
   refine h6 _ _ ?_
   refine zS fun K h=>zN hf hc aBm m0 rfl fun a w hf hc=>?_
   obtain ⟨O,i,hF⟩:=aC hF
   refine zC hf en_79 rfl (aBq n R hc i) ?_
   rintro _ w ⟨V,rfl,hc⟩
   refine ⟨_,rfl,fun a hf=>?_⟩
   refine sp 5 hf rfl fun a hf=>zT h ?_
   refine wp_seq_k fun K10 m=>?_
   have Y:∀ (Z:Int) a w,Has 61 a [(11,pq V),(12,i6 Z)]→Ctx G (.box V (aY [i6 O.1,.slice J n.Lines.length I] 169 aD O.2.1 (aY [] 169 aG O.2.2.1 [])) 130::Lf) w→oV N O Z=some b→K10 a w:=by
    repeat (clear hF)
    repeat (clear hc)
    repeat (clear hf)
    intro Z a w hf hc hF
    unfold oV at hF
    refine m _ _ ?_
    refine zS fun K h=>sp 4 hf rfl fun a hf=>zT h ?_
    refine wp_ret ?_
    obtain rfl:=sj hF
    exact zO2 Tryz.results49 hf rfl rfl ⟨V,rfl,hc⟩
   refine zS fun K h=>sp 3 hf rfl fun a hf=>?_
   obtain ⟨o,d,hF⟩:=aC hF
   refine fL 10 (fun a=>Has 61 a [(1,i6 B),(2,i6 H),(11,pq V),(12,i6 O.2.2.2),(46,i6 O.2.2.2),(47,.bool (O.2.2.2 == 0)),(48,.bool (O.2.2.2 == 0)),(58,.bool o)]) hc ?_ ?_
   ·cases hb:(O.2.2.2 == 0)
    ·rw [hb] at hf
     have hF:=nU hb d
     obtain rfl:=sj hF
     refine stS hf rfl rfl rfl fun a hf=>stS hf rfl rfl rfl fun a hf=>stS hf rfl rfl rfl fun a hf=>stS hf rfl rfl rfl fun a hf=>stS hf rfl rfl rfl fun a hf=>stS hf rfl rfl rfl fun a hf=>stS hf rfl rfl rfl fun a hf=>stS hf rfl rfl rfl fun a hf=>stS hf rfl rfl rfl fun a hf=>sp 1 hf rfl fun a hf=>aQ ⟨hf.kp rfl,hc⟩
    ·rw [hb] at hf
     have hF:=gI hb d
     refine sp 4 hf rfl fun a hf=>zP hf rfl (pFA oP rfl) fun a hf=>?_
     obtain ⟨un,X,hF⟩:=aC hF
     refine zP hf rfl (nS Tryz.underlying124 uH rfl rfl (bF X).1 (bF X).2) fun a hf=>?_
     obtain ⟨p,S,hF⟩:=aC hF
     refine zP hf rfl (Pu.cast (nS Tryz.underlying122 fD rfl rfl (bF S).1 (bF S).2) (congrArg (fun k=>Value.pointer (some ⟨V,k,none⟩)) (mA (M:=13) (2) X S rfl))) fun a hf=>zE hf hc rfl (cV aX rfl (kA (j:=0) m0 (fun x=>(bG x).1) rfl (yZ X S rfl) rfl)) fun a w hf hc=>sp 2 hf rfl fun a hf=>?_
     obtain rfl:=sj hF
     exact aQ ⟨hf.kp rfl,hc⟩
   intro a w ⟨hf,hc⟩
   refine zT h ?_
   refine zI hf rfl hF ?_ ?_ <;> clear hF <;> intro hF
   ·refine cX ?_
    refine sp 1 hf rfl fun a hf=>aQ ?_
    replace hc:=hc.drop k1
    exact Y 5 _ _  (hf.kp rfl) hc hF
   ·refine wp_skip ?_
    replace hc:=hc.drop k1
    exact Y O.2.2.2 _ _  (hf.kp rfl) hc hF

def uK (N:Nat) (n:aO) (B:Int) (D:Int):Option (aF × Int) :=
 Option.bind (xE N n B D true) (aAb (fun r=>cond (r != 0)
 (some ((⟨0,0⟩:aF),r))
 (none))
 (fun H=>cond (H.2.2.2 != 0)
 (some ((⟨0,0⟩:aF),H.2.2.2))
 (Option.bind (inR D 13) fun un=>
 Option.bind (inR B 13) fun M=>
 Option.bind (inR B 13) fun I=>
 Option.bind (inR D 13) fun J=>
 some ((⟨W (0 - (H.2.1 (D * 13 + B).toNat)),(H.2.1 (B * 13 + D).toNat)⟩:aF),0))))
theorem aAs {N:Nat} {G:bA} {Lf:List Ent} {w:World} (n:aO) (B:Int) (D:Int) {I:Option Addr} {H:Nat} (R:Rd G 5 I H (n.Lines.map bR)) (hc:Ctx G (Lf) w) {Z:aF × Int} (hF:uK N n B D=some Z):Calls Tryz.prog 27 #[.agg #[i6 n.Marks,.slice I n.Lines.length H],i6 B,i6 D] w (fun e w=>e=.returned (.tuple #[.agg #[i6 Z.1.Lo,i6 Z.1.Hi],i6 Z.2])∧Ctx G (Lf) w):=by
 unfold uK at hF
 refine cC Tryz.func27 rfl Tryz.ntmps27 rfl fun a hf=>zS fun K h=>zB hf hc rfl fun d a w hf hc=>zA hf hc rE rfl fun X a w hf hc=>sp 1 hf rfl fun a hf=>zT h ?_
 refine zS fun K h=>zN hf hc aBm m1 rfl fun a w hf hc=>sp 2 hf rfl fun a hf=>?_
 obtain ⟨r,hr,hF⟩:=aC hF
 cases r with
 | inl r=>
  replace hF:=aE0 hF
  refine zC hf aN0 rfl (wZ n B D true R hc hr) ?_
  rintro _ w ⟨rfl,hc⟩
  refine ⟨_,rfl,fun a hf=>?_⟩
  refine sp 5 hf rfl fun a hf=>zT h ?_
  refine wp_seq_k fun K3 h3=>zS fun K h=>sp 2 hf rfl fun a hf=>zT h ?_
  refine zI hf rfl hF ?_ ?_ <;> clear hF <;> intro hF
  ·refine zS fun K h=>zP hf rfl (bJ (cells:=[i6 0,i6 0]) oO rfl rfl) fun a hf=>sp 1 hf rfl fun a hf=>zW hf hc fS u0 rfl fun w hc=>sp 1 hf rfl fun a hf=>zT h ?_
   refine wp_ret ?_
   refine aU ?_
   obtain rfl:=sj hF
   replace hc:=hc.drop k1
   exact vY (by simp) rfl Tryz.results27 hf hc (dX (vs:=[i6 0,i6 0]) eY rfl rfl (cE (n:=2) m0 rfl)) (show iK _ 7=_ from rfl) ⟨rfl,(hc.drop k0)⟩
  ·refine wp_skip ?_
   refine h3 _ _ ?_
   refine wp_seq_k fun K6 h6=>aI9 hF
 | inr J=>
  replace hF:=aFl hF
  have g:=hr
  refine zC hf aN0 rfl (wZ n B D true R hc g) ?_
  rintro _ w ⟨O,rfl,hc⟩
  refine ⟨_,rfl,fun a hf=>?_⟩
  refine sp 5 hf rfl fun a hf=>zT h ?_
  refine wp_seq_k fun K7 h7=>zS fun K h=>sp 2 hf rfl fun a hf=>zT h ?_
  refine zI hf rfl hF ?_ ?_ <;> clear hF <;> intro hF
  ·refine zS fun K h=>zP hf rfl (bJ (cells:=[i6 0,i6 0]) oO rfl rfl) fun a hf=>sp 1 hf rfl fun a hf=>zW hf hc fS u1 rfl fun w hc=>sp 1 hf rfl fun a hf=>zT h ?_
   refine wp_ret ?_
   refine aU ?_
   obtain rfl:=sj hF
   replace hc:=(hc.drop k2).drop k0
   exact vY (by simp) rfl Tryz.results27 hf hc (dX (vs:=[i6 0,i6 0]) eY rfl rfl (cE (n:=2) m0 rfl)) (show iK _ 7=_ from rfl) ⟨rfl,(hc.drop k0)⟩
  ·refine wp_skip ?_
   refine h7 _ _ ?_
   refine wp_seq_k fun K10 s=>?_
   obtain ⟨un,Y,hF⟩:=aC hF
   obtain ⟨ad,U,hF⟩:=aC hF
   obtain ⟨ab,V,hF⟩:=aC hF
   obtain ⟨ac,S,hF⟩:=aC hF
   refine cU (fun θ=>[⟨none,none,1,i6 B⟩,⟨none,none,2,i6 D⟩,⟨none,none,6,pq X⟩,⟨none,some 19,7,i6 0⟩,⟨none,none,8,pq O⟩,⟨some 0,none,21,pq O⟩,⟨some 1,none,22,i6 D⟩,⟨some 2,none,23,i6 B⟩,⟨some 3,none,24,pq O⟩,⟨some 4,none,25,.pointer (some ⟨O,2,none⟩)⟩,⟨some 5,none,26,.pointer (some ⟨O,2 + D.toNat * 13,none⟩)⟩,⟨some 6,none,27,.pointer (some ⟨O,2 + (D * 13 + B).toNat * 1,none⟩)⟩,⟨some 7,none,28,i6 (J.2.1 (D * 13 + B).toNat)⟩,⟨some 8,none,29,i6 (W (0 - (J.2.1 (D * 13 + B).toNat)))⟩,⟨some 9,none,30,pq O⟩,⟨some 10,none,31,i6 B⟩,⟨some 11,none,32,i6 D⟩,⟨some 12,none,33,pq O⟩,⟨some 13,none,34,.pointer (some ⟨O,2,none⟩)⟩,⟨some 14,none,35,.pointer (some ⟨O,2 + B.toNat * 13,none⟩)⟩,⟨some 15,none,36,.pointer (some ⟨O,2 + (B * 13 + D).toNat * 1,none⟩)⟩,⟨some 16,none,37,i6 (J.2.1 (B * 13 + D).toNat)⟩,⟨some 17,none,38,.agg #[i6 (W (0 - (J.2.1 (D * 13 + B).toNat))),i6 (J.2.1 (B * 13 + D).toNat)]⟩,⟨some 19,none,7,i6 0⟩]) (fun E θ=>.box O (aY [i6 J.1,.slice I n.Lines.length H] 169 aD J.2.1 (aY [] 169 aG J.2.2.1 [])) 130::(bif E 18 then .box X [i6 (W (0 - (J.2.1 (D * 13 + B).toNat))),i6 (J.2.1 (B * 13 + D).toNat)] 29 else .box X [i6 0,i6 0] 29)::.box d [i6 n.Marks,.slice I n.Lines.length H] 94::Lf) [] (fun a w=>Has 39 a [(6,pq X),(7,i6 0)]∧Ctx G (.box O (aY [i6 J.1,.slice I n.Lines.length H] 169 aD J.2.1 (aY [] 169 aG J.2.2.1 [])) 130::.box X [i6 (W (0 - (J.2.1 (D * 13 + B).toNat))),i6 (J.2.1 (B * 13 + D).toNat)] 29::.box d [i6 n.Marks,.slice I n.Lines.length H] 94::Lf) w) aT (by kernel_rfl) (by kernel_rfl) (dL.of hf ⟨rfl,rfl,rfl,rfl,rfl,trivial,trivial,trivial,trivial,trivial,trivial,trivial,trivial,trivial,trivial,trivial,trivial,trivial,trivial,trivial,trivial,trivial,trivial,trivial,trivial⟩) hc ⟨?_,?_,?_,?_,?_,?_,?_,?_,?_,?_,?_,?_,?_,?_,?_,?_,?_,?_,?_,?_,trivial⟩ ?_ ?_
   ·intro E θ a w hD hi hp he hc
    have hf:=he.h0.mT he 4 rfl
    refine sp 1 hf rfl fun a hf=>zD θ he hi hf 5 rfl rfl rfl hc
   ·intro E θ a w hD hi hp he hc
    have hf:=he.h0.mT he 1 rfl
    refine sp 1 hf rfl fun a hf=>zD θ he hi hf 6 rfl rfl rfl hc
   ·intro E θ a w hD hi hp he hc
    have hf:=he.h0.mT he 0 rfl
    refine sp 1 hf rfl fun a hf=>zD θ he hi hf 7 rfl rfl rfl hc
   ·intro E θ a w hD hi hp he hc
    have e0:=hp.o 0 rfl
    have hf:=he.h0.mP he 5 rfl e0
    refine sp 1 hf rfl fun a hf=>zD θ he hi hf 8 rfl rfl rfl hc
   ·intro E θ a w hD hi hp he hc
    have e3:=hp.o 3 rfl
    have hf:=he.h0.mP he 8 rfl e3
    refine zP hf rfl (pFA oP rfl) fun a hf=>zD θ he hi hf 9 rfl rfl rfl hc
   ·intro E θ a w hD hi hp he hc
    have e1:=hp.o 1 rfl
    have e4:=hp.o 4 rfl
    have hf:=(he.h0.mP he 6 rfl e1).mP he 9 rfl e4
    refine zP hf rfl (nS Tryz.underlying124 uH rfl rfl (bF Y).1 (bF Y).2) fun a hf=>zD θ he hi hf 10 rfl rfl rfl hc
   ·intro E θ a w hD hi hp he hc
    have e2:=hp.o 2 rfl
    have e5:=hp.o 5 rfl
    have hf:=(he.h0.mP he 7 rfl e2).mP he 10 rfl e5
    refine zP hf rfl (Pu.cast (nS Tryz.underlying122 fD rfl rfl (bF U).1 (bF U).2) (congrArg (fun k=>Value.pointer (some ⟨O,k,none⟩)) (mA (M:=13) (2) Y U rfl))) fun a hf=>zD θ he hi hf 11 rfl rfl rfl hc
   ·intro E θ a w hD hi hp he hc
    have e6:=hp.o 6 rfl
    have hf:=he.h0.mP he 11 rfl e6
    refine zE hf hc rfl (cV aX rfl (kA (j:=0) m0 (fun x=>(bG x).1) rfl (yZ Y U rfl) rfl)) fun a w hf hc=>zD θ he hi hf 12 rfl rfl rfl hc
   ·intro E θ a w hD hi hp he hc
    have e7:=hp.o 7 rfl
    have hf:=he.h0.mP he 12 rfl e7
    refine sp 1 hf rfl fun a hf=>zD θ he hi hf 13 rfl rfl rfl hc
   ·intro E θ a w hD hi hp he hc
    have hf:=he.h0.mT he 4 rfl
    refine sp 1 hf rfl fun a hf=>zD θ he hi hf 14 rfl rfl rfl hc
   ·intro E θ a w hD hi hp he hc
    have hf:=he.h0.mT he 0 rfl
    refine sp 1 hf rfl fun a hf=>zD θ he hi hf 15 rfl rfl rfl hc
   ·intro E θ a w hD hi hp he hc
    have hf:=he.h0.mT he 1 rfl
    refine sp 1 hf rfl fun a hf=>zD θ he hi hf 16 rfl rfl rfl hc
   ·intro E θ a w hD hi hp he hc
    have e9:=hp.o 9 rfl
    have hf:=he.h0.mP he 14 rfl e9
    refine sp 1 hf rfl fun a hf=>zD θ he hi hf 17 rfl rfl rfl hc
   ·intro E θ a w hD hi hp he hc
    have aa:=hp.o 12 rfl
    have hf:=he.h0.mP he 17 rfl aa
    refine zP hf rfl (pFA oP rfl) fun a hf=>zD θ he hi hf 18 rfl rfl rfl hc
   ·intro E θ a w hD hi hp he hc
    have y:=hp.o 10 rfl
    have m:=hp.o 13 rfl
    have hf:=(he.h0.mP he 15 rfl y).mP he 18 rfl m
    refine zP hf rfl (nS Tryz.underlying124 uH rfl rfl (bF V).1 (bF V).2) fun a hf=>zD θ he hi hf 19 rfl rfl rfl hc
   ·intro E θ a w hD hi hp he hc
    have i:=hp.o 11 rfl
    have z:=hp.o 14 rfl
    have hf:=(he.h0.mP he 16 rfl i).mP he 19 rfl z
    refine zP hf rfl (Pu.cast (nS Tryz.underlying122 fD rfl rfl (bF S).1 (bF S).2) (congrArg (fun k=>Value.pointer (some ⟨O,k,none⟩)) (mA (M:=13) (2) V S rfl))) fun a hf=>zD θ he hi hf 20 rfl rfl rfl hc
   ·intro E θ a w hD hi hp he hc
    have u:=hp.o 15 rfl
    have hf:=he.h0.mP he 20 rfl u
    refine zE hf hc rfl (cV aX rfl (kA (j:=0) m0 (fun x=>(bG x).1) rfl (yZ V S rfl) rfl)) fun a w hf hc=>zD θ he hi hf 21 rfl rfl rfl hc
   ·intro E θ a w hD hi hp he hc
    have e8:=hp.o 8 rfl
    have q:=hp.o 16 rfl
    have hf:=(he.h0.mP he 13 rfl e8).mP he 21 rfl q
    refine zP hf rfl (bJ (cells:=[i6 (W (0 - (J.2.1 (D * 13 + B).toNat))),i6 (J.2.1 (B * 13 + D).toNat)]) oO rfl rfl) fun a hf=>zD θ he hi hf 22 rfl rfl rfl hc
   ·intro E θ a w hD hi hp he hc
    have t:=hp.o 17 rfl
    try dsimp only at hc
    rw [hi] at hc
    have hf:=(he.h0.mT he 2 rfl).mP he 22 rfl t
    refine zW hf hc fS u1 rfl fun w hc=>zG θ he hi hf rfl ?_
    try dsimp only
    rw [aN E 18]
    exact hc
   ·intro E θ a w hD hi hp he hc
    have hf:=he.h0
    refine sp 1 hf rfl fun a hf=>zD θ he hi hf 23 rfl rfl rfl hc
   ·intro E θ a w b he hc
    have hf:=he.h0
    have p:=b 18 rfl
    have v:=b 19 rfl
    replace hf:=hf.more he 23 rfl (onP v)
    replace hf:=hf.more he 2 rfl (onT)
    try dsimp only at hc
    rw [p] at hc
    exact ⟨hf.kp rfl,hc⟩
   rintro a w ⟨hf,hc⟩
   refine s _ _ ?_
   refine wp_ret ?_
   obtain rfl:=sj hF
   replace hc:=(hc.drop k2).drop k0
   exact vY (by simp) rfl Tryz.results27 hf hc (dX (vs:=[i6 (W (0 - (J.2.1 (D * 13 + B).toNat))),i6 (J.2.1 (B * 13 + D).toNat)]) eY rfl rfl (cE (n:=2) m0 rfl)) (show iK _ 7=_ from rfl) ⟨rfl,(hc.drop k0)⟩

def yP (N:Nat) (lo:Int) (B:Int):Option (aF) :=
 some (⟨lo,B⟩:aF)
theorem aEt {N:Nat} {G:bA} {Lf:List Ent} {w:World} (lo:Int) (B:Int)   (hc:Ctx G (Lf) w) {D:aF} (hF:yP N lo B=some D):Calls Tryz.prog 87 #[i6 lo,i6 B] w (fun e w=>e=.returned (.agg #[i6 D.Lo,i6 D.Hi])∧Ctx G (Lf) w):=by
 unfold yP at hF
 refine cC Tryz.func87 rfl Tryz.ntmps87 rfl fun a hf=>zS fun K h=>zA hf hc rE rfl fun H a w hf hc=>zT h ?_
 refine zS fun K h=>sp 2 hf rfl fun a hf=>zP hf rfl (bJ (cells:=[i6 lo,i6 B]) oO rfl rfl) fun a hf=>zW hf hc fS u0 rfl fun w hc=>zT h ?_
 refine wp_ret ?_
 obtain rfl:=sj hF
 exact nK (by simp) rfl Tryz.results87 hf hc (dX (vs:=[i6 lo,i6 B]) eY rfl rfl (cE (n:=2) m0 rfl)) ⟨rfl,(hc.drop k0)⟩

def tM (N:Nat) (lo:Int) (B:Int):Option (bZ) :=
 Option.bind (yP N lo B) fun r=>
 some (⟨true,r⟩:bZ)
theorem xL {N:Nat} {G:bA} {Lf:List Ent} {w:World} (lo:Int) (D:Int)   (hc:Ctx G (Lf) w) {B:bZ} (hF:tM N lo D=some B):Calls Tryz.prog 56 #[i6 lo,i6 D] w (fun e w=>e=.returned (.agg #[.bool B.Known,i6 B.Flow.Lo,i6 B.Flow.Hi])∧Ctx G (Lf) w):=by
 unfold tM at hF
 refine cC Tryz.func56 rfl Tryz.ntmps56 rfl fun a hf=>zS fun K h=>zA hf hc aL0 rfl fun H a w hf hc=>zT h ?_
 refine zS fun K h=>sp 2 hf rfl fun a hf=>?_
 obtain ⟨r,hr,hF⟩:=aC hF
 refine zQ (v:=.agg #[i6 r.Lo,i6 r.Hi]) hf hc en_87 rfl (fun w hc=>aEt lo D hc hr) fun a w hf hc=>zP hf rfl (bJ (cells:=[.bool true,i6 r.Lo,i6 r.Hi]) aIs rfl rfl) fun a hf=>zW hf hc aF9 u0 rfl fun w hc=>zT h ?_
 refine wp_ret ?_
 obtain rfl:=sj hF
 exact nK (by simp) rfl Tryz.results56 hf hc (dX (vs:=[.bool true,i6 r.Lo,i6 r.Hi]) aEg rfl rfl (cE (n:=3) m0 rfl)) ⟨rfl,(hc.drop k0)⟩

def yS (N:Nat) (B:Int):Option (eN) :=
 Option.bind (tM N 20 30) fun r=>
 Option.bind (tM N B 90) fun D=>
 some (⟨10,5,([r,(⟨false,(⟨0,0⟩:aF)⟩:bZ),(⟨false,(⟨0,0⟩:aF)⟩:bZ),D]:List bZ)⟩:eN)
theorem aEj {N:Nat} {G:bA} {Lf:List Ent} {w:World} (D:Int)   (hc:Ctx G (Lf) w) {H:eN} (hF:yS N D=some H):Calls Tryz.prog 30 #[i6 D] w (fun e w=>∃ (J:Option Addr) (M:Nat),e=.returned (.agg #[i6 H.Rise,i6 H.Fall,.slice J H.Days.length M])∧Ctx G (.row J M (H.Days.map dD) 146 3::Lf) w):=by
 unfold yS at hF
 refine cC Tryz.func30 rfl Tryz.ntmps30 rfl fun a hf=>zS fun K h=>zA hf hc zr_99 rfl fun R a w hf hc=>zT h ?_
 refine zS fun K h=>?_
 obtain ⟨r,hr,hF⟩:=aC hF
 refine zQ (v:=.agg #[.bool r.Known,i6 r.Flow.Lo,i6 r.Flow.Hi]) hf hc aOi rfl (fun w hc=>xL 20 30 hc hr) fun a w hf hc=>zP hf rfl (bJ (cells:=[.bool false,i6 0,i6 0]) aIs rfl rfl) fun a hf=>zP hf rfl (bJ (cells:=[.bool false,i6 0,i6 0]) aIs rfl rfl) fun a hf=>sp 1 hf rfl fun a hf=>?_
 obtain ⟨B,O,hF⟩:=aC hF
 refine zQ (v:=.agg #[.bool B.Known,i6 B.Flow.Lo,i6 B.Flow.Hi]) hf hc aOi rfl (fun w hc=>xL D 90 hc O) fun a w hf hc=>oJ (rows:=([r,(⟨false,(⟨0,0⟩:aF)⟩:bZ),(⟨false,(⟨0,0⟩:aF)⟩:bZ),B]:List bZ).map dD) (vs:=[(0,.agg #[.bool r.Known,i6 r.Flow.Lo,i6 r.Flow.Hi]),(1,.agg #[.bool false,i6 0,i6 0]),(2,.agg #[.bool false,i6 0,i6 0]),(3,.agg #[.bool B.Known,i6 B.Flow.Lo,i6 B.Flow.Hi])]) hf hc rfl rfl sl_97 rfl ⟨rfl,rfl,rfl,rfl,rfl,rfl,rfl,rfl,rfl,rfl,rfl,rfl,trivial⟩ rfl rfl fun I a w hf hc=>zP hf rfl (bJ (cells:=[i6 10,i6 5,.slice (some ⟨I,0,none⟩) 4 4]) bt_99 rfl rfl) fun a hf=>zW hf hc sz_99 u1 rfl fun w hc=>zT h ?_
 refine wp_ret ?_
 obtain rfl:=sj hF
 exact nK (by simp) rfl Tryz.results30 hf hc (dX (vs:=[i6 10,i6 5,.slice (some ⟨I,0,none⟩) 4 4]) aFn rfl rfl (cE (n:=3) m1 rfl)) ⟨(some ⟨I,0,none⟩),4,rfl,(hc.drop k1)⟩

def gZ (n:Int) (D:Int) (B:Int):Bool :=
 ((decide (D≤n)) && (decide (n≤B)))
theorem tK {G:bA} {Lf:List Ent} {w:World} (n:Int) (B:Int) (D:Int)   (hc:Ctx G (Lf) w) {H:Bool} (hF:gZ n B D=H):Calls Tryz.prog 51 #[i6 n,i6 B,i6 D] w (fun e w=>e=.returned (.bool H)∧Ctx G (Lf) w):=by
 unfold gZ at hF
 refine cC Tryz.func51 rfl Tryz.ntmps51 rfl fun a hf=>zS fun K h=>sp 1 hf rfl fun a hf=>zT h ?_
 refine zS fun K h=>sp 4 hf rfl fun a hf=>fL 4 (fun a=>Has 15 a [(0,i6 n),(1,i6 B),(2,i6 D),(6,.bool false),(7,i6 n),(8,i6 B),(9,.bool (decide (B≤n))),(10,.bool (decide (B≤n))),(14,.bool ((decide (B≤n)) && (decide (n≤D))))]) hc ?_ ?_
 ·cases hb:(decide (B≤n))
  ·rw [hb] at hf
   refine stS hf rfl rfl rfl fun a hf=>stS hf rfl rfl rfl fun a hf=>stS hf rfl rfl rfl fun a hf=>sp 1 hf rfl fun a hf=>aQ ⟨hf.kp rfl,hc⟩
  ·rw [hb] at hf
   refine sp 4 hf rfl fun a hf=>aQ ⟨hf.kp rfl,hc⟩
 intro a w ⟨hf,hc⟩
 refine sp 1 hf rfl fun a hf=>zT h ?_
 refine wp_ret ?_
 obtain rfl:=hF
 exact zO1 Tryz.results51 hf rfl ⟨rfl,hc⟩

def cZ (n:Int):Bool :=
 (gZ n 0 1000000000)
theorem uF {G:bA} {Lf:List Ent} {w:World} (n:Int)   (hc:Ctx G (Lf) w) {B:Bool} (hF:cZ n=B):Calls Tryz.prog 80 #[i6 n] w (fun e w=>e=.returned (.bool B)∧Ctx G (Lf) w):=by
 unfold cZ at hF
 refine cC Tryz.func80 rfl Tryz.ntmps80 rfl fun a hf=>zS fun K h=>sp 1 hf rfl fun a hf=>zT h ?_
 refine zS fun K h=>sp 1 hf rfl fun a hf=>zQ (v:=.bool (gZ n 0 1000000000)) hf hc aIy rfl (fun w hc=>tK n 0 1000000000 hc rfl) fun a w hf hc=>sp 1 hf rfl fun a hf=>zT h ?_
 refine wp_ret ?_
 obtain rfl:=hF
 exact zO1 Tryz.results80 hf rfl ⟨rfl,hc⟩

def rN (s_:aF):Bool :=
 ((gZ s_.Lo 0 s_.Hi) && (cZ s_.Hi))
theorem aEc {G:bA} {Lf:List Ent} {w:World} (s_:aF)   (hc:Ctx G (Lf) w) {D:Bool} (hF:rN s_=D):Calls Tryz.prog 83 #[.agg #[i6 s_.Lo,i6 s_.Hi]] w (fun e w=>e=.returned (.bool D)∧Ctx G (Lf) w):=by
 unfold rN at hF
 refine cC Tryz.func83 rfl Tryz.ntmps83 rfl fun a hf=>zS fun K h=>zB hf hc rfl fun B a w hf hc=>sp 1 hf rfl fun a hf=>zT h ?_
 refine zS fun K h=>zP hf rfl (pFA iH rfl) fun a hf=>zL hf hc aX m0 rfl fun a w hf hc=>zP hf rfl (pFA fQ rfl) fun a hf=>zL hf hc aX m0 rfl fun a w hf hc=>zQ (v:=.bool (gZ s_.Lo 0 s_.Hi)) hf hc aIy rfl (fun w hc=>tK s_.Lo 0 s_.Hi hc rfl) fun a w hf hc=>sp 1 hf rfl fun a hf=>fL 4 (fun a=>Has 13 a [(1,pq B),(2,.bool false),(3,pq B),(4,i6 s_.Lo),(5,.pointer (some ⟨B,1,none⟩)),(6,i6 s_.Hi),(7,.bool (gZ s_.Lo 0 s_.Hi)),(8,.bool (gZ s_.Lo 0 s_.Hi)),(12,.bool ((gZ s_.Lo 0 s_.Hi) && (cZ s_.Hi)))]) hc ?_ ?_
 ·cases hb:(gZ s_.Lo 0 s_.Hi)
  ·rw [hb] at hf
   refine stS hf rfl rfl rfl fun a hf=>stS hf rfl rfl rfl fun a hf=>stS hf rfl rfl rfl fun a hf=>sp 1 hf rfl fun a hf=>aQ ⟨hf.kp rfl,hc⟩
  ·rw [hb] at hf
   refine zP hf rfl (pFA fQ rfl) fun a hf=>zL hf hc aX m0 rfl fun a w hf hc=>zQ (v:=.bool (cZ s_.Hi)) hf hc aLo rfl (fun w hc=>uF s_.Hi hc rfl) fun a w hf hc=>sp 1 hf rfl fun a hf=>aQ ⟨hf.kp rfl,hc⟩
 intro a w ⟨hf,hc⟩
 refine sp 1 hf rfl fun a hf=>zT h ?_
 refine wp_ret ?_
 obtain rfl:=hF
 replace hc:=hc.drop k0
 exact zO1 Tryz.results83 hf rfl ⟨rfl,hc⟩

def rB (v:bZ):Bool :=
 ((!v.Known) || (rN v.Flow))
theorem aAx {G:bA} {Lf:List Ent} {w:World} (v:bZ)   (hc:Ctx G (Lf) w) {D:Bool} (hF:rB v=D):Calls Tryz.prog 82 #[.agg #[.bool v.Known,i6 v.Flow.Lo,i6 v.Flow.Hi]] w (fun e w=>e=.returned (.bool D)∧Ctx G (Lf) w):=by
 unfold rB at hF
 refine cC Tryz.func82 rfl Tryz.ntmps82 rfl fun a hf=>zS fun K h=>zB hf hc rfl fun B a w hf hc=>sp 1 hf rfl fun a hf=>zT h ?_
 refine zS fun K h=>zP hf rfl (pFA aG0 rfl) fun a hf=>zL hf hc vC m0 rfl fun a w hf hc=>sp 2 hf rfl fun a hf=>fL 4 (fun a=>Has 11 a [(1,pq B),(2,.bool false),(3,pq B),(4,.bool v.Known),(5,.bool (!v.Known)),(6,.bool (!v.Known)),(10,.bool ((!v.Known) || (rN v.Flow)))]) hc ?_ ?_
 ·cases hb:(!v.Known)
  ·rw [hb] at hf
   refine zP hf rfl (pFA aG9 rfl) fun a hf=>zN hf hc eY m0 rfl fun a w hf hc=>zQ (v:=.bool (rN v.Flow)) hf hc en_83 rfl (fun w hc=>aEc v.Flow hc rfl) fun a w hf hc=>sp 1 hf rfl fun a hf=>aQ ⟨hf.kp rfl,hc⟩
  ·rw [hb] at hf
   refine stS hf rfl rfl rfl fun a hf=>stS hf rfl rfl rfl fun a hf=>stS hf rfl rfl rfl fun a hf=>sp 1 hf rfl fun a hf=>aQ ⟨hf.kp rfl,hc⟩
 intro a w ⟨hf,hc⟩
 refine sp 1 hf rfl fun a hf=>zT h ?_
 refine wp_ret ?_
 obtain rfl:=hF
 replace hc:=hc.drop k0
 exact zO1 Tryz.results82 hf rfl ⟨rfl,hc⟩

def iI (x:bZ):Bool :=
 (!(rB (⟨x.Known,x.Flow⟩:bZ)))
theorem rX {G:bA} {Lf:List Ent} {w:World} (x:bZ) {b_:Nat}  (hc:Ctx G (.box b_ [.func (.func 82) #[] #[]] 178::Lf) w) {B:Bool} (hF:iI x=B):Calls Tryz.prog 111 #[.agg #[.bool x.Known,i6 x.Flow.Lo,i6 x.Flow.Hi],pq b_] w (fun e w=>e=.returned (.bool B)∧Ctx G (.box b_ [.func (.func 82) #[] #[]] 178::Lf) w):=by
 unfold iI at hF
 refine cC Tryz.func111 rfl Tryz.ntmps111 rfl fun a hf=>zS fun K h=>zB hf hc rfl fun D a w hf hc=>sp 1 hf rfl fun a hf=>zT h ?_
 refine zS fun K h=>zL hf hc aPi m1 rfl fun a w hf hc=>zN hf hc aEg m0 rfl fun a w hf hc=>zQ (v:=.bool (rB (⟨x.Known,x.Flow⟩:bZ))) hf hc en_82 rfl (fun w hc=>aAx (⟨x.Known,x.Flow⟩:bZ) hc rfl) fun a w hf hc=>sp 2 hf rfl fun a hf=>zT h ?_
 refine wp_ret ?_
 obtain rfl:=hF
 replace hc:=hc.drop k0
 exact zO1 Tryz.results111 hf rfl ⟨rfl,hc⟩

def gN (N:Nat) (s_:List bZ) (x:Int):Option (dA (Int) (Int)) :=
 cond (decide (x < ((s_.length:Nat):Int)))
 (Option.bind (cM s_ x) fun B=>
 cond (iI B)
 (some (.ret x))
 (some (.cont (W (x + 1)))))
 (some (.brk x))
def eS (N:Nat) (s_:List bZ):Option (Int) :=
 Option.bind (bN (fun s4=>gN N s_ s4) N 0) fun x4=>
 exK x4 (fun s4=>some (-1)) some
theorem lV {N:Nat} {G:bA} {Lf:List Ent} {w:World} (s_:List bZ) {I:Option Addr} {H:Nat} {b_:Nat} (O:Rd G 3 I H (s_.map dD)) (hc:Ctx G (.box b_ [.func (.func 82) #[] #[]] 178::Lf) w) {J:Int} (hF:eS N s_=some J):Calls Tryz.prog 129 #[.slice I s_.length H,.func (.func 111) #[] #[pq b_]] w (fun e w=>e=.returned (i6 J)∧Ctx G (.box b_ [.func (.func 82) #[] #[]] 178::Lf) w):=by
 unfold eS at hF
 refine cC Tryz.func129 rfl Tryz.ntmps129 rfl fun a hf=>zS fun K h=>sp 1 hf rfl fun a hf=>zT h ?_
 refine wp_seq_k fun K2 h2=>zS fun K h=>sp 1 hf rfl fun a hf=>zP hf rfl (cP Tryz.underlying97 rfl) fun a hf=>sp 1 hf rfl fun a hf=>zT h ?_
 refine wp_block ?_
 obtain ⟨x4,U,hF⟩:=aC hF
 let S4:Int→Act→World→Prop:=(fun (zz:Int) a w=>Has 19 a [(0,.slice I s_.length H),(1,.func (.func 111) #[] #[pq b_]),(7,i6 ((s_.length:Nat):Int)),(8,i6 zz)]∧Ctx G (.box b_ [.func (.func 82) #[] #[]] 178::Lf) w)
 have X:∀ (zz:Int) a w,x4=.go zz→S4 zz a w→K2 a w:=by
  rintro x a w rfl ⟨hf,hc⟩
  replace hF:=cJ hF
  refine h2 _ _ ?_
  refine zS fun K h=>sp 1 hf rfl fun a hf=>zT h ?_
  refine wp_ret ?_
  obtain rfl:=sj hF
  exact zO1 Tryz.results129 hf rfl ⟨rfl,hc⟩
 have R:∀ r,x4=.out r→r=J:=by
  rintro r rfl
  exact sj hF
 refine dQ N (dP (S:=S4) (x:=x4) ?_ N 0 _ _ ⟨hf.kp rfl,hc⟩ U)
 clear hF hf hc
 rintro x Y a w KB4 ⟨hf,hc⟩ hF B V
 unfold gN at hF
 refine zS fun K h=>sp 1 hf rfl fun a hf=>zT h ?_
 refine wp_seq_k fun K7 h7=>zI hf rfl hF ?_ ?_ <;> clear hF <;> intro hF
 ·refine wp_skip ?_
  refine h7 _ _ ?_
  refine wp_seq_k fun K8 h8=>wp_block ?_
  refine zS fun K h=>sp 2 hf rfl fun a hf=>zT h ?_
  refine zS fun K h=>sp 3 hf rfl fun a hf=>?_
  obtain ⟨D,M,hF⟩:=aC hF
  obtain ⟨Z,o,qa,qp⟩:=O.atm M
  refine zP hf rfl (pIA Tryz.underlying97 aF9 rfl rfl qa) fun a hf=>zE hf hc rfl (kK (vs:=[.bool D.Known,i6 D.Flow.Lo,i6 D.Flow.Hi]) aEg rfl rfl (dF qp (n:=3) (o':=0) rfl)) fun a w hf hc=>zQ (v:=.bool (iI D)) hf hc aQx rfl (fun w hc=>(rX D (hc.pick k0) rfl).mono fun e w h=>⟨h.1,(h.2.unpick k0)⟩) fun a w hf hc=>zT h ?_
  refine zI hf rfl hF ?_ ?_ <;> clear hF <;> intro hF
  ·refine zS fun K h=>sp 2 hf rfl fun a hf=>zT h ?_
   refine wp_ret ?_
   refine cI ?_
   refine aU ?_
   refine aU ?_
   have he:=sj hF
   rw [← he] at B
   replace hF:=R _ B
   refine cI ?_
   refine aU ?_
   obtain rfl:=hF
   exact zO1 Tryz.results129 hf rfl ⟨rfl,hc⟩
  ·refine wp_skip ?_
   refine h8 _ _ ?_
   refine cX ?_
   refine sp 2 hf rfl fun a hf=>aQ ?_
   exact V (W (x + 1)) _ _ (sj hF).symm ⟨hf.kp rfl,hc⟩
 ·refine wp_exit ?_
  refine bI ?_
  refine bI ?_
  have he:=sj hF
  rw [← he] at B
  refine fB ?_
  exact X _ _ _ B ⟨hf.kp rfl,hc⟩

def eF (N:Nat) (s_:List bZ):Option (Bool) :=
 Option.bind (eS N s_) fun r=>
 some (decide (0≤r))
theorem lF {N:Nat} {G:bA} {Lf:List Ent} {w:World} (s_:List bZ) {D:Option Addr} {B:Nat} {b_:Nat} (I:Rd G 3 D B (s_.map dD)) (hc:Ctx G (.box b_ [.func (.func 82) #[] #[]] 178::Lf) w) {H:Bool} (hF:eF N s_=some H):Calls Tryz.prog 110 #[.slice D s_.length B,.func (.func 111) #[] #[pq b_]] w (fun e w=>e=.returned (.bool H)∧Ctx G (.box b_ [.func (.func 82) #[] #[]] 178::Lf) w):=by
 unfold eF at hF
 refine cC Tryz.func110 rfl Tryz.ntmps110 rfl fun a hf=>zS fun K h=>sp 1 hf rfl fun a hf=>zT h ?_
 refine zS fun K h=>sp 2 hf rfl fun a hf=>?_
 obtain ⟨r,hr,hF⟩:=aC hF
 refine zQ (v:=i6 r) hf hc aQa rfl (fun w hc=>(lV s_ I (hc.pick k0) hr).mono fun e w h=>⟨h.1,(h.2.unpick k0)⟩) fun a w hf hc=>sp 2 hf rfl fun a hf=>zT h ?_
 refine wp_ret ?_
 obtain rfl:=sj hF
 exact zO1 Tryz.results110 hf rfl ⟨rfl,hc⟩

def lT (N:Nat) (l:List bZ):Option (Bool) :=
 Option.bind (eF N l) fun r=>
 some (!r)
theorem sZ {N:Nat} {G:bA} {Lf:List Ent} {w:World} (l:List bZ) {H:Option Addr} {D:Nat} (I:Rd G 3 H D (l.map dD)) (hc:Ctx G (Lf) w) {B:Bool} (hF:lT N l=some B):Calls Tryz.prog 81 #[.slice H l.length D,.func (.func 82) #[] #[]] w (fun e w=>e=.returned (.bool B)∧Ctx G (Lf) w):=by
 unfold lT at hF
 refine cC Tryz.func81 rfl Tryz.ntmps81 rfl fun a hf=>zS fun K h=>zB hf hc rfl fun J a w hf hc=>sp 1 hf rfl fun a hf=>zT h ?_
 refine zS fun K h=>sp 1 hf rfl fun a hf=>zP hf rfl (pMF (us:=[pq J]) rfl rfl) fun a hf=>?_
 obtain ⟨r,hr,hF⟩:=aC hF
 refine zQ (v:=.bool r) hf hc aQb rfl (fun w hc=>(lF l I (hc.pick k0) hr).mono fun e w h=>⟨h.1,(h.2.unpick k0)⟩) fun a w hf hc=>sp 2 hf rfl fun a hf=>zT h ?_
 refine wp_ret ?_
 obtain rfl:=sj hF
 replace hc:=hc.drop k0
 exact zO1 Tryz.results81 hf rfl ⟨rfl,hc⟩

def tS (N:Nat) (r:eN):Option (Int) :=
 cond (!(gZ ((r.Days.length:Nat):Int) 1 60))
 (some 3)
 (Option.bind (cond ((!(cZ r.Rise)) || (!(cZ r.Fall))) (some true) (Option.bind (lT N r.Days) fun D=>
 some (!D))) fun B=>
 cond B
 (some 80)
 (some 0))
theorem wW {N:Nat} {G:bA} {Lf:List Ent} {w:World} (r:eN) {B:Option Addr} {D:Nat} (H:Rd G 3 B D (r.Days.map dD)) (hc:Ctx G (Lf) w) {M:Int} (hF:tS N r=some M):Calls Tryz.prog 50 #[.agg #[i6 r.Rise,i6 r.Fall,.slice B r.Days.length D]] w (fun e w=>e=.returned (i6 M)∧Ctx G (Lf) w):=by
 unfold tS at hF
 refine cC Tryz.func50 rfl Tryz.ntmps50 rfl fun a hf=>zS fun K h=>zB hf hc rfl fun I a w hf hc=>sp 1 hf rfl fun a hf=>zT h ?_
 refine wp_seq_k fun K2 h2=>wp_block ?_
 refine zS fun K h=>zP hf rfl (pFA vW rfl) fun a hf=>zL hf hc aCp m0 rfl fun a w hf hc=>zP hf rfl (cP Tryz.underlying97 rfl) fun a hf=>zQ (v:=.bool (gZ ((r.Days.length:Nat):Int) 1 60)) hf hc aIy rfl (fun w hc=>tK ((r.Days.length:Nat):Int) 1 60 hc rfl) fun a w hf hc=>sp 2 hf rfl fun a hf=>zT h ?_
 refine zI hf rfl hF ?_ ?_ <;> clear hF <;> intro hF
 ·refine zS fun K h=>sp 1 hf rfl fun a hf=>zT h ?_
  refine wp_ret ?_
  refine cI ?_
  refine aU ?_
  obtain rfl:=sj hF
  replace hc:=hc.drop k0
  exact zO1 Tryz.results50 hf rfl ⟨rfl,hc⟩
 ·refine zS fun K h=>zP hf rfl (pFA aGf rfl) fun a hf=>zL hf hc aX m0 rfl fun a w hf hc=>zQ (v:=.bool (cZ r.Rise)) hf hc aLo rfl (fun w hc=>uF r.Rise hc rfl) fun a w hf hc=>sp 2 hf rfl fun a hf=>fL 5 (fun a=>Has 26 a [(1,pq I),(10,pq I),(11,i6 r.Rise),(12,.bool (cZ r.Rise)),(13,.bool (!(cZ r.Rise))),(14,.bool (!(cZ r.Rise))),(19,.bool ((!(cZ r.Rise)) || (!(cZ r.Fall))))]) hc ?_ ?_
  ·cases hb:(!(cZ r.Rise))
   ·rw [hb] at hf
    refine zP hf rfl (pFA aGb rfl) fun a hf=>zL hf hc aX m0 rfl fun a w hf hc=>zQ (v:=.bool (cZ r.Fall)) hf hc aLo rfl (fun w hc=>uF r.Fall hc rfl) fun a w hf hc=>sp 2 hf rfl fun a hf=>aQ ⟨hf.kp rfl,hc⟩
   ·rw [hb] at hf
    refine stS hf rfl rfl rfl fun a hf=>stS hf rfl rfl rfl fun a hf=>stS hf rfl rfl rfl fun a hf=>stS hf rfl rfl rfl fun a hf=>sp 1 hf rfl fun a hf=>aQ ⟨hf.kp rfl,hc⟩
  intro a w ⟨hf,hc⟩
  refine sp 1 hf rfl fun a hf=>?_
  obtain ⟨R,J,hF⟩:=aC hF
  refine fL 5 (fun a=>Has 26 a [(1,pq I),(10,pq I),(11,i6 r.Rise),(12,.bool (cZ r.Rise)),(13,.bool (!(cZ r.Rise))),(14,.bool (!(cZ r.Rise))),(19,.bool ((!(cZ r.Rise)) || (!(cZ r.Fall)))),(20,.bool ((!(cZ r.Rise)) || (!(cZ r.Fall)))),(25,.bool R)]) hc ?_ ?_
  ·cases hb:((!(cZ r.Rise)) || (!(cZ r.Fall)))
   ·rw [hb] at hf
    have hF:=nU hb J
    refine zP hf rfl (pFA vW rfl) fun a hf=>zL hf hc aCp m0 rfl fun a w hf hc=>?_
    obtain ⟨S,O,hF⟩:=aC hF
    refine zQ (v:=.bool S) hf hc en_81 rfl (fun w hc=>sZ r.Days H hc O) fun a w hf hc=>sp 2 hf rfl fun a hf=>?_
    obtain rfl:=sj hF
    exact aQ ⟨hf.kp rfl,hc⟩
   ·rw [hb] at hf
    have hF:=gI hb J
    obtain rfl:=sj hF
    refine stS hf rfl rfl rfl fun a hf=>stS hf rfl rfl rfl fun a hf=>stS hf rfl rfl rfl fun a hf=>stS hf rfl rfl rfl fun a hf=>sp 1 hf rfl fun a hf=>aQ ⟨hf.kp rfl,hc⟩
  intro a w ⟨hf,hc⟩
  refine sp 1 hf rfl fun a hf=>zT h ?_
  refine zI hf rfl hF ?_ ?_ <;> clear hF <;> intro hF
  ·refine zS fun K h=>sp 1 hf rfl fun a hf=>zT h ?_
   refine wp_ret ?_
   refine cI ?_
   refine aU ?_
   obtain rfl:=sj hF
   replace hc:=hc.drop k0
   exact zO1 Tryz.results50 hf rfl ⟨rfl,hc⟩
  ·refine wp_skip ?_
   refine h2 _ _ ?_
   refine zS fun K h=>sp 1 hf rfl fun a hf=>zT h ?_
   refine wp_ret ?_
   obtain rfl:=sj hF
   replace hc:=hc.drop k0
   exact zO1 Tryz.results50 hf rfl ⟨rfl,hc⟩

def qU (N:Nat) (v:bZ):Option (aF) :=
 cond v.Known
 (some v.Flow)
 (some (⟨0,1000000000⟩:aF))
theorem yG {N:Nat} {G:bA} {Lf:List Ent} {w:World} (v:bZ)   (hc:Ctx G (Lf) w) {B:aF} (hF:qU N v=some B):Calls Tryz.prog 112 #[.agg #[.bool v.Known,i6 v.Flow.Lo,i6 v.Flow.Hi]] w (fun e w=>e=.returned (.agg #[i6 B.Lo,i6 B.Hi])∧Ctx G (Lf) w):=by
 unfold qU at hF
 refine cC Tryz.func112 rfl Tryz.ntmps112 rfl fun a hf=>zS fun K h=>zB hf hc rfl fun H a w hf hc=>zA hf hc rE rfl fun D a w hf hc=>zT h ?_
 refine wp_seq_k fun K2 h2=>zS fun K h=>zP hf rfl (pFA aG0 rfl) fun a hf=>zL hf hc vC m1 rfl fun a w hf hc=>zT h ?_
 refine zI hf rfl hF ?_ ?_ <;> clear hF <;> intro hF
 ·refine zS fun K h=>zP hf rfl (pFA aG9 rfl) fun a hf=>zN hf hc eY m1 rfl fun a w hf hc=>zW hf hc fS u0 rfl fun w hc=>zT h ?_
  refine wp_ret ?_
  refine aU ?_
  obtain rfl:=sj hF
  replace hc:=hc.drop k1
  exact nK (by simp) rfl Tryz.results112 hf hc (dX (vs:=[i6 v.Flow.Lo,i6 v.Flow.Hi]) eY rfl rfl (cE (n:=2) m0 rfl)) ⟨rfl,(hc.drop k0)⟩
 ·refine wp_skip ?_
  refine h2 _ _ ?_
  refine zS fun K h=>zP hf rfl (bJ (cells:=[i6 0,i6 1000000000]) oO rfl rfl) fun a hf=>zW hf hc fS u0 rfl fun w hc=>zT h ?_
  refine wp_ret ?_
  obtain rfl:=sj hF
  replace hc:=hc.drop k1
  exact nK (by simp) rfl Tryz.results112 hf hc (dX (vs:=[i6 0,i6 1000000000]) eY rfl rfl (cE (n:=2) m0 rfl)) ⟨rfl,(hc.drop k0)⟩

def lW (N:Nat) (w_:oY) (B:Bool):Option (Bool) :=
 some B
theorem sB {N:Nat} {G:bA} {Lf:List Ent} {w:World} (w_:oY) (M:Bool) {b_:Nat} {D:Option Addr} {B:Nat} {H:Option Addr} {I:Nat} (J:Rd G 3 D B (w_.Record.Days.map dD)) (O:Rd G 2 H I (w_.spans.map aJ)) (hc:Ctx G (.box b_ [i6 w_.Record.Rise,i6 w_.Record.Fall,.slice D w_.Record.Days.length B,.slice H w_.spans.length I] 138::Lf) w) {U:Bool} (hF:lW N w_ M=some U):Calls Tryz.prog 114 #[pq b_,.bool M] w (fun e w=>∃ (R:Nat) (S:Nat),e=.returned (.func (.func 130) #[] #[pq R,pq S])∧Ctx G (.box R [pq b_] 134::.box S [.bool U] 4::.box b_ [i6 w_.Record.Rise,i6 w_.Record.Fall,.slice D w_.Record.Days.length B,.slice H w_.spans.length I] 138::Lf) w):=by
 unfold lW at hF
 refine cC Tryz.func114 rfl Tryz.ntmps114 rfl fun a hf=>zS fun K h=>zB hf hc rfl fun X a w hf hc=>zB hf hc rfl fun V a w hf hc=>sp 1 hf rfl fun a hf=>zT h ?_
 refine zS fun K h=>zP hf rfl (pMF (us:=[pq X,pq V]) rfl rfl) fun a hf=>sp 1 hf rfl fun a hf=>zT h ?_
 refine wp_ret ?_
 obtain rfl:=sj hF
 replace hc:=(hc.pick k0).pick k1
 exact zO1 Tryz.results114 hf rfl ⟨X,V,rfl,hc⟩

def kL (N:Nat) {σ:Type} (y:σ→(Int × Int)→Option (σ × Bool)) (D:Int) (I:Int) (H:Int) (B:σ):Option (dA (Int × σ) (σ)) :=
 Option.bind (y B (I,H)) fun ry=>
 cond (!ry.2)
 (some (.ret ry.1))
 (some (.cont (W (D + 1),ry.1)))
def qH (N:Nat) {σ:Type} (D:List bZ) (H:Bool) (y:σ→(Int × Int)→Option (σ × Bool)) (B:Int) (sg:σ):Option (dA (Int × σ) (σ)) :=
 cond (decide (B < (W (((D.length:Nat):Int) - 1))))
 (cond H
 (kL N y B (W ((W (((D.length:Nat):Int) - 1)) - B)) (W ((W (((D.length:Nat):Int) - 2)) - B)) sg)
 (kL N y B B (W (B + 1)) sg))
 (some (.brk (B,sg)))
def kE (N:Nat) {σ:Type} (x:Int) (I:Int) (H:List bZ) (B:Bool) (y:σ→(Int × Int)→Option (σ × Bool)) (D:σ):Option (σ) :=
 Option.bind (bN (fun s3=>qH N H B y s3.1 s3.2) N (0,D)) fun x3=>
 exK x3 (fun s3=>some s3.2) some
theorem qP {N:Nat} {G:bA} {Lf:List Ent} {w:World} {σ:Type} (x:Int) (Y:Int) (R:List bZ) (I:Bool) {b_:Nat} {D:Nat} {M:Option Addr} {O:Nat} {X:Option Addr} {V:Nat} {U:Nat} {H:Nat} (ag:Rd G 3 M O (R.map dD)) (J:σ→List Ent→Prop) (y:σ→(Int × Int)→Option (σ × Bool)) {l:Nat} (hy:rJ Tryz.prog G l (fun x:(Int × Int)=>[i6 x.1,i6 x.2]) J y) (p:σ) {Ls0:List Ent} (n:J p Ls0) (q:∀ (o:σ) (L:List Ent),J o L→∃ A B,L=A++(.box D [i6 x,i6 Y,.slice M R.length O,.slice X V U] 138::B)) (hc:Ctx G (.box b_ [pq D] 134::.box H [.bool I] 4::(Ls0++Lf)) w) {m:σ} (hF:kE N x Y R I y p=some m):Calls Tryz.prog 130 #[.func (.yield l) #[] #[],pq b_,pq H] w (fun e w=>(∃ v,e=.returned v)∧∃ L,J m L∧Ctx G (.box b_ [pq D] 134::.box H [.bool I] 4::(L++Lf)) w):=by
 unfold kE at hF
 refine cC Tryz.func130 rfl Tryz.ntmps130 rfl fun a hf=>wp_seq_k fun K1 h1=>?_
 obtain ⟨As,Bs,i⟩:=q _ _ n
 rw [i] at hc n
 replace hc:Ctx G (.box b_ [pq D] 134::.box H [.bool I] 4::((As++(.box D [i6 x,i6 Y,.slice M R.length O,.slice X V U] 138::Bs))++Lf)) w:=hc
 replace hc:Ctx G (.box D [i6 x,i6 Y,.slice M R.length O,.slice X V U] 138::.box b_ [pq D] 134::.box H [.bool I] 4::((As++Bs)++Lf)) w:=aE4 [.box b_ [pq D] 134,.box H [.bool I] 4] hc
 refine cX ?_
 refine zL hf hc nE m1 rfl fun a w hf hc=>sp 1 hf rfl fun a hf=>zP hf rfl (pFA sS rfl) fun a hf=>zP hf rfl (pFA vW rfl) fun a hf=>zL hf hc aCp m0 rfl fun a w hf hc=>zP hf rfl (cP Tryz.underlying97 rfl) fun a hf=>sp 2 hf rfl fun a hf=>aQ ?_
 replace hc:Ctx G (.box b_ [pq D] 134::.box H [.bool I] 4::((As++(.box D [i6 x,i6 Y,.slice M R.length O,.slice X V U] 138::Bs))++Lf)) w:=aH8 [.box b_ [pq D] 134,.box H [.bool I] 4] hc
 refine h1 _ _ ?_
 refine lR fun K2 h2=>wp_block ?_
 obtain ⟨x3,z,hF⟩:=aC hF
 let S3:(Int × σ)→Act→World→Prop:=(fun (zz:Int × σ) a w=>∃ (Ls:List Ent),J zz.2 Ls∧Has 45 a [(0,.func (.yield l) #[] #[]),(1,pq b_),(2,pq H),(13,i6 (W (((R.length:Nat):Int) - 1))),(14,i6 zz.1)]∧Ctx G (.box b_ [pq D] 134::.box H [.bool I] 4::(Ls++Lf)) w)
 have ab:∀ (zz:Int × σ) a w,x3=.go zz→S3 zz a w→K2 a w:=by
  rintro ⟨Z,sg⟩ a w rfl ⟨Ls,hJ,hf,hc⟩
  replace hF:=cJ hF
  refine h2 _ _ ?_
  obtain rfl:=sj hF
  exact pO (by simp) rfl Tryz.results130 hf ⟨⟨_,rfl⟩,Ls,hJ,hc⟩
 have u:∀ r,x3=.out r→r=m:=by
  rintro r rfl
  exact sj hF
 refine dQ N (dP (S:=S3) (x:=x3) ?_ N (0,p) _ _ ⟨(As++(.box D [i6 x,i6 Y,.slice M R.length O,.slice X V U] 138::Bs)),n,hf.kp rfl,hc⟩ z)
 clear hF hf hc
 rintro ⟨Z,sg⟩ ad a w KB3 ⟨Ls,hJ,hf,hc⟩ hF b af
 unfold qH at hF
 refine zS fun K h=>sp 1 hf rfl fun a hf=>zT h ?_
 refine wp_seq_k fun K5 h5=>zI hf rfl hF ?_ ?_ <;> clear hF <;> intro hF
 ·refine wp_skip ?_
  refine h5 _ _ ?_
  refine wp_seq_k fun K6 h6=>wp_block ?_
  refine zS fun K h=>sp 2 hf rfl fun a hf=>zT h ?_
  refine zS fun K h=>sp 5 hf rfl fun a hf=>zT h ?_
  refine wp_seq_k fun K9 h9=>?_
  have s:∀ (d:Int) (g:Int) (j:σ) (Ls_1:List Ent) a w,J j Ls_1→Has 45 a [(0,.func (.yield l) #[] #[]),(1,pq b_),(2,pq H),(5,i6 d),(6,i6 g),(13,i6 (W (((R.length:Nat):Int) - 1))),(14,i6 Z)]→Ctx G (.box b_ [pq D] 134::.box H [.bool I] 4::(Ls_1++Lf)) w→kL N y Z d g j=some ad→K9 a w:=by
   repeat (clear hF)
   repeat (clear hc)
   repeat (clear hf)
   intro d g j Ls_1 a w t hf hc hF
   unfold kL at hF
   refine h9 _ _ ?_
   refine wp_seq_k fun K10 ac=>?_
   obtain ⟨ry,aa,hF⟩:=aC hF
   refine aKk 3 (fun a w=>Has 45 a [(0,.func (.yield l) #[] #[]),(1,pq b_),(2,pq H),(5,i6 d),(6,i6 g),(13,i6 (W (((R.length:Nat):Int) - 1))),(14,i6 Z),(39,.func (.yield l) #[] #[]),(40,i6 d),(41,i6 g)]∧Ctx G (.box b_ [pq D] 134::.box H [.bool I] 4::(Ls_1++Lf)) w) (fun _ _ h=>by obtain ⟨⟨_,h⟩,_⟩:=h; cases h) ?_ ?_
   ·refine sp 3 hf rfl fun a hf=>aQ ⟨hf.kp rfl,hc⟩
   rintro a w ⟨hf,hc⟩
   refine stY (own:=[.box b_ [pq D] 134,.box H [.bool I] 4]) (v:=(d,g)) hy t aa hf hc rfl rfl rfl rfl rfl rfl fun a w Ls_2 k hf hc=>?_
   replace hc:Ctx G (.box b_ [pq D] 134::.box H [.bool I] 4::(Ls_2++Lf)) w:=hc
   refine aCq (fun _ _ h=>by obtain ⟨⟨_,h⟩,_⟩:=h; cases h) ?_
   refine sp 1 hf rfl fun a hf=>aQ ?_
   refine ac _ _ ?_
   refine zI hf rfl hF ?_ ?_ <;> clear hF <;> intro hF
   ·refine wp_ret ?_
    refine cI ?_
    refine aU ?_
    refine aU ?_
    have he:=sj hF
    rw [← he] at b
    replace hF:=u _ b
    refine cI ?_
    refine aU ?_
    obtain rfl:=hF
    exact pO (by simp) rfl Tryz.results130 hf ⟨⟨_,rfl⟩,Ls_2,k,hc⟩
   ·refine wp_skip ?_
    refine h6 _ _ ?_
    refine cX ?_
    refine sp 2 hf rfl fun a hf=>aQ ?_
    exact af (W (Z + 1),ry.1) _ _ (sj hF).symm ⟨Ls_2,k,hf.kp rfl,hc⟩
  refine zS fun K h=>zL hf hc vC m1 rfl fun a w hf hc=>zT h ?_
  refine zI hf rfl hF ?_ ?_ <;> clear hF <;> intro hF
  ·obtain ⟨As_1,Bs_1,i⟩:=q _ _ hJ
   rw [i] at hc hJ
   replace hc:Ctx G (.box b_ [pq D] 134::.box H [.bool I] 4::((As_1++(.box D [i6 x,i6 Y,.slice M R.length O,.slice X V U] 138::Bs_1))++Lf)) w:=hc
   replace hc:Ctx G (.box D [i6 x,i6 Y,.slice M R.length O,.slice X V U] 138::.box b_ [pq D] 134::.box H [.bool I] 4::((As_1++Bs_1)++Lf)) w:=aE4 [.box b_ [pq D] 134,.box H [.bool I] 4] hc
   refine cQ hc aT (by kernel_rfl) ?_
   refine qE hf rfl rfl rfl (cV nE rfl (bQ m1 rfl)) fun a hf=>qE hf rfl rfl rfl (Pu.ev (pNC rfl)) fun a hf=>qE hf rfl rfl rfl (Pu.ev (pFA sS rfl)) fun a hf=>qE hf rfl rfl rfl (Pu.ev (pFA vW rfl)) fun a hf=>qE hf rfl rfl rfl (cV aCp rfl (bQ m0 rfl)) fun a hf=>qE hf rfl rfl rfl (Pu.ev (cP Tryz.underlying97 rfl)) fun a hf=>qE hf rfl rfl rfl (Pu.ev (aFz rfl rfl)) fun a hf=>qE hf rfl rfl rfl (Pu.ev (pM rfl)) fun a hf=>qE hf rfl rfl rfl (Pu.ev (aFz rfl rfl)) fun a hf=>qE hf rfl rfl rfl (cV nE rfl (bQ m1 rfl)) fun a hf=>qE hf rfl rfl rfl (Pu.ev (pNC rfl)) fun a hf=>qE hf rfl rfl rfl (Pu.ev (pFA sS rfl)) fun a hf=>qE hf rfl rfl rfl (Pu.ev (pFA vW rfl)) fun a hf=>?_
   refine qE hf rfl rfl rfl (cV aCp rfl (bQ m0 rfl)) fun a hf=>qE hf rfl rfl rfl (Pu.ev (cP Tryz.underlying97 rfl)) fun a hf=>qE hf rfl rfl rfl (Pu.ev (aFz rfl rfl)) fun a hf=>qE hf rfl rfl rfl (Pu.ev (pM rfl)) fun a hf=>qE hf rfl rfl rfl (Pu.ev (aFz rfl rfl)) fun a hf=>qE hf rfl rfl rfl (Pu.ev (pA rfl)) fun a hf=>qE hf rfl rfl rfl (Pu.ev (pA rfl)) fun a hf=>?_
   intro w hc
   replace hc:Ctx G (.box b_ [pq D] 134::.box H [.bool I] 4::((As_1++(.box D [i6 x,i6 Y,.slice M R.length O,.slice X V U] 138::Bs_1))++Lf)) w:=aH8 [.box b_ [pq D] 134,.box H [.bool I] 4] hc
   exact s (W ((W (((R.length:Nat):Int) - 1)) - Z)) (W ((W (((R.length:Nat):Int) - 2)) - Z)) sg (As_1++(.box D [i6 x,i6 Y,.slice M R.length O,.slice X V U] 138::Bs_1)) _ _ hJ (hf.kp rfl) hc hF
  ·refine wp_skip ?_
   exact s Z (W (Z + 1)) sg Ls _ _ hJ (hf.kp rfl) hc hF
 ·refine wp_exit ?_
  refine bI ?_
  refine bI ?_
  have he:=sj hF
  rw [← he] at b
  refine fB ?_
  exact ab _ _ _ b ⟨Ls,hJ,hf.kp rfl,hc⟩

def pZ (N:Nat) (i_:Int) (H:Int) (I:Int) (x:Int) (M:Int) (J:List bZ) (D:List aF):Option ((List aF)) :=
 Option.bind (cM D i_) fun B=>
 Option.bind (qD ((D.set i_.toNat (⟨max B.Lo H,B.Hi⟩:aF)).set i_.toNat (⟨max B.Lo H,min B.Hi I⟩:aF)) D) fun _=>
 some ((D.set i_.toNat (⟨max B.Lo H,B.Hi⟩:aF)).set i_.toNat (⟨max B.Lo H,min B.Hi I⟩:aF))
theorem tN {N:Nat} {G:bA} {Lf:List Ent} {w:World} (i_:Int) (H:Int) (J:Int) (x:Int) (Z:Int) (Y:List bZ) (I:List aF) {b_:Nat} {M:Nat} {S:Option Addr} {U:Nat} {V:Option Addr} {D:Nat} (aa:Rd G 3 S U (Y.map dD)) (hc:Ctx G (.box b_ [pq M] 134::.box M [i6 x,i6 Z,.slice S Y.length U,.slice V I.length D] 138::.row V D (I.map aJ) 29 2::Lf) w) {d:(List aF)} (hF:pZ N i_ H J x Z Y I=some d):Calls Tryz.prog 113 #[i6 i_,i6 H,i6 J,pq b_] w (fun e w=>e=.returned (.tuple #[])∧d.length=I.length∧Ctx G (.box b_ [pq M] 134::.box M [i6 x,i6 Z,.slice S Y.length U,.slice V I.length D] 138::.row V D (d.map aJ) 29 2::Lf) w):=by
 unfold pZ at hF
 refine cC Tryz.func113 rfl Tryz.ntmps113 rfl fun a hf=>zS fun K h=>zL hf hc nE m0 rfl fun a w hf hc=>sp 1 hf rfl fun a hf=>zP hf rfl (pFA pN rfl) fun a hf=>zL hf hc sA m1 rfl fun a w hf hc=>sp 1 hf rfl fun a hf=>?_
 obtain ⟨B,X,hF⟩:=aC hF
 have v:=hf
 obtain ⟨g,rfl,qa,qr⟩:=iJ hc m2 X
 have hf:=v
 refine zP hf rfl (pIA Tryz.underlying35 fS rfl rfl qa) fun a hf=>sp 1 hf rfl fun a hf=>zT h ?_
 refine cU (fun θ=>[⟨none,none,1,i6 H⟩,⟨none,none,2,i6 J⟩,⟨none,none,7,.pointer (some ⟨g,i_.toNat * 2,none⟩)⟩,⟨some 0,none,14,.pointer (some ⟨g,i_.toNat * 2,none⟩)⟩,⟨some 1,none,15,.pointer (some ⟨g,i_.toNat * 2,none⟩)⟩,⟨some 2,none,16,.pointer (some ⟨g,i_.toNat * 2,none⟩)⟩,⟨some 3,none,17,.pointer (some ⟨g,i_.toNat * 2,none⟩)⟩,⟨some 4,none,18,.pointer (some ⟨g,i_.toNat * 2 + 0,none⟩)⟩,⟨some 5,none,19,i6 B.Lo⟩,⟨some 6,none,20,i6 H⟩,⟨some 7,none,21,i6 (max B.Lo H)⟩,⟨some 8,none,22,.pointer (some ⟨g,i_.toNat * 2,none⟩)⟩,⟨some 9,none,23,.pointer (some ⟨g,i_.toNat * 2,none⟩)⟩,⟨some 10,none,24,.pointer (some ⟨g,i_.toNat * 2 + 1,none⟩)⟩,⟨some 11,none,25,i6 B.Hi⟩,⟨some 12,none,26,i6 J⟩,⟨some 13,none,27,i6 (min B.Hi J)⟩,⟨some 14,none,28,.pointer (some ⟨g,i_.toNat * 2,none⟩)⟩,⟨some 15,none,29,.pointer (some ⟨g,i_.toNat * 2 + 0,none⟩)⟩,⟨some 17,none,30,.pointer (some ⟨g,i_.toNat * 2,none⟩)⟩,⟨some 18,none,31,.pointer (some ⟨g,i_.toNat * 2 + 1,none⟩)⟩]) (fun E θ=>.box b_ [pq M] 134::.box M [i6 x,i6 Z,.slice S Y.length U,.slice (some ⟨g,0,none⟩) I.length D] 138::(bif E 19 then .row (some ⟨g,0,none⟩) D (((I.set i_.toNat (⟨max B.Lo H,B.Hi⟩:aF)).set i_.toNat (⟨max B.Lo H,min B.Hi J⟩:aF)).map aJ) 29 2 else bif E 16 then .row (some ⟨g,0,none⟩) D ((I.set i_.toNat (⟨max B.Lo H,B.Hi⟩:aF)).map aJ) 29 2 else .row (some ⟨g,0,none⟩) D (I.map aJ) 29 2)::Lf) [(16,5),(19,5),(16,11),(19,11),(19,16)] (fun a w=>Has 32 a []∧Ctx G (.box b_ [pq M] 134::.box M [i6 x,i6 Z,.slice S Y.length U,.slice (some ⟨g,0,none⟩) I.length D] 138::.row (some ⟨g,0,none⟩) D (((I.set i_.toNat (⟨max B.Lo H,B.Hi⟩:aF)).set i_.toNat (⟨max B.Lo H,min B.Hi J⟩:aF)).map aJ) 29 2::Lf) w) aT (by kernel_rfl) (by kernel_rfl) (dL.of hf ⟨rfl,rfl,rfl,trivial,trivial,trivial,trivial,trivial,trivial,trivial,trivial,trivial,trivial,trivial,trivial,trivial,trivial,trivial,trivial,trivial,trivial,trivial⟩) hc ⟨?_,?_,?_,?_,?_,?_,?_,?_,?_,?_,?_,?_,?_,?_,?_,?_,?_,?_,?_,?_,trivial⟩ ?_ ?_
 ·intro E θ a w hD hi hp he hc
  have hf:=he.h0.mT he 2 rfl
  refine sp 1 hf rfl fun a hf=>zD θ he hi hf 3 rfl rfl rfl hc
 ·intro E θ a w hD hi hp he hc
  have hf:=he.h0.mT he 2 rfl
  refine sp 1 hf rfl fun a hf=>zD θ he hi hf 4 rfl rfl rfl hc
 ·intro E θ a w hD hi hp he hc
  have hf:=he.h0.mT he 2 rfl
  refine sp 1 hf rfl fun a hf=>zD θ he hi hf 5 rfl rfl rfl hc
 ·intro E θ a w hD hi hp he hc
  have e2:=hp.o 2 rfl
  have hf:=he.h0.mP he 5 rfl e2
  refine sp 1 hf rfl fun a hf=>zD θ he hi hf 6 rfl rfl rfl hc
 ·intro E θ a w hD hi hp he hc
  have e3:=hp.o 3 rfl
  have hf:=he.h0.mP he 6 rfl e3
  refine zP hf rfl (pFA iH rfl) fun a hf=>zD θ he hi hf 7 rfl rfl rfl hc
 ·intro E θ a w hD hi hp he hc
  have e4:=hp.o 4 rfl
  have O:=hD.f 0 rfl hi
  have R:=hD.f 1 rfl hi
  try dsimp only at hc
  rw [O,R] at hc
  have hf:=he.h0.mP he 7 rfl e4
  refine zE hf hc rfl (cV aX rfl (eI (sz:=2) (i:=i_.toNat) (j:=0) m2 qr rfl)) fun a w hf hc=>zD θ he hi hf 8 rfl rfl rfl ?_
  try dsimp only
  rw [aS 5 O rfl,aS 5 R rfl]
  exact hc
 ·intro E θ a w hD hi hp he hc
  have hf:=he.h0.mT he 0 rfl
  refine sp 1 hf rfl fun a hf=>zD θ he hi hf 9 rfl rfl rfl hc
 ·intro E θ a w hD hi hp he hc
  have e5:=hp.o 5 rfl
  have e6:=hp.o 6 rfl
  have hf:=(he.h0.mP he 8 rfl e5).mP he 9 rfl e6
  refine zP hf rfl (aAk rfl rfl) fun a hf=>zD θ he hi hf 10 rfl rfl rfl hc
 ·intro E θ a w hD hi hp he hc
  have hf:=he.h0.mT he 2 rfl
  refine sp 1 hf rfl fun a hf=>zD θ he hi hf 11 rfl rfl rfl hc
 ·intro E θ a w hD hi hp he hc
  have e8:=hp.o 8 rfl
  have hf:=he.h0.mP he 11 rfl e8
  refine sp 1 hf rfl fun a hf=>zD θ he hi hf 12 rfl rfl rfl hc
 ·intro E θ a w hD hi hp he hc
  have e9:=hp.o 9 rfl
  have hf:=he.h0.mP he 12 rfl e9
  refine zP hf rfl (pFA fQ rfl) fun a hf=>zD θ he hi hf 13 rfl rfl rfl hc
 ·intro E θ a w hD hi hp he hc
  have t:=hp.o 10 rfl
  have O:=hD.f 2 rfl hi
  have R:=hD.f 3 rfl hi
  try dsimp only at hc
  rw [O,R] at hc
  have hf:=he.h0.mP he 13 rfl t
  refine zE hf hc rfl (cV aX rfl (eI (sz:=2) (i:=i_.toNat) (j:=1) m2 qr rfl)) fun a w hf hc=>zD θ he hi hf 14 rfl rfl rfl ?_
  try dsimp only
  rw [aS 11 O rfl,aS 11 R rfl]
  exact hc
 ·intro E θ a w hD hi hp he hc
  have hf:=he.h0.mT he 1 rfl
  refine sp 1 hf rfl fun a hf=>zD θ he hi hf 15 rfl rfl rfl hc
 ·intro E θ a w hD hi hp he hc
  have m:=hp.o 11 rfl
  have y:=hp.o 12 rfl
  have hf:=(he.h0.mP he 14 rfl m).mP he 15 rfl y
  refine zP hf rfl (aFi rfl rfl) fun a hf=>zD θ he hi hf 16 rfl rfl rfl hc
 ·intro E θ a w hD hi hp he hc
  have e0:=hp.o 0 rfl
  have hf:=he.h0.mP he 3 rfl e0
  refine sp 1 hf rfl fun a hf=>zD θ he hi hf 17 rfl rfl rfl hc
 ·intro E θ a w hD hi hp he hc
  have u:=hp.o 14 rfl
  have hf:=he.h0.mP he 17 rfl u
  refine zP hf rfl (pFA iH rfl) fun a hf=>zD θ he hi hf 18 rfl rfl rfl hc
 ·intro E θ a w hD hi hp he hc
  have e7:=hp.o 7 rfl
  have s:=hp.o 15 rfl
  have R:=hD.f 4 rfl hi
  try dsimp only at hc
  rw [hi,R] at hc
  have hf:=(he.h0.mP he 10 rfl e7).mP he 18 rfl s
  refine aGj (sz:=2) (vs:=[i6 (max B.Lo H)]) (o':=0) (z:=(⟨max B.Lo H,B.Hi⟩:aF)) (xs:=I) hf hc rfl rfl rfl rfl fD rfl (fun x=>(iO x).1) (qX X) (fun e' b=>by cases (b.symm.trans (kS X).2); rfl) rfl u2 fun w hc=>zG θ he hi hf rfl ?_
  try dsimp only
  rw [aN E 16,aS 16 R rfl]
  exact hc
 ·intro E θ a w hD hi hp he hc
  have e1:=hp.o 1 rfl
  have hf:=he.h0.mP he 4 rfl e1
  refine sp 1 hf rfl fun a hf=>zD θ he hi hf 19 rfl rfl rfl hc
 ·intro E θ a w hD hi hp he hc
  have r:=hp.o 17 rfl
  have hf:=he.h0.mP he 19 rfl r
  refine zP hf rfl (pFA fQ rfl) fun a hf=>zD θ he hi hf 20 rfl rfl rfl hc
 ·intro E θ a w hD hi hp he hc
  have n:=hp.o 13 rfl
  have p:=hp.o 18 rfl
  have O:=hp.o 16 rfl
  try dsimp only at hc
  rw [O,hi] at hc
  have hf:=(he.h0.mP he 16 rfl n).mP he 20 rfl p
  refine aGj (sz:=2) (vs:=[i6 (min B.Hi J)]) (o':=1) (z:=(⟨max B.Lo H,min B.Hi J⟩:aF)) (xs:=(I.set i_.toNat (⟨max B.Lo H,B.Hi⟩:aF))) hf hc rfl rfl rfl rfl fD rfl (fun x=>(iO x).1) (by simpa using qX X) (fun e' b=>by rw [List.getElem?_set_self (by simpa using qX X)] at b; cases b; rfl) rfl u2 fun w hc=>?_
  refine zG θ he hi hf rfl ?_
  try dsimp only
  rw [cB 19 O,aN E 19]
  exact hc
 ·intro E θ a w k he hc
  have hf:=he.h0
  have O:=k 16 rfl
  have R:=k 19 rfl
  try dsimp only at hc
  rw [O,R] at hc
  exact ⟨hf.keep trivial,hc⟩
 rintro a w ⟨hf,hc⟩
 obtain ⟨_,q,hF⟩:=rM hF
 obtain rfl:=sj hF
 exact pO (by simp) rfl Tryz.results113 hf ⟨(by first | rfl | simp only [List.length_set]),q,hc⟩

def pT (s_:aF):Bool :=
 (decide (s_.Lo≤s_.Hi))
theorem aAf {G:bA} {Lf:List Ent} {w:World} (s_:aF)   (hc:Ctx G (Lf) w) {B:Bool} (hF:pT s_=B):Calls Tryz.prog 116 #[.agg #[i6 s_.Lo,i6 s_.Hi]] w (fun e w=>e=.returned (.bool B)∧Ctx G (Lf) w):=by
 unfold pT at hF
 refine cC Tryz.func116 rfl Tryz.ntmps116 rfl fun a hf=>zS fun K h=>zB hf hc rfl fun D a w hf hc=>sp 1 hf rfl fun a hf=>zT h ?_
 refine zS fun K h=>zP hf rfl (pFA iH rfl) fun a hf=>zL hf hc aX m0 rfl fun a w hf hc=>zP hf rfl (pFA fQ rfl) fun a hf=>zL hf hc aX m0 rfl fun a w hf hc=>sp 2 hf rfl fun a hf=>zT h ?_
 refine wp_ret ?_
 obtain rfl:=hF
 replace hc:=hc.drop k0
 exact zO1 Tryz.results116 hf rfl ⟨rfl,hc⟩

def jT (x:aF):Bool :=
 (!(pT (⟨x.Lo,x.Hi⟩:aF)))
theorem tG {G:bA} {Lf:List Ent} {w:World} (x:aF) {b_:Nat}  (hc:Ctx G (.box b_ [.func (.func 116) #[] #[]] 115::Lf) w) {B:Bool} (hF:jT x=B):Calls Tryz.prog 131 #[.agg #[i6 x.Lo,i6 x.Hi],pq b_] w (fun e w=>e=.returned (.bool B)∧Ctx G (.box b_ [.func (.func 116) #[] #[]] 115::Lf) w):=by
 unfold jT at hF
 refine cC Tryz.func131 rfl Tryz.ntmps131 rfl fun a hf=>zS fun K h=>zB hf hc rfl fun D a w hf hc=>sp 1 hf rfl fun a hf=>zT h ?_
 refine zS fun K h=>zL hf hc aLu m1 rfl fun a w hf hc=>zN hf hc eY m0 rfl fun a w hf hc=>zQ (v:=.bool (pT (⟨x.Lo,x.Hi⟩:aF))) hf hc aQn rfl (fun w hc=>aAf (⟨x.Lo,x.Hi⟩:aF) hc rfl) fun a w hf hc=>sp 2 hf rfl fun a hf=>zT h ?_
 refine wp_ret ?_
 obtain rfl:=hF
 replace hc:=hc.drop k0
 exact zO1 Tryz.results131 hf rfl ⟨rfl,hc⟩

def iC (N:Nat) (s_:List aF) (x:Int):Option (dA (Int) (Int)) :=
 cond (decide (x < ((s_.length:Nat):Int)))
 (Option.bind (cM s_ x) fun B=>
 cond (jT B)
 (some (.ret x))
 (some (.cont (W (x + 1)))))
 (some (.brk x))
def fE (N:Nat) (s_:List aF):Option (Int) :=
 Option.bind (bN (fun s4=>iC N s_ s4) N 0) fun x4=>
 exK x4 (fun s4=>some (-1)) some
theorem mO {N:Nat} {G:bA} {Lf:List Ent} {w:World} (s_:List aF) {H:Option Addr} {D:Nat} {b_:Nat} (O:Rd G 2 H D (s_.map aJ)) (hc:Ctx G (.box b_ [.func (.func 116) #[] #[]] 115::Lf) w) {J:Int} (hF:fE N s_=some J):Calls Tryz.prog 133 #[.slice H s_.length D,.func (.func 131) #[] #[pq b_]] w (fun e w=>e=.returned (i6 J)∧Ctx G (.box b_ [.func (.func 116) #[] #[]] 115::Lf) w):=by
 unfold fE at hF
 refine cC Tryz.func133 rfl Tryz.ntmps133 rfl fun a hf=>zS fun K h=>sp 1 hf rfl fun a hf=>zT h ?_
 refine wp_seq_k fun K2 h2=>zS fun K h=>sp 1 hf rfl fun a hf=>zP hf rfl (cP Tryz.underlying35 rfl) fun a hf=>sp 1 hf rfl fun a hf=>zT h ?_
 refine wp_block ?_
 obtain ⟨x4,U,hF⟩:=aC hF
 let S4:Int→Act→World→Prop:=(fun (zz:Int) a w=>Has 19 a [(0,.slice H s_.length D),(1,.func (.func 131) #[] #[pq b_]),(7,i6 ((s_.length:Nat):Int)),(8,i6 zz)]∧Ctx G (.box b_ [.func (.func 116) #[] #[]] 115::Lf) w)
 have X:∀ (zz:Int) a w,x4=.go zz→S4 zz a w→K2 a w:=by
  rintro x a w rfl ⟨hf,hc⟩
  replace hF:=cJ hF
  refine h2 _ _ ?_
  refine zS fun K h=>sp 1 hf rfl fun a hf=>zT h ?_
  refine wp_ret ?_
  obtain rfl:=sj hF
  exact zO1 Tryz.results133 hf rfl ⟨rfl,hc⟩
 have R:∀ r,x4=.out r→r=J:=by
  rintro r rfl
  exact sj hF
 refine dQ N (dP (S:=S4) (x:=x4) ?_ N 0 _ _ ⟨hf.kp rfl,hc⟩ U)
 clear hF hf hc
 rintro x Y a w KB4 ⟨hf,hc⟩ hF B V
 unfold iC at hF
 refine zS fun K h=>sp 1 hf rfl fun a hf=>zT h ?_
 refine wp_seq_k fun K7 h7=>zI hf rfl hF ?_ ?_ <;> clear hF <;> intro hF
 ·refine wp_skip ?_
  refine h7 _ _ ?_
  refine wp_seq_k fun K8 h8=>wp_block ?_
  refine zS fun K h=>sp 2 hf rfl fun a hf=>zT h ?_
  refine zS fun K h=>sp 3 hf rfl fun a hf=>?_
  obtain ⟨I,M,hF⟩:=aC hF
  obtain ⟨Z,o,qa,qp⟩:=O.atm M
  refine zP hf rfl (pIA Tryz.underlying35 fS rfl rfl qa) fun a hf=>zE hf hc rfl (kK (vs:=[i6 I.Lo,i6 I.Hi]) eY rfl rfl (dF qp (n:=2) (o':=0) rfl)) fun a w hf hc=>zQ (v:=.bool (jT I)) hf hc aPf rfl (fun w hc=>(tG I (hc.pick k0) rfl).mono fun e w h=>⟨h.1,(h.2.unpick k0)⟩) fun a w hf hc=>zT h ?_
  refine zI hf rfl hF ?_ ?_ <;> clear hF <;> intro hF
  ·refine zS fun K h=>sp 2 hf rfl fun a hf=>zT h ?_
   refine wp_ret ?_
   refine cI ?_
   refine aU ?_
   refine aU ?_
   have he:=sj hF
   rw [← he] at B
   replace hF:=R _ B
   refine cI ?_
   refine aU ?_
   obtain rfl:=hF
   exact zO1 Tryz.results133 hf rfl ⟨rfl,hc⟩
  ·refine wp_skip ?_
   refine h8 _ _ ?_
   refine cX ?_
   refine sp 2 hf rfl fun a hf=>aQ ?_
   exact V (W (x + 1)) _ _ (sj hF).symm ⟨hf.kp rfl,hc⟩
 ·refine wp_exit ?_
  refine bI ?_
  refine bI ?_
  have he:=sj hF
  rw [← he] at B
  refine fB ?_
  exact X _ _ _ B ⟨hf.kp rfl,hc⟩

def eQ (N:Nat) (s_:List aF):Option (Bool) :=
 Option.bind (fE N s_) fun r=>
 some (decide (0≤r))
theorem lZ {N:Nat} {G:bA} {Lf:List Ent} {w:World} (s_:List aF) {D:Option Addr} {B:Nat} {b_:Nat} (I:Rd G 2 D B (s_.map aJ)) (hc:Ctx G (.box b_ [.func (.func 116) #[] #[]] 115::Lf) w) {H:Bool} (hF:eQ N s_=some H):Calls Tryz.prog 120 #[.slice D s_.length B,.func (.func 131) #[] #[pq b_]] w (fun e w=>e=.returned (.bool H)∧Ctx G (.box b_ [.func (.func 116) #[] #[]] 115::Lf) w):=by
 unfold eQ at hF
 refine cC Tryz.func120 rfl Tryz.ntmps120 rfl fun a hf=>zS fun K h=>sp 1 hf rfl fun a hf=>zT h ?_
 refine zS fun K h=>sp 2 hf rfl fun a hf=>?_
 obtain ⟨r,hr,hF⟩:=aC hF
 refine zQ (v:=i6 r) hf hc aLb rfl (fun w hc=>(mO s_ I (hc.pick k0) hr).mono fun e w h=>⟨h.1,(h.2.unpick k0)⟩) fun a w hf hc=>sp 2 hf rfl fun a hf=>zT h ?_
 refine wp_ret ?_
 obtain rfl:=sj hF
 exact zO1 Tryz.results120 hf rfl ⟨rfl,hc⟩

def iS (N:Nat) (l:List aF):Option (Bool) :=
 Option.bind (eQ N l) fun r=>
 some (!r)
theorem uP {N:Nat} {G:bA} {Lf:List Ent} {w:World} (l:List aF) {H:Option Addr} {D:Nat} (I:Rd G 2 H D (l.map aJ)) (hc:Ctx G (Lf) w) {B:Bool} (hF:iS N l=some B):Calls Tryz.prog 115 #[.slice H l.length D,.func (.func 116) #[] #[]] w (fun e w=>e=.returned (.bool B)∧Ctx G (Lf) w):=by
 unfold iS at hF
 refine cC Tryz.func115 rfl Tryz.ntmps115 rfl fun a hf=>zS fun K h=>zB hf hc rfl fun J a w hf hc=>sp 1 hf rfl fun a hf=>zT h ?_
 refine zS fun K h=>sp 1 hf rfl fun a hf=>zP hf rfl (pMF (us:=[pq J]) rfl rfl) fun a hf=>?_
 obtain ⟨r,hr,hF⟩:=aC hF
 refine zQ (v:=.bool r) hf hc aNc rfl (fun w hc=>(lZ l I (hc.pick k0) hr).mono fun e w h=>⟨h.1,(h.2.unpick k0)⟩) fun a w hf hc=>sp 2 hf rfl fun a hf=>zT h ?_
 refine wp_ret ?_
 obtain rfl:=sj hF
 replace hc:=hc.drop k0
 exact zO1 Tryz.results115 hf rfl ⟨rfl,hc⟩

def oB (N:Nat) (r:eN) (J:List aF) (B:List aF) (xv:Int) (H:Int):Option (Rs ((List aF))) :=
 Option.bind (cM B xv) fun M=>
 Option.bind (cM B xv) fun I=>
 Option.bind (pZ N H (W (M.Lo - r.Fall)) (W (I.Hi + r.Rise)) r.Rise r.Fall r.Days B) fun D=>
 Option.bind (qD D J) fun _=>
 some (.go D)
def lU (N:Nat) (r:eN) (M:List aF) (B:List aF) (D:Int) (I:Int):Option (Rs ((List aF))) :=
 Option.bind (cM B D) fun O=>
 Option.bind (cM B D) fun J=>
 Option.bind (pZ N I (W (O.Lo - r.Rise)) (W (J.Hi + r.Fall)) r.Rise r.Fall r.Days B) fun H=>
 Option.bind (qD H M) fun _=>
 some (.go H)
def wE (N:Nat) (r:eN) (x:Int) (B:List aF):Option (dA (Int × (List aF)) ((Bool × Int) ⊕ (Int × Int × (List aF) × Bool × Int))) :=
 cond (decide (x < ((r.Days.length:Nat):Int)))
 (Option.bind (cM r.Days x) fun H=>
 Option.bind (qU N H) fun D=>
 Option.bind (nQ ((B++[D])).length) fun un=>
 some (.cont (W (x + 1),(B++[D]))))
 (some (.brk (x,B)))
def vI (N:Nat) (r:eN):Option ((Bool × Int) ⊕ (Int × Int × (List aF) × Bool × Int)) :=
 Option.bind (tS N r) fun I=>
 cond (I != 0)
 (some (.inl (false,I)))
 (Option.bind (bN (fun s9=>wE N r s9.1 s9.2) N (0,([]:List aF))) fun x9=>
 exK x9 (fun s9=>Option.bind (lW N (⟨r,s9.2⟩:oY) false) fun S=>
 Option.bind (kE N r.Rise r.Fall r.Days S (rY (fun (zz:(List aF)) (D:(Int × Int))=>oB N r s9.2 zz D.1 D.2)) (.go s9.2)) fun R=>
 rsK R (fun B=>Option.bind (lW N (⟨r,B⟩:oY) true) fun O=>
 Option.bind (kE N r.Rise r.Fall r.Days O (rY (fun (zz:(List aF)) (D:(Int × Int))=>lU N r B zz D.1 D.2)) (.go B)) fun J=>
 rsK J (fun H=>Option.bind (iS N H) fun M=>
 some (.inr (r.Rise,r.Fall,H,M,0))) (fun H=>none)) (fun B=>none)) some)
theorem wC {N:Nat} {G:bA} {Lf:List Ent} {w:World} (r:eN) {D:Option Addr} {H:Nat} (d:Rd G 3 D H (r.Days.map dD)) (hc:Ctx G (Lf) w) {ap:(Bool × Int) ⊕ (Int × Int × (List aF) × Bool × Int)} (hF:vI N r=some ap):Calls Tryz.prog 84 #[.agg #[i6 r.Rise,i6 r.Fall,.slice D r.Days.length H]] w (fun e w=>aAb (fun rr=>e=.returned (.tuple #[.pointer none,.bool rr.1,i6 rr.2])∧Ctx G (Lf) w) (fun rr=>∃ (b6:Nat) (b5:Option Addr) (b4:Nat),e=.returned (.tuple #[pq b6,.bool rr.2.2.2.1,i6 rr.2.2.2.2])∧Ctx G (.row b5 b4 (rr.2.2.1.map aJ) 29 2::.box b6 [i6 rr.1,i6 rr.2.1,.slice D r.Days.length H,.slice b5 rr.2.2.1.length b4] 138::Lf) w) ap):=by
 unfold vI at hF
 refine aEy Tryz.func84 rfl Tryz.ntmps84 rfl fun a hf=>zS fun K h=>zB hf hc rfl fun dp a w hf hc=>sp 3 hf rfl fun a hf=>zT h ?_
 refine wp_seq_k fun K2 h2=>zS fun K h=>zN hf hc aFn m0 rfl fun a w hf hc=>?_
 obtain ⟨df,ci,hF⟩:=aC hF
 refine zQ (v:=i6 df) hf hc aOr rfl (fun w hc=>wW r d hc ci) fun a w hf hc=>sp 1 hf rfl fun a hf=>zT h ?_
 refine zS fun K h=>sp 2 hf rfl fun a hf=>zT h ?_
 refine zI hf rfl hF ?_ ?_ <;> clear hF <;> intro hF
 ·refine zS fun K h=>sp 4 hf rfl fun a hf=>zT h ?_
  refine wp_ret ?_
  refine aU ?_
  obtain rfl:=sj hF
  replace hc:=hc.drop k0
  refine aFx hf ?_
  exact aOw Tryz.results84 hf hc (show iK _ 2=_ from rfl) (show iK _ 3=_ from rfl) (show iK _ 4=_ from rfl) ⟨rfl,hc⟩
 ·refine wp_skip ?_
  refine h2 _ _ ?_
  refine zS fun K h=>zN hf hc aFn m0 rfl fun a w hf hc=>zP hf rfl (bJ (cells:=[i6 r.Rise,i6 r.Fall,.slice D r.Days.length H,.slice none 0 0]) aPp rfl rfl) fun a hf=>zB hf hc rfl fun I a w hf hc=>zA hf hc aQp rfl fun R a w hf hc=>zW hf hc aQy u0 rfl fun w hc=>zT h ?_
  refine wp_seq_k fun K7 h7=>zS fun K h=>zP hf rfl (pFA vW rfl) fun a hf=>zL hf hc aCp m2 rfl fun a w hf hc=>zP hf rfl (cP Tryz.underlying97 rfl) fun a hf=>sp 1 hf rfl fun a hf=>zT h ?_
  refine wp_block ?_
  obtain ⟨x9,dc,hF⟩:=aC hF
  let S9:(Int × (List aF))→Act→World→Prop:=(fun (zz:Int × (List aF)) a w=>∃ (U:Option Addr) (O:Nat),Has 118 a [(6,pq R),(23,.slice D r.Days.length H),(24,i6 ((r.Days.length:Nat):Int)),(25,i6 zz.1)]∧Ctx G (.row U O (zz.2.map aJ) 29 2::.box R [pq I] 134::.box I [i6 r.Rise,i6 r.Fall,.slice D r.Days.length H,.slice U zz.2.length O] 138::Lf) w)
  have dd:∀ (zz:Int × (List aF)) a w,x9=.go zz→S9 zz a w→K7 a w:=by
   rintro ⟨x,k⟩ a w rfl ⟨U,O,hf,hc⟩
   replace hF:=cJ hF
   refine h7 _ _ ?_
   refine zS fun K h=>zP hf rfl (pMF (us:=[pq R]) rfl rfl) fun a hf=>zA hf hc aPw rfl fun Y a w hf hc=>zW hf hc aPo u0 rfl fun w hc=>zT h ?_
   refine wp_seq_k fun K11 dj=>zS fun K h=>zL hf hc nE m2 rfl fun a w hf hc=>?_
   obtain ⟨ai,cf,hF⟩:=aC hF
   obtain ⟨G1,a0,au,hc,aj⟩:=lend hc k1
   refine zC hf aLr rfl (sB (⟨r,k⟩:oY) false (d.mono a0) au (hc.pick k2) cf) ?_
   rintro _ w ⟨ay,ax,rfl,hc⟩
   refine ⟨_,rfl,fun a hf=>?_⟩
   replace hc:=aj _ _ hc
   refine zT h ?_
   obtain ⟨c4,b9,hF⟩:=aC hF
   replace hc:=(((hc.pick k0).pick k3).pick k3).pick k3
   refine aI6 (C:=[.box ay [pq I] 134,.box ax [.bool ai] 4]) (C2:=[.box ay [pq I] 134,.box ax [.bool ai] 4]) (L0:=[.box I [i6 r.Rise,i6 r.Fall,.slice D r.Days.length H,.slice U k.length O] 138,.row U O (k.map aJ) 29 2,.box Y [.func (.func 113) #[] #[pq R]] 206,.box R [pq I] 134]) (Lf:=Lf) (encs:=fun x:(Int × Int)=>[i6 x.1,i6 x.2]) (fun (zz:(List aF)) L=>zz.length=k.length∧L=[.box I [i6 r.Rise,i6 r.Fall,.slice D r.Days.length H,.slice U zz.length O] 138,.row U O (zz.map aJ) 29 2,.box Y [.func (.func 113) #[] #[pq R]] 206,.box R [pq I] 134]) (fun (zz:(List aF)) (ag:(Int × Int))=>oB N r k zz ag.1 ag.2) k c4 hf hc rfl aKq (fun _=>rfl) rfl ⟨rfl,rfl⟩ ?_ ?_ ?_ ?_
   ·intro lq mq J L Lx w hy hQ hJ hc
    have a6:∀ (zz:(List aF)) (M:List Ent),(fun (zz:(List aF)) L=>zz.length=k.length∧L=[.box I [i6 r.Rise,i6 r.Fall,.slice D r.Days.length H,.slice U zz.length O] 138,.row U O (zz.map aJ) 29 2,.box Y [.func (.func 113) #[] #[pq R]] 206,.box R [pq I] 134]) zz M→∃ A B,M=A++(.box I [i6 r.Rise,i6 r.Fall,.slice D r.Days.length H,.slice U k.length O] 138::B):=by
     rintro X _ ⟨hl,rfl⟩
     try rw [show _=_ from hl]
     exact ⟨[],_,rfl⟩
    exact qP r.Rise r.Fall r.Days ai d J _ hy _ hJ (hQ _ a6) hc b9
   ·clear hF hf hc
    rintro lq mq X ⟨xv,ak⟩ oq _ Lr Lb a w di ⟨hl,rfl⟩ hF hf hc hK
    replace hf:Has 118 a [(6,pq R),(9,pq Y),(44,i6 xv),(45,i6 ak)]:=hf.kp rfl
    replace hc:Ctx G (.box I [i6 r.Rise,i6 r.Fall,.slice D r.Days.length H,.slice U X.length O] 138::.row U O (X.map aJ) 29 2::.box Y [.func (.func 113) #[] #[pq R]] 206::.box R [pq I] 134::Lr) w:=hc
    replace hF:oB N r k X xv ak=some oq:=hF
    unfold oB at hF
    refine sE fun K14 c7=>sP (fun _ _ h=>h) rfl ?_
    refine sp 1 hf rfl fun a hf=>aQ ?_
    refine c7 _ _ ?_
    refine sP (fun _ _ h=>h) rfl ?_
    refine sp 1 hf rfl fun a hf=>aQ ?_
    refine hK _ _ [.box I [i6 r.Rise,i6 r.Fall,.slice D r.Days.length H,.slice U X.length O] 138,.row U O (X.map aJ) 29 2,.box Y [.func (.func 113) #[] #[pq R]] 206,.box R [pq I] 134] hc fun w hc=>?_
    replace hc:Ctx G (.box I [i6 r.Rise,i6 r.Fall,.slice D r.Days.length H,.slice U X.length O] 138::.row U O (X.map aJ) 29 2::.box Y [.func (.func 113) #[] #[pq R]] 206::.box R [pq I] 134::Lb) w:=hc
    refine xA fun K15 c8=>vZ ?_
    obtain ⟨br,ct,hF⟩:=aC hF
    have bx:=hf
    obtain ⟨g,rfl,qa,qr⟩:=iJ hc m1 ct
    have hf:=bx
    obtain ⟨bp,b8,hF⟩:=aC hF
    obtain ⟨b7,cv⟩:=jX hc m1 b8
    obtain ⟨a5,cd,hF⟩:=aC hF
    refine xP (fun _ _ h=>h) rfl (fun θ=>(⟨none,none,6,pq R⟩::⟨none,none,9,pq Y⟩::⟨none,none,10,i6 xv⟩::⟨none,none,11,i6 ak⟩::⟨some 0,none,46,.func (.func 113) #[] #[pq R]⟩::⟨some 1,none,47,i6 ak⟩::⟨some 2,none,48,pq I⟩::⟨some 3,none,49,pq I⟩::⟨some 4,none,50,.pointer (some ⟨I,3,none⟩)⟩::⟨some 5,none,51,.slice (some ⟨g,0,none⟩) X.length O⟩::⟨some 6,none,52,i6 xv⟩::⟨some 7,none,53,.pointer (some ⟨g,xv.toNat * 2,none⟩)⟩::⟨some 8,none,54,.pointer (some ⟨g,xv.toNat * 2 + 0,none⟩)⟩::⟨some 9,none,55,i6 br.Lo⟩::⟨some 10,none,56,pq I⟩::⟨some 11,none,57,pq I⟩::⟨some 12,none,58,pq I⟩::⟨some 13,none,59,.pointer (some ⟨I,1,none⟩)⟩::⟨some 14,none,60,i6 r.Fall⟩::⟨some 15,none,61,i6 (W (br.Lo - r.Fall))⟩::⟨some 16,none,62,pq I⟩::⟨some 17,none,63,pq I⟩::⟨some 18,none,64,.pointer (some ⟨I,3,none⟩)⟩::⟨some 19,none,65,.slice (some ⟨g,0,none⟩) X.length O⟩::⟨some 20,none,66,i6 xv⟩::⟨some 21,none,67,.pointer (some ⟨g,xv.toNat * 2,none⟩)⟩::⟨some 22,none,68,.pointer (some ⟨g,xv.toNat * 2 + 1,none⟩)⟩::⟨some 23,none,69,i6 bp.Hi⟩::⟨some 24,none,70,pq I⟩::⟨some 25,none,71,pq I⟩::⟨some 26,none,72,pq I⟩::⟨some 27,none,73,pq I⟩::⟨some 28,none,74,i6 r.Rise⟩::⟨some 29,none,75,i6 (W (bp.Hi + r.Rise))⟩::⟨some 30,none,76,.tuple #[]⟩::[])) (fun E θ=>(bif E 30 then .box I [i6 r.Rise,i6 r.Fall,.slice D r.Days.length H,.slice (some ⟨g,0,none⟩) a5.length O] 138 else .box I [i6 r.Rise,i6 r.Fall,.slice D r.Days.length H,.slice (some ⟨g,0,none⟩) X.length O] 138)::(bif E 30 then .row (some ⟨g,0,none⟩) O (a5.map aJ) 29 2 else .row (some ⟨g,0,none⟩) O (X.map aJ) 29 2)::.box Y [.func (.func 113) #[] #[pq R]] 206::.box R [pq I] 134::Lb) [(7,5),(8,7),(9,8),(15,9),(30,15),(15,14),(21,19),(22,21),(23,22),(29,23),(30,29),(29,28)] (fun a w=>Has 118 a [(6,pq R),(9,pq Y)]∧Ctx G (.box I [i6 r.Rise,i6 r.Fall,.slice D r.Days.length H,.slice (some ⟨g,0,none⟩) a5.length O] 138::.row (some ⟨g,0,none⟩) O (a5.map aJ) 29 2::.box Y [.func (.func 113) #[] #[pq R]] 206::.box R [pq I] 134::Lb) w) aT (by kernel_rfl) (by kernel_rfl) (dL.of hf ⟨rfl,rfl,rfl,rfl,trivial,trivial,trivial,trivial,trivial,trivial,trivial,trivial,trivial,trivial,trivial,trivial,trivial,trivial,trivial,trivial,trivial,trivial,trivial,trivial,trivial,trivial,trivial,trivial,trivial,trivial,trivial,trivial,trivial,trivial,trivial,trivial⟩) hc ⟨?_,?_,?_,?_,?_,?_,?_,?_,?_,?_,?_,?_,?_,?_,?_,?_,?_,?_,?_,?_,?_,?_,?_,?_,?_,?_,?_,?_,?_,?_,?_,trivial⟩ ?_ ?_
    ·intro E θ a w hD hi hp he hc
     have hf:=he.h0.mT he 1 rfl
     refine zL hf hc aNg m2 rfl fun a w hf hc=>zD θ he hi hf 4 rfl rfl rfl hc
    ·intro E θ a w hD hi hp he hc
     have hf:=he.h0.mT he 3 rfl
     refine sp 1 hf rfl fun a hf=>zD θ he hi hf 5 rfl rfl rfl hc
    ·intro E θ a w hD hi hp he hc
     have hf:=he.h0.mT he 0 rfl
     refine zL hf hc nE m3 rfl fun a w hf hc=>zD θ he hi hf 6 rfl rfl rfl hc
    ·intro E θ a w hD hi hp he hc
     have e2:=hp.o 2 rfl
     have hf:=he.h0.mP he 6 rfl e2
     refine sp 1 hf rfl fun a hf=>zD θ he hi hf 7 rfl rfl rfl hc
    ·intro E θ a w hD hi hp he hc
     have e3:=hp.o 3 rfl
     have hf:=he.h0.mP he 7 rfl e3
     refine zP hf rfl (pFA pN rfl) fun a hf=>zD θ he hi hf 8 rfl rfl rfl hc
    ·intro E θ a w hD hi hp he hc
     have e4:=hp.o 4 rfl
     have e7:=hD.f 0 rfl hi
     have e8:=hD.f 1 rfl e7
     have e9:=hD.f 2 rfl e8
     have m:=hD.f 3 rfl e9
     have V:=hD.f 4 rfl m
     try dsimp only at hc
     rw [V] at hc
     have hf:=he.h0.mP he 8 rfl e4
     refine zL hf hc sA m0 rfl fun a w hf hc=>zD θ he hi hf 9 rfl rfl rfl ?_
     try dsimp only
     rw [aS 5 V rfl]
     exact hc
    ·intro E θ a w hD hi hp he hc
     have hf:=he.h0.mT he 2 rfl
     refine sp 1 hf rfl fun a hf=>zD θ he hi hf 10 rfl rfl rfl hc
    ·intro E θ a w hD hi hp he hc
     have e5:=hp.o 5 rfl
     have e6:=hp.o 6 rfl
     have e8:=hD.f 1 rfl hi
     have e9:=hD.f 2 rfl e8
     have m:=hD.f 3 rfl e9
     have V:=hD.f 4 rfl m
     try dsimp only at hc
     rw [V] at hc
     have hf:=(he.h0.mP he 9 rfl e5).mP he 10 rfl e6
     refine zP hf rfl (pIA Tryz.underlying35 fS rfl rfl qa) fun a hf=>zD θ he hi hf 11 rfl rfl rfl ?_
     try dsimp only
     rw [aS 7 V rfl]
     exact hc
    ·intro E θ a w hD hi hp he hc
     have e7:=hp.o 7 rfl
     have hf:=he.h0.mP he 11 rfl e7
     refine zP hf rfl (pFA iH rfl) fun a hf=>zD θ he hi hf 12 rfl rfl rfl hc
    ·intro E θ a w hD hi hp he hc
     have e8:=hp.o 8 rfl
     have m:=hD.f 3 rfl hi
     have V:=hD.f 4 rfl m
     try dsimp only at hc
     rw [V] at hc
     have hf:=he.h0.mP he 12 rfl e8
     refine zE hf hc rfl (cV aX rfl (eI (sz:=2) (i:=xv.toNat) (j:=0) m1 qr rfl)) fun a w hf hc=>zD θ he hi hf 13 rfl rfl rfl ?_
     try dsimp only
     rw [aS 9 V rfl]
     exact hc
    ·intro E θ a w hD hi hp he hc
     have hf:=he.h0.mT he 0 rfl
     refine zL hf hc nE m3 rfl fun a w hf hc=>zD θ he hi hf 14 rfl rfl rfl hc
    ·intro E θ a w hD hi hp he hc
     have a3:=hp.o 10 rfl
     have hf:=he.h0.mP he 14 rfl a3
     refine sp 1 hf rfl fun a hf=>zD θ he hi hf 15 rfl rfl rfl hc
    ·intro E θ a w hD hi hp he hc
     have ac:=hp.o 11 rfl
     have hf:=he.h0.mP he 15 rfl ac
     refine zP hf rfl (pFA sS rfl) fun a hf=>zD θ he hi hf 16 rfl rfl rfl hc
    ·intro E θ a w hD hi hp he hc
     have b3:=hp.o 12 rfl
     have hf:=he.h0.mP he 16 rfl b3
     refine zP hf rfl (pFA aGb rfl) fun a hf=>zD θ he hi hf 17 rfl rfl rfl hc
    ·intro E θ a w hD hi hp he hc
     have bm:=hp.o 13 rfl
     have m:=hD.f 5 rfl hi
     have V:=hD.f 4 rfl m
     try dsimp only at hc
     rw [V] at hc
     have hf:=he.h0.mP he 17 rfl bm
     refine zL hf hc aX m0 rfl fun a w hf hc=>zD θ he hi hf 18 rfl rfl rfl ?_
     try dsimp only
     rw [aS 14 V rfl]
     exact hc
    ·intro E θ a w hD hi hp he hc
     have e9:=hp.o 9 rfl
     have bg:=hp.o 14 rfl
     have hf:=(he.h0.mP he 13 rfl e9).mP he 18 rfl bg
     refine sp 1 hf rfl fun a hf=>zD θ he hi hf 19 rfl rfl rfl hc
    ·intro E θ a w hD hi hp he hc
     have hf:=he.h0.mT he 0 rfl
     refine zL hf hc nE m3 rfl fun a w hf hc=>zD θ he hi hf 20 rfl rfl rfl hc
    ·intro E θ a w hD hi hp he hc
     have bf:=hp.o 16 rfl
     have hf:=he.h0.mP he 20 rfl bf
     refine sp 1 hf rfl fun a hf=>zD θ he hi hf 21 rfl rfl rfl hc
    ·intro E θ a w hD hi hp he hc
     have bs:=hp.o 17 rfl
     have hf:=he.h0.mP he 21 rfl bs
     refine zP hf rfl (pFA pN rfl) fun a hf=>zD θ he hi hf 22 rfl rfl rfl hc
    ·intro E θ a w hD hi hp he hc
     have bd:=hp.o 18 rfl
     have an:=hD.f 6 rfl hi
     have ab:=hD.f 7 rfl an
     have aa:=hD.f 8 rfl ab
     have q:=hD.f 9 rfl aa
     have V:=hD.f 10 rfl q
     try dsimp only at hc
     rw [V] at hc
     have hf:=he.h0.mP he 22 rfl bd
     refine zL hf hc sA m0 rfl fun a w hf hc=>zD θ he hi hf 23 rfl rfl rfl ?_
     try dsimp only
     rw [aS 19 V rfl]
     exact hc
    ·intro E θ a w hD hi hp he hc
     have hf:=he.h0.mT he 2 rfl
     refine sp 1 hf rfl fun a hf=>zD θ he hi hf 24 rfl rfl rfl hc
    ·intro E θ a w hD hi hp he hc
     have bz:=hp.o 19 rfl
     have bv:=hp.o 20 rfl
     have ab:=hD.f 7 rfl hi
     have aa:=hD.f 8 rfl ab
     have q:=hD.f 9 rfl aa
     have V:=hD.f 10 rfl q
     try dsimp only at hc
     rw [V] at hc
     have hf:=(he.h0.mP he 23 rfl bz).mP he 24 rfl bv
     refine zP hf rfl (pIA Tryz.underlying35 fS rfl rfl b7) fun a hf=>zD θ he hi hf 25 rfl rfl rfl ?_
     try dsimp only
     rw [aS 21 V rfl]
     exact hc
    ·intro E θ a w hD hi hp he hc
     have an:=hp.o 21 rfl
     have hf:=he.h0.mP he 25 rfl an
     refine zP hf rfl (pFA fQ rfl) fun a hf=>zD θ he hi hf 26 rfl rfl rfl hc
    ·intro E θ a w hD hi hp he hc
     have ab:=hp.o 22 rfl
     have q:=hD.f 9 rfl hi
     have V:=hD.f 10 rfl q
     try dsimp only at hc
     rw [V] at hc
     have hf:=he.h0.mP he 26 rfl ab
     refine zE hf hc rfl (cV aX rfl (eI (sz:=2) (i:=xv.toNat) (j:=1) m1 cv rfl)) fun a w hf hc=>zD θ he hi hf 27 rfl rfl rfl ?_
     try dsimp only
     rw [aS 23 V rfl]
     exact hc
    ·intro E θ a w hD hi hp he hc
     have hf:=he.h0.mT he 0 rfl
     refine zL hf hc nE m3 rfl fun a w hf hc=>zD θ he hi hf 28 rfl rfl rfl hc
    ·intro E θ a w hD hi hp he hc
     have bi:=hp.o 24 rfl
     have hf:=he.h0.mP he 28 rfl bi
     refine sp 1 hf rfl fun a hf=>zD θ he hi hf 29 rfl rfl rfl hc
    ·intro E θ a w hD hi hp he hc
     have bq:=hp.o 25 rfl
     have hf:=he.h0.mP he 29 rfl bq
     refine zP hf rfl (pFA sS rfl) fun a hf=>zD θ he hi hf 30 rfl rfl rfl hc
    ·intro E θ a w hD hi hp he hc
     have bn:=hp.o 26 rfl
     have hf:=he.h0.mP he 30 rfl bn
     refine zP hf rfl (pFA aGf rfl) fun a hf=>zD θ he hi hf 31 rfl rfl rfl hc
    ·intro E θ a w hD hi hp he hc
     have b0:=hp.o 27 rfl
     have q:=hD.f 11 rfl hi
     have V:=hD.f 10 rfl q
     try dsimp only at hc
     rw [V] at hc
     have hf:=he.h0.mP he 31 rfl b0
     refine zL hf hc aX m0 rfl fun a w hf hc=>zD θ he hi hf 32 rfl rfl rfl ?_
     try dsimp only
     rw [aS 28 V rfl]
     exact hc
    ·intro E θ a w hD hi hp he hc
     have aa:=hp.o 23 rfl
     have bj:=hp.o 28 rfl
     have hf:=(he.h0.mP he 27 rfl aa).mP he 32 rfl bj
     refine sp 1 hf rfl fun a hf=>zD θ he hi hf 33 rfl rfl rfl hc
    ·intro E θ a w hD hi hp he hc
     have e0:=hp.o 0 rfl
     have e1:=hp.o 1 rfl
     have m:=hp.o 15 rfl
     have q:=hp.o 29 rfl
     try dsimp only at hc
     rw [hi] at hc
     have hf:=(((he.h0.mP he 4 rfl e0).mP he 5 rfl e1).mP he 19 rfl m).mP he 33 rfl q
     refine zC hf aLa rfl (tN ak (W (br.Lo - r.Fall)) (W (bp.Hi + r.Rise)) r.Rise r.Fall r.Days X d (((hc.pick k1).pick k1).pick k3) cd) ?_
     rintro _ w ⟨rfl,bu,hc⟩
     refine ⟨_,rfl,fun a hf=>?_⟩
     try rw [← bu] at hf
     try rw [← bu] at hc
     refine aQ ?_
     refine bV ?_
     intro ds u am
     replace hc:=(((hc.pick k0).pick k3).pick k3).pick k3
     refine ⟨θ,he.put0 hi am hf rfl 34 rfl rfl,?_⟩
     try dsimp only
     rw [aN E 30]
     exact hc
    ·intro E θ a w ad he hc
     have hf:=he.h0
     have V:=ad 30 rfl
     replace hf:=hf.more he 1 rfl (onT)
     replace hf:=hf.more he 0 rfl (onT)
     try dsimp only at hc
     rw [V] at hc
     exact ⟨hf.kp rfl,hc⟩
    rintro a w ⟨hf,hc⟩
    refine c8 _ _ ?_
    obtain ⟨_,cc,hF⟩:=rM hF
    exact ⟨a5,_,(sj hF).symm,⟨cc,rfl⟩,hc⟩
   ·rintro D_1 X _ a w ar ⟨hl,rfl⟩ hf hc
    replace hf:Has ⟨118,lK (D_1::[])⟩ a [(6,pq R),(9,pq Y)]:=hf.kp rfl
    replace hc:Ctx G (.box ay [pq I] 134::.box ax [.bool ai] 4::.box I [i6 r.Rise,i6 r.Fall,.slice D r.Days.length H,.slice U X.length O] 138::.row U O (X.map aJ) 29 2::.box Y [.func (.func 113) #[] #[pq R]] 206::.box R [pq I] 134::(nI (D_1::[])++Lf)) w:=pK (C:=[.box ay [pq I] 134,.box ax [.bool ai] 4]) (L:=[.box I [i6 r.Rise,i6 r.Fall,.slice D r.Days.length H,.slice U X.length O] 138,.row U O (X.map aJ) 29 2,.box Y [.func (.func 113) #[] #[pq R]] 206,.box R [pq I] 134]) hc
    replace hF:(Option.bind (lW N (⟨r,X⟩:oY) true) fun af=>Option.bind (kE N r.Rise r.Fall r.Days af (rY (fun (zz:(List aF)) (ag:(Int × Int))=>lU N r X zz ag.1 ag.2)) (.go X)) fun bt=>rsK bt (fun a7=>Option.bind (iS N a7) fun a2=>some (.inr (r.Rise,r.Fall,a7,a2,0))) (fun a7=>none))=some ap:=by rcases ar with rfl | rfl <;> exact hF
    refine dj _ _ ?_
    refine wp_seq_k fun K16 c2=>zS fun K h=>zL hf hc nE m5 rfl fun a w hf hc=>?_
    obtain ⟨af,cb,hF⟩:=aC hF
    obtain ⟨G1,a0,au,hc,aj⟩:=lend hc k3
    refine zC hf aLr rfl (sB (⟨r,X⟩:oY) true (d.mono a0) au (hc.pick k2) cb) ?_
    rintro _ w ⟨av,az,rfl,hc⟩
    refine ⟨_,rfl,fun a hf=>?_⟩
    replace hc:=aj _ _ hc
    refine zT h ?_
    obtain ⟨bt,cj,hF⟩:=aC hF
    replace hc:=(((((hc.drop k5).drop k4).pick k0).pick k3).pick k3).pick k3
    refine aI6 (C:=[.box av [pq I] 134,.box az [.bool af] 4]) (C2:=[.box av [pq I] 134,.box az [.bool af] 4]) (L0:=[.box I [i6 r.Rise,i6 r.Fall,.slice D r.Days.length H,.slice U X.length O] 138,.row U O (X.map aJ) 29 2,.box Y [.func (.func 113) #[] #[pq R]] 206,.box R [pq I] 134]) (Lf:=(nI (D_1::[])++Lf)) (encs:=fun x:(Int × Int)=>[i6 x.1,i6 x.2]) (fun (zz:(List aF)) L=>zz.length=X.length∧L=[.box I [i6 r.Rise,i6 r.Fall,.slice D r.Days.length H,.slice U zz.length O] 138,.row U O (zz.map aJ) 29 2,.box Y [.func (.func 113) #[] #[pq R]] 206,.box R [pq I] 134]) (fun (zz:(List aF)) (ag:(Int × Int))=>lU N r X zz ag.1 ag.2) X bt hf hc rfl aKq (fun _=>rfl) rfl ⟨rfl,rfl⟩ ?_ ?_ ?_ ?_
    ·intro lq mq J L Lx w hy hQ hJ hc
     have a6:∀ (zz:(List aF)) (M:List Ent),(fun (zz:(List aF)) L=>zz.length=X.length∧L=[.box I [i6 r.Rise,i6 r.Fall,.slice D r.Days.length H,.slice U zz.length O] 138,.row U O (zz.map aJ) 29 2,.box Y [.func (.func 113) #[] #[pq R]] 206,.box R [pq I] 134]) zz M→∃ A B,M=A++(.box I [i6 r.Rise,i6 r.Fall,.slice D r.Days.length H,.slice U X.length O] 138::B):=by
      rintro Z _ ⟨a1,rfl⟩
      try rw [show _=_ from a1]
      exact ⟨[],_,rfl⟩
     exact qP r.Rise r.Fall r.Days af d J _ hy _ hJ (hQ _ a6) hc cj
    ·clear hF hf hc
     rintro lq mq Z ⟨t,aq⟩ oq _ Lr Lb a w di ⟨a1,rfl⟩ hF hf hc hK
     replace hf:Has 118 a [(6,pq R),(9,pq Y),(79,i6 t),(80,i6 aq)]:=hf.kp rfl
     replace hc:Ctx G (.box I [i6 r.Rise,i6 r.Fall,.slice D r.Days.length H,.slice U Z.length O] 138::.row U O (Z.map aJ) 29 2::.box Y [.func (.func 113) #[] #[pq R]] 206::.box R [pq I] 134::Lr) w:=hc
     replace hF:lU N r X Z t aq=some oq:=hF
     unfold lU at hF
     refine sE fun K19 db=>sP (fun _ _ h=>h) rfl ?_
     refine sp 1 hf rfl fun a hf=>aQ ?_
     refine db _ _ ?_
     refine sP (fun _ _ h=>h) rfl ?_
     refine sp 1 hf rfl fun a hf=>aQ ?_
     refine hK _ _ [.box I [i6 r.Rise,i6 r.Fall,.slice D r.Days.length H,.slice U Z.length O] 138,.row U O (Z.map aJ) 29 2,.box Y [.func (.func 113) #[] #[pq R]] 206,.box R [pq I] 134] hc fun w hc=>?_
     replace hc:Ctx G (.box I [i6 r.Rise,i6 r.Fall,.slice D r.Days.length H,.slice U Z.length O] 138::.row U O (Z.map aJ) 29 2::.box Y [.func (.func 113) #[] #[pq R]] 206::.box R [pq I] 134::Lb) w:=hc
     refine xA fun K20 c5=>vZ ?_
     obtain ⟨b2,ca,hF⟩:=aC hF
     have bx:=hf
     obtain ⟨z,rfl,cy,cq⟩:=iJ hc m1 ca
     have hf:=bx
     obtain ⟨bc,cm,hF⟩:=aC hF
     obtain ⟨cp,ck⟩:=jX hc m1 cm
     obtain ⟨a4,cu,hF⟩:=aC hF
     refine xP (fun _ _ h=>h) rfl (fun θ=>(⟨none,none,6,pq R⟩::⟨none,none,9,pq Y⟩::⟨none,none,12,i6 t⟩::⟨none,none,13,i6 aq⟩::⟨some 0,none,81,.func (.func 113) #[] #[pq R]⟩::⟨some 1,none,82,i6 aq⟩::⟨some 2,none,83,pq I⟩::⟨some 3,none,84,pq I⟩::⟨some 4,none,85,.pointer (some ⟨I,3,none⟩)⟩::⟨some 5,none,86,.slice (some ⟨z,0,none⟩) Z.length O⟩::⟨some 6,none,87,i6 t⟩::⟨some 7,none,88,.pointer (some ⟨z,t.toNat * 2,none⟩)⟩::⟨some 8,none,89,.pointer (some ⟨z,t.toNat * 2 + 0,none⟩)⟩::⟨some 9,none,90,i6 b2.Lo⟩::⟨some 10,none,91,pq I⟩::⟨some 11,none,92,pq I⟩::⟨some 12,none,93,pq I⟩::⟨some 13,none,94,pq I⟩::⟨some 14,none,95,i6 r.Rise⟩::⟨some 15,none,96,i6 (W (b2.Lo - r.Rise))⟩::⟨some 16,none,97,pq I⟩::⟨some 17,none,98,pq I⟩::⟨some 18,none,99,.pointer (some ⟨I,3,none⟩)⟩::⟨some 19,none,100,.slice (some ⟨z,0,none⟩) Z.length O⟩::⟨some 20,none,101,i6 t⟩::⟨some 21,none,102,.pointer (some ⟨z,t.toNat * 2,none⟩)⟩::⟨some 22,none,103,.pointer (some ⟨z,t.toNat * 2 + 1,none⟩)⟩::⟨some 23,none,104,i6 bc.Hi⟩::⟨some 24,none,105,pq I⟩::⟨some 25,none,106,pq I⟩::⟨some 26,none,107,pq I⟩::⟨some 27,none,108,.pointer (some ⟨I,1,none⟩)⟩::⟨some 28,none,109,i6 r.Fall⟩::⟨some 29,none,110,i6 (W (bc.Hi + r.Fall))⟩::⟨some 30,none,111,.tuple #[]⟩::[])) (fun E θ=>(bif E 30 then .box I [i6 r.Rise,i6 r.Fall,.slice D r.Days.length H,.slice (some ⟨z,0,none⟩) a4.length O] 138 else .box I [i6 r.Rise,i6 r.Fall,.slice D r.Days.length H,.slice (some ⟨z,0,none⟩) Z.length O] 138)::(bif E 30 then .row (some ⟨z,0,none⟩) O (a4.map aJ) 29 2 else .row (some ⟨z,0,none⟩) O (Z.map aJ) 29 2)::.box Y [.func (.func 113) #[] #[pq R]] 206::.box R [pq I] 134::Lb) [(7,5),(8,7),(9,8),(15,9),(30,15),(15,14),(21,19),(22,21),(23,22),(29,23),(30,29),(29,28)] (fun a w=>Has 118 a [(6,pq R),(9,pq Y)]∧Ctx G (.box I [i6 r.Rise,i6 r.Fall,.slice D r.Days.length H,.slice (some ⟨z,0,none⟩) a4.length O] 138::.row (some ⟨z,0,none⟩) O (a4.map aJ) 29 2::.box Y [.func (.func 113) #[] #[pq R]] 206::.box R [pq I] 134::Lb) w) aT (by kernel_rfl) (by kernel_rfl) (dL.of hf ⟨rfl,rfl,rfl,rfl,trivial,trivial,trivial,trivial,trivial,trivial,trivial,trivial,trivial,trivial,trivial,trivial,trivial,trivial,trivial,trivial,trivial,trivial,trivial,trivial,trivial,trivial,trivial,trivial,trivial,trivial,trivial,trivial,trivial,trivial,trivial,trivial⟩) hc ⟨?_,?_,?_,?_,?_,?_,?_,?_,?_,?_,?_,?_,?_,?_,?_,?_,?_,?_,?_,?_,?_,?_,?_,?_,?_,?_,?_,?_,?_,?_,?_,trivial⟩ ?_ ?_
     ·intro E θ a w hD hi hp he hc
      have hf:=he.h0.mT he 1 rfl
      refine zL hf hc aNg m2 rfl fun a w hf hc=>zD θ he hi hf 4 rfl rfl rfl hc
     ·intro E θ a w hD hi hp he hc
      have hf:=he.h0.mT he 3 rfl
      refine sp 1 hf rfl fun a hf=>zD θ he hi hf 5 rfl rfl rfl hc
     ·intro E θ a w hD hi hp he hc
      have hf:=he.h0.mT he 0 rfl
      refine zL hf hc nE m3 rfl fun a w hf hc=>zD θ he hi hf 6 rfl rfl rfl hc
     ·intro E θ a w hD hi hp he hc
      have e2:=hp.o 2 rfl
      have hf:=he.h0.mP he 6 rfl e2
      refine sp 1 hf rfl fun a hf=>zD θ he hi hf 7 rfl rfl rfl hc
     ·intro E θ a w hD hi hp he hc
      have e3:=hp.o 3 rfl
      have hf:=he.h0.mP he 7 rfl e3
      refine zP hf rfl (pFA pN rfl) fun a hf=>zD θ he hi hf 8 rfl rfl rfl hc
     ·intro E θ a w hD hi hp he hc
      have e4:=hp.o 4 rfl
      have e7:=hD.f 0 rfl hi
      have e8:=hD.f 1 rfl e7
      have e9:=hD.f 2 rfl e8
      have m:=hD.f 3 rfl e9
      have V:=hD.f 4 rfl m
      try dsimp only at hc
      rw [V] at hc
      have hf:=he.h0.mP he 8 rfl e4
      refine zL hf hc sA m0 rfl fun a w hf hc=>zD θ he hi hf 9 rfl rfl rfl ?_
      try dsimp only
      rw [aS 5 V rfl]
      exact hc
     ·intro E θ a w hD hi hp he hc
      have hf:=he.h0.mT he 2 rfl
      refine sp 1 hf rfl fun a hf=>zD θ he hi hf 10 rfl rfl rfl hc
     ·intro E θ a w hD hi hp he hc
      have e5:=hp.o 5 rfl
      have e6:=hp.o 6 rfl
      have e8:=hD.f 1 rfl hi
      have e9:=hD.f 2 rfl e8
      have m:=hD.f 3 rfl e9
      have V:=hD.f 4 rfl m
      try dsimp only at hc
      rw [V] at hc
      have hf:=(he.h0.mP he 9 rfl e5).mP he 10 rfl e6
      refine zP hf rfl (pIA Tryz.underlying35 fS rfl rfl cy) fun a hf=>zD θ he hi hf 11 rfl rfl rfl ?_
      try dsimp only
      rw [aS 7 V rfl]
      exact hc
     ·intro E θ a w hD hi hp he hc
      have e7:=hp.o 7 rfl
      have hf:=he.h0.mP he 11 rfl e7
      refine zP hf rfl (pFA iH rfl) fun a hf=>zD θ he hi hf 12 rfl rfl rfl hc
     ·intro E θ a w hD hi hp he hc
      have e8:=hp.o 8 rfl
      have m:=hD.f 3 rfl hi
      have V:=hD.f 4 rfl m
      try dsimp only at hc
      rw [V] at hc
      have hf:=he.h0.mP he 12 rfl e8
      refine zE hf hc rfl (cV aX rfl (eI (sz:=2) (i:=t.toNat) (j:=0) m1 cq rfl)) fun a w hf hc=>zD θ he hi hf 13 rfl rfl rfl ?_
      try dsimp only
      rw [aS 9 V rfl]
      exact hc
     ·intro E θ a w hD hi hp he hc
      have hf:=he.h0.mT he 0 rfl
      refine zL hf hc nE m3 rfl fun a w hf hc=>zD θ he hi hf 14 rfl rfl rfl hc
     ·intro E θ a w hD hi hp he hc
      have a3:=hp.o 10 rfl
      have hf:=he.h0.mP he 14 rfl a3
      refine sp 1 hf rfl fun a hf=>zD θ he hi hf 15 rfl rfl rfl hc
     ·intro E θ a w hD hi hp he hc
      have ac:=hp.o 11 rfl
      have hf:=he.h0.mP he 15 rfl ac
      refine zP hf rfl (pFA sS rfl) fun a hf=>zD θ he hi hf 16 rfl rfl rfl hc
     ·intro E θ a w hD hi hp he hc
      have b3:=hp.o 12 rfl
      have hf:=he.h0.mP he 16 rfl b3
      refine zP hf rfl (pFA aGf rfl) fun a hf=>zD θ he hi hf 17 rfl rfl rfl hc
     ·intro E θ a w hD hi hp he hc
      have bm:=hp.o 13 rfl
      have m:=hD.f 5 rfl hi
      have V:=hD.f 4 rfl m
      try dsimp only at hc
      rw [V] at hc
      have hf:=he.h0.mP he 17 rfl bm
      refine zL hf hc aX m0 rfl fun a w hf hc=>zD θ he hi hf 18 rfl rfl rfl ?_
      try dsimp only
      rw [aS 14 V rfl]
      exact hc
     ·intro E θ a w hD hi hp he hc
      have e9:=hp.o 9 rfl
      have bg:=hp.o 14 rfl
      have hf:=(he.h0.mP he 13 rfl e9).mP he 18 rfl bg
      refine sp 1 hf rfl fun a hf=>zD θ he hi hf 19 rfl rfl rfl hc
     ·intro E θ a w hD hi hp he hc
      have hf:=he.h0.mT he 0 rfl
      refine zL hf hc nE m3 rfl fun a w hf hc=>zD θ he hi hf 20 rfl rfl rfl hc
     ·intro E θ a w hD hi hp he hc
      have bf:=hp.o 16 rfl
      have hf:=he.h0.mP he 20 rfl bf
      refine sp 1 hf rfl fun a hf=>zD θ he hi hf 21 rfl rfl rfl hc
     ·intro E θ a w hD hi hp he hc
      have bs:=hp.o 17 rfl
      have hf:=he.h0.mP he 21 rfl bs
      refine zP hf rfl (pFA pN rfl) fun a hf=>zD θ he hi hf 22 rfl rfl rfl hc
     ·intro E θ a w hD hi hp he hc
      have bd:=hp.o 18 rfl
      have an:=hD.f 6 rfl hi
      have ab:=hD.f 7 rfl an
      have aa:=hD.f 8 rfl ab
      have q:=hD.f 9 rfl aa
      have V:=hD.f 10 rfl q
      try dsimp only at hc
      rw [V] at hc
      have hf:=he.h0.mP he 22 rfl bd
      refine zL hf hc sA m0 rfl fun a w hf hc=>zD θ he hi hf 23 rfl rfl rfl ?_
      try dsimp only
      rw [aS 19 V rfl]
      exact hc
     ·intro E θ a w hD hi hp he hc
      have hf:=he.h0.mT he 2 rfl
      refine sp 1 hf rfl fun a hf=>zD θ he hi hf 24 rfl rfl rfl hc
     ·intro E θ a w hD hi hp he hc
      have bz:=hp.o 19 rfl
      have bv:=hp.o 20 rfl
      have ab:=hD.f 7 rfl hi
      have aa:=hD.f 8 rfl ab
      have q:=hD.f 9 rfl aa
      have V:=hD.f 10 rfl q
      try dsimp only at hc
      rw [V] at hc
      have hf:=(he.h0.mP he 23 rfl bz).mP he 24 rfl bv
      refine zP hf rfl (pIA Tryz.underlying35 fS rfl rfl cp) fun a hf=>zD θ he hi hf 25 rfl rfl rfl ?_
      try dsimp only
      rw [aS 21 V rfl]
      exact hc
     ·intro E θ a w hD hi hp he hc
      have an:=hp.o 21 rfl
      have hf:=he.h0.mP he 25 rfl an
      refine zP hf rfl (pFA fQ rfl) fun a hf=>zD θ he hi hf 26 rfl rfl rfl hc
     ·intro E θ a w hD hi hp he hc
      have ab:=hp.o 22 rfl
      have q:=hD.f 9 rfl hi
      have V:=hD.f 10 rfl q
      try dsimp only at hc
      rw [V] at hc
      have hf:=he.h0.mP he 26 rfl ab
      refine zE hf hc rfl (cV aX rfl (eI (sz:=2) (i:=t.toNat) (j:=1) m1 ck rfl)) fun a w hf hc=>zD θ he hi hf 27 rfl rfl rfl ?_
      try dsimp only
      rw [aS 23 V rfl]
      exact hc
     ·intro E θ a w hD hi hp he hc
      have hf:=he.h0.mT he 0 rfl
      refine zL hf hc nE m3 rfl fun a w hf hc=>zD θ he hi hf 28 rfl rfl rfl hc
     ·intro E θ a w hD hi hp he hc
      have bi:=hp.o 24 rfl
      have hf:=he.h0.mP he 28 rfl bi
      refine sp 1 hf rfl fun a hf=>zD θ he hi hf 29 rfl rfl rfl hc
     ·intro E θ a w hD hi hp he hc
      have bq:=hp.o 25 rfl
      have hf:=he.h0.mP he 29 rfl bq
      refine zP hf rfl (pFA sS rfl) fun a hf=>zD θ he hi hf 30 rfl rfl rfl hc
     ·intro E θ a w hD hi hp he hc
      have bn:=hp.o 26 rfl
      have hf:=he.h0.mP he 30 rfl bn
      refine zP hf rfl (pFA aGb rfl) fun a hf=>zD θ he hi hf 31 rfl rfl rfl hc
     ·intro E θ a w hD hi hp he hc
      have b0:=hp.o 27 rfl
      have q:=hD.f 11 rfl hi
      have V:=hD.f 10 rfl q
      try dsimp only at hc
      rw [V] at hc
      have hf:=he.h0.mP he 31 rfl b0
      refine zL hf hc aX m0 rfl fun a w hf hc=>zD θ he hi hf 32 rfl rfl rfl ?_
      try dsimp only
      rw [aS 28 V rfl]
      exact hc
     ·intro E θ a w hD hi hp he hc
      have aa:=hp.o 23 rfl
      have bj:=hp.o 28 rfl
      have hf:=(he.h0.mP he 27 rfl aa).mP he 32 rfl bj
      refine sp 1 hf rfl fun a hf=>zD θ he hi hf 33 rfl rfl rfl hc
     ·intro E θ a w hD hi hp he hc
      have e0:=hp.o 0 rfl
      have e1:=hp.o 1 rfl
      have m:=hp.o 15 rfl
      have q:=hp.o 29 rfl
      try dsimp only at hc
      rw [hi] at hc
      have hf:=(((he.h0.mP he 4 rfl e0).mP he 5 rfl e1).mP he 19 rfl m).mP he 33 rfl q
      refine zC hf aLa rfl (tN aq (W (b2.Lo - r.Rise)) (W (bc.Hi + r.Fall)) r.Rise r.Fall r.Days Z d (((hc.pick k1).pick k1).pick k3) cu) ?_
      rintro _ w ⟨rfl,b1,hc⟩
      refine ⟨_,rfl,fun a hf=>?_⟩
      try rw [← b1] at hf
      try rw [← b1] at hc
      refine aQ ?_
      refine bV ?_
      intro ds u am
      replace hc:=(((hc.pick k0).pick k3).pick k3).pick k3
      refine ⟨θ,he.put0 hi am hf rfl 34 rfl rfl,?_⟩
      try dsimp only
      rw [aN E 30]
      exact hc
     ·intro E θ a w ad he hc
      have hf:=he.h0
      have V:=ad 30 rfl
      replace hf:=hf.more he 1 rfl (onT)
      replace hf:=hf.more he 0 rfl (onT)
      try dsimp only at hc
      rw [V] at hc
      exact ⟨hf.kp rfl,hc⟩
     rintro a w ⟨hf,hc⟩
     refine c5 _ _ ?_
     obtain ⟨_,cr,hF⟩:=rM hF
     exact ⟨a4,_,(sj hF).symm,⟨cr,rfl⟩,hc⟩
    ·rintro D_2 Z _ a w ar ⟨a1,rfl⟩ hf hc
     replace hf:Has ⟨118,lK (D_2::(D_1::[]))⟩ a [(6,pq R),(9,pq Y)]:=hf.kp rfl
     replace hc:Ctx G (.box av [pq I] 134::.box az [.bool af] 4::.box I [i6 r.Rise,i6 r.Fall,.slice D r.Days.length H,.slice U Z.length O] 138::.row U O (Z.map aJ) 29 2::.box Y [.func (.func 113) #[] #[pq R]] 206::.box R [pq I] 134::(nI (D_2::(D_1::[]))++Lf)) w:=pK (C:=[.box av [pq I] 134,.box az [.bool af] 4]) (L:=[.box I [i6 r.Rise,i6 r.Fall,.slice D r.Days.length H,.slice U Z.length O] 138,.row U O (Z.map aJ) 29 2,.box Y [.func (.func 113) #[] #[pq R]] 206,.box R [pq I] 134]) hc
     replace hF:(Option.bind (iS N Z) fun a2=>some (.inr (r.Rise,r.Fall,Z,a2,0)))=some ap:=by rcases ar with rfl | rfl <;> exact hF
     refine c2 _ _ ?_
     refine wp_seq_k fun K21 c1=>?_
     obtain ⟨a2,cn,hF⟩:=aC hF
     refine cQ hc aT (by kernel_rfl) ?_
     refine qE hf rfl rfl rfl (cV nE rfl (bQ m5 rfl)) fun a hf=>qE hf rfl rfl rfl (cV nE rfl (bQ m5 rfl)) fun a hf=>qE hf rfl rfl rfl (Pu.ev (pNC rfl)) fun a hf=>qE hf rfl rfl rfl (Pu.ev (pFA pN rfl)) fun a hf=>qE hf rfl rfl rfl (cV sA rfl (bQ m2 rfl)) fun a hf=>qE hf rfl rfl rfl (eC (v:=.bool a2) (vs:=[.slice U Z.length O,.func (.func 116) #[] #[]]) (caps:=[]) aQo rfl rfl rfl rfl (fun w hc=>by obtain ⟨G1,a0,au,hc,aj⟩:=lend hc k3; exact (uP Z au hc cn).mono fun e w h=>⟨h.1,((aj _ _ h.2).unpick k3)⟩)) fun a hf=>qE hf rfl rfl rfl (Pu.ev (pA rfl)) fun a hf=>qE hf rfl rfl rfl (Pu.ev (pA rfl)) fun a hf=>qE hf rfl rfl rfl (Pu.ev (pA rfl)) fun a hf=>?_
     intro w hc
     refine c1 _ _ ?_
     refine wp_ret ?_
     obtain rfl:=sj hF
     replace hc:=(((((hc.drop k5).drop k4).drop k1).drop k0).pick k0).pick k1
     refine aFx hf ?_
     refine aAd [.row U O (Z.map aJ) 29 2,.box I [i6 r.Rise,i6 r.Fall,.slice D r.Days.length H,.slice U Z.length O] 138] (D_2::(D_1::[])) hc fun w hc=>?_
     replace hc:Ctx G (.row U O (Z.map aJ) 29 2::.box I [i6 r.Rise,i6 r.Fall,.slice D r.Days.length H,.slice U Z.length O] 138::Lf) w:=hc
     exact aOw Tryz.results84 hf hc (show iK _ 2=_ from rfl) (show iK _ 3=_ from rfl) (show iK _ 4=_ from rfl) ⟨I,U,O,rfl,hc⟩
    ·rintro D_2 Z _ a w ar ⟨a1,rfl⟩ hf hc
     replace hf:Has ⟨118,lK (D_2::(D_1::[]))⟩ a [(6,pq R),(9,pq Y)]:=hf.kp rfl
     replace hc:Ctx G (.box av [pq I] 134::.box az [.bool af] 4::.box I [i6 r.Rise,i6 r.Fall,.slice D r.Days.length H,.slice U Z.length O] 138::.row U O (Z.map aJ) 29 2::.box Y [.func (.func 113) #[] #[pq R]] 206::.box R [pq I] 134::(nI (D_2::(D_1::[]))++Lf)) w:=pK (C:=[.box av [pq I] 134,.box az [.bool af] 4]) (L:=[.box I [i6 r.Rise,i6 r.Fall,.slice D r.Days.length H,.slice U Z.length O] 138,.row U O (Z.map aJ) 29 2,.box Y [.func (.func 113) #[] #[pq R]] 206,.box R [pq I] 134]) hc
     replace hF:(none)=some ap:=by subst ar; exact hF
     cases hF
   ·rintro D_1 X _ a w ar ⟨hl,rfl⟩ hf hc
    replace hf:Has ⟨118,lK (D_1::[])⟩ a [(6,pq R),(9,pq Y)]:=hf.kp rfl
    replace hc:Ctx G (.box ay [pq I] 134::.box ax [.bool ai] 4::.box I [i6 r.Rise,i6 r.Fall,.slice D r.Days.length H,.slice U X.length O] 138::.row U O (X.map aJ) 29 2::.box Y [.func (.func 113) #[] #[pq R]] 206::.box R [pq I] 134::(nI (D_1::[])++Lf)) w:=pK (C:=[.box ay [pq I] 134,.box ax [.bool ai] 4]) (L:=[.box I [i6 r.Rise,i6 r.Fall,.slice D r.Days.length H,.slice U X.length O] 138,.row U O (X.map aJ) 29 2,.box Y [.func (.func 113) #[] #[pq R]] 206,.box R [pq I] 134]) hc
    replace hF:(none)=some ap:=by subst ar; exact hF
    cases hF
  have dn:∀ r,x9=.out r→r=ap:=by
   rintro r rfl
   exact sj hF
  replace hc:=hc.nilRow 29 2
  replace hc:=hc.drop k3
  refine dQ N (dP (S:=S9) (x:=x9) ?_ N (0,([]:List aF)) _ _ ⟨none,0,hf.kp rfl,hc⟩ dc)
  clear hF hf hc
  rintro ⟨x,k⟩ dk a w KB9 ⟨U,O,hf,hc⟩ hF ba dg
  unfold wE at hF
  refine zS fun K h=>sp 1 hf rfl fun a hf=>zT h ?_
  refine wp_seq_k fun K23 c3=>zI hf rfl hF ?_ ?_ <;> clear hF <;> intro hF
  ·refine wp_skip ?_
   refine c3 _ _ ?_
   refine wp_seq_k fun K24 da=>wp_block ?_
   refine zS fun K h=>?_
   obtain ⟨y,cg,hF⟩:=aC hF
   obtain ⟨dm,o,cz,qp⟩:=d.atm cg
   refine zP hf rfl (pIA Tryz.underlying97 aF9 rfl rfl cz) fun a hf=>zE hf hc rfl (kK (vs:=[.bool y.Known,i6 y.Flow.Lo,i6 y.Flow.Hi]) aEg rfl rfl (dF qp (n:=3) (o':=0) rfl)) fun a w hf hc=>zA hf hc aL0 rfl fun a8 a w hf hc=>zW hf hc aF9 u0 rfl fun w hc=>zT h ?_
   obtain ⟨s,cx,hF⟩:=aC hF
   obtain ⟨un,c9,hF⟩:=aC hF
   replace hc:=hc.nilRow 0 0
   refine cU (fun θ=>[⟨none,none,6,pq R⟩,⟨none,none,8,pq a8⟩,⟨none,none,23,.slice D r.Days.length H⟩,⟨none,none,24,i6 ((r.Days.length:Nat):Int)⟩,⟨none,none,25,i6 x⟩,⟨some 0,none,29,pq I⟩,⟨some 1,none,30,pq I⟩,⟨some 2,none,31,pq I⟩,⟨some 3,none,32,.pointer (some ⟨I,3,none⟩)⟩,⟨some 4,none,33,.slice U k.length O⟩,⟨some 5,none,34,.agg #[.bool y.Known,i6 y.Flow.Lo,i6 y.Flow.Hi]⟩,⟨some 6,none,35,.agg #[i6 s.Lo,i6 s.Hi]⟩,⟨some 7,none,36,.slice (some ⟨(θ 56).b,0,none⟩) 1 1⟩,⟨some 8,none,37,.slice ((θ 64).p) ((k++[s]).length) ((θ 64).c)⟩,⟨some 9,none,38,pq I⟩,⟨some 10,none,39,.pointer (some ⟨I,3,none⟩)⟩]) (fun E θ=>(bif E 7 then .row (some ⟨(θ 56).b,0,none⟩) 1 (([s]:List aF).map aJ) 29 2 else .row none 0 [] 0 0)::.box a8 [.bool y.Known,i6 y.Flow.Lo,i6 y.Flow.Hi] 146::(bif E 8 then .row ((θ 64).p) ((θ 64).c) ((k++[s]).map aJ) 29 2 else .row U O (k.map aJ) 29 2)::.box R [pq I] 134::(bif E 11 then .box I [i6 r.Rise,i6 r.Fall,.slice D r.Days.length H,.slice ((θ 64).p) ((k++[s]).length) ((θ 64).c)] 138 else .box I [i6 r.Rise,i6 r.Fall,.slice D r.Days.length H,.slice U k.length O] 138)::Lf) [(11,4),(11,8)] (fun a w=>∃ (bk:Nat) (a9:Option Addr) (bb:Nat),Has 118 a [(6,pq R),(23,.slice D r.Days.length H),(24,i6 ((r.Days.length:Nat):Int)),(25,i6 x)]∧Ctx G (.row (some ⟨bk,0,none⟩) 1 (([s]:List aF).map aJ) 29 2::.box a8 [.bool y.Known,i6 y.Flow.Lo,i6 y.Flow.Hi] 146::.row a9 bb ((k++[s]).map aJ) 29 2::.box R [pq I] 134::.box I [i6 r.Rise,i6 r.Fall,.slice D r.Days.length H,.slice a9 ((k++[s]).length) bb] 138::Lf) w) aT (by kernel_rfl) (by kernel_rfl) (dL.of hf ⟨rfl,rfl,rfl,rfl,rfl,trivial,trivial,trivial,trivial,trivial,trivial,trivial,trivial,trivial,trivial,trivial,trivial⟩) hc ⟨?_,?_,?_,?_,?_,?_,?_,?_,?_,?_,?_,?_,trivial⟩ ?_ ?_
   ·intro E θ a w hD hi hp he hc
    have hf:=he.h0.mT he 0 rfl
    refine zL hf hc nE m3 rfl fun a w hf hc=>zD θ he hi hf 5 rfl rfl rfl hc
   ·intro E θ a w hD hi hp he hc
    have hf:=he.h0.mT he 0 rfl
    refine zL hf hc nE m3 rfl fun a w hf hc=>zD θ he hi hf 6 rfl rfl rfl hc
   ·intro E θ a w hD hi hp he hc
    have e1:=hp.o 1 rfl
    have hf:=he.h0.mP he 6 rfl e1
    refine sp 1 hf rfl fun a hf=>zD θ he hi hf 7 rfl rfl rfl hc
   ·intro E θ a w hD hi hp he hc
    have e2:=hp.o 2 rfl
    have hf:=he.h0.mP he 7 rfl e2
    refine zP hf rfl (pFA pN rfl) fun a hf=>zD θ he hi hf 8 rfl rfl rfl hc
   ·intro E θ a w hD hi hp he hc
    have e3:=hp.o 3 rfl
    have ac:=hD.f 0 rfl hi
    try dsimp only at hc
    rw [ac] at hc
    have hf:=he.h0.mP he 8 rfl e3
    refine zL hf hc sA m4 rfl fun a w hf hc=>zD θ he hi hf 9 rfl rfl rfl ?_
    try dsimp only
    rw [aS 4 ac rfl]
    exact hc
   ·intro E θ a w hD hi hp he hc
    have hf:=he.h0.mT he 1 rfl
    refine zN hf hc aEg m1 rfl fun a w hf hc=>zD θ he hi hf 10 rfl rfl rfl hc
   ·intro E θ a w hD hi hp he hc
    have e5:=hp.o 5 rfl
    have hf:=he.h0.mP he 10 rfl e5
    refine zQ (v:=.agg #[i6 s.Lo,i6 s.Hi]) hf hc aO7 rfl (fun w hc=>yG y hc cx) fun a w hf hc=>zD θ he hi hf 11 rfl rfl rfl hc
   ·intro E θ a w hD hi hp he hc
    have e6:=hp.o 6 rfl
    try dsimp only at hc
    rw [hi] at hc
    have hf:=he.h0.mP he 11 rfl e6
    refine oJ (rows:=([s]:List aF).map aJ) (vs:=[(0,.agg #[i6 s.Lo,i6 s.Hi])]) hf hc rfl rfl yK rfl ⟨rfl,rfl,rfl,trivial⟩ rfl rfl fun cs a w hf hc=>aQ ?_
    refine bV ?_
    intro ds u am
    replace hc:=hc.drop k1
    refine ⟨(hZ θ 56 ⟨cs,none,0,(fun _=>(none,0))⟩),he.put hi am hf rfl [] trivial ⟨qq,qq,qq,qq,qq,qq,qq,qq,qq,qq,qq,qq,qq,qq,qq,qq,trivial⟩,?_⟩
    try dsimp only
    rw [aN E 7]
    exact hc
   ·intro E θ a w hD hi hp he hc
    have e4:=hp.o 4 rfl
    have e7:=hp.o 7 rfl
    have ac:=hD.f 1 rfl hi
    try dsimp only at hc
    rw [e7,hi,ac] at hc
    have hf:=(he.h0.mP he 9 rfl e4).mP he 12 rfl e7
    refine lO (xs:=k) (ys:=([s]:List aF)) hf hc rfl rfl yK rfl rfl rfl rfl rfl iO (fM hc m0) (fun _ _=>u2) (by simpa using dB c9) fun c0 c6 a w hf hc=>aQ ?_
    refine bV ?_
    intro ds u am
    refine ⟨(hZ θ 64 ⟨0,c0,c6,(fun _=>(none,0))⟩),he.put hi am hf rfl [] trivial ⟨qq,qq,qq,qq,qq,qq,qq,qq,qq,qq,qq,qq,qq,qq,qq,qq,trivial⟩,?_⟩
    try dsimp only
    rw [cB 8 e7,aN E 8,aS 8 ac rfl]
    exact hc
   ·intro E θ a w hD hi hp he hc
    have e0:=hp.o 0 rfl
    have hf:=he.h0.mP he 5 rfl e0
    refine sp 1 hf rfl fun a hf=>zD θ he hi hf 14 rfl rfl rfl hc
   ·intro E θ a w hD hi hp he hc
    have e9:=hp.o 9 rfl
    have hf:=he.h0.mP he 14 rfl e9
    refine zP hf rfl (pFA pN rfl) fun a hf=>zD θ he hi hf 15 rfl rfl rfl hc
   ·intro E θ a w hD hi hp he hc
    have e8:=hp.o 8 rfl
    have a3:=hp.o 10 rfl
    try dsimp only at hc
    rw [hi] at hc
    have hf:=(he.h0.mP he 13 rfl e8).mP he 15 rfl a3
    refine zW hf hc aOo u4 rfl fun w hc=>zG θ he hi hf rfl ?_
    try dsimp only
    rw [aN E 11]
    exact hc
   ·intro E θ a w ad he hc
    have hf:=he.h0
    have e7:=ad 7 rfl
    have e8:=ad 8 rfl
    have ac:=ad 11 rfl
    replace hf:=hf.more he 4 rfl (onT)
    replace hf:=hf.more he 3 rfl (onT)
    replace hf:=hf.more he 2 rfl (onT)
    replace hf:=hf.more he 0 rfl (onT)
    try dsimp only at hc
    rw [e7,e8,ac] at hc
    exact ⟨(θ 56).b,(θ 64).p,(θ 64).c,hf.kp rfl,hc⟩
   rintro a w ⟨bk,a9,bb,hf,hc⟩
   refine da _ _ ?_
   refine cX ?_
   refine sp 2 hf rfl fun a hf=>aQ ?_
   replace hc:=(hc.drop k1).drop k0
   exact dg (W (x + 1),(k++[s])) _ _ (sj hF).symm ⟨a9,bb,hf.kp rfl,hc⟩
  ·refine wp_exit ?_
   refine bI ?_
   refine bI ?_
   have he:=sj hF
   rw [← he] at ba
   refine fB ?_
   exact dd _ _ _ ba ⟨U,O,hf.kp rfl,hc⟩

def oU (N:Nat) (B:Int):Option ((Int) ⊕ (Int × Int × (List aF) × Int)) :=
 some (.inl B)
def oT (N:Nat) (B:Int × Int × (List aF) × Bool × Int) (D:Int):Option ((Int) ⊕ (Int × Int × (List aF) × Int)) :=
 some (.inr (B.1,B.2.1,B.2.2.1,D))
def vL (N:Nat) (r:eN):Option ((Int) ⊕ (Int × Int × (List aF) × Int)) :=
 Option.bind (vI N r) (aAb (fun D=>cond ((D.2 == 0) && (!D.1))
 (oU N 7)
 (oU N D.2))
 (fun B=>cond ((B.2.2.2.2 == 0) && (!B.2.2.2.1))
 (oT N B 7)
 (oT N B B.2.2.2.2)))
theorem wD {N:Nat} {G:bA} {Lf:List Ent} {w:World} (r:eN) {H:Option Addr} {D:Nat} (J:Rd G 3 H D (r.Days.map dD)) (hc:Ctx G (Lf) w) {M:(Int) ⊕ (Int × Int × (List aF) × Int)} (hF:vL N r=some M):Calls Tryz.prog 52 #[.agg #[i6 r.Rise,i6 r.Fall,.slice H r.Days.length D]] w (fun e w=>aAb (fun rr=>e=.returned (.tuple #[.pointer none,i6 rr])∧Ctx G (Lf) w) (fun rr=>∃ (b:Nat) (d:Option Addr) (g:Nat),e=.returned (.tuple #[pq b,i6 rr.2.2.2])∧Ctx G (.row d g (rr.2.2.1.map aJ) 29 2::.box b [i6 rr.1,i6 rr.2.1,.slice H r.Days.length D,.slice d rr.2.2.1.length g] 138::Lf) w) M):=by
 unfold vL at hF
 refine cC Tryz.func52 rfl Tryz.ntmps52 rfl fun a hf=>zS fun K h=>zB hf hc rfl fun j a w hf hc=>sp 2 hf rfl fun a hf=>zT h ?_
 refine zS fun K h=>zN hf hc aFn m0 rfl fun a w hf hc=>?_
 obtain ⟨I,S,hF⟩:=aC hF
 cases I with
 | inl I=>
  replace hF:=aE0 hF
  refine zC hf aNv rfl (wC r J hc S) ?_
  rintro _ w ⟨rfl,hc⟩
  refine ⟨_,rfl,fun a hf=>?_⟩
  refine sp 7 hf rfl fun a hf=>zT h ?_
  refine wp_seq_k fun K3 h3=>?_
  have Z:∀ (U:Int) a w,Has 21 a [(4,.pointer none),(6,i6 U)]→Ctx G (Lf) w→oU N U=some M→K3 a w:=by
   repeat (clear hF)
   repeat (clear hc)
   repeat (clear hf)
   intro U a w hf hc hF
   unfold oU at hF
   refine h3 _ _ ?_
   refine zS fun K h=>sp 4 hf rfl fun a hf=>zT h ?_
   refine wp_ret ?_
   obtain rfl:=sj hF
   exact zO2 Tryz.results52 hf rfl rfl ⟨rfl,hc⟩
  refine zS fun K h=>sp 3 hf rfl fun a hf=>fL 3 (fun a=>Has 21 a [(4,.pointer none),(5,.bool I.1),(6,i6 I.2),(13,i6 I.2),(14,.bool (I.2 == 0)),(15,.bool (I.2 == 0)),(18,.bool ((I.2 == 0) && (!I.1)))]) hc ?_ ?_
  ·cases hb:(I.2 == 0)
   ·rw [hb] at hf
    refine stS hf rfl rfl rfl fun a hf=>stS hf rfl rfl rfl fun a hf=>sp 1 hf rfl fun a hf=>aQ ⟨hf.kp rfl,hc⟩
   ·rw [hb] at hf
    refine sp 3 hf rfl fun a hf=>aQ ⟨hf.kp rfl,hc⟩
  intro a w ⟨hf,hc⟩
  refine zT h ?_
  refine zI hf rfl hF ?_ ?_ <;> clear hF <;> intro hF
  ·refine cX ?_
   refine sp 1 hf rfl fun a hf=>aQ ?_
   replace hc:=hc.drop k0
   exact Z 7 _ _  (hf.kp rfl) hc hF
  ·refine wp_skip ?_
   replace hc:=hc.drop k0
   exact Z I.2 _ _  (hf.kp rfl) hc hF
 | inr B=>
  replace hF:=aFl hF
  have i:=S
  refine zC hf aNv rfl (wC r J hc i) ?_
  rintro _ w ⟨O,X,R,rfl,hc⟩
  refine ⟨_,rfl,fun a hf=>?_⟩
  refine sp 7 hf rfl fun a hf=>zT h ?_
  refine wp_seq_k fun K6 h6=>?_
  have Y:∀ (V:Int) a w,Has 21 a [(4,pq O),(6,i6 V)]→Ctx G (.row X R (B.2.2.1.map aJ) 29 2::.box O [i6 B.1,i6 B.2.1,.slice H r.Days.length D,.slice X B.2.2.1.length R] 138::Lf) w→oT N B V=some M→K6 a w:=by
   repeat (clear hF)
   repeat (clear hc)
   repeat (clear hf)
   intro V a w hf hc hF
   unfold oT at hF
   refine h6 _ _ ?_
   refine zS fun K h=>sp 4 hf rfl fun a hf=>zT h ?_
   refine wp_ret ?_
   obtain rfl:=sj hF
   exact zO2 Tryz.results52 hf rfl rfl ⟨O,X,R,rfl,hc⟩
  refine zS fun K h=>sp 3 hf rfl fun a hf=>fL 3 (fun a=>Has 21 a [(4,pq O),(5,.bool B.2.2.2.1),(6,i6 B.2.2.2.2),(13,i6 B.2.2.2.2),(14,.bool (B.2.2.2.2 == 0)),(15,.bool (B.2.2.2.2 == 0)),(18,.bool ((B.2.2.2.2 == 0) && (!B.2.2.2.1)))]) hc ?_ ?_
  ·cases hb:(B.2.2.2.2 == 0)
   ·rw [hb] at hf
    refine stS hf rfl rfl rfl fun a hf=>stS hf rfl rfl rfl fun a hf=>sp 1 hf rfl fun a hf=>aQ ⟨hf.kp rfl,hc⟩
   ·rw [hb] at hf
    refine sp 3 hf rfl fun a hf=>aQ ⟨hf.kp rfl,hc⟩
  intro a w ⟨hf,hc⟩
  refine zT h ?_
  refine zI hf rfl hF ?_ ?_ <;> clear hF <;> intro hF
  ·refine cX ?_
   refine sp 1 hf rfl fun a hf=>aQ ?_
   replace hc:=hc.drop k2
   exact Y 7 _ _  (hf.kp rfl) hc hF
  ·refine wp_skip ?_
   replace hc:=hc.drop k2
   exact Y B.2.2.2.2 _ _  (hf.kp rfl) hc hF

def aCs  : Unit :=
 ()
theorem aEm {G:bA} {Lf:List Ent} {w:World}    (hc:Ctx G (Lf) w) {B:Unit} (hF:aCs=B):Calls Tryz.prog 53 #[] w (fun e w=>e=.returned (.agg #[.func (.func 85) #[] #[],.func (.func 86) #[] #[]])∧Ctx G (Lf) w):=by
 unfold aCs at hF
 refine cC Tryz.func53 rfl Tryz.ntmps53 rfl fun a hf=>zS fun K h=>zA hf hc aNa rfl fun D a w hf hc=>zT h ?_
 refine zS fun K h=>zP hf rfl (bJ (cells:=[.func (.func 85) #[] #[]]) aK7 rfl rfl) fun a hf=>zP hf rfl (bJ (cells:=[.func (.func 86) #[] #[]]) aK7 rfl rfl) fun a hf=>zP hf rfl (aIb (cells:=[.func (.func 85) #[] #[],.func (.func 86) #[] #[]]) rfl (by rfl)) fun a hf=>zW hf hc aMz u0 rfl fun w hc=>zT h ?_
 refine wp_ret ?_
 obtain rfl:=hF
 exact nK (by simp) rfl Tryz.results53 hf hc (dX (vs:=[.func (.func 85) #[] #[],.func (.func 86) #[] #[]]) aQm rfl rfl (cE (n:=2) m0 rfl)) ⟨rfl,(hc.drop k0)⟩

def jR (s_:aF):Int :=
 s_.Lo
theorem aBu {G:bA} {Lf:List Ent} {w:World} (s_:aF)   (hc:Ctx G (Lf) w) {B:Int} (hF:jR s_=B):Calls Tryz.prog 85 #[.agg #[i6 s_.Lo,i6 s_.Hi]] w (fun e w=>e=.returned (i6 B)∧Ctx G (Lf) w):=by
 unfold jR at hF
 refine cC Tryz.func85 rfl Tryz.ntmps85 rfl fun a hf=>zS fun K h=>zB hf hc rfl fun D a w hf hc=>sp 1 hf rfl fun a hf=>zT h ?_
 refine zS fun K h=>zP hf rfl (pFA iH rfl) fun a hf=>zL hf hc aX m0 rfl fun a w hf hc=>sp 1 hf rfl fun a hf=>zT h ?_
 refine wp_ret ?_
 obtain rfl:=hF
 replace hc:=hc.drop k0
 exact zO1 Tryz.results85 hf rfl ⟨rfl,hc⟩

def yL (N:Nat) (l:List aF) (out:List Int) (x:Int):Option (dA ((List Int) × Int) ((List Int))) :=
 cond (decide (x < ((l.length:Nat):Int)))
 (Option.bind (cM l x) fun B=>
 Option.bind (nQ ((out++[(jR B)])).length) fun un=>
 some (.cont ((out++[(jR B)]),W (x + 1))))
 (some (.brk (out,x)))
def yM (N:Nat) (l:List aF):Option ((List Int)) :=
 Option.bind (bN (fun s5=>yL N l s5.1 s5.2) N (([]:List Int),0)) fun x5=>
 exK x5 (fun s5=>some s5.1) some
theorem aEq {N:Nat} {G:bA} {Lf:List Ent} {w:World} (l:List aF) {O:Option Addr} {M:Nat} (g:Rd G 2 O M (l.map aJ)) (hc:Ctx G (Lf) w) {J:(List Int)} (hF:yM N l=some J):Calls Tryz.prog 55 #[.slice O l.length M,.agg #[.func (.func 85) #[] #[]]] w (fun e w=>∃ (R:Option Addr) (V:Nat),e=.returned (.slice R J.length V)∧Ctx G (.row R V (J.map aD) 3 1::Lf) w):=by
 unfold yM at hF
 refine cC Tryz.func55 rfl Tryz.ntmps55 rfl fun a hf=>zS fun K h=>zB hf hc rfl fun U a w hf hc=>sp 1 hf rfl fun a hf=>zT h ?_
 refine zS fun K h=>sp 1 hf rfl fun a hf=>zT h ?_
 refine wp_seq_k fun K3 h3=>zS fun K h=>sp 1 hf rfl fun a hf=>zP hf rfl (cP Tryz.underlying35 rfl) fun a hf=>sp 1 hf rfl fun a hf=>zT h ?_
 refine wp_block ?_
 obtain ⟨x5,Z,hF⟩:=aC hF
 let S5:((List Int) × Int)→Act→World→Prop:=(fun (zz:(List Int) × Int) a w=>∃ (H:Option Addr) (D:Nat),Has 23 a [(3,pq U),(5,.slice H zz.1.length D),(8,.slice O l.length M),(9,i6 ((l.length:Nat):Int)),(10,i6 zz.2)]∧Ctx G (.row H D (zz.1.map aD) 3 1::.box U [.func (.func 85) #[] #[]] 140::Lf) w)
 have j:∀ (zz:(List Int) × Int) a w,x5=.go zz→S5 zz a w→K3 a w:=by
  rintro ⟨out,x⟩ a w rfl ⟨H,D,hf,hc⟩
  replace hF:=cJ hF
  refine h3 _ _ ?_
  refine zS fun K h=>sp 2 hf rfl fun a hf=>zT h ?_
  refine wp_ret ?_
  obtain rfl:=sj hF
  replace hc:=hc.drop k1
  exact zO1 Tryz.results55 hf rfl ⟨H,D,rfl,hc⟩
 have s:∀ r,x5=.out r→r=J:=by
  rintro r rfl
  exact sj hF
 replace hc:=hc.nilRow 3 1
 refine dQ N (dP (S:=S5) (x:=x5) ?_ N (([]:List Int),0) _ _ ⟨none,0,hf.kp rfl,hc⟩ Z)
 clear hF hf hc
 rintro ⟨out,x⟩ p a w KB5 ⟨H,D,hf,hc⟩ hF I Y
 unfold yL at hF
 refine zS fun K h=>sp 1 hf rfl fun a hf=>zT h ?_
 refine wp_seq_k fun K8 h8=>zI hf rfl hF ?_ ?_ <;> clear hF <;> intro hF
 ·refine wp_skip ?_
  refine h8 _ _ ?_
  refine wp_seq_k fun K9 h9=>wp_block ?_
  refine zS fun K h=>?_
  obtain ⟨B,X,hF⟩:=aC hF
  obtain ⟨q,o,qa,qp⟩:=g.atm X
  refine zP hf rfl (pIA Tryz.underlying35 fS rfl rfl qa) fun a hf=>zE hf hc rfl (kK (vs:=[i6 B.Lo,i6 B.Hi]) eY rfl rfl (dF qp (n:=2) (o':=0) rfl)) fun a w hf hc=>zA hf hc rE rfl fun m a w hf hc=>zW hf hc fS u0 rfl fun w hc=>zT h ?_
  refine cX ?_
  refine sp 1 hf rfl fun a hf=>zP hf rfl (pFA aGt rfl) fun a hf=>zL hf hc aEv m2 rfl fun a w hf hc=>zN hf hc eY m0 rfl fun a w hf hc=>zQ (v:=i6 (jR B)) hf hc en_85 rfl (fun w hc=>aBu B hc rfl) fun a w hf hc=>oJ (rows:=([(jR B)]:List Int).map aD) (vs:=[(0,i6 (jR B))]) hf hc rfl rfl lQ rfl ⟨rfl,rfl,rfl,trivial⟩ rfl rfl fun k a w hf hc=>?_
  obtain ⟨un,d,hF⟩:=aC hF
  refine lO (xs:=out) (ys:=([(jR B)]:List Int)) hf hc rfl rfl lQ rfl rfl rfl rfl rfl bG (fM hc m0) (fun _ _=>u2) (by simpa using dB d) fun b i a w hf hc=>sp 1 hf rfl fun a hf=>aQ ?_
  refine h9 _ _ ?_
  refine cX ?_
  refine sp 2 hf rfl fun a hf=>aQ ?_
  replace hc:=(hc.drop k1).drop k0
  exact Y ((out++[(jR B)]),W (x + 1)) _ _ (sj hF).symm ⟨b,i,hf.kp rfl,hc⟩
 ·refine wp_exit ?_
  refine bI ?_
  refine bI ?_
  have he:=sj hF
  rw [← he] at I
  refine fB ?_
  exact j _ _ _ I ⟨H,D,hf.kp rfl,hc⟩

def aAe (N:Nat) (l:List Int) (out:Int) (x:Int):Option (dA (Int × Int) (Int)) :=
 cond (decide (x < ((l.length:Nat):Int)))
 (Option.bind (cM l x) fun B=>
 some (.cont (W (out + B),W (x + 1))))
 (some (.brk (out,x)))
def xU (N:Nat) (l:List Int):Option (Int) :=
 Option.bind (bN (fun s5=>aAe N l s5.1 s5.2) N (0,0)) fun x5=>
 exK x5 (fun s5=>some s5.1) some
theorem aAi {N:Nat} {G:bA} {Lf:List Ent} {w:World} (l:List Int) {I:Option Addr} {D:Nat} (U:Rd G 1 I D (l.map aD)) (hc:Ctx G (Lf) w) {H:Int} (hF:xU N l=some H):Calls Tryz.prog 54 #[.slice I l.length D] w (fun e w=>e=.returned (i6 H)∧Ctx G (Lf) w):=by
 unfold xU at hF
 refine cC Tryz.func54 rfl Tryz.ntmps54 rfl fun a hf=>zS fun K h=>sp 1 hf rfl fun a hf=>zT h ?_
 refine zS fun K h=>sp 1 hf rfl fun a hf=>zT h ?_
 refine wp_seq_k fun K3 h3=>zS fun K h=>sp 1 hf rfl fun a hf=>zP hf rfl (cP Tryz.underlying39 rfl) fun a hf=>sp 1 hf rfl fun a hf=>zT h ?_
 refine wp_block ?_
 obtain ⟨x5,O,hF⟩:=aC hF
 let S5:(Int × Int)→Act→World→Prop:=(fun (zz:Int × Int) a w=>Has 17 a [(3,i6 zz.1),(6,.slice I l.length D),(7,i6 ((l.length:Nat):Int)),(8,i6 zz.2)]∧Ctx G (Lf) w)
 have V:∀ (zz:Int × Int) a w,x5=.go zz→S5 zz a w→K3 a w:=by
  rintro ⟨out,x⟩ a w rfl ⟨hf,hc⟩
  replace hF:=cJ hF
  refine h3 _ _ ?_
  refine zS fun K h=>sp 2 hf rfl fun a hf=>zT h ?_
  refine wp_ret ?_
  obtain rfl:=sj hF
  exact zO1 Tryz.results54 hf rfl ⟨rfl,hc⟩
 have Z:∀ r,x5=.out r→r=H:=by
  rintro r rfl
  exact sj hF
 refine dQ N (dP (S:=S5) (x:=x5) ?_ N (0,0) _ _ ⟨hf.kp rfl,hc⟩ O)
 clear hF hf hc
 rintro ⟨out,x⟩ X a w KB5 ⟨hf,hc⟩ hF B M
 unfold aAe at hF
 refine zS fun K h=>sp 1 hf rfl fun a hf=>zT h ?_
 refine wp_seq_k fun K8 h8=>zI hf rfl hF ?_ ?_ <;> clear hF <;> intro hF
 ·refine wp_skip ?_
  refine h8 _ _ ?_
  refine wp_seq_k fun K9 h9=>wp_block ?_
  refine zS fun K h=>?_
  obtain ⟨R,J,hF⟩:=aC hF
  obtain ⟨Y,o,qa,qp⟩:=U.atm J
  refine zP hf rfl (pIA Tryz.underlying39 fD rfl rfl qa) fun a hf=>zE hf hc rfl (cV aX rfl (kX (j:=0) qp rfl)) fun a w hf hc=>sp 1 hf rfl fun a hf=>zT h ?_
  refine cX ?_
  refine sp 4 hf rfl fun a hf=>aQ ?_
  refine h9 _ _ ?_
  refine cX ?_
  refine sp 2 hf rfl fun a hf=>aQ ?_
  exact M (W (out + R),W (x + 1)) _ _ (sj hF).symm ⟨hf.kp rfl,hc⟩
 ·refine wp_exit ?_
  refine bI ?_
  refine bI ?_
  have he:=sj hF
  rw [← he] at B
  refine fB ?_
  exact V _ _ _ B ⟨hf.kp rfl,hc⟩

def jW (s_:aF):Int :=
 s_.Hi
theorem aBy {G:bA} {Lf:List Ent} {w:World} (s_:aF)   (hc:Ctx G (Lf) w) {B:Int} (hF:jW s_=B):Calls Tryz.prog 86 #[.agg #[i6 s_.Lo,i6 s_.Hi]] w (fun e w=>e=.returned (i6 B)∧Ctx G (Lf) w):=by
 unfold jW at hF
 refine cC Tryz.func86 rfl Tryz.ntmps86 rfl fun a hf=>zS fun K h=>zB hf hc rfl fun D a w hf hc=>sp 1 hf rfl fun a hf=>zT h ?_
 refine zS fun K h=>zP hf rfl (pFA fQ rfl) fun a hf=>zL hf hc aX m0 rfl fun a w hf hc=>sp 1 hf rfl fun a hf=>zT h ?_
 refine wp_ret ?_
 obtain rfl:=hF
 replace hc:=hc.drop k0
 exact zO1 Tryz.results86 hf rfl ⟨rfl,hc⟩

def uV (N:Nat) (l:List aF) (out:List Int) (x:Int):Option (dA ((List Int) × Int) ((List Int))) :=
 cond (decide (x < ((l.length:Nat):Int)))
 (Option.bind (cM l x) fun B=>
 Option.bind (nQ ((out++[(jW B)])).length) fun un=>
 some (.cont ((out++[(jW B)]),W (x + 1))))
 (some (.brk (out,x)))
def uC (N:Nat) (l:List aF):Option ((List Int)) :=
 Option.bind (bN (fun s5=>uV N l s5.1 s5.2) N (([]:List Int),0)) fun x5=>
 exK x5 (fun s5=>some s5.1) some
theorem aA1 {N:Nat} {G:bA} {Lf:List Ent} {w:World} (l:List aF) {O:Option Addr} {M:Nat} (g:Rd G 2 O M (l.map aJ)) (hc:Ctx G (Lf) w) {J:(List Int)} (hF:uC N l=some J):Calls Tryz.prog 55 #[.slice O l.length M,.agg #[.func (.func 86) #[] #[]]] w (fun e w=>∃ (R:Option Addr) (V:Nat),e=.returned (.slice R J.length V)∧Ctx G (.row R V (J.map aD) 3 1::Lf) w):=by
 unfold uC at hF
 refine cC Tryz.func55 rfl Tryz.ntmps55 rfl fun a hf=>zS fun K h=>zB hf hc rfl fun U a w hf hc=>sp 1 hf rfl fun a hf=>zT h ?_
 refine zS fun K h=>sp 1 hf rfl fun a hf=>zT h ?_
 refine wp_seq_k fun K3 h3=>zS fun K h=>sp 1 hf rfl fun a hf=>zP hf rfl (cP Tryz.underlying35 rfl) fun a hf=>sp 1 hf rfl fun a hf=>zT h ?_
 refine wp_block ?_
 obtain ⟨x5,Z,hF⟩:=aC hF
 let S5:((List Int) × Int)→Act→World→Prop:=(fun (zz:(List Int) × Int) a w=>∃ (H:Option Addr) (D:Nat),Has 23 a [(3,pq U),(5,.slice H zz.1.length D),(8,.slice O l.length M),(9,i6 ((l.length:Nat):Int)),(10,i6 zz.2)]∧Ctx G (.row H D (zz.1.map aD) 3 1::.box U [.func (.func 86) #[] #[]] 140::Lf) w)
 have j:∀ (zz:(List Int) × Int) a w,x5=.go zz→S5 zz a w→K3 a w:=by
  rintro ⟨out,x⟩ a w rfl ⟨H,D,hf,hc⟩
  replace hF:=cJ hF
  refine h3 _ _ ?_
  refine zS fun K h=>sp 2 hf rfl fun a hf=>zT h ?_
  refine wp_ret ?_
  obtain rfl:=sj hF
  replace hc:=hc.drop k1
  exact zO1 Tryz.results55 hf rfl ⟨H,D,rfl,hc⟩
 have s:∀ r,x5=.out r→r=J:=by
  rintro r rfl
  exact sj hF
 replace hc:=hc.nilRow 3 1
 refine dQ N (dP (S:=S5) (x:=x5) ?_ N (([]:List Int),0) _ _ ⟨none,0,hf.kp rfl,hc⟩ Z)
 clear hF hf hc
 rintro ⟨out,x⟩ p a w KB5 ⟨H,D,hf,hc⟩ hF I Y
 unfold uV at hF
 refine zS fun K h=>sp 1 hf rfl fun a hf=>zT h ?_
 refine wp_seq_k fun K8 h8=>zI hf rfl hF ?_ ?_ <;> clear hF <;> intro hF
 ·refine wp_skip ?_
  refine h8 _ _ ?_
  refine wp_seq_k fun K9 h9=>wp_block ?_
  refine zS fun K h=>?_
  obtain ⟨B,X,hF⟩:=aC hF
  obtain ⟨q,o,qa,qp⟩:=g.atm X
  refine zP hf rfl (pIA Tryz.underlying35 fS rfl rfl qa) fun a hf=>zE hf hc rfl (kK (vs:=[i6 B.Lo,i6 B.Hi]) eY rfl rfl (dF qp (n:=2) (o':=0) rfl)) fun a w hf hc=>zA hf hc rE rfl fun m a w hf hc=>zW hf hc fS u0 rfl fun w hc=>zT h ?_
  refine cX ?_
  refine sp 1 hf rfl fun a hf=>zP hf rfl (pFA aGt rfl) fun a hf=>zL hf hc aEv m2 rfl fun a w hf hc=>zN hf hc eY m0 rfl fun a w hf hc=>zQ (v:=i6 (jW B)) hf hc en_86 rfl (fun w hc=>aBy B hc rfl) fun a w hf hc=>oJ (rows:=([(jW B)]:List Int).map aD) (vs:=[(0,i6 (jW B))]) hf hc rfl rfl lQ rfl ⟨rfl,rfl,rfl,trivial⟩ rfl rfl fun k a w hf hc=>?_
  obtain ⟨un,d,hF⟩:=aC hF
  refine lO (xs:=out) (ys:=([(jW B)]:List Int)) hf hc rfl rfl lQ rfl rfl rfl rfl rfl bG (fM hc m0) (fun _ _=>u2) (by simpa using dB d) fun b i a w hf hc=>sp 1 hf rfl fun a hf=>aQ ?_
  refine h9 _ _ ?_
  refine cX ?_
  refine sp 2 hf rfl fun a hf=>aQ ?_
  replace hc:=(hc.drop k1).drop k0
  exact Y ((out++[(jW B)]),W (x + 1)) _ _ (sj hF).symm ⟨b,i,hf.kp rfl,hc⟩
 ·refine wp_exit ?_
  refine bI ?_
  refine bI ?_
  have he:=sj hF
  rw [← he] at I
  refine fB ?_
  exact j _ _ _ I ⟨H,D,hf.kp rfl,hc⟩

end Go.Nilo
