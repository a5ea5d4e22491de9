/-
 What functions of the Go text compute, as plain functions, and that they do, part 3 of 4. Conditions: what each theorem names.
-/
import Derived.Test.YtfgdaecfjidahaaGreatTm2
import Derived.Test.YtfgdaecfjidahaaGreatProg
set_option linter.unusedVariables false
set_option linter.unusedSimpArgs false
set_option maxRecDepth 100000
set_option maxHeartbeats 4000000
namespace Go.Nilo
open Go.Proofs


def jT (N:Nat) (B:Nat→Int) (I:Int) (D:List Int) (xv:Int) (H:Int) (J:Int):Option (Rs (Int × (List Int))) :=
 Option.bind (Option.bind (inR xv 601) fun un=>
 cond ((B xv.toNat) != 1073741824)
 (some ((W (J + (B xv.toNat))) == I))
 (some false)) fun rg=>
 cond rg
 (Option.bind (rR ((D++[H])).length) fun M=>
 Option.bind (inR xv 601) fun O=>
 some (.brk ((B xv.toNat),(D++[H]))))
 (some (.go (I,D)))
def fL (N:Nat) (x:Int) (H:Nat→Int) (I:Int) (D:List Int) (xv:Int) (B:Int):Option (Rs (Int × (List Int))) :=
 cond (decide (0 < x))
 (Option.bind (bQ D (W (x - 1))) fun J=>
 Option.bind (nQ N B J) fun M=>
 jT N H I D xv B M)
 (jT N H I D xv B 0)
def iK (N:Nat) (D:(List (Nat→Int))) (x:Int) (H:Int) (J:List Int):Option (cP (Int × Int × (List Int)) ((List Int) × Int × Int)) :=
 cond (decide (x < ((D.length:Nat):Int)))
 (Option.bind (bQ D x) fun M=>
 Option.bind (eA N (rY (fun (zz:Int × (List Int)) (I:(Int × Int))=>fL N x M zz.1 zz.2 I.1 I.2)) (.go (H,J))) fun O=>
 rsK O (fun B=>some (.cont (W (x + 1),B.1,B.2))) (fun B=>none))
 (some (.brk (x,H,J)))
def nP (N:Nat) (r:aR):Option ((List Int) × Int × Int) :=
 Option.bind (gY N r) (vF (fun J=>cond (J != 0)
 (some (([]:List Int),0,J))
 (none))
 (fun D=>cond (D.2 != 0)
 (some (([]:List Int),0,D.2))
 (Option.bind (mE N D.1) fun H=>
 Option.bind (bQ H 0) fun M=>
 Option.bind (rO (aL 601 M) 0 ((601:Nat):Int)) fun sub=>
 Option.bind (iM N sub) fun I=>
 Option.bind (bC (fun B=>iK N H B.1 B.2.1 B.2.2) N (0,I,([]:List Int))) fun O=>
 exK O (fun B=>some (B.2.2,I,0)) some)))
theorem aBb {N:Nat} {G:aU} {Lf:List Ent} {w:World} (r:aR) {y:Option Addr} {aa:Nat} {m:Option Addr} {k:Nat} (ag:Rd G 2 y aa (r.Rating.map bF)) (af:Rd G 4 m k (r.Gaugings.map bB)) (hc:Ctx G (Lf) w) {an:(List Int) × Int × Int} (hF:nP N r=some an):Calls Tryz.prog 12 #[.agg #[.slice y r.Rating.length aa,.slice m r.Gaugings.length k]] w (fun e w=>∃ (bk:Option Addr) (bg:Nat),e=.returned (.tuple #[.slice bk an.1.length bg,i6 an.2.1,i6 an.2.2])∧Ctx G (.row bk bg (an.1.map aB) 3 1::Lf) w):=by
 unfold nP at hF
 refine xK Tryz.func12 rfl Tryz.ntmps12 rfl fun a hf=>zS fun K h=>zB hf hc rfl fun b7 a w hf hc=>sp 3 hf rfl fun a hf=>zT h ?_
 refine zS fun K h=>zN hf hc wJ m0 rfl fun a w hf hc=>?_
 obtain ⟨bi,ay,hF⟩:=aA hF
 cases bi with
 | inl bi=>
  replace hF:=wF hF
  refine zC hf aAb rfl (gM r ag af hc ay) ?_
  rintro _ w ⟨rfl,hc⟩
  refine ⟨_,rfl,fun a hf=>?_⟩
  refine sp 5 hf rfl fun a hf=>zT h ?_
  refine wp_seq_k fun K3 h3=>zS fun K h=>sp 2 hf rfl fun a hf=>zT h ?_
  refine zI hf rfl hF ?_ ?_ <;> clear hF <;> intro hF
  ·refine zS fun K h=>sp 4 hf rfl fun a hf=>zT h ?_
   refine wp_ret ?_
   refine aQ ?_
   obtain rfl:=sj hF
   replace hc:=hc.nilRow 3 1
   replace hc:=hc.drop k1
   refine wV hf ?_
   exact aFn Tryz.results12 hf hc (show eZ _ 2=_ from rfl) (show eZ _ 3=_ from rfl) (show eZ _ 4=_ from rfl) ⟨none,0,rfl,hc⟩
  ·refine wp_skip ?_
   refine h3 _ _ ?_
   refine wp_seq_k fun K6 h6=>wD hF
 | inr a3=>
  replace hF:=wI hF
  have bs:=ay
  refine zC hf aAb rfl (gM r ag af hc bs) ?_
  rintro _ w ⟨cb,bb,bd,rfl,hc⟩
  refine ⟨_,rfl,fun a hf=>?_⟩
  refine sp 5 hf rfl fun a hf=>zT h ?_
  refine wp_seq_k fun K7 h7=>zS fun K h=>sp 2 hf rfl fun a hf=>zT h ?_
  refine zI hf rfl hF ?_ ?_ <;> clear hF <;> intro hF
  ·refine zS fun K h=>sp 4 hf rfl fun a hf=>zT h ?_
   refine wp_ret ?_
   refine aQ ?_
   obtain rfl:=sj hF
   replace hc:=hc.nilRow 3 1
   replace hc:=((hc.drop k3).drop k2).drop k1
   refine wV hf ?_
   exact aFn Tryz.results12 hf hc (show eZ _ 2=_ from rfl) (show eZ _ 3=_ from rfl) (show eZ _ 4=_ from rfl) ⟨none,0,rfl,hc⟩
  ·refine wp_skip ?_
   refine h7 _ _ ?_
   refine zS fun K h=>sp 2 hf rfl fun a hf=>zP hf rfl (pFA sJ rfl) fun a hf=>zL hf hc rC m1 rfl fun a w hf hc=>?_
   obtain ⟨D,b1,hF⟩:=aA hF
   obtain ⟨G1,br,au,hc,ar⟩:=lend hc k0
   refine zC hf en_25 rfl (aAk a3.1 au hc b1) ?_
   rintro _ w ⟨cx,U,rfl,hc⟩
   refine ⟨_,rfl,fun a hf=>?_⟩
   replace hc:=ar _ _ hc
   refine sp 1 hf rfl fun a hf=>zT h ?_
   refine zS fun K h=>sp 1 hf rfl fun a hf=>?_
   obtain ⟨ci,a2,hF⟩:=aA hF
   obtain ⟨g,rfl,qa,qr⟩:=jM hc m1 a2
   refine zP hf rfl (pIA Tryz.underlying83 wL rfl rfl qa) fun a hf=>?_
   obtain ⟨sub,a6,hF⟩:=aA hF
   refine zP hf rfl (pSlA (xs:=(aL 601 ci)) Tryz.underlying87 eQ rfl vO rfl rfl a6) fun a hf=>?_
   obtain ⟨ab,bz,hF⟩:=aA hF
   refine zQ (v:=i6 ab) hf hc en_26 rfl (fun w hc=>by obtain ⟨G1,br,au,hc,ar⟩:=lend hc k1; exact (tS sub (Rd.sub (aLt au (by decide) (fun x=>(bA x).1) rfl a2) a6) hc bz).mono fun e w h=>⟨h.1,((ar _ _ h.2).unpick k1)⟩) fun a w hf hc=>sp 1 hf rfl fun a hf=>zT h ?_
   refine zS fun K h=>sp 1 hf rfl fun a hf=>zA hf hc aJu rfl fun M a w hf hc=>zW hf hc eQ u0 rfl fun w hc=>zT h ?_
   refine zS fun K h=>zA hf hc zr_26 rfl fun I a w hf hc=>zT h ?_
   refine wp_seq_k fun K14 cf=>zS fun K h=>sp 1 hf rfl fun a hf=>zP hf rfl (cR Tryz.underlying83 rfl) fun a hf=>sp 1 hf rfl fun a hf=>zT h ?_
   refine wp_block ?_
   obtain ⟨a7,bx,hF⟩:=aA hF
   let S16:(Int × Int × (List Int))→Act→World→Prop:=(fun (zz:Int × Int × (List Int)) a w=>∃ (ad:Option Addr) (ac:Nat) (Ds:List Nat),Has ⟨76,jA Ds⟩ a [(8,i6 ab),(9,pq M),(10,pq I),(34,.slice (some ⟨g,0,none⟩) D.length U),(35,i6 ((D.length:Nat):Int)),(36,i6 zz.1)]∧Ctx G (.row ad ac (zz.2.2.map aB) 3 1::.box I [.slice ad zz.2.2.length ac] 26::.box M [i6 zz.2.1] 3::.row (some ⟨g,0,none⟩) U (D.map cT) 87 601::(kV Ds++Lf)) w)
   have bq:∀ (zz:Int × Int × (List Int)) a w,a7=.go zz→S16 zz a w→K14 a w:=by
    rintro ⟨x,a4,am⟩ a w rfl ⟨ad,ac,Ds,hf,hc⟩
    replace hF:=cI hF
    refine cf _ _ ?_
    refine zS fun K h=>zL hf hc aK6 m1 rfl fun a w hf hc=>sp 4 hf rfl fun a hf=>zT h ?_
    refine wp_ret ?_
    obtain rfl:=sj hF
    replace hc:=((hc.drop k3).drop k2).drop k1
    refine wV hf ?_
    refine uC [.row ad ac (am.map aB) 3 1] Ds hc fun w hc=>?_
    replace hc:Ctx G (.row ad ac (am.map aB) 3 1::Lf) w:=hc
    exact aFn Tryz.results12 hf hc (show eZ _ 2=_ from rfl) (show eZ _ 3=_ from rfl) (show eZ _ 4=_ from rfl) ⟨ad,ac,rfl,hc⟩
   have cv:∀ r,a7=.out r→r=an:=by
    rintro r rfl
    exact sj hF
   replace hf:=aHy hf
   replace hc:Ctx G (.box I [.slice none 0 0] 26::.box M [i6 ab] 3::.row bb bd (a3.1.map aH) 51 2::.row (some ⟨g,0,none⟩) U (D.map cT) 87 601::.box cb [.slice y r.Rating.length aa,.slice m r.Gaugings.length k,.slice bb a3.1.length bd] 81::.box b7 [.slice y r.Rating.length aa,.slice m r.Gaugings.length k] 44::(kV []++Lf)) w:=hc
   replace hc:=hc.nilRow 3 1
   replace hc:=((hc.drop k6).drop k5).drop k3
   refine eR N (eO (S:=S16) (x:=a7) ?_ N (0,ab,([]:List Int)) _ _ ⟨none,0,[],hf.kp rfl,hc⟩ bx)
   clear hF hf hc
   rintro ⟨x,a4,am⟩ a1 a w KB16 ⟨ad,ac,Ds,hf,hc⟩ hF aq b3
   unfold iK at hF
   refine zS fun K h=>sp 1 hf rfl fun a hf=>zT h ?_
   refine wp_seq_k fun K19 cp=>zI hf rfl hF ?_ ?_ <;> clear hF <;> intro hF
   ·refine wp_skip ?_
    refine cp _ _ ?_
    refine wp_seq_k fun K20 cj=>wp_block ?_
    refine zS fun K h=>sp 1 hf rfl fun a hf=>?_
    obtain ⟨H,b0,hF⟩:=aA hF
    obtain ⟨bn,b4⟩:=iF hc m3 b0
    refine zP hf rfl (pIA Tryz.underlying83 wL rfl rfl bn) fun a hf=>zE hf hc rfl (jE (vs:=(aN [] 601 aB H [])) aCy rfl (dC _).1 (jV (sz:=601) (i:=x.toNat) m3 b4 (n:=601) (o':=0) (aC4 (dC _).1))) fun a w hf hc=>zA hf hc aJu rfl fun Y a w hf hc=>aKl (cs:=(aN [] 601 aB (fun _=>0) [])) hf hc rfl rfl aJ5 rfl fun O a w hf hc=>zW hf hc eQ u1 rfl fun w hc=>aMi (enc:=cT) (f:=(fun _=>0)) (z:=H) hf hc rfl rfl rfl dC wL u0 fun w hc=>zT h ?_
    refine zS fun K h=>zQ (v:=.func (.func 60) #[] #[]) hf hc aHd rfl (fun w hc=>mY hc rfl) fun a w hf hc=>zT h ?_
    obtain ⟨b6,bp,hF⟩:=aA hF
    refine aD3 (C:=[]) (C2:=[]) (L0:=[.box O (aN [] 601 aB H []) 87,.box Y [i6 x] 3,.row ad ac (am.map aB) 3 1,.box I [.slice ad am.length ac] 26,.box M [i6 a4] 3,.row (some ⟨g,0,none⟩) U (D.map cT) 87 601]) (Lf:=(kV Ds++Lf)) (encs:=fun x:(Int × Int)=>[i6 x.1,i6 x.2]) (fun (zz:Int × (List Int)) L=>∃ (d:Option Addr) (Z:Nat),L=[.box O (aN [] 601 aB H []) 87,.box Y [i6 x] 3,.row d Z (zz.2.map aB) 3 1,.box I [.slice d zz.2.length Z] 26,.box M [i6 zz.1] 3,.row (some ⟨g,0,none⟩) U (D.map cT) 87 601]) (fun (zz:Int × (List Int)) (bm:(Int × Int))=>fL N x H zz.1 zz.2 bm.1 bm.2) (a4,am) b6 hf hc rfl aIi (fun _=>rfl) rfl ⟨ad,ac,rfl⟩ ?_ ?_ ?_ ?_
    ·intro lq mq J L Lx w hy hJ hc
     exact lM  J _ hy _ hJ hc bp
    ·clear hF hf hc
     rintro lq mq ⟨X,B⟩ ⟨xv,R⟩ oq _ Lr Lb a w cy ⟨d,Z,rfl⟩ hF hf hc hK
     replace hf:Has 76 a [(8,i6 ab),(9,pq M),(10,pq I),(11,pq Y),(12,pq O),(34,.slice (some ⟨g,0,none⟩) D.length U),(35,i6 ((D.length:Nat):Int)),(36,i6 x),(42,i6 xv),(43,i6 R)]:=hf.kp rfl
     replace hc:Ctx G (.box O (aN [] 601 aB H []) 87::.box Y [i6 x] 3::.row d Z (B.map aB) 3 1::.box I [.slice d B.length Z] 26::.box M [i6 X] 3::.row (some ⟨g,0,none⟩) U (D.map cT) 87 601::Lr) w:=hc
     replace hF:fL N x H X B xv R=some oq:=hF
     unfold fL at hF
     refine qA fun K24 b8=>mU (fun _ _ h=>h) rfl ?_
     refine sp 1 hf rfl fun a hf=>aS ?_
     refine b8 _ _ ?_
     refine mU (fun _ _ h=>h) rfl ?_
     refine sp 1 hf rfl fun a hf=>aS ?_
     refine hK _ _ [.box O (aN [] 601 aB H []) 87,.box Y [i6 x] 3,.row d Z (B.map aB) 3 1,.box I [.slice d B.length Z] 26,.box M [i6 X] 3,.row (some ⟨g,0,none⟩) U (D.map cT) 87 601] hc fun w hc=>?_
     replace hc:Ctx G (.box O (aN [] 601 aB H []) 87::.box Y [i6 x] 3::.row d Z (B.map aB) 3 1::.box I [.slice d B.length Z] 26::.box M [i6 X] 3::.row (some ⟨g,0,none⟩) U (D.map cT) 87 601::Lb) w:=hc
     refine rK fun K25 b5=>pW ?_
     refine qA fun K26 cc=>mU (fun _ _ h=>h) rfl ?_
     refine sp 1 hf rfl fun a hf=>aS ?_
     refine cc _ _ ?_
     refine qA fun K27 b9=>?_
     have a9:∀ (q:Int) (t:Option Addr) (s:Nat) a w,Has 76 a [(8,i6 ab),(9,pq M),(10,pq I),(11,pq Y),(12,pq O),(13,i6 xv),(14,i6 R),(15,i6 q),(34,.slice (some ⟨g,0,none⟩) D.length U),(35,i6 ((D.length:Nat):Int)),(36,i6 x)]→Ctx G (.box O (aN [] 601 aB H []) 87::.box Y [i6 x] 3::.row t s (B.map aB) 3 1::.box I [.slice t B.length s] 26::.box M [i6 X] 3::.row (some ⟨g,0,none⟩) U (D.map cT) 87 601::Lb) w→jT N H X B xv R q=some oq→K27 a w:=by
      repeat (clear hF)
      repeat (clear hc)
      repeat (clear hf)
      intro q t s a w hf hc hF
      unfold jT at hF
      refine b9 _ _ ?_
      refine qA fun K28 ca=>?_
      obtain ⟨rg,bc,hF⟩:=aA hF
      refine rCut (fun a w=>Has 76 a [(8,i6 ab),(9,pq M),(10,pq I),(11,pq Y),(12,pq O),(13,i6 xv),(14,i6 R),(34,.slice (some ⟨g,0,none⟩) D.length U),(35,i6 ((D.length:Nat):Int)),(36,i6 x),(65,.bool rg)]∧Ctx G (.box O (aN [] 601 aB H []) 87::.box Y [i6 x] 3::.row t s (B.map aB) 3 1::.box I [.slice t B.length s] 26::.box M [i6 X] 3::.row (some ⟨g,0,none⟩) U (D.map cT) 87 601::Lb) w) ?_ ?_
      ·clear hF
       have hF:=bc
       clear bc
       obtain ⟨un,ai,hF⟩:=aA hF
       cases hb:((H xv.toNat) != 1073741824)
       ·replace hF:=mR hb hF
        try rw [hb] at hf
        try rw [hb] at hc
        have a5:=hb
        clear hb
        refine tZ (fun _ _ h=>h) rfl (fun θ=>[⟨none,none,8,i6 ab⟩,⟨none,none,9,pq M⟩,⟨none,none,10,pq I⟩,⟨none,none,11,pq Y⟩,⟨none,none,12,pq O⟩,⟨none,none,13,i6 xv⟩,⟨none,none,14,i6 R⟩,⟨none,none,15,i6 q⟩,⟨none,none,34,.slice (some ⟨g,0,none⟩) D.length U⟩,⟨none,none,35,i6 ((D.length:Nat):Int)⟩,⟨none,none,36,i6 x⟩,⟨some 0,none,53,i6 xv⟩,⟨some 1,none,54,.pointer (some ⟨O,0 + xv.toNat * 1,none⟩)⟩,⟨some 2,none,55,i6 (H xv.toNat)⟩,⟨some 3,none,56,.bool false⟩,⟨some 4,none,57,.bool false⟩,⟨some 5,none,58,undef⟩,⟨some 6,none,59,undef⟩,⟨some 7,none,60,undef⟩,⟨some 8,none,61,undef⟩,⟨some 9,none,62,undef⟩,⟨some 10,none,63,undef⟩,⟨some 11,none,64,undef⟩,⟨some 12,none,65,.bool false⟩]) (fun E θ=>.box O (aN [] 601 aB H []) 87::.box Y [i6 x] 3::.row t s (B.map aB) 3 1::.box I [.slice t B.length s] 26::.box M [i6 X] 3::.row (some ⟨g,0,none⟩) U (D.map cT) 87 601::Lb) [] (fun a w=>Has 76 a [(8,i6 ab),(9,pq M),(10,pq I),(11,pq Y),(12,pq O),(13,i6 xv),(14,i6 R),(34,.slice (some ⟨g,0,none⟩) D.length U),(35,i6 ((D.length:Nat):Int)),(36,i6 x),(58,undef),(59,undef),(60,undef),(61,undef),(62,undef),(63,undef),(64,undef),(65,.bool false)]∧Ctx G (.box O (aN [] 601 aB H []) 87::.box Y [i6 x] 3::.row t s (B.map aB) 3 1::.box I [.slice t B.length s] 26::.box M [i6 X] 3::.row (some ⟨g,0,none⟩) U (D.map cT) 87 601::Lb) w) aW (by kernel_rfl) (by kernel_rfl) (eV.of hf ⟨rfl,rfl,rfl,rfl,rfl,rfl,rfl,rfl,rfl,rfl,rfl,trivial,trivial,trivial,trivial,trivial,trivial,trivial,trivial,trivial,trivial,trivial,trivial,trivial,trivial⟩) hc ⟨?_,?_,?_,?_,?_,?_,?_,?_,?_,?_,?_,?_,?_,trivial⟩ ?_ ?_
        ·intro E θ a w hD hi hp he hc
         have hf:=he.h0.mT he 5 rfl
         refine sp 1 hf rfl fun a hf=>zD θ he hi hf 11 rfl rfl rfl hc
        ·intro E θ a w hD hi hp he hc
         have e0:=hp.o 0 rfl
         have hf:=(he.h0.mT he 4 rfl).mP he 11 rfl e0
         refine zP hf rfl (kK Tryz.underlying87 eQ rfl rfl (aT ai).1 (aT ai).2) fun a hf=>zD θ he hi hf 12 rfl rfl rfl hc
        ·intro E θ a w hD hi hp he hc
         have e1:=hp.o 1 rfl
         have hf:=he.h0.mP he 12 rfl e1
         refine zE hf hc rfl (cN aY rfl (gF (j:=0) m0 (fun x=>(bA x).1) rfl ai rfl)) fun a w hf hc=>zD θ he hi hf 13 rfl rfl rfl hc
        ·intro E θ a w hD hi hp he hc
         have e2:=hp.o 2 rfl
         have hf:=he.h0.mP he 13 rfl e2
         refine sp 1 hf rfl fun a hf=>?_
         rw [a5] at hf
         exact zD θ he hi hf 14 rfl rfl rfl hc
        ·intro E θ a w hD hi hp he hc
         have e3:=hp.o 3 rfl
         have hf:=he.h0.mP he 14 rfl e3
         refine sp 1 hf rfl fun a hf=>zD θ he hi hf 15 rfl rfl rfl hc
        ·intro E θ a w hD hi hp he hc
         have e4:=hp.o 4 rfl
         have hf:=(he.h0.mT he 7 rfl).mP he 15 rfl e4
         refine stS hf rfl rfl rfl fun a hf=>zD θ he hi hf 16 rfl rfl rfl hc
        ·intro E θ a w hD hi hp he hc
         have e4:=hp.o 4 rfl
         have hf:=(he.h0.mT he 5 rfl).mP he 15 rfl e4
         refine stS hf rfl rfl rfl fun a hf=>zD θ he hi hf 17 rfl rfl rfl hc
        ·intro E θ a w hD hi hp he hc
         have e4:=hp.o 4 rfl
         have e6:=hp.o 6 rfl
         have hf:=((he.h0.mT he 4 rfl).mP he 15 rfl e4).mP he 17 rfl e6
         refine stS hf rfl rfl rfl fun a hf=>zD θ he hi hf 18 rfl rfl rfl hc
        ·intro E θ a w hD hi hp he hc
         have e4:=hp.o 4 rfl
         have e7:=hp.o 7 rfl
         have hf:=(he.h0.mP he 15 rfl e4).mP he 18 rfl e7
         refine stS hf rfl rfl rfl fun a hf=>zD θ he hi hf 19 rfl rfl rfl hc
        ·intro E θ a w hD hi hp he hc
         have e4:=hp.o 4 rfl
         have e5:=hp.o 5 rfl
         have e8:=hp.o 8 rfl
         have hf:=((he.h0.mP he 15 rfl e4).mP he 16 rfl e5).mP he 19 rfl e8
         refine stS hf rfl rfl rfl fun a hf=>zD θ he hi hf 20 rfl rfl rfl hc
        ·intro E θ a w hD hi hp he hc
         have e4:=hp.o 4 rfl
         have hf:=(he.h0.mT he 1 rfl).mP he 15 rfl e4
         refine stS hf rfl rfl rfl fun a hf=>zD θ he hi hf 21 rfl rfl rfl hc
        ·intro E θ a w hD hi hp he hc
         have e4:=hp.o 4 rfl
         have e9:=hp.o 9 rfl
         have aj:=hp.o 10 rfl
         have hf:=((he.h0.mP he 15 rfl e4).mP he 20 rfl e9).mP he 21 rfl aj
         refine stS hf rfl rfl rfl fun a hf=>zD θ he hi hf 22 rfl rfl rfl hc
        ·intro E θ a w hD hi hp he hc
         have e4:=hp.o 4 rfl
         have ak:=hp.o 11 rfl
         have hf:=(he.h0.mP he 15 rfl e4).mP he 22 rfl ak
         refine sp 1 hf rfl fun a hf=>zD θ he hi hf 23 rfl rfl rfl hc
        ·intro E θ a w V he hc
         have hf:=he.h0
         have e5:=V 5 rfl
         have e6:=V 6 rfl
         have e7:=V 7 rfl
         have e8:=V 8 rfl
         have e9:=V 9 rfl
         have aj:=V 10 rfl
         have ak:=V 11 rfl
         have a0:=V 12 rfl
         replace hf:=hf.more he 23 rfl (onP a0)
         replace hf:=hf.more he 22 rfl (onP ak)
         replace hf:=hf.more he 21 rfl (onP aj)
         replace hf:=hf.more he 20 rfl (onP e9)
         replace hf:=hf.more he 19 rfl (onP e8)
         replace hf:=hf.more he 18 rfl (onP e7)
         replace hf:=hf.more he 17 rfl (onP e6)
         replace hf:=hf.more he 16 rfl (onP e5)
         replace hf:=hf.more he 10 rfl (onT)
         replace hf:=hf.more he 9 rfl (onT)
         replace hf:=hf.more he 8 rfl (onT)
         replace hf:=hf.more he 6 rfl (onT)
         replace hf:=hf.more he 5 rfl (onT)
         replace hf:=hf.more he 4 rfl (onT)
         replace hf:=hf.more he 3 rfl (onT)
         replace hf:=hf.more he 2 rfl (onT)
         replace hf:=hf.more he 1 rfl (onT)
         replace hf:=hf.more he 0 rfl (onT)
         exact ⟨hf.kp rfl,hc⟩
        rintro a w ⟨hf,hc⟩
        refine dA ?_
        obtain rfl:=sj hF
        exact ⟨hf.kp rfl,hc⟩
       ·replace hF:=mN hb hF
        try rw [hb] at hf
        try rw [hb] at hc
        have a5:=hb
        clear hb
        refine tZ (fun _ _ h=>h) rfl (fun θ=>[⟨none,none,8,i6 ab⟩,⟨none,none,9,pq M⟩,⟨none,none,10,pq I⟩,⟨none,none,11,pq Y⟩,⟨none,none,12,pq O⟩,⟨none,none,13,i6 xv⟩,⟨none,none,14,i6 R⟩,⟨none,none,15,i6 q⟩,⟨none,none,34,.slice (some ⟨g,0,none⟩) D.length U⟩,⟨none,none,35,i6 ((D.length:Nat):Int)⟩,⟨none,none,36,i6 x⟩,⟨some 0,none,53,i6 xv⟩,⟨some 1,none,54,.pointer (some ⟨O,0 + xv.toNat * 1,none⟩)⟩,⟨some 2,none,55,i6 (H xv.toNat)⟩,⟨some 3,none,56,.bool true⟩,⟨some 4,none,57,.bool true⟩,⟨some 5,none,58,i6 q⟩,⟨some 6,none,59,i6 xv⟩,⟨some 7,none,60,.pointer (some ⟨O,0 + xv.toNat * 1,none⟩)⟩,⟨some 8,none,61,i6 (H xv.toNat)⟩,⟨some 9,none,62,i6 (W (q + (H xv.toNat)))⟩,⟨some 10,none,63,i6 X⟩,⟨some 11,none,64,.bool ((W (q + (H xv.toNat))) == X)⟩,⟨some 12,none,65,.bool ((W (q + (H xv.toNat))) == X)⟩]) (fun E θ=>.box O (aN [] 601 aB H []) 87::.box Y [i6 x] 3::.row t s (B.map aB) 3 1::.box I [.slice t B.length s] 26::.box M [i6 X] 3::.row (some ⟨g,0,none⟩) U (D.map cT) 87 601::Lb) [] (fun a w=>Has 76 a [(8,i6 ab),(9,pq M),(10,pq I),(11,pq Y),(12,pq O),(13,i6 xv),(14,i6 R),(34,.slice (some ⟨g,0,none⟩) D.length U),(35,i6 ((D.length:Nat):Int)),(36,i6 x),(58,i6 q),(59,i6 xv),(60,.pointer (some ⟨O,0 + xv.toNat * 1,none⟩)),(61,i6 (H xv.toNat)),(62,i6 (W (q + (H xv.toNat)))),(63,i6 X),(64,.bool ((W (q + (H xv.toNat))) == X)),(65,.bool ((W (q + (H xv.toNat))) == X))]∧Ctx G (.box O (aN [] 601 aB H []) 87::.box Y [i6 x] 3::.row t s (B.map aB) 3 1::.box I [.slice t B.length s] 26::.box M [i6 X] 3::.row (some ⟨g,0,none⟩) U (D.map cT) 87 601::Lb) w) aW (by kernel_rfl) (by kernel_rfl) (eV.of hf ⟨rfl,rfl,rfl,rfl,rfl,rfl,rfl,rfl,rfl,rfl,rfl,trivial,trivial,trivial,trivial,trivial,trivial,trivial,trivial,trivial,trivial,trivial,trivial,trivial,trivial⟩) hc ⟨?_,?_,?_,?_,?_,?_,?_,?_,?_,?_,?_,?_,?_,trivial⟩ ?_ ?_
        ·intro E θ a w hD hi hp he hc
         have hf:=he.h0.mT he 5 rfl
         refine sp 1 hf rfl fun a hf=>zD θ he hi hf 11 rfl rfl rfl hc
        ·intro E θ a w hD hi hp he hc
         have e0:=hp.o 0 rfl
         have hf:=(he.h0.mT he 4 rfl).mP he 11 rfl e0
         refine zP hf rfl (kK Tryz.underlying87 eQ rfl rfl (aT ai).1 (aT ai).2) fun a hf=>zD θ he hi hf 12 rfl rfl rfl hc
        ·intro E θ a w hD hi hp he hc
         have e1:=hp.o 1 rfl
         have hf:=he.h0.mP he 12 rfl e1
         refine zE hf hc rfl (cN aY rfl (gF (j:=0) m0 (fun x=>(bA x).1) rfl ai rfl)) fun a w hf hc=>zD θ he hi hf 13 rfl rfl rfl hc
        ·intro E θ a w hD hi hp he hc
         have e2:=hp.o 2 rfl
         have hf:=he.h0.mP he 13 rfl e2
         refine sp 1 hf rfl fun a hf=>?_
         rw [a5] at hf
         exact zD θ he hi hf 14 rfl rfl rfl hc
        ·intro E θ a w hD hi hp he hc
         have e3:=hp.o 3 rfl
         have hf:=he.h0.mP he 14 rfl e3
         refine sp 1 hf rfl fun a hf=>zD θ he hi hf 15 rfl rfl rfl hc
        ·intro E θ a w hD hi hp he hc
         have e4:=hp.o 4 rfl
         have hf:=(he.h0.mT he 7 rfl).mP he 15 rfl e4
         refine sp 1 hf rfl fun a hf=>zD θ he hi hf 16 rfl rfl rfl hc
        ·intro E θ a w hD hi hp he hc
         have e4:=hp.o 4 rfl
         have hf:=(he.h0.mT he 5 rfl).mP he 15 rfl e4
         refine sp 1 hf rfl fun a hf=>zD θ he hi hf 17 rfl rfl rfl hc
        ·intro E θ a w hD hi hp he hc
         have e4:=hp.o 4 rfl
         have e6:=hp.o 6 rfl
         have hf:=((he.h0.mT he 4 rfl).mP he 15 rfl e4).mP he 17 rfl e6
         refine zP hf rfl (kK Tryz.underlying87 eQ rfl rfl (aT ai).1 (aT ai).2) fun a hf=>zD θ he hi hf 18 rfl rfl rfl hc
        ·intro E θ a w hD hi hp he hc
         have e4:=hp.o 4 rfl
         have e7:=hp.o 7 rfl
         have hf:=(he.h0.mP he 15 rfl e4).mP he 18 rfl e7
         refine zE hf hc rfl (cN aY rfl (gF (j:=0) m0 (fun x=>(bA x).1) rfl ai rfl)) fun a w hf hc=>zD θ he hi hf 19 rfl rfl rfl hc
        ·intro E θ a w hD hi hp he hc
         have e4:=hp.o 4 rfl
         have e5:=hp.o 5 rfl
         have e8:=hp.o 8 rfl
         have hf:=((he.h0.mP he 15 rfl e4).mP he 16 rfl e5).mP he 19 rfl e8
         refine sp 1 hf rfl fun a hf=>zD θ he hi hf 20 rfl rfl rfl hc
        ·intro E θ a w hD hi hp he hc
         have e4:=hp.o 4 rfl
         have hf:=(he.h0.mT he 1 rfl).mP he 15 rfl e4
         refine zL hf hc aY m4 rfl fun a w hf hc=>zD θ he hi hf 21 rfl rfl rfl hc
        ·intro E θ a w hD hi hp he hc
         have e4:=hp.o 4 rfl
         have e9:=hp.o 9 rfl
         have aj:=hp.o 10 rfl
         have hf:=((he.h0.mP he 15 rfl e4).mP he 20 rfl e9).mP he 21 rfl aj
         refine sp 1 hf rfl fun a hf=>zD θ he hi hf 22 rfl rfl rfl hc
        ·intro E θ a w hD hi hp he hc
         have e4:=hp.o 4 rfl
         have ak:=hp.o 11 rfl
         have hf:=(he.h0.mP he 15 rfl e4).mP he 22 rfl ak
         refine sp 1 hf rfl fun a hf=>zD θ he hi hf 23 rfl rfl rfl hc
        ·intro E θ a w V he hc
         have hf:=he.h0
         have e5:=V 5 rfl
         have e6:=V 6 rfl
         have e7:=V 7 rfl
         have e8:=V 8 rfl
         have e9:=V 9 rfl
         have aj:=V 10 rfl
         have ak:=V 11 rfl
         have a0:=V 12 rfl
         replace hf:=hf.more he 23 rfl (onP a0)
         replace hf:=hf.more he 22 rfl (onP ak)
         replace hf:=hf.more he 21 rfl (onP aj)
         replace hf:=hf.more he 20 rfl (onP e9)
         replace hf:=hf.more he 19 rfl (onP e8)
         replace hf:=hf.more he 18 rfl (onP e7)
         replace hf:=hf.more he 17 rfl (onP e6)
         replace hf:=hf.more he 16 rfl (onP e5)
         replace hf:=hf.more he 10 rfl (onT)
         replace hf:=hf.more he 9 rfl (onT)
         replace hf:=hf.more he 8 rfl (onT)
         replace hf:=hf.more he 6 rfl (onT)
         replace hf:=hf.more he 5 rfl (onT)
         replace hf:=hf.more he 4 rfl (onT)
         replace hf:=hf.more he 3 rfl (onT)
         replace hf:=hf.more he 2 rfl (onT)
         replace hf:=hf.more he 1 rfl (onT)
         replace hf:=hf.more he 0 rfl (onT)
         exact ⟨hf.kp rfl,hc⟩
        rintro a w ⟨hf,hc⟩
        refine dA ?_
        obtain rfl:=sj hF
        exact ⟨hf.kp rfl,hc⟩
      rintro a w ⟨hf,hc⟩
      refine ca _ _ ?_
      refine xR (b:=rg) hf rfl (fun hb=>?_) (fun hb=>?_)
      ·replace hF:=mN hb hF
       clear hb
       refine qA fun K29 cg=>?_
       obtain ⟨ct,ba,hF⟩:=aA hF
       obtain ⟨cu,ap,hF⟩:=aA hF
       replace hc:=hc.nilRow 0 0
       refine tZ (fun _ _ h=>h) rfl (fun θ=>[⟨none,none,8,i6 ab⟩,⟨none,none,9,pq M⟩,⟨none,none,10,pq I⟩,⟨none,none,12,pq O⟩,⟨none,none,13,i6 xv⟩,⟨none,none,14,i6 R⟩,⟨none,none,34,.slice (some ⟨g,0,none⟩) D.length U⟩,⟨none,none,35,i6 ((D.length:Nat):Int)⟩,⟨none,none,36,i6 x⟩,⟨some 0,none,66,.slice t B.length s⟩,⟨some 1,none,67,i6 R⟩,⟨some 2,none,68,.slice (some ⟨(θ 16).b,0,none⟩) 1 1⟩,⟨some 3,none,69,.slice ((θ 24).p) ((B++[R]).length) ((θ 24).c)⟩,⟨some 4,none,70,i6 xv⟩,⟨some 5,none,71,.pointer (some ⟨O,0 + xv.toNat * 1,none⟩)⟩,⟨some 6,none,72,i6 (H xv.toNat)⟩]) (fun E θ=>(bif E 2 then .row (some ⟨(θ 16).b,0,none⟩) 1 (([R]:List Int).map aB) 3 1 else .row none 0 [] 0 0)::.box O (aN [] 601 aB H []) 87::.box Y [i6 x] 3::(bif E 3 then .row ((θ 24).p) ((θ 24).c) ((B++[R]).map aB) 3 1 else .row t s (B.map aB) 3 1)::(bif E 7 then .box I [.slice ((θ 24).p) ((B++[R]).length) ((θ 24).c)] 26 else .box I [.slice t B.length s] 26)::(bif E 8 then .box M [i6 (H xv.toNat)] 3 else .box M [i6 X] 3)::.row (some ⟨g,0,none⟩) U (D.map cT) 87 601::Lb) [(7,0),(7,3)] (fun a w=>∃ (bj:Nat) (av:Option Addr) (ax:Nat),Has 76 a [(8,i6 ab),(9,pq M),(10,pq I),(34,.slice (some ⟨g,0,none⟩) D.length U),(35,i6 ((D.length:Nat):Int)),(36,i6 x)]∧Ctx G (.row (some ⟨bj,0,none⟩) 1 (([R]:List Int).map aB) 3 1::.box O (aN [] 601 aB H []) 87::.box Y [i6 x] 3::.row av ax ((B++[R]).map aB) 3 1::.box I [.slice av ((B++[R]).length) ax] 26::.box M [i6 (H xv.toNat)] 3::.row (some ⟨g,0,none⟩) U (D.map cT) 87 601::Lb) w) aW (by kernel_rfl) (by kernel_rfl) (eV.of hf ⟨rfl,rfl,rfl,rfl,rfl,rfl,rfl,rfl,rfl,trivial,trivial,trivial,trivial,trivial,trivial,trivial,trivial⟩) hc ⟨?_,?_,?_,?_,?_,?_,?_,?_,?_,trivial⟩ ?_ ?_
       ·intro E θ a w hD hi hp he hc
        have e7:=hD.f 0 rfl hi
        try dsimp only at hc
        rw [e7] at hc
        have hf:=he.h0.mT he 2 rfl
        refine zL hf hc aK6 m4 rfl fun a w hf hc=>zD θ he hi hf 9 rfl rfl rfl ?_
        try dsimp only
        rw [aV 0 e7 rfl]
        exact hc
       ·intro E θ a w hD hi hp he hc
        have hf:=he.h0.mT he 5 rfl
        refine sp 1 hf rfl fun a hf=>zD θ he hi hf 10 rfl rfl rfl hc
       ·intro E θ a w hD hi hp he hc
        have e1:=hp.o 1 rfl
        try dsimp only at hc
        rw [hi] at hc
        have hf:=he.h0.mP he 10 rfl e1
        refine pJ (rows:=([R]:List Int).map aB) (vs:=[(0,i6 R)]) hf hc rfl rfl qG rfl ⟨rfl,rfl,rfl,trivial⟩ rfl rfl fun cm a w hf hc=>aS ?_
        refine dA ?_
        intro ds u a8
        replace hc:=hc.drop k1
        refine ⟨(sK θ 16 ⟨cm,none,0,(fun _=>(none,0))⟩),he.put hi a8 hf rfl [] trivial ⟨qq,qq,qq,qq,qq,qq,qq,qq,qq,qq,qq,qq,qq,qq,qq,qq,trivial⟩,?_⟩
        try dsimp only
        rw [aX E 2]
        exact hc
       ·intro E θ a w hD hi hp he hc
        have e0:=hp.o 0 rfl
        have e2:=hp.o 2 rfl
        have e7:=hD.f 1 rfl hi
        try dsimp only at hc
        rw [e2,hi,e7] at hc
        have hf:=(he.h0.mP he 9 rfl e0).mP he 11 rfl e2
        refine qI (xs:=B) (ys:=([R]:List Int)) hf hc rfl rfl qG rfl rfl rfl rfl rfl bA (mJ hc m0) (fun _ _=>u3) (by simpa using gJ ba) fun cd ck a w hf hc=>aS ?_
        refine dA ?_
        intro ds u a8
        refine ⟨(sK θ 24 ⟨0,cd,ck,(fun _=>(none,0))⟩),he.put hi a8 hf rfl [] trivial ⟨qq,qq,qq,qq,qq,qq,qq,qq,qq,qq,qq,qq,qq,qq,qq,qq,trivial⟩,?_⟩
        try dsimp only
        rw [eL 3 e2,aX E 3,aV 3 e7 rfl]
        exact hc
       ·intro E θ a w hD hi hp he hc
        have hf:=he.h0.mT he 4 rfl
        refine sp 1 hf rfl fun a hf=>zD θ he hi hf 13 rfl rfl rfl hc
       ·intro E θ a w hD hi hp he hc
        have e4:=hp.o 4 rfl
        have hf:=(he.h0.mT he 3 rfl).mP he 13 rfl e4
        refine zP hf rfl (kK Tryz.underlying87 eQ rfl rfl (aT ap).1 (aT ap).2) fun a hf=>zD θ he hi hf 14 rfl rfl rfl hc
       ·intro E θ a w hD hi hp he hc
        have e5:=hp.o 5 rfl
        have hf:=he.h0.mP he 14 rfl e5
        refine zE hf hc rfl (cN aY rfl (gF (j:=0) m1 (fun x=>(bA x).1) rfl ap rfl)) fun a w hf hc=>zD θ he hi hf 15 rfl rfl rfl hc
       ·intro E θ a w hD hi hp he hc
        have e3:=hp.o 3 rfl
        try dsimp only at hc
        rw [hi] at hc
        have hf:=(he.h0.mT he 2 rfl).mP he 12 rfl e3
        refine zW hf hc sz_26 u4 rfl fun w hc=>zG θ he hi hf rfl ?_
        try dsimp only
        rw [aX E 7]
        exact hc
       ·intro E θ a w hD hi hp he hc
        have e6:=hp.o 6 rfl
        try dsimp only at hc
        rw [hi] at hc
        have hf:=(he.h0.mT he 1 rfl).mP he 15 rfl e6
        refine zW hf hc eQ u5 rfl fun w hc=>zG θ he hi hf rfl ?_
        try dsimp only
        rw [aX E 8]
        exact hc
       ·intro E θ a w V he hc
        have hf:=he.h0
        have e2:=V 2 rfl
        have e3:=V 3 rfl
        have e7:=V 7 rfl
        have e8:=V 8 rfl
        replace hf:=hf.more he 8 rfl (onT)
        replace hf:=hf.more he 7 rfl (onT)
        replace hf:=hf.more he 6 rfl (onT)
        replace hf:=hf.more he 2 rfl (onT)
        replace hf:=hf.more he 1 rfl (onT)
        replace hf:=hf.more he 0 rfl (onT)
        try dsimp only at hc
        rw [e2,e3,e7,e8] at hc
        exact ⟨(θ 16).b,(θ 24).p,(θ 24).c,hf.kp rfl,hc⟩
       rintro a w ⟨bj,av,ax,hf,hc⟩
       refine cg _ _ ?_
       refine aM6 ?_
       refine aH9 rfl ?_
       refine bI ?_
       replace hc:=hc.drop k0
       exact ⟨rfl,((H xv.toNat),(B++[R])),_,(sj hF).symm,⟨av,ax,rfl⟩,hc⟩
      ·replace hF:=mR hb hF
       clear hb
       refine yB ?_
       refine b5 _ _ ?_
       exact ⟨(X,B),_,(sj hF).symm,⟨t,s,rfl⟩,hc⟩
     refine qA fun K30 cn=>mU (fun _ _ h=>h) rfl ?_
     refine zL hf hc aY m1 rfl fun a w hf hc=>sp 1 hf rfl fun a hf=>aS ?_
     refine cn _ _ ?_
     refine xR (b:=(decide (0 < x))) hf rfl (fun hb=>?_) (fun hb=>?_)
     ·replace hF:=mN hb hF
      clear hb
      refine mU (fun _ _ h=>h) rfl ?_
      refine sp 1 hf rfl fun a hf=>zL hf hc aK6 m3 rfl fun a w hf hc=>zL hf hc aY m1 rfl fun a w hf hc=>sp 1 hf rfl fun a hf=>?_
      obtain ⟨cq,bt,hF⟩:=aA hF
      obtain ⟨cr,rfl,b2,bu⟩:=jM hc m2 bt
      refine zP hf rfl (pIA Tryz.underlying26 eQ rfl rfl b2) fun a hf=>zE hf hc rfl (cN aY rfl (iC (sz:=1) (i:=(W (x - 1)).toNat) (j:=0) m2 bu rfl)) fun a w hf hc=>?_
      obtain ⟨bf,bv,hF⟩:=aA hF
      refine zQ (v:=i6 bf) hf hc aMd rfl (fun w hc=>vG R cq hc bv) fun a w hf hc=>sp 1 hf rfl fun a hf=>aS ?_
      exact a9 bf (some ⟨cr,0,none⟩) Z _ _  (hf.kp rfl) hc hF
     ·replace hF:=mR hb hF
      clear hb
      refine yB ?_
      exact a9 0 d Z _ _  (hf.kp rfl) hc hF
    ·rintro D_1 ⟨X,B⟩ _ a w az ⟨d,Z,rfl⟩ hf hc
     replace hf:Has ⟨76,jA (D_1::Ds)⟩ a [(8,i6 ab),(9,pq M),(10,pq I),(11,pq Y),(12,pq O),(34,.slice (some ⟨g,0,none⟩) D.length U),(35,i6 ((D.length:Nat):Int)),(36,i6 x)]:=hf.kp rfl
     replace hc:Ctx G (.box O (aN [] 601 aB H []) 87::.box Y [i6 x] 3::.row d Z (B.map aB) 3 1::.box I [.slice d B.length Z] 26::.box M [i6 X] 3::.row (some ⟨g,0,none⟩) U (D.map cT) 87 601::(kV (D_1::Ds)++Lf)) w:=kS (C:=[]) (L:=[.box O (aN [] 601 aB H []) 87,.box Y [i6 x] 3,.row d Z (B.map aB) 3 1,.box I [.slice d B.length Z] 26,.box M [i6 X] 3,.row (some ⟨g,0,none⟩) U (D.map cT) 87 601]) hc
     replace hF:(some (.cont (W (x + 1),X,B)))=some a1:=by rcases az with rfl | rfl <;> exact hF
     refine cj _ _ ?_
     refine eB ?_
     refine sp 2 hf rfl fun a hf=>aS ?_
     replace hc:=(hc.drop k1).drop k0
     exact b3 (W (x + 1),X,B) _ _ (sj hF).symm ⟨d,Z,(D_1::Ds),hf.kp rfl,hc⟩
    ·rintro D_1 ⟨X,B⟩ _ a w az ⟨d,Z,rfl⟩ hf hc
     replace hf:Has ⟨76,jA (D_1::Ds)⟩ a [(8,i6 ab),(9,pq M),(10,pq I),(11,pq Y),(12,pq O),(34,.slice (some ⟨g,0,none⟩) D.length U),(35,i6 ((D.length:Nat):Int)),(36,i6 x)]:=hf.kp rfl
     replace hc:Ctx G (.box O (aN [] 601 aB H []) 87::.box Y [i6 x] 3::.row d Z (B.map aB) 3 1::.box I [.slice d B.length Z] 26::.box M [i6 X] 3::.row (some ⟨g,0,none⟩) U (D.map cT) 87 601::(kV (D_1::Ds)++Lf)) w:=kS (C:=[]) (L:=[.box O (aN [] 601 aB H []) 87,.box Y [i6 x] 3,.row d Z (B.map aB) 3 1,.box I [.slice d B.length Z] 26,.box M [i6 X] 3,.row (some ⟨g,0,none⟩) U (D.map cT) 87 601]) hc
     replace hF:(none)=some a1:=by subst az; exact hF
     cases hF
   ·refine wp_exit ?_
    refine bI ?_
    refine bI ?_
    have he:=sj hF
    rw [← he] at aq
    refine fZ ?_
    exact bq _ _ _ aq ⟨ad,ac,Ds,hf.kp rfl,hc⟩

def fM (N:Nat) (l:List aK) (D:aK) (B:aK):Option ((List aK)) :=
 cond (((l.length:Nat):Int) == 0)
 (Option.bind (rR ((l++[D,B])).length) fun un=>
 some (l++[D,B]))
 (Option.bind (bQ l (W (((l.length:Nat):Int) - 1))) fun H=>
 Option.bind (bQ l (W (((l.length:Nat):Int) - 1))) fun I=>
 cond (H.Gauging == I.Gauging && H.Up == B.Up)
 (Option.bind (bQ l (W (((l.length:Nat):Int) - 1))) fun M=>
 some (l.set (W (((l.length:Nat):Int) - 1)).toNat B))
 (Option.bind (rR ((l++[B])).length) fun J=>
 some (l++[B])))
theorem uA {N:Nat} {G:aU} {Lf:List Ent} {w:World} (l:List aK) (D:aK) (B:aK) {U:Option Addr} {I:Nat}  (hc:Ctx G (.row U I (l.map dD) 95 2::Lf) w) {J:(List aK)} (hF:fM N l D B=some J):Calls Tryz.prog 28 #[.slice U l.length I,.agg #[i6 D.Gauging,.bool D.Up],.agg #[i6 B.Gauging,.bool B.Up]] w (fun e w=>∃ (S:Option Addr) (R:Nat),e=.returned (.slice S J.length R)∧Ctx G (.row S R (J.map dD) 95 2::Lf) w):=by
 unfold fM at hF
 refine bU Tryz.func28 rfl Tryz.ntmps28 rfl fun a hf=>zS fun K h=>zB hf hc rfl fun v a w hf hc=>zB hf hc rfl fun t a w hf hc=>sp 1 hf rfl fun a hf=>zT h ?_
 refine wp_seq_k fun K2 h2=>wp_block ?_
 refine zS fun K h=>sp 1 hf rfl fun a hf=>zP hf rfl (cR Tryz.underlying57 rfl) fun a hf=>sp 2 hf rfl fun a hf=>zT h ?_
 refine zI hf rfl hF ?_ ?_ <;> clear hF <;> intro hF
 ·refine zS fun K h=>sp 1 hf rfl fun a hf=>zN hf hc tG m1 rfl fun a w hf hc=>zN hf hc tG m0 rfl fun a w hf hc=>pJ (rows:=([D,B]:List aK).map dD) (vs:=[(0,.agg #[i6 D.Gauging,.bool D.Up]),(1,.agg #[i6 B.Gauging,.bool B.Up])]) hf hc rfl rfl aIn rfl ⟨rfl,rfl,rfl,rfl,rfl,rfl,trivial⟩ rfl rfl fun y a w hf hc=>?_
  obtain ⟨un,p,hF⟩:=aA hF
  refine qI (xs:=l) (ys:=([D,B]:List aK)) hf hc rfl rfl aIn rfl rfl rfl rfl rfl nE (mJ hc m0) (fun _ _=>u3) (by simpa using gJ p) fun d q a w hf hc=>sp 1 hf rfl fun a hf=>zT h ?_
  refine wp_ret ?_
  refine bT ?_
  refine aQ ?_
  obtain rfl:=sj hF
  replace hc:=((hc.drop k2).drop k1).drop k0
  exact zO1 Tryz.results28 hf rfl ⟨d,q,rfl,hc⟩
 ·refine wp_seq_k fun K5 h5=>?_
  obtain ⟨O,Y,hF⟩:=aA hF
  obtain ⟨g,rfl,qa,qr⟩:=jM hc m2 Y
  obtain ⟨o,V,hF⟩:=aA hF
  obtain ⟨X,b⟩:=iF hc m2 V
  refine cQ hc aW (by kernel_rfl) ?_
  refine qE hf rfl rfl rfl (Pu.ev (pM rfl)) fun a hf=>qE hf rfl rfl rfl (Pu.ev (pM rfl)) fun a hf=>qE hf rfl rfl rfl (Pu.ev (cR Tryz.underlying57 rfl)) fun a hf=>qE hf rfl rfl rfl (Pu.ev (aEq rfl rfl)) fun a hf=>qE hf rfl rfl rfl (Pu.ev (pIA Tryz.underlying57 sV rfl rfl qa)) fun a hf=>qE hf rfl rfl rfl (jE (vs:=[i6 O.Gauging,.bool O.Up]) tG rfl rfl (jV (sz:=2) (i:=(W (((l.length:Nat):Int) - 1)).toNat) m2 qr (n:=2) (o':=0) rfl)) fun a hf=>qE hf rfl rfl rfl (Pu.ev (pM rfl)) fun a hf=>qE hf rfl rfl rfl (Pu.ev (pM rfl)) fun a hf=>qE hf rfl rfl rfl (Pu.ev (cR Tryz.underlying57 rfl)) fun a hf=>qE hf rfl rfl rfl (Pu.ev (aEq rfl rfl)) fun a hf=>qE hf rfl rfl rfl (Pu.ev (pIA Tryz.underlying57 sV rfl rfl X)) fun a hf=>qE hf rfl rfl rfl (Pu.ev (pFA rW rfl)) fun a hf=>qE hf rfl rfl rfl (cN aY rfl (iC (sz:=2) (i:=(W (((l.length:Nat):Int) - 1)).toNat) (j:=0) m2 b rfl)) fun a hf=>?_
  refine qE hf rfl rfl rfl (Pu.ev (pFA tX rfl)) fun a hf=>qE hf rfl rfl rfl (cN wC rfl (bO m0 rfl)) fun a hf=>qE hf rfl rfl rfl (Pu.ev (bL (cells:=[i6 o.Gauging,.bool B.Up]) aFd rfl rfl)) fun a hf=>qE hf rfl rfl rfl (Pu.ev (pEqA ge_95 rfl rfl (aOo _ _ _ _))) fun a hf=>qE hf rfl rfl rfl (Pu.ev (pA rfl)) fun a hf=>?_
  intro w hc
  refine h5 _ _ ?_
  refine zI hf rfl hF ?_ ?_ <;> clear hF <;> intro hF
  ·refine zS fun K h=>sp 2 hf rfl fun a hf=>zP hf rfl (cR Tryz.underlying57 rfl) fun a hf=>sp 1 hf rfl fun a hf=>zN hf hc tG m0 rfl fun a w hf hc=>?_
   obtain ⟨aa,H,hF⟩:=aA hF
   obtain ⟨Z,s⟩:=iF hc m2 H
   refine zP hf rfl (pIA Tryz.underlying57 sV rfl rfl Z) fun a hf=>aCs (sz:=2) (vs:=[i6 B.Gauging,.bool B.Up]) (o':=0) (z:=B) (xs:=l) hf hc rfl rfl rfl rfl sV rfl (fun x=>(nE x).1) (nA H) (fun _ _=>rfl) rfl u2 fun w hc=>zT h ?_
   refine zS fun K h=>sp 2 hf rfl fun a hf=>zT h ?_
   refine wp_ret ?_
   refine bT ?_
   refine aQ ?_
   obtain rfl:=sj hF
   replace hc:=(hc.drop k1).drop k0
   exact zO1 Tryz.results28 hf rfl ⟨(some ⟨g,0,none⟩),I,(by first | rfl | simp only [List.length_set]),hc⟩
  ·refine wp_skip ?_
   refine h2 _ _ ?_
   refine zS fun K h=>sp 1 hf rfl fun a hf=>zN hf hc tG m0 rfl fun a w hf hc=>pJ (rows:=([B]:List aK).map dD) (vs:=[(0,.agg #[i6 B.Gauging,.bool B.Up])]) hf hc rfl rfl aIn rfl ⟨rfl,rfl,rfl,trivial⟩ rfl rfl fun u a w hf hc=>?_
   obtain ⟨r,M,hF⟩:=aA hF
   refine qI (xs:=l) (ys:=([B]:List aK)) hf hc rfl rfl aIn rfl rfl rfl rfl rfl nE (mJ hc m0) (fun _ _=>u3) (by simpa using gJ M) fun k m a w hf hc=>sp 1 hf rfl fun a hf=>zT h ?_
   refine wp_ret ?_
   obtain rfl:=sj hF
   replace hc:=((hc.drop k2).drop k1).drop k0
   exact zO1 Tryz.results28 hf rfl ⟨k,m,rfl,hc⟩

def eH (N:Nat) (x:Int) (B:List aK) (H:Int) (I:Int) (J:Int) (D:Int):Option (cP ((List aK) × Int × Int × Int × Int × Int) ((List aK) × Int)) :=
 some (.cont (B,W (x + 1),H,I,J,D))
def fU (N:Nat) (out:List aK) (x:Int) (I:Int) (J:Int) (D:aC) (H:Int) (B:Int):Option (cP ((List aK) × Int × Int × Int × Int × Int) ((List aK) × Int)) :=
 cond (decide (D.Hi < I))
 (eH N x out H D.Hi B x)
 (eH N x out H I B J)
def eI (N:Nat) (M:(List aC) × Int) (out:List aK) (x:Int) (D:Int) (H:Int) (J:Int) (I:Int):Option (cP ((List aK) × Int × Int × Int × Int × Int) ((List aK) × Int)) :=
 cond (decide (x < ((M.1.length:Nat):Int)))
 (Option.bind (bQ M.1 x) fun B=>
 cond (decide (H < B.Lo))
 (Option.bind (fM N out (⟨I,true⟩:aK) (⟨x,false⟩:aK)) fun O=>
 eH N x O B.Lo B.Lo x x)
 (cond (decide (B.Hi < D))
 (Option.bind (fM N out (⟨J,false⟩:aK) (⟨x,true⟩:aK)) fun R=>
 eH N x R B.Hi B.Hi x x)
 (cond (decide (D < B.Lo))
 (fU N out x H I B B.Lo x)
 (fU N out x H I B D J))))
 (some (.brk (out,x,D,H,J,I)))
def jY (N:Nat) (r:aR):Option ((List aK) × Int) :=
 Option.bind (gY N r) (vF (fun I=>cond (I != 0)
 (some (([]:List aK),I))
 (none))
 (fun D=>cond (D.2 != 0)
 (some (([]:List aK),D.2))
 (Option.bind (bQ D.1 0) fun H=>
 Option.bind (bC (fun B=>eI N D B.1 B.2.1 B.2.2.1 B.2.2.2.1 B.2.2.2.2.1 B.2.2.2.2.2) N (([]:List aK),0,H.Lo,H.Hi,0,0)) fun J=>
 exK J (fun B=>some (B.1,0)) some)))
theorem aAn {N:Nat} {G:aU} {Lf:List Ent} {w:World} (r:aR) {R:Option Addr} {V:Nat} {D:Option Addr} {I:Nat} (U:Rd G 2 R V (r.Rating.map bF)) (H:Rd G 4 D I (r.Gaugings.map bB)) (hc:Ctx G (Lf) w) {p:(List aK) × Int} (hF:jY N r=some p):Calls Tryz.prog 13 #[.agg #[.slice R r.Rating.length V,.slice D r.Gaugings.length I]] w (fun e w=>∃ (am:Option Addr) (aj:Nat),e=.returned (.tuple #[.slice am p.1.length aj,i6 p.2])∧Ctx G (.row am aj (p.1.map dD) 95 2::Lf) w):=by
 unfold jY at hF
 refine bU Tryz.func13 rfl Tryz.ntmps13 rfl fun a hf=>zS fun K h=>zB hf hc rfl fun bg a w hf hc=>sp 2 hf rfl fun a hf=>zT h ?_
 refine zS fun K h=>zN hf hc wJ m0 rfl fun a w hf hc=>?_
 obtain ⟨ak,ab,hF⟩:=aA hF
 cases ak with
 | inl ak=>
  replace hF:=wF hF
  refine zC hf aAb rfl (gM r U H hc ab) ?_
  rintro _ w ⟨rfl,hc⟩
  refine ⟨_,rfl,fun a hf=>?_⟩
  refine sp 5 hf rfl fun a hf=>zT h ?_
  refine wp_seq_k fun K3 h3=>zS fun K h=>sp 2 hf rfl fun a hf=>zT h ?_
  refine zI hf rfl hF ?_ ?_ <;> clear hF <;> intro hF
  ·refine zS fun K h=>sp 3 hf rfl fun a hf=>zT h ?_
   refine wp_ret ?_
   refine aQ ?_
   obtain rfl:=sj hF
   replace hc:=hc.nilRow 95 2
   replace hc:=hc.drop k1
   exact zO2 Tryz.results13 hf rfl rfl ⟨none,0,rfl,hc⟩
  ·refine wp_skip ?_
   refine h3 _ _ ?_
   refine wp_seq_k fun K6 h6=>wD hF
 | inr O=>
  replace hF:=wI hF
  have az:=ab
  refine zC hf aAb rfl (gM r U H hc az) ?_
  rintro _ w ⟨bd,bf,j,rfl,hc⟩
  refine ⟨_,rfl,fun a hf=>?_⟩
  refine sp 5 hf rfl fun a hf=>zT h ?_
  refine wp_seq_k fun K7 h7=>zS fun K h=>sp 2 hf rfl fun a hf=>zT h ?_
  refine zI hf rfl hF ?_ ?_ <;> clear hF <;> intro hF
  ·refine zS fun K h=>sp 3 hf rfl fun a hf=>zT h ?_
   refine wp_ret ?_
   refine aQ ?_
   obtain rfl:=sj hF
   replace hc:=hc.nilRow 95 2
   replace hc:=((hc.drop k3).drop k2).drop k1
   exact zO2 Tryz.results13 hf rfl rfl ⟨none,0,rfl,hc⟩
  ·refine wp_skip ?_
   refine h7 _ _ ?_
   refine zS fun K h=>sp 2 hf rfl fun a hf=>zP hf rfl (pFA sJ rfl) fun a hf=>zL hf hc rC m1 rfl fun a w hf hc=>?_
   obtain ⟨b,ay,hF⟩:=aA hF
   obtain ⟨g,rfl,qa,qr⟩:=jM hc m0 ay
   refine zP hf rfl (pIA Tryz.underlying79 fN rfl rfl qa) fun a hf=>zE hf hc rfl (jE (vs:=[i6 b.Lo,i6 b.Hi]) iS rfl rfl (jV (sz:=2) (i:=(0:Int).toNat) m0 qr (n:=2) (o':=0) rfl)) fun a w hf hc=>zP hf rfl (bL (cells:=[i6 b.Lo,i6 b.Hi,i6 0,i6 0]) aKx rfl rfl) fun a hf=>zA hf hc zr_92 rfl fun d a w hf hc=>zW hf hc aKb u0 rfl fun w hc=>zT h ?_
   refine zS fun K h=>sp 1 hf rfl fun a hf=>zT h ?_
   refine wp_seq_k fun K12 a7=>zS fun K h=>sp 2 hf rfl fun a hf=>zP hf rfl (pFA sJ rfl) fun a hf=>zL hf hc rC m2 rfl fun a w hf hc=>zP hf rfl (cR Tryz.underlying79 rfl) fun a hf=>sp 1 hf rfl fun a hf=>zT h ?_
   refine wp_block ?_
   obtain ⟨ac,ap,hF⟩:=aA hF
   let S14:((List aK) × Int × Int × Int × Int × Int)→Act→World→Prop:=(fun (zz:(List aK) × Int × Int × Int × Int × Int) a w=>∃ (J:Option Addr) (M:Nat),Has 105 a [(6,pq d),(7,.slice J zz.1.length M),(28,.slice (some ⟨g,0,none⟩) O.1.length j),(29,i6 ((O.1.length:Nat):Int)),(30,i6 zz.2.1)]∧Ctx G (.row J M (zz.1.map dD) 95 2::.box d [i6 zz.2.2.1,i6 zz.2.2.2.1,i6 zz.2.2.2.2.1,i6 zz.2.2.2.2.2] 92::.row (some ⟨g,0,none⟩) j (O.1.map aH) 51 2::Lf) w)
   have au:∀ (zz:(List aK) × Int × Int × Int × Int × Int) a w,ac=.go zz→S14 zz a w→K12 a w:=by
    rintro ⟨out,x,ai,z,y,Z⟩ a w rfl ⟨J,M,hf,hc⟩
    replace hF:=cI hF
    refine a7 _ _ ?_
    refine zS fun K h=>sp 3 hf rfl fun a hf=>zT h ?_
    refine wp_ret ?_
    obtain rfl:=sj hF
    replace hc:=(hc.drop k2).drop k1
    exact zO2 Tryz.results13 hf rfl rfl ⟨J,M,rfl,hc⟩
   have bc:∀ r,ac=.out r→r=p:=by
    rintro r rfl
    exact sj hF
   replace hc:=hc.nilRow 95 2
   replace hc:=(hc.drop k4).drop k3
   refine eR N (eO (S:=S14) (x:=ac) ?_ N (([]:List aK),0,b.Lo,b.Hi,0,0) _ _ ⟨none,0,hf.kp rfl,hc⟩ ap)
   clear hF hf hc
   rintro ⟨out,x,ai,z,y,Z⟩ ad a w KB14 ⟨J,M,hf,hc⟩ hF o aq
   unfold eI at hF
   refine zS fun K h=>sp 1 hf rfl fun a hf=>zT h ?_
   refine wp_seq_k fun K17 a2=>zI hf rfl hF ?_ ?_ <;> clear hF <;> intro hF
   ·refine wp_skip ?_
    refine a2 _ _ ?_
    refine wp_seq_k fun K18 a8=>?_
    have k:∀ (X:List aK) (aa:Int) (v:Int) (s:Int) (u:Int) (t:Option Addr) (q:Nat) a w,Has 105 a [(6,pq d),(7,.slice t X.length q),(28,.slice (some ⟨g,0,none⟩) O.1.length j),(29,i6 ((O.1.length:Nat):Int)),(30,i6 x)]→Ctx G (.row t q (X.map dD) 95 2::.box d [i6 aa,i6 v,i6 s,i6 u] 92::.row (some ⟨g,0,none⟩) j (O.1.map aH) 51 2::Lf) w→eH N x X aa v s u=some ad→K18 a w:=by
     repeat (clear hF)
     repeat (clear hc)
     repeat (clear hf)
     intro X aa v s u t q a w hf hc hF
     unfold eH at hF
     refine a8 _ _ ?_
     refine eB ?_
     refine sp 2 hf rfl fun a hf=>aS ?_
     exact aq (X,W (x + 1),aa,v,s,u) _ _ (sj hF).symm ⟨t,q,hf.kp rfl,hc⟩
    refine wp_block ?_
    refine zS fun K h=>sp 1 hf rfl fun a hf=>?_
    obtain ⟨B,av,hF⟩:=aA hF
    obtain ⟨an,a0⟩:=iF hc m2 av
    refine zP hf rfl (pIA Tryz.underlying79 fN rfl rfl an) fun a hf=>zE hf hc rfl (jE (vs:=[i6 B.Lo,i6 B.Hi]) iS rfl rfl (jV (sz:=2) (i:=x.toNat) m2 a0 (n:=2) (o':=0) rfl)) fun a w hf hc=>zA hf hc uF rfl fun ag a w hf hc=>sp 1 hf rfl fun a hf=>zW hf hc fN u0 rfl fun w hc=>zT h ?_
    refine wp_seq_k fun K20 a1=>wp_block ?_
    refine zS fun K h=>zP hf rfl (pFA fY rfl) fun a hf=>zL hf hc aY m0 rfl fun a w hf hc=>zP hf rfl (pFA vR rfl) fun a hf=>zP hf rfl (pFA fD rfl) fun a hf=>zL hf hc aY m2 rfl fun a w hf hc=>sp 2 hf rfl fun a hf=>zT h ?_
    refine zI hf rfl hF ?_ ?_ <;> clear hF <;> intro hF
    ·refine zS fun K h=>sp 1 hf rfl fun a hf=>zP hf rfl (pFA aHk rfl) fun a hf=>zL hf hc aY m2 rfl fun a w hf hc=>zP hf rfl (bL (cells:=[i6 Z,.bool true]) aFd rfl rfl) fun a hf=>sp 1 hf rfl fun a hf=>zP hf rfl (bL (cells:=[i6 x,.bool false]) aFd rfl rfl) fun a hf=>?_
     obtain ⟨ba,ax,hF⟩:=aA hF
     refine zC hf aMc rfl (uA out (⟨Z,true⟩:aK) (⟨x,false⟩:aK) (hc.pick k1) ax) ?_
     rintro _ w ⟨bb,a9,rfl,hc⟩
     refine ⟨_,rfl,fun a hf=>?_⟩
     refine sp 1 hf rfl fun a hf=>zT h ?_
     refine zS fun K h=>zP hf rfl (pFA fY rfl) fun a hf=>zL hf hc aY m1 rfl fun a w hf hc=>zP hf rfl (pFA fY rfl) fun a hf=>zL hf hc aY m1 rfl fun a w hf hc=>zP hf rfl (bL (cells:=[i6 B.Lo,i6 B.Lo]) qD rfl rfl) fun a hf=>sp 2 hf rfl fun a hf=>zP hf rfl (bL (cells:=[i6 B.Lo,i6 B.Lo,i6 x,i6 x]) aKx rfl rfl) fun a hf=>zW hf hc aKb u2 rfl fun w hc=>zT h ?_
     refine wp_exit ?_
     refine aH9 rfl ?_
     refine bI ?_
     refine fZ ?_
     replace hc:=hc.drop k1
     exact k ba B.Lo B.Lo x x bb a9 _ _  (hf.kp rfl) hc hF
    ·refine zS fun K h=>zP hf rfl (pFA fD rfl) fun a hf=>zL hf hc aY m0 rfl fun a w hf hc=>zP hf rfl (pFA vR rfl) fun a hf=>zP hf rfl (pFA fY rfl) fun a hf=>zL hf hc aY m2 rfl fun a w hf hc=>sp 2 hf rfl fun a hf=>zT h ?_
     refine zI hf rfl hF ?_ ?_ <;> clear hF <;> intro hF
     ·refine zS fun K h=>sp 1 hf rfl fun a hf=>zP hf rfl (pFA aHg rfl) fun a hf=>zL hf hc aY m2 rfl fun a w hf hc=>zP hf rfl (bL (cells:=[i6 y,.bool false]) aFd rfl rfl) fun a hf=>sp 1 hf rfl fun a hf=>zP hf rfl (bL (cells:=[i6 x,.bool true]) aFd rfl rfl) fun a hf=>?_
      obtain ⟨a4,ar,hF⟩:=aA hF
      refine zC hf aMc rfl (uA out (⟨y,false⟩:aK) (⟨x,true⟩:aK) (hc.pick k1) ar) ?_
      rintro _ w ⟨a6,a3,rfl,hc⟩
      refine ⟨_,rfl,fun a hf=>?_⟩
      refine sp 1 hf rfl fun a hf=>zT h ?_
      refine zS fun K h=>zP hf rfl (pFA fD rfl) fun a hf=>zL hf hc aY m1 rfl fun a w hf hc=>zP hf rfl (pFA fD rfl) fun a hf=>zL hf hc aY m1 rfl fun a w hf hc=>zP hf rfl (bL (cells:=[i6 B.Hi,i6 B.Hi]) qD rfl rfl) fun a hf=>sp 2 hf rfl fun a hf=>zP hf rfl (bL (cells:=[i6 B.Hi,i6 B.Hi,i6 x,i6 x]) aKx rfl rfl) fun a hf=>zW hf hc aKb u2 rfl fun w hc=>zT h ?_
      refine wp_exit ?_
      refine aH9 rfl ?_
      refine bI ?_
      refine fZ ?_
      replace hc:=hc.drop k1
      exact k a4 B.Hi B.Hi x x a6 a3 _ _  (hf.kp rfl) hc hF
     ·refine wp_skip ?_
      refine a1 _ _ ?_
      refine wp_seq_k fun K27 a5=>?_
      have af:∀ (m:Int) (Y:Int) a w,Has 105 a [(6,pq d),(7,.slice J out.length M),(8,i6 x),(9,pq ag),(28,.slice (some ⟨g,0,none⟩) O.1.length j),(29,i6 ((O.1.length:Nat):Int)),(30,i6 x)]→Ctx G (.box ag [i6 B.Lo,i6 B.Hi] 51::.row J M (out.map dD) 95 2::.box d [i6 m,i6 z,i6 Y,i6 Z] 92::.row (some ⟨g,0,none⟩) j (O.1.map aH) 51 2::Lf) w→fU N out x z Z B m Y=some ad→K27 a w:=by
       repeat (clear hF)
       repeat (clear hc)
       repeat (clear hf)
       intro m Y a w hf hc hF
       unfold fU at hF
       refine a5 _ _ ?_
       refine zS fun K h=>zP hf rfl (pFA fD rfl) fun a hf=>zL hf hc aY m0 rfl fun a w hf hc=>zP hf rfl (pFA vR rfl) fun a hf=>zP hf rfl (pFA fD rfl) fun a hf=>zL hf hc aY m2 rfl fun a w hf hc=>sp 1 hf rfl fun a hf=>zT h ?_
       refine zI hf rfl hF ?_ ?_ <;> clear hF <;> intro hF
       ·refine eB ?_
        refine zP hf rfl (pFA fD rfl) fun a hf=>zL hf hc aY m0 rfl fun a w hf hc=>sp 1 hf rfl fun a hf=>zP hf rfl (pFA vR rfl) fun a hf=>zP hf rfl (pFA fD rfl) fun a hf=>zW hf hc eQ u2 rfl fun w hc=>zP hf rfl (pFA aHk rfl) fun a hf=>zW hf hc eQ u2 rfl fun w hc=>aS ?_
        replace hc:=hc.drop k0
        exact k out m B.Hi Y x J M _ _  (hf.kp rfl) hc hF
       ·refine wp_skip ?_
        replace hc:=hc.drop k0
        exact k out m z Y Z J M _ _  (hf.kp rfl) hc hF
      refine zS fun K h=>zP hf rfl (pFA fY rfl) fun a hf=>zL hf hc aY m0 rfl fun a w hf hc=>zP hf rfl (pFA vR rfl) fun a hf=>zP hf rfl (pFA fY rfl) fun a hf=>zL hf hc aY m2 rfl fun a w hf hc=>sp 1 hf rfl fun a hf=>zT h ?_
      refine zI hf rfl hF ?_ ?_ <;> clear hF <;> intro hF
      ·refine eB ?_
       refine zP hf rfl (pFA fY rfl) fun a hf=>zL hf hc aY m0 rfl fun a w hf hc=>sp 1 hf rfl fun a hf=>zP hf rfl (pFA vR rfl) fun a hf=>zP hf rfl (pFA fY rfl) fun a hf=>zW hf hc eQ u2 rfl fun w hc=>zP hf rfl (pFA aHg rfl) fun a hf=>zW hf hc eQ u2 rfl fun w hc=>aS ?_
       exact af B.Lo x _ _  (hf.kp rfl) hc hF
      ·refine wp_skip ?_
       exact af ai y _ _  (hf.kp rfl) hc hF
   ·refine wp_exit ?_
    refine bI ?_
    refine bI ?_
    have he:=sj hF
    rw [← he] at o
    refine fZ ?_
    exact au _ _ _ o ⟨J,M,hf.kp rfl,hc⟩

def hO (t_:aK) (x:aR):Bool :=
 (bD t_.Gauging 0 (W (((x.Gaugings.length:Nat):Int) - 1)))
theorem xU {G:aU} {Lf:List Ent} {w:World} (t_:aK) (x:aR) {b_:Nat} {H:Option Addr} {I:Nat} {B:Option Addr} {D:Nat} (M:Rd G 2 H I (x.Rating.map bF)) (J:Rd G 4 B D (x.Gaugings.map bB)) (hc:Ctx G (.box b_ [.slice H x.Rating.length I,.slice B x.Gaugings.length D] 44::Lf) w) {O:Bool} (hF:hO t_ x=O):Calls Tryz.prog 30 #[.agg #[i6 t_.Gauging,.bool t_.Up],pq b_] w (fun e w=>e=.returned (.bool O)∧Ctx G (.box b_ [.slice H x.Rating.length I,.slice B x.Gaugings.length D] 44::Lf) w):=by
 unfold hO at hF
 refine bU Tryz.func30 rfl Tryz.ntmps30 rfl fun a hf=>zS fun K h=>zB hf hc rfl fun R a w hf hc=>sp 1 hf rfl fun a hf=>zT h ?_
 refine zS fun K h=>zP hf rfl (pFA rW rfl) fun a hf=>zL hf hc aY m0 rfl fun a w hf hc=>zP hf rfl (pFA oU rfl) fun a hf=>zL hf hc yA m1 rfl fun a w hf hc=>zP hf rfl (cR Tryz.underlying42 rfl) fun a hf=>sp 1 hf rfl fun a hf=>zQ (v:=.bool (bD t_.Gauging 0 (W (((x.Gaugings.length:Nat):Int) - 1)))) hf hc vH rfl (fun w hc=>hU t_.Gauging 0 (W (((x.Gaugings.length:Nat):Int) - 1)) hc rfl) fun a w hf hc=>sp 1 hf rfl fun a hf=>zT h ?_
 refine wp_ret ?_
 obtain rfl:=hF
 replace hc:=hc.drop k0
 exact zO1 Tryz.results30 hf rfl ⟨rfl,hc⟩

def fH (x:aK) (B:aR):Bool :=
 (!(hO x B))
theorem qN {G:aU} {Lf:List Ent} {w:World} (x:aK) (J:aR) {b_:Nat} {R:Nat} {I:Option Addr} {H:Nat} {B:Option Addr} {D:Nat} (O:Rd G 2 I H (J.Rating.map bF)) (M:Rd G 4 B D (J.Gaugings.map bB)) (hc:Ctx G (.box b_ [.func (.func 30) #[] #[pq R]] 97::.box R [.slice I J.Rating.length H,.slice B J.Gaugings.length D] 44::Lf) w) {S:Bool} (hF:fH x J=S):Calls Tryz.prog 62 #[.agg #[i6 x.Gauging,.bool x.Up],pq b_] w (fun e w=>e=.returned (.bool S)∧Ctx G (.box b_ [.func (.func 30) #[] #[pq R]] 97::.box R [.slice I J.Rating.length H,.slice B J.Gaugings.length D] 44::Lf) w):=by
 unfold fH at hF
 refine bU Tryz.func62 rfl Tryz.ntmps62 rfl fun a hf=>zS fun K h=>zB hf hc rfl fun U a w hf hc=>sp 1 hf rfl fun a hf=>zT h ?_
 refine zS fun K h=>zL hf hc sc_97 m1 rfl fun a w hf hc=>zN hf hc tG m0 rfl fun a w hf hc=>zQ (v:=.bool (hO x J)) hf hc en_30 rfl (fun w hc=>(xU x J O M (hc.pick k2) rfl).mono fun e w h=>⟨h.1,(h.2.unpick k2)⟩) fun a w hf hc=>sp 2 hf rfl fun a hf=>zT h ?_
 refine wp_ret ?_
 obtain rfl:=hF
 replace hc:=hc.drop k0
 exact zO1 Tryz.results62 hf rfl ⟨rfl,hc⟩

def gC (N:Nat) (s_:List aK) (f_:aR) (x:Int):Option (cP (Int) (Int)) :=
 cond (decide (x < ((s_.length:Nat):Int)))
 (Option.bind (bQ s_ x) fun B=>
 cond (fH B f_)
 (some (.ret x))
 (some (.cont (W (x + 1)))))
 (some (.brk x))
def cZ (N:Nat) (s_:List aK) (f_:aR):Option (Int) :=
 Option.bind (bC (fun s4=>gC N s_ f_ s4) N 0) fun x4=>
 exK x4 (fun s4=>some (-1)) some
theorem lE {N:Nat} {G:aU} {Lf:List Ent} {w:World} (s_:List aK) (f_:aR) {U:Option Addr} {V:Nat} {b_:Nat} {J:Nat} {I:Option Addr} {H:Nat} {B:Option Addr} {D:Nat} (b:Rd G 2 U V (s_.map dD)) (R:Rd G 2 I H (f_.Rating.map bF)) (M:Rd G 4 B D (f_.Gaugings.map bB)) (hc:Ctx G (.box b_ [.func (.func 30) #[] #[pq J]] 97::.box J [.slice I f_.Rating.length H,.slice B f_.Gaugings.length D] 44::Lf) w) {Y:Int} (hF:cZ N s_ f_=some Y):Calls Tryz.prog 94 #[.slice U s_.length V,.func (.func 62) #[] #[pq b_]] w (fun e w=>e=.returned (i6 Y)∧Ctx G (.box b_ [.func (.func 30) #[] #[pq J]] 97::.box J [.slice I f_.Rating.length H,.slice B f_.Gaugings.length D] 44::Lf) w):=by
 unfold cZ at hF
 refine bU Tryz.func94 rfl Tryz.ntmps94 rfl fun a hf=>zS fun K h=>sp 1 hf rfl fun a hf=>zT h ?_
 refine wp_seq_k fun K2 h2=>zS fun K h=>sp 1 hf rfl fun a hf=>zP hf rfl (cR Tryz.underlying57 rfl) fun a hf=>sp 1 hf rfl fun a hf=>zT h ?_
 refine wp_block ?_
 obtain ⟨x4,g,hF⟩:=aA hF
 let S4:Int→Act→World→Prop:=(fun (zz:Int) a w=>Has 19 a [(0,.slice U s_.length V),(1,.func (.func 62) #[] #[pq b_]),(7,i6 ((s_.length:Nat):Int)),(8,i6 zz)]∧Ctx G (.box b_ [.func (.func 30) #[] #[pq J]] 97::.box J [.slice I f_.Rating.length H,.slice B f_.Gaugings.length D] 44::Lf) w)
 have j:∀ (zz:Int) a w,x4=.go zz→S4 zz a w→K2 a w:=by
  rintro x a w rfl ⟨hf,hc⟩
  replace hF:=cI hF
  refine h2 _ _ ?_
  refine zS fun K h=>sp 1 hf rfl fun a hf=>zT h ?_
  refine wp_ret ?_
  obtain rfl:=sj hF
  exact zO1 Tryz.results94 hf rfl ⟨rfl,hc⟩
 have i:∀ r,x4=.out r→r=Y:=by
  rintro r rfl
  exact sj hF
 refine eR N (eO (S:=S4) (x:=x4) ?_ N 0 _ _ ⟨hf.kp rfl,hc⟩ g)
 clear hF hf hc
 rintro x m a w KB4 ⟨hf,hc⟩ hF O d
 unfold gC at hF
 refine zS fun K h=>sp 1 hf rfl fun a hf=>zT h ?_
 refine wp_seq_k fun K7 h7=>zI hf rfl hF ?_ ?_ <;> clear hF <;> intro hF
 ·refine wp_skip ?_
  refine h7 _ _ ?_
  refine wp_seq_k fun K8 h8=>wp_block ?_
  refine zS fun K h=>sp 2 hf rfl fun a hf=>zT h ?_
  refine zS fun K h=>sp 3 hf rfl fun a hf=>?_
  obtain ⟨X,Z,hF⟩:=aA hF
  obtain ⟨k,o,qa,qp⟩:=b.atm Z
  refine zP hf rfl (pIA Tryz.underlying57 sV rfl rfl qa) fun a hf=>zE hf hc rfl (jE (vs:=[i6 X.Gauging,.bool X.Up]) tG rfl rfl (dS qp (n:=2) (o':=0) rfl)) fun a w hf hc=>zQ (v:=.bool (fH X f_)) hf hc en_62 rfl (fun w hc=>(qN X f_ R M ((hc.pick k1).pick k1) rfl).mono fun e w h=>⟨h.1,((h.2.unpick k1).unpick k1)⟩) fun a w hf hc=>zT h ?_
  refine zI hf rfl hF ?_ ?_ <;> clear hF <;> intro hF
  ·refine zS fun K h=>sp 2 hf rfl fun a hf=>zT h ?_
   refine wp_ret ?_
   refine bT ?_
   refine aQ ?_
   refine aQ ?_
   have he:=sj hF
   rw [← he] at O
   replace hF:=i _ O
   refine bT ?_
   refine aQ ?_
   obtain rfl:=hF
   exact zO1 Tryz.results94 hf rfl ⟨rfl,hc⟩
  ·refine wp_skip ?_
   refine h8 _ _ ?_
   refine eB ?_
   refine sp 2 hf rfl fun a hf=>aS ?_
   exact d (W (x + 1)) _ _ (sj hF).symm ⟨hf.kp rfl,hc⟩
 ·refine wp_exit ?_
  refine bI ?_
  refine bI ?_
  have he:=sj hF
  rw [← he] at O
  refine fZ ?_
  exact j _ _ _ O ⟨hf.kp rfl,hc⟩

def cJ (N:Nat) (s_:List aK) (f_:aR):Option (Bool) :=
 Option.bind (cZ N s_ f_) fun r=>
 some (decide (0≤r))
theorem kI {N:Nat} {G:aU} {Lf:List Ent} {w:World} (s_:List aK) (f_:aR) {R:Option Addr} {S:Nat} {b_:Nat} {O:Nat} {I:Option Addr} {H:Nat} {B:Option Addr} {D:Nat} (V:Rd G 2 R S (s_.map dD)) (M:Rd G 2 I H (f_.Rating.map bF)) (J:Rd G 4 B D (f_.Gaugings.map bB)) (hc:Ctx G (.box b_ [.func (.func 30) #[] #[pq O]] 97::.box O [.slice I f_.Rating.length H,.slice B f_.Gaugings.length D] 44::Lf) w) {U:Bool} (hF:cJ N s_ f_=some U):Calls Tryz.prog 61 #[.slice R s_.length S,.func (.func 62) #[] #[pq b_]] w (fun e w=>e=.returned (.bool U)∧Ctx G (.box b_ [.func (.func 30) #[] #[pq O]] 97::.box O [.slice I f_.Rating.length H,.slice B f_.Gaugings.length D] 44::Lf) w):=by
 unfold cJ at hF
 refine bU Tryz.func61 rfl Tryz.ntmps61 rfl fun a hf=>zS fun K h=>sp 1 hf rfl fun a hf=>zT h ?_
 refine zS fun K h=>sp 2 hf rfl fun a hf=>?_
 obtain ⟨r,hr,hF⟩:=aA hF
 refine zQ (v:=i6 r) hf hc en_94 rfl (fun w hc=>(lE s_ f_ V M J ((hc.pick k1).pick k1) hr).mono fun e w h=>⟨h.1,((h.2.unpick k1).unpick k1)⟩) fun a w hf hc=>sp 2 hf rfl fun a hf=>zT h ?_
 refine wp_ret ?_
 obtain rfl:=sj hF
 exact zO1 Tryz.results61 hf rfl ⟨rfl,hc⟩

def dY (N:Nat) (l:List aK) (so:aR):Option (Bool) :=
 Option.bind (cJ N l so) fun r=>
 some (!r)
theorem mK {N:Nat} {G:aU} {Lf:List Ent} {w:World} (l:List aK) (so:aR) {S:Option Addr} {O:Nat} {b_:Nat} {H:Option Addr} {I:Nat} {B:Option Addr} {D:Nat} (V:Rd G 2 S O (l.map dD)) (M:Rd G 2 H I (so.Rating.map bF)) (J:Rd G 4 B D (so.Gaugings.map bB)) (hc:Ctx G (.box b_ [.slice H so.Rating.length I,.slice B so.Gaugings.length D] 44::Lf) w) {R:Bool} (hF:dY N l so=some R):Calls Tryz.prog 29 #[.slice S l.length O,.func (.func 30) #[] #[pq b_]] w (fun e w=>e=.returned (.bool R)∧Ctx G (.box b_ [.slice H so.Rating.length I,.slice B so.Gaugings.length D] 44::Lf) w):=by
 unfold dY at hF
 refine bU Tryz.func29 rfl Tryz.ntmps29 rfl fun a hf=>zS fun K h=>zB hf hc rfl fun U a w hf hc=>sp 1 hf rfl fun a hf=>zT h ?_
 refine zS fun K h=>sp 1 hf rfl fun a hf=>zP hf rfl (pMF (us:=[pq U]) rfl rfl) fun a hf=>?_
 obtain ⟨r,hr,hF⟩:=aA hF
 refine zQ (v:=.bool r) hf hc en_61 rfl (fun w hc=>(kI l so V M J ((hc.pick k1).pick k1) hr).mono fun e w h=>⟨h.1,((h.2.unpick k1).unpick k1)⟩) fun a w hf hc=>sp 2 hf rfl fun a hf=>zT h ?_
 refine wp_ret ?_
 obtain rfl:=sj hF
 replace hc:=hc.drop k0
 exact zO1 Tryz.results29 hf rfl ⟨rfl,hc⟩

def bV (t_:aK):Bool :=
 cond t_.Up
 (true)
 (false)
theorem rL {G:aU} {Lf:List Ent} {w:World} (t_:aK)   (hc:Ctx G (Lf) w) {B:Bool} (hF:bV t_=B):Calls Tryz.prog 31 #[.agg #[i6 t_.Gauging,.bool t_.Up]] w (fun e w=>e=.returned (.agg #[(bif B then .func (.func 63) #[] #[] else .func (.func 64) #[] #[])])∧Ctx G (Lf) w):=by
 unfold bV at hF
 refine bU Tryz.func31 rfl Tryz.ntmps31 rfl fun a hf=>zS fun K h=>zB hf hc rfl fun H a w hf hc=>zA hf hc aNl rfl fun D a w hf hc=>zT h ?_
 refine wp_seq_k fun K2 h2=>zS fun K h=>zP hf rfl (pFA tX rfl) fun a hf=>zL hf hc wC m1 rfl fun a w hf hc=>zT h ?_
 refine zI hf rfl hF ?_ ?_ <;> clear hF <;> intro hF
 ·refine zS fun K h=>zP hf rfl (bL (cells:=[.func (.func 63) #[] #[]]) aKc rfl rfl) fun a hf=>zW hf hc aKu u0 rfl fun w hc=>zT h ?_
  refine wp_ret ?_
  refine aQ ?_
  obtain rfl:=hF
  replace hc:=hc.drop k1
  exact lC (by simp) rfl Tryz.results31 hf hc (cW (vs:=[.func (.func 63) #[] #[]]) aJt rfl rfl (bR (n:=1) m0 rfl)) ⟨rfl,(hc.drop k0)⟩
 ·refine wp_skip ?_
  refine h2 _ _ ?_
  refine zS fun K h=>zP hf rfl (bL (cells:=[.func (.func 64) #[] #[]]) aKc rfl rfl) fun a hf=>zW hf hc aKu u0 rfl fun w hc=>zT h ?_
  refine wp_ret ?_
  obtain rfl:=hF
  replace hc:=hc.drop k1
  exact lC (by simp) rfl Tryz.results31 hf hc (cW (vs:=[.func (.func 64) #[] #[]]) aJt rfl rfl (bR (n:=1) m0 rfl)) ⟨rfl,(hc.drop k0)⟩

def bY (s_:aC):Int :=
 s_.Hi
theorem pE {G:aU} {Lf:List Ent} {w:World} (s_:aC)   (hc:Ctx G (Lf) w) {B:Int} (hF:bY s_=B):Calls Tryz.prog 63 #[.agg #[i6 s_.Lo,i6 s_.Hi]] w (fun e w=>e=.returned (i6 B)∧Ctx G (Lf) w):=by
 unfold bY at hF
 refine bU Tryz.func63 rfl Tryz.ntmps63 rfl fun a hf=>zS fun K h=>zB hf hc rfl fun D a w hf hc=>sp 1 hf rfl fun a hf=>zT h ?_
 refine zS fun K h=>zP hf rfl (pFA fD rfl) fun a hf=>zL hf hc aY m0 rfl fun a w hf hc=>sp 1 hf rfl fun a hf=>zT h ?_
 refine wp_ret ?_
 obtain rfl:=hF
 replace hc:=hc.drop k0
 exact zO1 Tryz.results63 hf rfl ⟨rfl,hc⟩

def bZ (s_:aC):Int :=
 s_.Lo
theorem pG {G:aU} {Lf:List Ent} {w:World} (s_:aC)   (hc:Ctx G (Lf) w) {B:Int} (hF:bZ s_=B):Calls Tryz.prog 64 #[.agg #[i6 s_.Lo,i6 s_.Hi]] w (fun e w=>e=.returned (i6 B)∧Ctx G (Lf) w):=by
 unfold bZ at hF
 refine bU Tryz.func64 rfl Tryz.ntmps64 rfl fun a hf=>zS fun K h=>zB hf hc rfl fun D a w hf hc=>sp 1 hf rfl fun a hf=>zT h ?_
 refine zS fun K h=>zP hf rfl (pFA fY rfl) fun a hf=>zL hf hc aY m0 rfl fun a w hf hc=>sp 1 hf rfl fun a hf=>zT h ?_
 refine wp_ret ?_
 obtain rfl:=hF
 replace hc:=hc.drop k0
 exact zO1 Tryz.results64 hf rfl ⟨rfl,hc⟩

def oQ (N:Nat) (x:Int):Option (cP (Int) (Int × Int)) :=
 some (.cont (W (x + 1)))
def tE (N:Nat) (l:List aK) (x:Int):Option (cP (Int) (Int × Int)) :=
 cond (decide (x < ((l.length:Nat):Int)))
 (Option.bind (bQ l x) fun D=>
 cond (x == 0)
 (oQ N x)
 (Option.bind (bQ l (W (x - 1))) fun B=>
 cond ((decide (D.Gauging≤B.Gauging)) || (D.Up == B.Up))
 (some (.ret (0,9)))
 (none)))
 (some (.brk x))
def iU (N:Nat) (D:Int) (B:Int):Option (cP (Int × Int) (Int × Int)) :=
 some (.cont (B,W (D + 1)))
def gT (N:Nat) (l:List aK) (O:(List aC) × Int) (M:Int) (B:Int):Option (cP (Int × Int) (Int × Int)) :=
 cond (decide (B < ((l.length:Nat):Int)))
 (Option.bind (bQ l B) fun D=>
 cond (B == 0)
 (iU N B M)
 (Option.bind (bQ l (W (B - 1))) fun H=>
 cond ((decide (D.Gauging≤H.Gauging)) || (D.Up == H.Up))
 (some (.ret (0,9)))
 (Option.bind (bQ O.1 H.Gauging) fun I=>
 Option.bind (bQ O.1 D.Gauging) fun J=>
 cond D.Up
 (iU N B (W (M + (W ((bif (bV H) then (bY I) else (bZ I)) - (bif (bV D) then (bY J) else (bZ J)))))))
 (iU N B (W (M + (W ((bif (bV D) then (bY J) else (bZ J)) - (bif (bV H) then (bY I) else (bZ I))))))))))
 (some (.brk (M,B)))
def mG (N:Nat) (r:aR) (l:List aK):Option (Int × Int) :=
 Option.bind (gY N r) (vF (fun H=>cond (H != 0)
 (some (0,H))
 (Option.bind (dY N l r) fun M=>
 cond (!M)
 (some (0,2))
 (Option.bind (bC (fun I=>tE N l I) N 0) fun O=>
 exK O (fun I=>some (0,0)) some)))
 (fun D=>cond (D.2 != 0)
 (some (0,D.2))
 (Option.bind (dY N l r) fun J=>
 cond (!J)
 (some (0,2))
 (Option.bind (bC (fun B=>gT N l D B.1 B.2) N (0,0)) fun R=>
 exK R (fun B=>some (B.1,0)) some))))
theorem aAi {N:Nat} {G:aU} {Lf:List Ent} {w:World} (r:aR) (l:List aK) {M:Option Addr} {R:Nat} {B:Option Addr} {J:Nat} {V:Option Addr} {X:Nat} (O:Rd G 2 M R (r.Rating.map bF)) (H:Rd G 4 B J (r.Gaugings.map bB)) (q:Rd G 2 V X (l.map dD)) (hc:Ctx G (Lf) w) {y:Int × Int} (hF:mG N r l=some y):Calls Tryz.prog 14 #[.agg #[.slice M r.Rating.length R,.slice B r.Gaugings.length J],.slice V l.length X] w (fun e w=>e=.returned (.tuple #[i6 y.1,i6 y.2])∧Ctx G (Lf) w):=by
 unfold mG at hF
 refine bU Tryz.func14 rfl Tryz.ntmps14 rfl fun a hf=>zS fun K h=>zB hf hc rfl fun ap a w hf hc=>sp 2 hf rfl fun a hf=>zT h ?_
 refine zS fun K h=>zN hf hc wJ m0 rfl fun a w hf hc=>?_
 obtain ⟨aj,ag,hF⟩:=aA hF
 cases aj with
 | inl aj=>
  replace hF:=wF hF
  refine zC hf aAb rfl (gM r O H hc ag) ?_
  rintro _ w ⟨rfl,hc⟩
  refine ⟨_,rfl,fun a hf=>?_⟩
  refine sp 5 hf rfl fun a hf=>zT h ?_
  refine wp_seq_k fun K3 h3=>wp_block ?_
  refine zS fun K h=>sp 3 hf rfl fun a hf=>zT h ?_
  refine zI hf rfl hF ?_ ?_ <;> clear hF <;> intro hF
  ·refine zS fun K h=>sp 3 hf rfl fun a hf=>zT h ?_
   refine wp_ret ?_
   refine bT ?_
   refine aQ ?_
   obtain rfl:=sj hF
   replace hc:=hc.drop k0
   exact zO2 Tryz.results14 hf rfl rfl ⟨rfl,hc⟩
  ·refine zS fun K h=>sp 1 hf rfl fun a hf=>zP hf rfl (pMF (us:=[pq ap]) rfl rfl) fun a hf=>?_
   obtain ⟨bq,bi,hF⟩:=aA hF
   refine zQ (v:=.bool bq) hf hc aMu rfl (fun w hc=>(mK l r q O H (hc.pick k0) bi).mono fun e w h=>⟨h.1,(h.2.unpick k0)⟩) fun a w hf hc=>sp 2 hf rfl fun a hf=>zT h ?_
   refine zI hf rfl hF ?_ ?_ <;> clear hF <;> intro hF
   ·refine zS fun K h=>sp 2 hf rfl fun a hf=>zT h ?_
    refine wp_ret ?_
    refine bT ?_
    refine aQ ?_
    obtain rfl:=sj hF
    replace hc:=hc.drop k0
    exact zO2 Tryz.results14 hf rfl rfl ⟨rfl,hc⟩
   ·refine wp_skip ?_
    refine h3 _ _ ?_
    refine zS fun K h=>sp 1 hf rfl fun a hf=>zT h ?_
    refine wp_seq_k fun K9 h9=>zS fun K h=>sp 1 hf rfl fun a hf=>zP hf rfl (cR Tryz.underlying57 rfl) fun a hf=>sp 1 hf rfl fun a hf=>zT h ?_
    refine wp_block ?_
    obtain ⟨ad,bn,hF⟩:=aA hF
    let S11:Int→Act→World→Prop:=(fun (zz:Int) a w=>Has 92 a [(1,.slice V l.length X),(6,.pointer none),(8,i6 0),(28,.slice V l.length X),(29,i6 ((l.length:Nat):Int)),(30,i6 zz)]∧Ctx G (Lf) w)
    have az:∀ (zz:Int) a w,ad=.go zz→S11 zz a w→K9 a w:=by
     rintro x a w rfl ⟨hf,hc⟩
     replace hF:=cI hF
     refine h9 _ _ ?_
     refine zS fun K h=>sp 3 hf rfl fun a hf=>zT h ?_
     refine wp_ret ?_
     obtain rfl:=sj hF
     exact zO2 Tryz.results14 hf rfl rfl ⟨rfl,hc⟩
    have a1:∀ r,ad=.out r→r=y:=by
     rintro r rfl
     exact sj hF
    replace hc:=hc.drop k0
    refine eR N (eO (S:=S11) (x:=ad) ?_ N 0 _ _ ⟨hf.kp rfl,hc⟩ bn)
    clear hF hf hc
    rintro x bp a w KB11 ⟨hf,hc⟩ hF b bj
    unfold tE at hF
    refine zS fun K h=>sp 1 hf rfl fun a hf=>zT h ?_
    refine wp_seq_k fun K14 bs=>zI hf rfl hF ?_ ?_ <;> clear hF <;> intro hF
    ·refine wp_skip ?_
     refine bs _ _ ?_
     refine wp_seq_k fun K15 b3=>?_
     have a6:∀ a w,Has 92 a [(1,.slice V l.length X),(6,.pointer none),(8,i6 0),(28,.slice V l.length X),(29,i6 ((l.length:Nat):Int)),(30,i6 x)]→Ctx G (Lf) w→oQ N x=some bp→K15 a w:=by
      repeat (clear hF)
      repeat (clear hc)
      repeat (clear hf)
      intro a w hf hc hF
      unfold oQ at hF
      refine b3 _ _ ?_
      refine eB ?_
      refine sp 2 hf rfl fun a hf=>aS ?_
      exact bj (W (x + 1)) _ _ (sj hF).symm ⟨hf.kp rfl,hc⟩
     refine wp_block ?_
     refine zS fun K h=>sp 1 hf rfl fun a hf=>?_
     obtain ⟨d,bg,hF⟩:=aA hF
     obtain ⟨b7,o,qa,qp⟩:=q.atm bg
     refine zP hf rfl (pIA Tryz.underlying57 sV rfl rfl qa) fun a hf=>zE hf hc rfl (jE (vs:=[i6 d.Gauging,.bool d.Up]) tG rfl rfl (dS qp (n:=2) (o':=0) rfl)) fun a w hf hc=>zA hf hc aIg rfl fun ak a w hf hc=>sp 1 hf rfl fun a hf=>zW hf hc sV u0 rfl fun w hc=>zT h ?_
     refine wp_seq_k fun K17 bx=>zS fun K h=>sp 2 hf rfl fun a hf=>zT h ?_
     refine zI hf rfl hF ?_ ?_ <;> clear hF <;> intro hF
     ·refine wp_exit ?_
      refine bI ?_
      refine fZ ?_
      replace hc:=hc.drop k0
      exact a6  _ _  (hf.kp rfl) hc hF
     ·refine wp_skip ?_
      refine bx _ _ ?_
      refine zS fun K h=>sp 3 hf rfl fun a hf=>?_
      obtain ⟨k,a7,hF⟩:=aA hF
      obtain ⟨b8,b9,a0,ay⟩:=q.atm a7
      refine zP hf rfl (pIA Tryz.underlying57 sV rfl rfl a0) fun a hf=>zE hf hc rfl (jE (vs:=[i6 k.Gauging,.bool k.Up]) tG rfl rfl (dS ay (n:=2) (o':=0) rfl)) fun a w hf hc=>zA hf hc aIg rfl fun am a w hf hc=>zW hf hc sV u0 rfl fun w hc=>zT h ?_
      refine wp_seq_k fun K20 bu=>zS fun K h=>zP hf rfl (pFA rW rfl) fun a hf=>zL hf hc aY m1 rfl fun a w hf hc=>zP hf rfl (pFA rW rfl) fun a hf=>zL hf hc aY m0 rfl fun a w hf hc=>sp 2 hf rfl fun a hf=>gQ 6 (fun a=>Has 92 a [(1,.slice V l.length X),(6,.pointer none),(8,i6 0),(28,.slice V l.length X),(29,i6 ((l.length:Nat):Int)),(30,i6 x),(10,pq ak),(11,pq am),(42,pq ak),(43,i6 d.Gauging),(44,pq am),(45,i6 k.Gauging),(46,.bool (decide (d.Gauging≤k.Gauging))),(47,.bool (decide (d.Gauging≤k.Gauging))),(53,.bool ((decide (d.Gauging≤k.Gauging)) || (d.Up == k.Up)))]) hc ?_ ?_
      ·cases hb:(decide (d.Gauging≤k.Gauging))
       ·rw [hb] at hf
        refine zP hf rfl (pFA tX rfl) fun a hf=>zL hf hc wC m1 rfl fun a w hf hc=>zP hf rfl (pFA tX rfl) fun a hf=>zL hf hc wC m0 rfl fun a w hf hc=>zP hf rfl (pEqB Tryz.underlying4 rfl rfl) fun a hf=>sp 1 hf rfl fun a hf=>aS ⟨hf.kp rfl,hc⟩
       ·rw [hb] at hf
        refine stS hf rfl rfl rfl fun a hf=>stS hf rfl rfl rfl fun a hf=>stS hf rfl rfl rfl fun a hf=>stS hf rfl rfl rfl fun a hf=>stS hf rfl rfl rfl fun a hf=>sp 1 hf rfl fun a hf=>aS ⟨hf.kp rfl,hc⟩
      intro a w ⟨hf,hc⟩
      refine zT h ?_
      refine zI hf rfl hF ?_ ?_ <;> clear hF <;> intro hF
      ·refine zS fun K h=>sp 2 hf rfl fun a hf=>zT h ?_
       refine wp_ret ?_
       refine aQ ?_
       refine bT ?_
       refine aQ ?_
       refine aQ ?_
       have he:=sj hF
       rw [← he] at b
       replace hF:=a1 _ b
       refine bT ?_
       refine aQ ?_
       obtain rfl:=hF
       replace hc:=(hc.drop k1).drop k0
       exact zO2 Tryz.results14 hf rfl rfl ⟨rfl,hc⟩
      ·refine wp_skip ?_
       refine bu _ _ ?_
       refine wp_seq_k fun K23 cf=>wD hF
    ·refine wp_exit ?_
     refine bI ?_
     refine bI ?_
     have he:=sj hF
     rw [← he] at b
     refine fZ ?_
     exact az _ _ _ b ⟨hf.kp rfl,hc⟩
 | inr ac=>
  replace hF:=wI hF
  have a9:=ag
  refine zC hf aAb rfl (gM r O H hc a9) ?_
  rintro _ w ⟨u,br,b6,rfl,hc⟩
  refine ⟨_,rfl,fun a hf=>?_⟩
  refine sp 5 hf rfl fun a hf=>zT h ?_
  refine wp_seq_k fun K24 b2=>wp_block ?_
  refine zS fun K h=>sp 3 hf rfl fun a hf=>zT h ?_
  refine zI hf rfl hF ?_ ?_ <;> clear hF <;> intro hF
  ·refine zS fun K h=>sp 3 hf rfl fun a hf=>zT h ?_
   refine wp_ret ?_
   refine bT ?_
   refine aQ ?_
   obtain rfl:=sj hF
   replace hc:=((hc.drop k2).drop k1).drop k0
   exact zO2 Tryz.results14 hf rfl rfl ⟨rfl,hc⟩
  ·refine zS fun K h=>sp 1 hf rfl fun a hf=>zP hf rfl (pMF (us:=[pq ap]) rfl rfl) fun a hf=>?_
   obtain ⟨b1,a3,hF⟩:=aA hF
   refine zQ (v:=.bool b1) hf hc aMu rfl (fun w hc=>(mK l r q O H (hc.pick k2) a3).mono fun e w h=>⟨h.1,(h.2.unpick k2)⟩) fun a w hf hc=>sp 2 hf rfl fun a hf=>zT h ?_
   refine zI hf rfl hF ?_ ?_ <;> clear hF <;> intro hF
   ·refine zS fun K h=>sp 2 hf rfl fun a hf=>zT h ?_
    refine wp_ret ?_
    refine bT ?_
    refine aQ ?_
    obtain rfl:=sj hF
    replace hc:=((hc.drop k2).drop k1).drop k0
    exact zO2 Tryz.results14 hf rfl rfl ⟨rfl,hc⟩
   ·refine wp_skip ?_
    refine b2 _ _ ?_
    refine zS fun K h=>sp 1 hf rfl fun a hf=>zT h ?_
    refine wp_seq_k fun K30 bz=>zS fun K h=>sp 1 hf rfl fun a hf=>zP hf rfl (cR Tryz.underlying57 rfl) fun a hf=>sp 1 hf rfl fun a hf=>zT h ?_
    refine wp_block ?_
    obtain ⟨af,au,hF⟩:=aA hF
    let S32:(Int × Int)→Act→World→Prop:=(fun (zz:Int × Int) a w=>∃ (p:Option Addr) (j:Nat),Has 92 a [(1,.slice V l.length X),(6,pq u),(8,i6 zz.1),(28,.slice V l.length X),(29,i6 ((l.length:Nat):Int)),(30,i6 zz.2)]∧Ctx G (.row p j (ac.1.map aH) 51 2::.box u [.slice M r.Rating.length R,.slice B r.Gaugings.length J,.slice p ac.1.length j] 81::Lf) w)
    have a5:∀ (zz:Int × Int) a w,af=.go zz→S32 zz a w→K30 a w:=by
     rintro ⟨s,t⟩ a w rfl ⟨p,j,hf,hc⟩
     replace hF:=cI hF
     refine bz _ _ ?_
     refine zS fun K h=>sp 3 hf rfl fun a hf=>zT h ?_
     refine wp_ret ?_
     obtain rfl:=sj hF
     replace hc:=(hc.drop k1).drop k0
     exact zO2 Tryz.results14 hf rfl rfl ⟨rfl,hc⟩
    have a4:∀ r,af=.out r→r=y:=by
     rintro r rfl
     exact sj hF
    replace hc:=hc.drop k2
    refine eR N (eO (S:=S32) (x:=af) ?_ N (0,0) _ _ ⟨br,b6,hf.kp rfl,hc⟩ au)
    clear hF hf hc
    rintro ⟨s,t⟩ bc a w KB32 ⟨p,j,hf,hc⟩ hF Z a2
    unfold gT at hF
    refine zS fun K h=>sp 1 hf rfl fun a hf=>zT h ?_
    refine wp_seq_k fun K35 b5=>zI hf rfl hF ?_ ?_ <;> clear hF <;> intro hF
    ·refine wp_skip ?_
     refine b5 _ _ ?_
     refine wp_seq_k fun K36 bv=>?_
     have z:∀ (m:Int) (ab:Option Addr) (aa:Nat) a w,Has 92 a [(1,.slice V l.length X),(6,pq u),(8,i6 m),(28,.slice V l.length X),(29,i6 ((l.length:Nat):Int)),(30,i6 t)]→Ctx G (.row ab aa (ac.1.map aH) 51 2::.box u [.slice M r.Rating.length R,.slice B r.Gaugings.length J,.slice ab ac.1.length aa] 81::Lf) w→iU N t m=some bc→K36 a w:=by
      repeat (clear hF)
      repeat (clear hc)
      repeat (clear hf)
      intro m ab aa a w hf hc hF
      unfold iU at hF
      refine bv _ _ ?_
      refine eB ?_
      refine sp 2 hf rfl fun a hf=>aS ?_
      exact a2 (m,W (t + 1)) _ _ (sj hF).symm ⟨ab,aa,hf.kp rfl,hc⟩
     refine wp_block ?_
     refine zS fun K h=>sp 1 hf rfl fun a hf=>?_
     obtain ⟨I,ax,hF⟩:=aA hF
     obtain ⟨cb,cd,bm,ar⟩:=q.atm ax
     refine zP hf rfl (pIA Tryz.underlying57 sV rfl rfl bm) fun a hf=>zE hf hc rfl (jE (vs:=[i6 I.Gauging,.bool I.Up]) tG rfl rfl (dS ar (n:=2) (o':=0) rfl)) fun a w hf hc=>zA hf hc aIg rfl fun an a w hf hc=>sp 1 hf rfl fun a hf=>zW hf hc sV u0 rfl fun w hc=>zT h ?_
     refine wp_seq_k fun K38 b0=>zS fun K h=>sp 2 hf rfl fun a hf=>zT h ?_
     refine zI hf rfl hF ?_ ?_ <;> clear hF <;> intro hF
     ·refine wp_exit ?_
      refine bI ?_
      refine fZ ?_
      replace hc:=hc.drop k0
      exact z s p j _ _  (hf.kp rfl) hc hF
     ·refine wp_skip ?_
      refine b0 _ _ ?_
      refine zS fun K h=>sp 3 hf rfl fun a hf=>?_
      obtain ⟨D,ba,hF⟩:=aA hF
      obtain ⟨ca,cc,bb,a8⟩:=q.atm ba
      refine zP hf rfl (pIA Tryz.underlying57 sV rfl rfl bb) fun a hf=>zE hf hc rfl (jE (vs:=[i6 D.Gauging,.bool D.Up]) tG rfl rfl (dS a8 (n:=2) (o':=0) rfl)) fun a w hf hc=>zA hf hc aIg rfl fun ai a w hf hc=>zW hf hc sV u0 rfl fun w hc=>zT h ?_
      refine wp_seq_k fun K41 bt=>zS fun K h=>zP hf rfl (pFA rW rfl) fun a hf=>zL hf hc aY m1 rfl fun a w hf hc=>zP hf rfl (pFA rW rfl) fun a hf=>zL hf hc aY m0 rfl fun a w hf hc=>sp 2 hf rfl fun a hf=>gQ 6 (fun a=>Has 92 a [(1,.slice V l.length X),(6,pq u),(8,i6 s),(28,.slice V l.length X),(29,i6 ((l.length:Nat):Int)),(30,i6 t),(10,pq an),(11,pq ai),(42,pq an),(43,i6 I.Gauging),(44,pq ai),(45,i6 D.Gauging),(46,.bool (decide (I.Gauging≤D.Gauging))),(47,.bool (decide (I.Gauging≤D.Gauging))),(53,.bool ((decide (I.Gauging≤D.Gauging)) || (I.Up == D.Up)))]) hc ?_ ?_
      ·cases hb:(decide (I.Gauging≤D.Gauging))
       ·rw [hb] at hf
        refine zP hf rfl (pFA tX rfl) fun a hf=>zL hf hc wC m1 rfl fun a w hf hc=>zP hf rfl (pFA tX rfl) fun a hf=>zL hf hc wC m0 rfl fun a w hf hc=>zP hf rfl (pEqB Tryz.underlying4 rfl rfl) fun a hf=>sp 1 hf rfl fun a hf=>aS ⟨hf.kp rfl,hc⟩
       ·rw [hb] at hf
        refine stS hf rfl rfl rfl fun a hf=>stS hf rfl rfl rfl fun a hf=>stS hf rfl rfl rfl fun a hf=>stS hf rfl rfl rfl fun a hf=>stS hf rfl rfl rfl fun a hf=>sp 1 hf rfl fun a hf=>aS ⟨hf.kp rfl,hc⟩
      intro a w ⟨hf,hc⟩
      refine zT h ?_
      refine zI hf rfl hF ?_ ?_ <;> clear hF <;> intro hF
      ·refine zS fun K h=>sp 2 hf rfl fun a hf=>zT h ?_
       refine wp_ret ?_
       refine aQ ?_
       refine bT ?_
       refine aQ ?_
       refine aQ ?_
       have he:=sj hF
       rw [← he] at Z
       replace hF:=a4 _ Z
       refine bT ?_
       refine aQ ?_
       obtain rfl:=hF
       replace hc:=(((hc.drop k3).drop k2).drop k1).drop k0
       exact zO2 Tryz.results14 hf rfl rfl ⟨rfl,hc⟩
      ·refine wp_skip ?_
       refine bt _ _ ?_
       refine wp_seq_k fun K44 b4=>?_
       obtain ⟨U,bf,hF⟩:=aA hF
       obtain ⟨g,rfl,aq,qr⟩:=jM hc m2 bf
       obtain ⟨Y,bk,hF⟩:=aA hF
       obtain ⟨av,bd⟩:=iF hc m2 bk
       refine cQ hc aW (by kernel_rfl) ?_
       refine qE hf rfl rfl rfl (jE (vs:=[i6 D.Gauging,.bool D.Up]) tG rfl rfl (bR (n:=2) m0 rfl)) fun a hf=>qE hf rfl rfl rfl (eC (v:=.agg #[(bif (bV D) then .func (.func 63) #[] #[] else .func (.func 64) #[] #[])]) (vs:=[.agg #[i6 D.Gauging,.bool D.Up]]) (caps:=[]) aL7 rfl rfl rfl rfl (fun w hc=>rL D hc rfl)) fun a hf=>qE hf rfl rfl rfl (Pu.ev (aAu Tryz.underlying100 rfl aG8 rfl rfl)) fun a hf=>qE hf rfl rfl rfl (Pu.ev (pM rfl)) fun a hf=>qE hf rfl rfl rfl (Pu.ev (pNC rfl)) fun a hf=>qE hf rfl rfl rfl (Pu.ev (pFA sJ rfl)) fun a hf=>qE hf rfl rfl rfl (cN rC rfl (bO m3 rfl)) fun a hf=>qE hf rfl rfl rfl (Pu.ev (pFA rW rfl)) fun a hf=>qE hf rfl rfl rfl (cN aY rfl (bO m0 rfl)) fun a hf=>qE hf rfl rfl rfl (Pu.ev (pIA Tryz.underlying79 fN rfl rfl aq)) fun a hf=>qE hf rfl rfl rfl (jE (vs:=[i6 U.Lo,i6 U.Hi]) iS rfl rfl (jV (sz:=2) (i:=D.Gauging.toNat) m2 qr (n:=2) (o':=0) rfl)) fun a hf=>qE hf rfl rfl rfl (aHx (c:=(bV D)) (v:=i6 (bif (bV D) then (bY U) else (bZ U))) (v1:=i6 (bY U)) (v2:=i6 (bZ U)) (vs:=[.agg #[i6 U.Lo,i6 U.Hi]]) aMh aM3 rfl rfl rfl rfl (fun hb=>congrArg (Value.int .i64) (bifT hb)) (fun hb=>congrArg (Value.int .i64) (bifF hb)) (fun w hc=>pE U hc rfl) (fun w hc=>pG U hc rfl)) fun a hf=>qE hf rfl rfl rfl (jE (vs:=[i6 I.Gauging,.bool I.Up]) tG rfl rfl (bR (n:=2) m1 rfl)) fun a hf=>?_
       refine qE hf rfl rfl rfl (eC (v:=.agg #[(bif (bV I) then .func (.func 63) #[] #[] else .func (.func 64) #[] #[])]) (vs:=[.agg #[i6 I.Gauging,.bool I.Up]]) (caps:=[]) aL7 rfl rfl rfl rfl (fun w hc=>rL I hc rfl)) fun a hf=>qE hf rfl rfl rfl (Pu.ev (aAu Tryz.underlying100 rfl aG8 rfl rfl)) fun a hf=>qE hf rfl rfl rfl (Pu.ev (pM rfl)) fun a hf=>qE hf rfl rfl rfl (Pu.ev (pNC rfl)) fun a hf=>qE hf rfl rfl rfl (Pu.ev (pFA sJ rfl)) fun a hf=>qE hf rfl rfl rfl (cN rC rfl (bO m3 rfl)) fun a hf=>qE hf rfl rfl rfl (Pu.ev (pFA rW rfl)) fun a hf=>qE hf rfl rfl rfl (cN aY rfl (bO m1 rfl)) fun a hf=>qE hf rfl rfl rfl (Pu.ev (pIA Tryz.underlying79 fN rfl rfl av)) fun a hf=>qE hf rfl rfl rfl (jE (vs:=[i6 Y.Lo,i6 Y.Hi]) iS rfl rfl (jV (sz:=2) (i:=I.Gauging.toNat) m2 bd (n:=2) (o':=0) rfl)) fun a hf=>qE hf rfl rfl rfl (aHx (c:=(bV I)) (v:=i6 (bif (bV I) then (bY Y) else (bZ Y))) (v1:=i6 (bY Y)) (v2:=i6 (bZ Y)) (vs:=[.agg #[i6 Y.Lo,i6 Y.Hi]]) aMh aM3 rfl rfl rfl rfl (fun hb=>congrArg (Value.int .i64) (bifT hb)) (fun hb=>congrArg (Value.int .i64) (bifF hb)) (fun w hc=>pE Y hc rfl) (fun w hc=>pG Y hc rfl)) fun a hf=>qE hf rfl rfl rfl (Pu.ev (pA rfl)) fun a hf=>qE hf rfl rfl rfl (Pu.ev (pA rfl)) fun a hf=>?_
       intro w hc
       refine b4 _ _ ?_
       refine zS fun K h=>zP hf rfl (pFA tX rfl) fun a hf=>zL hf hc wC m1 rfl fun a w hf hc=>zT h ?_
       refine zI hf rfl hF ?_ ?_ <;> clear hF <;> intro hF
       ·refine eB ?_
        refine sp 6 hf rfl fun a hf=>aS ?_
        replace hc:=(hc.drop k1).drop k0
        exact z (W (s + (W ((bif (bV D) then (bY U) else (bZ U)) - (bif (bV I) then (bY Y) else (bZ Y)))))) (some ⟨g,0,none⟩) j _ _  (hf.kp rfl) hc hF
       ·refine eB ?_
        refine sp 6 hf rfl fun a hf=>aS ?_
        replace hc:=(hc.drop k1).drop k0
        exact z (W (s + (W ((bif (bV I) then (bY Y) else (bZ Y)) - (bif (bV D) then (bY U) else (bZ U)))))) (some ⟨g,0,none⟩) j _ _  (hf.kp rfl) hc hF
    ·refine wp_exit ?_
     refine bI ?_
     refine bI ?_
     have he:=sj hF
     rw [← he] at Z
     refine fZ ?_
     exact a5 _ _ _ Z ⟨p,j,hf.kp rfl,hc⟩

def uW (N:Nat) (B:Int):Option (aO) :=
 some (⟨3,([(⟨0,1,5,100,2⟩:aF),(⟨1,2,5,50,1⟩:aF),(⟨0,2,9,B,3⟩:aF)]:List aF)⟩:aO)
theorem aBt {N:Nat} {G:aU} {Lf:List Ent} {w:World} (B:Int)   (hc:Ctx G (Lf) w) {D:aO} (hF:uW N B=some D):Calls Tryz.prog 33 #[i6 B] w (fun e w=>∃ (I:Option Addr) (J:Nat),e=.returned (.agg #[i6 D.Marks,.slice I D.Lines.length J])∧Ctx G (.row I J (D.Lines.map aM) 32 5::Lf) w):=by
 unfold uW at hF
 refine bU Tryz.func33 rfl Tryz.ntmps33 rfl fun a hf=>zS fun K h=>zA hf hc aC2 rfl fun M a w hf hc=>zT h ?_
 refine zS fun K h=>zP hf rfl (bL (cells:=[i6 0,i6 1,i6 5,i6 100,i6 2]) aIl rfl rfl) fun a hf=>zP hf rfl (bL (cells:=[i6 1,i6 2,i6 5,i6 50,i6 1]) aIl rfl rfl) fun a hf=>sp 1 hf rfl fun a hf=>zP hf rfl (bL (cells:=[i6 0,i6 2,i6 9,i6 B,i6 3]) aIl rfl rfl) fun a hf=>pJ (rows:=([(⟨0,1,5,100,2⟩:aF),(⟨1,2,5,50,1⟩:aF),(⟨0,2,9,B,3⟩:aF)]:List aF).map aM) (vs:=[(0,.agg #[i6 0,i6 1,i6 5,i6 100,i6 2]),(1,.agg #[i6 1,i6 2,i6 5,i6 50,i6 1]),(2,.agg #[i6 0,i6 2,i6 9,i6 B,i6 3])]) hf hc rfl rfl aF5 rfl ⟨rfl,rfl,rfl,rfl,rfl,rfl,rfl,rfl,rfl,trivial⟩ rfl rfl fun H a w hf hc=>zP hf rfl (bL (cells:=[i6 3,.slice (some ⟨H,0,none⟩) 3 3]) aKa rfl rfl) fun a hf=>zW hf hc aDd u1 rfl fun w hc=>zT h ?_
 refine wp_ret ?_
 obtain rfl:=sj hF
 exact lC (by simp) rfl Tryz.results33 hf hc (cW (vs:=[i6 3,.slice (some ⟨H,0,none⟩) 3 3]) oN rfl rfl (bR (n:=2) m1 rfl)) ⟨(some ⟨H,0,none⟩),3,rfl,(hc.drop k1)⟩

def nC (N:Nat) (B:Int × (Nat→Int) × (Nat→aE) × Int) (D:Int):Option (Int × (Nat→Int) × (Nat→aE) × Int) :=
 some (B.1,B.2.1,B.2.2.1,D)
def tM (N:Nat) (n:aO):Option (Int × (Nat→Int) × (Nat→aE) × Int) :=
 Option.bind (kX N n) (vF (fun r=>none)
 (fun B=>Option.bind (cond (B.2.2.2 == 0) (Option.bind (cD N (⟨(⟨B.1,n.Lines⟩:aO),B.2.1,B.2.2.1⟩:aP)) fun D=>
 some D) (some false)) fun H=>
 cond H
 (nC N B 7)
 (nC N B B.2.2.2)))
theorem aAg {N:Nat} {G:aU} {Lf:List Ent} {w:World} (n:aO) {D:Option Addr} {B:Nat} (I:Rd G 5 D B (n.Lines.map aM)) (hc:Ctx G (Lf) w) {J:Int × (Nat→Int) × (Nat→aE) × Int} (hF:tM N n=some J):Calls Tryz.prog 95 #[.agg #[i6 n.Marks,.slice D n.Lines.length B]] w (fun e w=>∃ (U:Nat),e=.returned (.tuple #[pq U,i6 J.2.2.2])∧Ctx G (.box U (aN [i6 J.1,.slice D n.Lines.length B] 169 aB J.2.1 (aN [] 169 aD J.2.2.1 [])) 127::Lf) w):=by
 unfold tM at hF
 refine bU Tryz.func95 rfl Tryz.ntmps95 rfl fun a hf=>zS fun K h=>zB hf hc rfl fun b a w hf hc=>sp 2 hf rfl fun a hf=>zT h ?_
 refine zS fun K h=>zN hf hc oN m0 rfl fun a w hf hc=>?_
 obtain ⟨r,hr,hF⟩:=aA hF
 cases r with
 | inl r=>
  replace hF:=wF hF
  refine zC hf aDk rfl (jS n I hc hr) ?_
  rintro _ w ⟨rfl,hc⟩
  refine ⟨_,rfl,fun a hf=>?_⟩
  refine sp 5 hf rfl fun a hf=>zT h ?_
  refine wp_seq_k fun K3 h3=>wp_seq_k fun K4 h4=>wD hF
 | inr H=>
  replace hF:=wI hF
  have X:=hr
  refine zC hf aDk rfl (jS n I hc X) ?_
  rintro _ w ⟨M,rfl,hc⟩
  refine ⟨_,rfl,fun a hf=>?_⟩
  refine sp 5 hf rfl fun a hf=>zT h ?_
  refine wp_seq_k fun K5 h5=>?_
  have S:∀ (O:Int) a w,Has 19 a [(4,pq M),(5,i6 O)]→Ctx G (.box M (aN [i6 H.1,.slice D n.Lines.length B] 169 aB H.2.1 (aN [] 169 aD H.2.2.1 [])) 127::Lf) w→nC N H O=some J→K5 a w:=by
   repeat (clear hF)
   repeat (clear hc)
   repeat (clear hf)
   intro O a w hf hc hF
   unfold nC at hF
   refine h5 _ _ ?_
   refine zS fun K h=>sp 4 hf rfl fun a hf=>zT h ?_
   refine wp_ret ?_
   obtain rfl:=sj hF
   exact zO2 Tryz.results95 hf rfl rfl ⟨M,rfl,hc⟩
  refine zS fun K h=>sp 3 hf rfl fun a hf=>?_
  obtain ⟨Y,R,hF⟩:=aA hF
  refine gQ 3 (fun a=>Has 19 a [(4,pq M),(5,i6 H.2.2.2),(11,i6 H.2.2.2),(12,.bool (H.2.2.2 == 0)),(13,.bool (H.2.2.2 == 0)),(16,.bool Y)]) hc ?_ ?_
  ·cases hb:(H.2.2.2 == 0)
   ·rw [hb] at hf
    have hF:=mR hb R
    obtain rfl:=sj hF
    refine stS hf rfl rfl rfl fun a hf=>stS hf rfl rfl rfl fun a hf=>sp 1 hf rfl fun a hf=>aS ⟨hf.kp rfl,hc⟩
   ·rw [hb] at hf
    have hF:=mN hb R
    refine sp 1 hf rfl fun a hf=>?_
    obtain ⟨Z,V,hF⟩:=aA hF
    refine zQ (v:=.bool Z) hf hc aHz rfl (fun w hc=>(jZ (⟨(⟨H.1,n.Lines⟩:aO),H.2.1,H.2.2.1⟩:aP) I (hc.pick k0) V).mono fun e w h=>⟨h.1,(h.2.unpick k0)⟩) fun a w hf hc=>sp 1 hf rfl fun a hf=>?_
    obtain rfl:=sj hF
    exact aS ⟨hf.kp rfl,hc⟩
  intro a w ⟨hf,hc⟩
  refine zT h ?_
  refine zI hf rfl hF ?_ ?_ <;> clear hF <;> intro hF
  ·refine eB ?_
   refine sp 1 hf rfl fun a hf=>aS ?_
   replace hc:=hc.drop k1
   exact S 7 _ _  (hf.kp rfl) hc hF
  ·refine wp_skip ?_
   replace hc:=hc.drop k1
   exact S H.2.2.2 _ _  (hf.kp rfl) hc hF

def mW (N:Nat) (B:Int × (Nat→Int) × (Nat→aE) × Int) (D:Int):Option ((Int) ⊕ (Int × (Nat→Int) × (Nat→aE) × Int)) :=
 some (.inr (B.1,B.2.1,B.2.2.1,D))
def vL (N:Nat) (n:aO) (B:Int) (H:Int) (I:Bool):Option ((Int) ⊕ (Int × (Nat→Int) × (Nat→aE) × Int)) :=
 Option.bind (nN N n) fun r=>
 cond (r != 0)
 (some (.inl r))
 (cond (((!(bE B 0 (W (n.Marks - 1)))) || (!(bE H 0 (W (n.Marks - 1))))) || ((!I) && (B == H)))
 (some (.inl 2))
 (Option.bind (tM N n) fun D=>
 Option.bind (cond (D.2.2.2 == 0) (Option.bind (inR B 13) fun un=>
 Option.bind (inR H 13) fun M=>
 some ((D.2.1 (B * 13 + H).toNat) == 1099511627776)) (some false)) fun J=>
 cond J
 (mW N D 5)
 (mW N D D.2.2.2)))
theorem vA {N:Nat} {G:aU} {Lf:List Ent} {w:World} (n:aO) (B:Int) (D:Int) (H:Bool) {J:Option Addr} {I:Nat} (R:Rd G 5 J I (n.Lines.map aM)) (hc:Ctx G (Lf) w) {b:(Int) ⊕ (Int × (Nat→Int) × (Nat→aE) × Int)} (hF:vL N n B D H=some b):Calls Tryz.prog 65 #[.agg #[i6 n.Marks,.slice J n.Lines.length I],i6 B,i6 D,.bool H] w (fun e w=>vF (fun rr=>e=.returned (.tuple #[.pointer none,i6 rr])∧Ctx G (Lf) w) (fun rr=>∃ (g:Nat),e=.returned (.tuple #[pq g,i6 rr.2.2.2])∧Ctx G (.box g (aN [i6 rr.1,.slice J n.Lines.length I] 169 aB rr.2.1 (aN [] 169 aD rr.2.2.1 [])) 127::Lf) w) b):=by
 unfold vL at hF
 refine bU Tryz.func65 rfl Tryz.ntmps65 rfl fun a hf=>zS fun K h=>zB hf hc rfl fun U a w hf hc=>sp 2 hf rfl fun a hf=>zT h ?_
 refine wp_seq_k fun K2 h2=>zS fun K h=>zN hf hc oN m0 rfl fun a w hf hc=>?_
 obtain ⟨r,hr,hF⟩:=aA hF
 refine zQ (v:=i6 r) hf hc aMw rfl (fun w hc=>uO n R hc hr) fun a w hf hc=>sp 1 hf rfl fun a hf=>zT h ?_
 refine zS fun K h=>sp 2 hf rfl fun a hf=>zT h ?_
 refine zI hf rfl hF ?_ ?_ <;> clear hF <;> intro hF
 ·refine zS fun K h=>sp 3 hf rfl fun a hf=>zT h ?_
  refine wp_ret ?_
  refine aQ ?_
  obtain rfl:=sj hF
  replace hc:=hc.drop k0
  exact zO2 Tryz.results65 hf rfl rfl ⟨rfl,hc⟩
 ·refine wp_skip ?_
  refine h2 _ _ ?_
  refine wp_seq_k fun K6 h6=>zS fun K h=>sp 1 hf rfl fun a hf=>zP hf rfl (pFA gW rfl) fun a hf=>zL hf hc aY m0 rfl fun a w hf hc=>sp 1 hf rfl fun a hf=>zQ (v:=.bool (bE B 0 (W (n.Marks - 1)))) hf hc aBr rfl (fun w hc=>mB B 0 (W (n.Marks - 1)) hc rfl) fun a w hf hc=>sp 2 hf rfl fun a hf=>gQ 7 (fun a=>Has 61 a [(1,i6 B),(2,i6 D),(3,.bool H),(4,pq U),(18,i6 B),(19,pq U),(20,i6 n.Marks),(21,i6 (W (n.Marks - 1))),(22,.bool (bE B 0 (W (n.Marks - 1)))),(23,.bool (!(bE B 0 (W (n.Marks - 1))))),(24,.bool (!(bE B 0 (W (n.Marks - 1))))),(31,.bool ((!(bE B 0 (W (n.Marks - 1)))) || (!(bE D 0 (W (n.Marks - 1))))))]) hc ?_ ?_
  ·cases hb:(!(bE B 0 (W (n.Marks - 1))))
   ·rw [hb] at hf
    refine sp 1 hf rfl fun a hf=>zP hf rfl (pFA gW rfl) fun a hf=>zL hf hc aY m0 rfl fun a w hf hc=>sp 1 hf rfl fun a hf=>zQ (v:=.bool (bE D 0 (W (n.Marks - 1)))) hf hc aBr rfl (fun w hc=>mB D 0 (W (n.Marks - 1)) hc rfl) fun a w hf hc=>sp 2 hf rfl fun a hf=>aS ⟨hf.kp rfl,hc⟩
   ·rw [hb] at hf
    refine stS hf rfl rfl rfl fun a hf=>stS hf rfl rfl rfl fun a hf=>stS hf rfl rfl rfl fun a hf=>stS hf rfl rfl rfl fun a hf=>stS hf rfl rfl rfl fun a hf=>stS hf rfl rfl rfl fun a hf=>sp 1 hf rfl fun a hf=>aS ⟨hf.kp rfl,hc⟩
  intro a w ⟨hf,hc⟩
  refine sp 1 hf rfl fun a hf=>gQ 8 (fun a=>Has 61 a [(1,i6 B),(2,i6 D),(3,.bool H),(4,pq U),(18,i6 B),(19,pq U),(20,i6 n.Marks),(21,i6 (W (n.Marks - 1))),(22,.bool (bE B 0 (W (n.Marks - 1)))),(23,.bool (!(bE B 0 (W (n.Marks - 1))))),(24,.bool (!(bE B 0 (W (n.Marks - 1))))),(31,.bool ((!(bE B 0 (W (n.Marks - 1)))) || (!(bE D 0 (W (n.Marks - 1)))))),(32,.bool ((!(bE B 0 (W (n.Marks - 1)))) || (!(bE D 0 (W (n.Marks - 1)))))),(40,.bool (((!(bE B 0 (W (n.Marks - 1)))) || (!(bE D 0 (W (n.Marks - 1))))) || ((!H) && (B == D))))]) hc ?_ ?_
  ·cases hb:((!(bE B 0 (W (n.Marks - 1)))) || (!(bE D 0 (W (n.Marks - 1)))))
   ·rw [hb] at hf
    refine sp 3 hf rfl fun a hf=>gQ 4 (fun a=>Has 61 a [(1,i6 B),(2,i6 D),(3,.bool H),(4,pq U),(18,i6 B),(19,pq U),(20,i6 n.Marks),(21,i6 (W (n.Marks - 1))),(22,.bool (bE B 0 (W (n.Marks - 1)))),(23,.bool (!(bE B 0 (W (n.Marks - 1))))),(24,.bool (!(bE B 0 (W (n.Marks - 1))))),(31,.bool false),(32,.bool false),(33,.bool H),(34,.bool (!H)),(35,.bool (!H)),(39,.bool ((!H) && (B == D)))]) hc ?_ ?_
    ·cases hb:(!H)
     ·rw [hb] at hf
      refine stS hf rfl rfl rfl fun a hf=>stS hf rfl rfl rfl fun a hf=>stS hf rfl rfl rfl fun a hf=>sp 1 hf rfl fun a hf=>aS ⟨hf.kp rfl,hc⟩
     ·rw [hb] at hf
      refine sp 4 hf rfl fun a hf=>aS ⟨hf.kp rfl,hc⟩
    intro a w ⟨hf,hc⟩
    refine sp 1 hf rfl fun a hf=>aS ⟨hf.kp rfl,hc⟩
   ·rw [hb] at hf
    refine stS hf rfl rfl rfl fun a hf=>stS hf rfl rfl rfl fun a hf=>stS hf rfl rfl rfl fun a hf=>stS hf rfl rfl rfl fun a hf=>stS hf rfl rfl rfl fun a hf=>stS hf rfl rfl rfl fun a hf=>stS hf rfl rfl rfl fun a hf=>sp 1 hf rfl fun a hf=>aS ⟨hf.kp rfl,hc⟩
  intro a w ⟨hf,hc⟩
  refine zT h ?_
  refine zI hf rfl hF ?_ ?_ <;> clear hF <;> intro hF
  ·refine zS fun K h=>sp 2 hf rfl fun a hf=>zT h ?_
   refine wp_ret ?_
   refine aQ ?_
   obtain rfl:=sj hF
   replace hc:=hc.drop k0
   exact zO2 Tryz.results65 hf rfl rfl ⟨rfl,hc⟩
  ·refine wp_skip ?_
   refine h6 _ _ ?_
   refine zS fun K h=>zN hf hc oN m0 rfl fun a w hf hc=>?_
   obtain ⟨O,i,hF⟩:=aA hF
   refine zC hf en_95 rfl (aAg n R hc i) ?_
   rintro _ w ⟨V,rfl,hc⟩
   refine ⟨_,rfl,fun a hf=>?_⟩
   refine sp 5 hf rfl fun a hf=>zT h ?_
   refine wp_seq_k fun K10 o=>?_
   have d:∀ (Y:Int) a w,Has 61 a [(11,pq V),(12,i6 Y)]→Ctx G (.box V (aN [i6 O.1,.slice J n.Lines.length I] 169 aB O.2.1 (aN [] 169 aD O.2.2.1 [])) 127::Lf) w→mW N O Y=some b→K10 a w:=by
    repeat (clear hF)
    repeat (clear hc)
    repeat (clear hf)
    intro Y a w hf hc hF
    unfold mW at hF
    refine o _ _ ?_
    refine zS fun K h=>sp 4 hf rfl fun a hf=>zT h ?_
    refine wp_ret ?_
    obtain rfl:=sj hF
    exact zO2 Tryz.results65 hf rfl rfl ⟨V,rfl,hc⟩
   refine zS fun K h=>sp 3 hf rfl fun a hf=>?_
   obtain ⟨m,Z,hF⟩:=aA hF
   refine gQ 10 (fun a=>Has 61 a [(1,i6 B),(2,i6 D),(11,pq V),(12,i6 O.2.2.2),(46,i6 O.2.2.2),(47,.bool (O.2.2.2 == 0)),(48,.bool (O.2.2.2 == 0)),(58,.bool m)]) hc ?_ ?_
   ·cases hb:(O.2.2.2 == 0)
    ·rw [hb] at hf
     have hF:=mR hb Z
     obtain rfl:=sj hF
     refine stS hf rfl rfl rfl fun a hf=>stS hf rfl rfl rfl fun a hf=>stS hf rfl rfl rfl fun a hf=>stS hf rfl rfl rfl fun a hf=>stS hf rfl rfl rfl fun a hf=>stS hf rfl rfl rfl fun a hf=>stS hf rfl rfl rfl fun a hf=>stS hf rfl rfl rfl fun a hf=>stS hf rfl rfl rfl fun a hf=>sp 1 hf rfl fun a hf=>aS ⟨hf.kp rfl,hc⟩
    ·rw [hb] at hf
     have hF:=mN hb Z
     refine sp 4 hf rfl fun a hf=>zP hf rfl (pFA lY rfl) fun a hf=>?_
     obtain ⟨un,X,hF⟩:=aA hF
     refine zP hf rfl (kK Tryz.underlying121 qW rfl rfl (aT X).1 (aT X).2) fun a hf=>?_
     obtain ⟨p,S,hF⟩:=aA hF
     refine zP hf rfl (Pu.cast (kK Tryz.underlying119 eQ rfl rfl (aT S).1 (aT S).2) (congrArg (fun k=>Value.pointer (some ⟨V,k,none⟩)) (jW (M:=13) (2) X S rfl))) fun a hf=>zE hf hc rfl (cN aY rfl (gF (j:=0) m0 (fun x=>(bA x).1) rfl (wY X S rfl) rfl)) fun a w hf hc=>sp 2 hf rfl fun a hf=>?_
     obtain rfl:=sj hF
     exact aS ⟨hf.kp rfl,hc⟩
   intro a w ⟨hf,hc⟩
   refine zT h ?_
   refine zI hf rfl hF ?_ ?_ <;> clear hF <;> intro hF
   ·refine eB ?_
    refine sp 1 hf rfl fun a hf=>aS ?_
    replace hc:=hc.drop k1
    exact d 5 _ _  (hf.kp rfl) hc hF
   ·refine wp_skip ?_
    replace hc:=hc.drop k1
    exact d O.2.2.2 _ _  (hf.kp rfl) hc hF

def sM (N:Nat) (n:aO) (B:Int) (D:Int):Option (aC × Int) :=
 Option.bind (vL N n B D true) (vF (fun r=>cond (r != 0)
 (some ((⟨0,0⟩:aC),r))
 (none))
 (fun H=>cond (H.2.2.2 != 0)
 (some ((⟨0,0⟩:aC),H.2.2.2))
 (Option.bind (inR D 13) fun un=>
 Option.bind (inR B 13) fun I=>
 Option.bind (inR B 13) fun M=>
 Option.bind (inR D 13) fun J=>
 some ((⟨W (0 - (H.2.1 (D * 13 + B).toNat)),(H.2.1 (B * 13 + D).toNat)⟩:aC),0))))
theorem zH {N:Nat} {G:aU} {Lf:List Ent} {w:World} (n:aO) (B:Int) (D:Int) {I:Option Addr} {H:Nat} (R:Rd G 5 I H (n.Lines.map aM)) (hc:Ctx G (Lf) w) {Y:aC × Int} (hF:sM N n B D=some Y):Calls Tryz.prog 32 #[.agg #[i6 n.Marks,.slice I n.Lines.length H],i6 B,i6 D] w (fun e w=>e=.returned (.tuple #[.agg #[i6 Y.1.Lo,i6 Y.1.Hi],i6 Y.2])∧Ctx G (Lf) w):=by
 unfold sM at hF
 refine bU Tryz.func32 rfl Tryz.ntmps32 rfl fun a hf=>zS fun K h=>zB hf hc rfl fun d a w hf hc=>zA hf hc uF rfl fun X a w hf hc=>sp 1 hf rfl fun a hf=>zT h ?_
 refine zS fun K h=>zN hf hc oN m1 rfl fun a w hf hc=>sp 2 hf rfl fun a hf=>?_
 obtain ⟨r,hr,hF⟩:=aA hF
 cases r with
 | inl r=>
  replace hF:=wF hF
  refine zC hf aL6 rfl (vA n B D true R hc hr) ?_
  rintro _ w ⟨rfl,hc⟩
  refine ⟨_,rfl,fun a hf=>?_⟩
  refine sp 5 hf rfl fun a hf=>zT h ?_
  refine wp_seq_k fun K3 h3=>zS fun K h=>sp 2 hf rfl fun a hf=>zT h ?_
  refine zI hf rfl hF ?_ ?_ <;> clear hF <;> intro hF
  ·refine zS fun K h=>zP hf rfl (bL (cells:=[i6 0,i6 0]) qD rfl rfl) fun a hf=>sp 1 hf rfl fun a hf=>zW hf hc fN u0 rfl fun w hc=>sp 1 hf rfl fun a hf=>zT h ?_
   refine wp_ret ?_
   refine aQ ?_
   obtain rfl:=sj hF
   replace hc:=hc.drop k1
   exact qX (by simp) rfl Tryz.results32 hf hc (cW (vs:=[i6 0,i6 0]) iS rfl rfl (bR (n:=2) m0 rfl)) (show eZ _ 7=_ from rfl) ⟨rfl,(hc.drop k0)⟩
  ·refine wp_skip ?_
   refine h3 _ _ ?_
   refine wp_seq_k fun K6 h6=>wD hF
 | inr J=>
  replace hF:=wI hF
  have g:=hr
  refine zC hf aL6 rfl (vA n B D true R hc g) ?_
  rintro _ w ⟨O,rfl,hc⟩
  refine ⟨_,rfl,fun a hf=>?_⟩
  refine sp 5 hf rfl fun a hf=>zT h ?_
  refine wp_seq_k fun K7 h7=>zS fun K h=>sp 2 hf rfl fun a hf=>zT h ?_
  refine zI hf rfl hF ?_ ?_ <;> clear hF <;> intro hF
  ·refine zS fun K h=>zP hf rfl (bL (cells:=[i6 0,i6 0]) qD rfl rfl) fun a hf=>sp 1 hf rfl fun a hf=>zW hf hc fN u1 rfl fun w hc=>sp 1 hf rfl fun a hf=>zT h ?_
   refine wp_ret ?_
   refine aQ ?_
   obtain rfl:=sj hF
   replace hc:=(hc.drop k2).drop k0
   exact qX (by simp) rfl Tryz.results32 hf hc (cW (vs:=[i6 0,i6 0]) iS rfl rfl (bR (n:=2) m0 rfl)) (show eZ _ 7=_ from rfl) ⟨rfl,(hc.drop k0)⟩
  ·refine wp_skip ?_
   refine h7 _ _ ?_
   refine wp_seq_k fun K10 y=>?_
   obtain ⟨un,Z,hF⟩:=aA hF
   obtain ⟨ab,U,hF⟩:=aA hF
   obtain ⟨ad,S,hF⟩:=aA hF
   obtain ⟨ac,V,hF⟩:=aA hF
   refine iE (fun θ=>[⟨none,none,1,i6 B⟩,⟨none,none,2,i6 D⟩,⟨none,none,6,pq X⟩,⟨none,some 19,7,i6 0⟩,⟨none,none,8,pq O⟩,⟨some 0,none,21,pq O⟩,⟨some 1,none,22,i6 D⟩,⟨some 2,none,23,i6 B⟩,⟨some 3,none,24,pq O⟩,⟨some 4,none,25,.pointer (some ⟨O,2,none⟩)⟩,⟨some 5,none,26,.pointer (some ⟨O,2 + D.toNat * 13,none⟩)⟩,⟨some 6,none,27,.pointer (some ⟨O,2 + (D * 13 + B).toNat * 1,none⟩)⟩,⟨some 7,none,28,i6 (J.2.1 (D * 13 + B).toNat)⟩,⟨some 8,none,29,i6 (W (0 - (J.2.1 (D * 13 + B).toNat)))⟩,⟨some 9,none,30,pq O⟩,⟨some 10,none,31,i6 B⟩,⟨some 11,none,32,i6 D⟩,⟨some 12,none,33,pq O⟩,⟨some 13,none,34,.pointer (some ⟨O,2,none⟩)⟩,⟨some 14,none,35,.pointer (some ⟨O,2 + B.toNat * 13,none⟩)⟩,⟨some 15,none,36,.pointer (some ⟨O,2 + (B * 13 + D).toNat * 1,none⟩)⟩,⟨some 16,none,37,i6 (J.2.1 (B * 13 + D).toNat)⟩,⟨some 17,none,38,.agg #[i6 (W (0 - (J.2.1 (D * 13 + B).toNat))),i6 (J.2.1 (B * 13 + D).toNat)]⟩,⟨some 19,none,7,i6 0⟩]) (fun E θ=>.box O (aN [i6 J.1,.slice I n.Lines.length H] 169 aB J.2.1 (aN [] 169 aD J.2.2.1 [])) 127::(bif E 18 then .box X [i6 (W (0 - (J.2.1 (D * 13 + B).toNat))),i6 (J.2.1 (B * 13 + D).toNat)] 51 else .box X [i6 0,i6 0] 51)::.box d [i6 n.Marks,.slice I n.Lines.length H] 25::Lf) [] (fun a w=>Has 39 a [(6,pq X),(7,i6 0)]∧Ctx G (.box O (aN [i6 J.1,.slice I n.Lines.length H] 169 aB J.2.1 (aN [] 169 aD J.2.2.1 [])) 127::.box X [i6 (W (0 - (J.2.1 (D * 13 + B).toNat))),i6 (J.2.1 (B * 13 + D).toNat)] 51::.box d [i6 n.Marks,.slice I n.Lines.length H] 25::Lf) w) aW (by kernel_rfl) (by kernel_rfl) (eV.of hf ⟨rfl,rfl,rfl,rfl,rfl,trivial,trivial,trivial,trivial,trivial,trivial,trivial,trivial,trivial,trivial,trivial,trivial,trivial,trivial,trivial,trivial,trivial,trivial,trivial,trivial⟩) hc ⟨?_,?_,?_,?_,?_,?_,?_,?_,?_,?_,?_,?_,?_,?_,?_,?_,?_,?_,?_,?_,trivial⟩ ?_ ?_
   ·intro E θ a w hD hi hp he hc
    have hf:=he.h0.mT he 4 rfl
    refine sp 1 hf rfl fun a hf=>zD θ he hi hf 5 rfl rfl rfl hc
   ·intro E θ a w hD hi hp he hc
    have hf:=he.h0.mT he 1 rfl
    refine sp 1 hf rfl fun a hf=>zD θ he hi hf 6 rfl rfl rfl hc
   ·intro E θ a w hD hi hp he hc
    have hf:=he.h0.mT he 0 rfl
    refine sp 1 hf rfl fun a hf=>zD θ he hi hf 7 rfl rfl rfl hc
   ·intro E θ a w hD hi hp he hc
    have e0:=hp.o 0 rfl
    have hf:=he.h0.mP he 5 rfl e0
    refine sp 1 hf rfl fun a hf=>zD θ he hi hf 8 rfl rfl rfl hc
   ·intro E θ a w hD hi hp he hc
    have e3:=hp.o 3 rfl
    have hf:=he.h0.mP he 8 rfl e3
    refine zP hf rfl (pFA lY rfl) fun a hf=>zD θ he hi hf 9 rfl rfl rfl hc
   ·intro E θ a w hD hi hp he hc
    have e1:=hp.o 1 rfl
    have e4:=hp.o 4 rfl
    have hf:=(he.h0.mP he 6 rfl e1).mP he 9 rfl e4
    refine zP hf rfl (kK Tryz.underlying121 qW rfl rfl (aT Z).1 (aT Z).2) fun a hf=>zD θ he hi hf 10 rfl rfl rfl hc
   ·intro E θ a w hD hi hp he hc
    have e2:=hp.o 2 rfl
    have e5:=hp.o 5 rfl
    have hf:=(he.h0.mP he 7 rfl e2).mP he 10 rfl e5
    refine zP hf rfl (Pu.cast (kK Tryz.underlying119 eQ rfl rfl (aT U).1 (aT U).2) (congrArg (fun k=>Value.pointer (some ⟨O,k,none⟩)) (jW (M:=13) (2) Z U rfl))) fun a hf=>zD θ he hi hf 11 rfl rfl rfl hc
   ·intro E θ a w hD hi hp he hc
    have e6:=hp.o 6 rfl
    have hf:=he.h0.mP he 11 rfl e6
    refine zE hf hc rfl (cN aY rfl (gF (j:=0) m0 (fun x=>(bA x).1) rfl (wY Z U rfl) rfl)) fun a w hf hc=>zD θ he hi hf 12 rfl rfl rfl hc
   ·intro E θ a w hD hi hp he hc
    have e7:=hp.o 7 rfl
    have hf:=he.h0.mP he 12 rfl e7
    refine sp 1 hf rfl fun a hf=>zD θ he hi hf 13 rfl rfl rfl hc
   ·intro E θ a w hD hi hp he hc
    have hf:=he.h0.mT he 4 rfl
    refine sp 1 hf rfl fun a hf=>zD θ he hi hf 14 rfl rfl rfl hc
   ·intro E θ a w hD hi hp he hc
    have hf:=he.h0.mT he 0 rfl
    refine sp 1 hf rfl fun a hf=>zD θ he hi hf 15 rfl rfl rfl hc
   ·intro E θ a w hD hi hp he hc
    have hf:=he.h0.mT he 1 rfl
    refine sp 1 hf rfl fun a hf=>zD θ he hi hf 16 rfl rfl rfl hc
   ·intro E θ a w hD hi hp he hc
    have e9:=hp.o 9 rfl
    have hf:=he.h0.mP he 14 rfl e9
    refine sp 1 hf rfl fun a hf=>zD θ he hi hf 17 rfl rfl rfl hc
   ·intro E θ a w hD hi hp he hc
    have i:=hp.o 12 rfl
    have hf:=he.h0.mP he 17 rfl i
    refine zP hf rfl (pFA lY rfl) fun a hf=>zD θ he hi hf 18 rfl rfl rfl hc
   ·intro E θ a w hD hi hp he hc
    have u:=hp.o 10 rfl
    have aa:=hp.o 13 rfl
    have hf:=(he.h0.mP he 15 rfl u).mP he 18 rfl aa
    refine zP hf rfl (kK Tryz.underlying121 qW rfl rfl (aT S).1 (aT S).2) fun a hf=>zD θ he hi hf 19 rfl rfl rfl hc
   ·intro E θ a w hD hi hp he hc
    have t:=hp.o 11 rfl
    have p:=hp.o 14 rfl
    have hf:=(he.h0.mP he 16 rfl t).mP he 19 rfl p
    refine zP hf rfl (Pu.cast (kK Tryz.underlying119 eQ rfl rfl (aT V).1 (aT V).2) (congrArg (fun k=>Value.pointer (some ⟨O,k,none⟩)) (jW (M:=13) (2) S V rfl))) fun a hf=>zD θ he hi hf 20 rfl rfl rfl hc
   ·intro E θ a w hD hi hp he hc
    have m:=hp.o 15 rfl
    have hf:=he.h0.mP he 20 rfl m
    refine zE hf hc rfl (cN aY rfl (gF (j:=0) m0 (fun x=>(bA x).1) rfl (wY S V rfl) rfl)) fun a w hf hc=>zD θ he hi hf 21 rfl rfl rfl hc
   ·intro E θ a w hD hi hp he hc
    have e8:=hp.o 8 rfl
    have v:=hp.o 16 rfl
    have hf:=(he.h0.mP he 13 rfl e8).mP he 21 rfl v
    refine zP hf rfl (bL (cells:=[i6 (W (0 - (J.2.1 (D * 13 + B).toNat))),i6 (J.2.1 (B * 13 + D).toNat)]) qD rfl rfl) fun a hf=>zD θ he hi hf 22 rfl rfl rfl hc
   ·intro E θ a w hD hi hp he hc
    have q:=hp.o 17 rfl
    try dsimp only at hc
    rw [hi] at hc
    have hf:=(he.h0.mT he 2 rfl).mP he 22 rfl q
    refine zW hf hc fN u1 rfl fun w hc=>zG θ he hi hf rfl ?_
    try dsimp only
    rw [aX E 18]
    exact hc
   ·intro E θ a w hD hi hp he hc
    have hf:=he.h0
    refine sp 1 hf rfl fun a hf=>zD θ he hi hf 23 rfl rfl rfl hc
   ·intro E θ a w b he hc
    have hf:=he.h0
    have z:=b 18 rfl
    have s:=b 19 rfl
    replace hf:=hf.more he 23 rfl (onP s)
    replace hf:=hf.more he 2 rfl (onT)
    try dsimp only at hc
    rw [z] at hc
    exact ⟨hf.kp rfl,hc⟩
   rintro a w ⟨hf,hc⟩
   refine y _ _ ?_
   refine wp_ret ?_
   obtain rfl:=sj hF
   replace hc:=(hc.drop k2).drop k0
   exact qX (by simp) rfl Tryz.results32 hf hc (cW (vs:=[i6 (W (0 - (J.2.1 (D * 13 + B).toNat))),i6 (J.2.1 (B * 13 + D).toNat)]) iS rfl rfl (bR (n:=2) m0 rfl)) (show eZ _ 7=_ from rfl) ⟨rfl,(hc.drop k0)⟩

def xF (N:Nat) (lo:Int) (B:Int):Option (aC) :=
 some (⟨lo,B⟩:aC)
theorem aCr {N:Nat} {G:aU} {Lf:List Ent} {w:World} (lo:Int) (B:Int)   (hc:Ctx G (Lf) w) {D:aC} (hF:xF N lo B=some D):Calls Tryz.prog 103 #[i6 lo,i6 B] w (fun e w=>e=.returned (.agg #[i6 D.Lo,i6 D.Hi])∧Ctx G (Lf) w):=by
 unfold xF at hF
 refine bU Tryz.func103 rfl Tryz.ntmps103 rfl fun a hf=>zS fun K h=>zA hf hc uF rfl fun H a w hf hc=>zT h ?_
 refine zS fun K h=>sp 2 hf rfl fun a hf=>zP hf rfl (bL (cells:=[i6 lo,i6 B]) qD rfl rfl) fun a hf=>zW hf hc fN u0 rfl fun w hc=>zT h ?_
 refine wp_ret ?_
 obtain rfl:=sj hF
 exact lC (by simp) rfl Tryz.results103 hf hc (cW (vs:=[i6 lo,i6 B]) iS rfl rfl (bR (n:=2) m0 rfl)) ⟨rfl,(hc.drop k0)⟩

def rT (N:Nat) (lo:Int) (B:Int):Option (bN) :=
 Option.bind (xF N lo B) fun r=>
 some (⟨true,r⟩:bN)
theorem vE {N:Nat} {G:aU} {Lf:List Ent} {w:World} (lo:Int) (D:Int)   (hc:Ctx G (Lf) w) {B:bN} (hF:rT N lo D=some B):Calls Tryz.prog 72 #[i6 lo,i6 D] w (fun e w=>e=.returned (.agg #[.bool B.Known,i6 B.Flow.Lo,i6 B.Flow.Hi])∧Ctx G (Lf) w):=by
 unfold rT at hF
 refine bU Tryz.func72 rfl Tryz.ntmps72 rfl fun a hf=>zS fun K h=>zA hf hc aJ4 rfl fun H a w hf hc=>zT h ?_
 refine zS fun K h=>sp 2 hf rfl fun a hf=>?_
 obtain ⟨r,hr,hF⟩:=aA hF
 refine zQ (v:=.agg #[i6 r.Lo,i6 r.Hi]) hf hc aOg rfl (fun w hc=>aCr lo D hc hr) fun a w hf hc=>zP hf rfl (bL (cells:=[.bool true,i6 r.Lo,i6 r.Hi]) aG6 rfl rfl) fun a hf=>zW hf hc aDu u0 rfl fun w hc=>zT h ?_
 refine wp_ret ?_
 obtain rfl:=sj hF
 exact lC (by simp) rfl Tryz.results72 hf hc (cW (vs:=[.bool true,i6 r.Lo,i6 r.Hi]) aB2 rfl rfl (bR (n:=3) m0 rfl)) ⟨rfl,(hc.drop k0)⟩

def wN (N:Nat) (B:Int):Option (dZ) :=
 Option.bind (rT N 20 30) fun r=>
 Option.bind (rT N B 90) fun D=>
 some (⟨10,5,([r,(⟨false,(⟨0,0⟩:aC)⟩:bN),(⟨false,(⟨0,0⟩:aC)⟩:bN),D]:List bN)⟩:dZ)
theorem aCv {N:Nat} {G:aU} {Lf:List Ent} {w:World} (D:Int)   (hc:Ctx G (Lf) w) {H:dZ} (hF:wN N D=some H):Calls Tryz.prog 35 #[i6 D] w (fun e w=>∃ (J:Option Addr) (M:Nat),e=.returned (.agg #[i6 H.Rise,i6 H.Fall,.slice J H.Days.length M])∧Ctx G (.row J M (H.Days.map cO) 162 3::Lf) w):=by
 unfold wN at hF
 refine bU Tryz.func35 rfl Tryz.ntmps35 rfl fun a hf=>zS fun K h=>zA hf hc aOd rfl fun R a w hf hc=>zT h ?_
 refine zS fun K h=>?_
 obtain ⟨r,hr,hF⟩:=aA hF
 refine zQ (v:=.agg #[.bool r.Known,i6 r.Flow.Lo,i6 r.Flow.Hi]) hf hc aM4 rfl (fun w hc=>vE 20 30 hc hr) fun a w hf hc=>zP hf rfl (bL (cells:=[.bool false,i6 0,i6 0]) aG6 rfl rfl) fun a hf=>zP hf rfl (bL (cells:=[.bool false,i6 0,i6 0]) aG6 rfl rfl) fun a hf=>sp 1 hf rfl fun a hf=>?_
 obtain ⟨B,O,hF⟩:=aA hF
 refine zQ (v:=.agg #[.bool B.Known,i6 B.Flow.Lo,i6 B.Flow.Hi]) hf hc aM4 rfl (fun w hc=>vE D 90 hc O) fun a w hf hc=>pJ (rows:=([r,(⟨false,(⟨0,0⟩:aC)⟩:bN),(⟨false,(⟨0,0⟩:aC)⟩:bN),B]:List bN).map cO) (vs:=[(0,.agg #[.bool r.Known,i6 r.Flow.Lo,i6 r.Flow.Hi]),(1,.agg #[.bool false,i6 0,i6 0]),(2,.agg #[.bool false,i6 0,i6 0]),(3,.agg #[.bool B.Known,i6 B.Flow.Lo,i6 B.Flow.Hi])]) hf hc rfl rfl aOb rfl ⟨rfl,rfl,rfl,rfl,rfl,rfl,rfl,rfl,rfl,rfl,rfl,rfl,trivial⟩ rfl rfl fun I a w hf hc=>zP hf rfl (bL (cells:=[i6 10,i6 5,.slice (some ⟨I,0,none⟩) 4 4]) aNi rfl rfl) fun a hf=>zW hf hc aO0 u1 rfl fun w hc=>zT h ?_
 refine wp_ret ?_
 obtain rfl:=sj hF
 exact lC (by simp) rfl Tryz.results35 hf hc (cW (vs:=[i6 10,i6 5,.slice (some ⟨I,0,none⟩) 4 4]) zK rfl rfl (bR (n:=3) m1 rfl)) ⟨(some ⟨I,0,none⟩),4,rfl,(hc.drop k1)⟩

def gH (n:Int) (D:Int) (B:Int):Bool :=
 ((decide (D≤n)) && (decide (n≤B)))
theorem rZ {G:aU} {Lf:List Ent} {w:World} (n:Int) (B:Int) (D:Int)   (hc:Ctx G (Lf) w) {H:Bool} (hF:gH n B D=H):Calls Tryz.prog 67 #[i6 n,i6 B,i6 D] w (fun e w=>e=.returned (.bool H)∧Ctx G (Lf) w):=by
 unfold gH at hF
 refine bU Tryz.func67 rfl Tryz.ntmps67 rfl fun a hf=>zS fun K h=>sp 1 hf rfl fun a hf=>zT h ?_
 refine zS fun K h=>sp 4 hf rfl fun a hf=>gQ 4 (fun a=>Has 15 a [(0,i6 n),(1,i6 B),(2,i6 D),(6,.bool false),(7,i6 n),(8,i6 B),(9,.bool (decide (B≤n))),(10,.bool (decide (B≤n))),(14,.bool ((decide (B≤n)) && (decide (n≤D))))]) hc ?_ ?_
 ·cases hb:(decide (B≤n))
  ·rw [hb] at hf
   refine stS hf rfl rfl rfl fun a hf=>stS hf rfl rfl rfl fun a hf=>stS hf rfl rfl rfl fun a hf=>sp 1 hf rfl fun a hf=>aS ⟨hf.kp rfl,hc⟩
  ·rw [hb] at hf
   refine sp 4 hf rfl fun a hf=>aS ⟨hf.kp rfl,hc⟩
 intro a w ⟨hf,hc⟩
 refine sp 1 hf rfl fun a hf=>zT h ?_
 refine wp_ret ?_
 obtain rfl:=hF
 exact zO1 Tryz.results67 hf rfl ⟨rfl,hc⟩

def cK (n:Int):Bool :=
 (gH n 0 1000000000)
theorem sP {G:aU} {Lf:List Ent} {w:World} (n:Int)   (hc:Ctx G (Lf) w) {B:Bool} (hF:cK n=B):Calls Tryz.prog 96 #[i6 n] w (fun e w=>e=.returned (.bool B)∧Ctx G (Lf) w):=by
 unfold cK at hF
 refine bU Tryz.func96 rfl Tryz.ntmps96 rfl fun a hf=>zS fun K h=>sp 1 hf rfl fun a hf=>zT h ?_
 refine zS fun K h=>sp 1 hf rfl fun a hf=>zQ (v:=.bool (gH n 0 1000000000)) hf hc aIk rfl (fun w hc=>rZ n 0 1000000000 hc rfl) fun a w hf hc=>sp 1 hf rfl fun a hf=>zT h ?_
 refine wp_ret ?_
 obtain rfl:=hF
 exact zO1 Tryz.results96 hf rfl ⟨rfl,hc⟩

def pS (s_:aC):Bool :=
 ((gH s_.Lo 0 s_.Hi) && (cK s_.Hi))
theorem aCk {G:aU} {Lf:List Ent} {w:World} (s_:aC)   (hc:Ctx G (Lf) w) {D:Bool} (hF:pS s_=D):Calls Tryz.prog 99 #[.agg #[i6 s_.Lo,i6 s_.Hi]] w (fun e w=>e=.returned (.bool D)∧Ctx G (Lf) w):=by
 unfold pS at hF
 refine bU Tryz.func99 rfl Tryz.ntmps99 rfl fun a hf=>zS fun K h=>zB hf hc rfl fun B a w hf hc=>sp 1 hf rfl fun a hf=>zT h ?_
 refine zS fun K h=>zP hf rfl (pFA fY rfl) fun a hf=>zL hf hc aY m0 rfl fun a w hf hc=>zP hf rfl (pFA fD rfl) fun a hf=>zL hf hc aY m0 rfl fun a w hf hc=>zQ (v:=.bool (gH s_.Lo 0 s_.Hi)) hf hc aIk rfl (fun w hc=>rZ s_.Lo 0 s_.Hi hc rfl) fun a w hf hc=>sp 1 hf rfl fun a hf=>gQ 4 (fun a=>Has 13 a [(1,pq B),(2,.bool false),(3,pq B),(4,i6 s_.Lo),(5,.pointer (some ⟨B,1,none⟩)),(6,i6 s_.Hi),(7,.bool (gH s_.Lo 0 s_.Hi)),(8,.bool (gH s_.Lo 0 s_.Hi)),(12,.bool ((gH s_.Lo 0 s_.Hi) && (cK s_.Hi)))]) hc ?_ ?_
 ·cases hb:(gH s_.Lo 0 s_.Hi)
  ·rw [hb] at hf
   refine stS hf rfl rfl rfl fun a hf=>stS hf rfl rfl rfl fun a hf=>stS hf rfl rfl rfl fun a hf=>sp 1 hf rfl fun a hf=>aS ⟨hf.kp rfl,hc⟩
  ·rw [hb] at hf
   refine zP hf rfl (pFA fD rfl) fun a hf=>zL hf hc aY m0 rfl fun a w hf hc=>zQ (v:=.bool (cK s_.Hi)) hf hc aK2 rfl (fun w hc=>sP s_.Hi hc rfl) fun a w hf hc=>sp 1 hf rfl fun a hf=>aS ⟨hf.kp rfl,hc⟩
 intro a w ⟨hf,hc⟩
 refine sp 1 hf rfl fun a hf=>zT h ?_
 refine wp_ret ?_
 obtain rfl:=hF
 replace hc:=hc.drop k0
 exact zO1 Tryz.results99 hf rfl ⟨rfl,hc⟩

def oV (v:bN):Bool :=
 ((!v.Known) || (pS v.Flow))
theorem yJ {G:aU} {Lf:List Ent} {w:World} (v:bN)   (hc:Ctx G (Lf) w) {B:Bool} (hF:oV v=B):Calls Tryz.prog 98 #[.agg #[.bool v.Known,i6 v.Flow.Lo,i6 v.Flow.Hi]] w (fun e w=>e=.returned (.bool B)∧Ctx G (Lf) w):=by
 unfold oV at hF
 refine bU Tryz.func98 rfl Tryz.ntmps98 rfl fun a hf=>zS fun K h=>zB hf hc rfl fun D a w hf hc=>sp 1 hf rfl fun a hf=>zT h ?_
 refine zS fun K h=>zP hf rfl (pFA aFa rfl) fun a hf=>zL hf hc wC m0 rfl fun a w hf hc=>sp 2 hf rfl fun a hf=>gQ 4 (fun a=>Has 11 a [(1,pq D),(2,.bool false),(3,pq D),(4,.bool v.Known),(5,.bool (!v.Known)),(6,.bool (!v.Known)),(10,.bool ((!v.Known) || (pS v.Flow)))]) hc ?_ ?_
 ·cases hb:(!v.Known)
  ·rw [hb] at hf
   refine zP hf rfl (pFA aFs rfl) fun a hf=>zN hf hc iS m0 rfl fun a w hf hc=>zQ (v:=.bool (pS v.Flow)) hf hc en_99 rfl (fun w hc=>aCk v.Flow hc rfl) fun a w hf hc=>sp 1 hf rfl fun a hf=>aS ⟨hf.kp rfl,hc⟩
  ·rw [hb] at hf
   refine stS hf rfl rfl rfl fun a hf=>stS hf rfl rfl rfl fun a hf=>stS hf rfl rfl rfl fun a hf=>sp 1 hf rfl fun a hf=>aS ⟨hf.kp rfl,hc⟩
 intro a w ⟨hf,hc⟩
 refine sp 1 hf rfl fun a hf=>zT h ?_
 refine wp_ret ?_
 obtain rfl:=hF
 replace hc:=hc.drop k0
 exact zO1 Tryz.results98 hf rfl ⟨rfl,hc⟩

def gP (x:bN):Bool :=
 (!(oV (⟨x.Known,x.Flow⟩:bN)))
theorem qB {G:aU} {Lf:List Ent} {w:World} (x:bN) {b_:Nat}  (hc:Ctx G (.box b_ [.func (.func 98) #[] #[]] 193::Lf) w) {B:Bool} (hF:gP x=B):Calls Tryz.prog 122 #[.agg #[.bool x.Known,i6 x.Flow.Lo,i6 x.Flow.Hi],pq b_] w (fun e w=>e=.returned (.bool B)∧Ctx G (.box b_ [.func (.func 98) #[] #[]] 193::Lf) w):=by
 unfold gP at hF
 refine bU Tryz.func122 rfl Tryz.ntmps122 rfl fun a hf=>zS fun K h=>zB hf hc rfl fun D a w hf hc=>sp 1 hf rfl fun a hf=>zT h ?_
 refine zS fun K h=>zL hf hc aOp m1 rfl fun a w hf hc=>zN hf hc aB2 m0 rfl fun a w hf hc=>zQ (v:=.bool (oV (⟨x.Known,x.Flow⟩:bN))) hf hc en_98 rfl (fun w hc=>yJ (⟨x.Known,x.Flow⟩:bN) hc rfl) fun a w hf hc=>sp 2 hf rfl fun a hf=>zT h ?_
 refine wp_ret ?_
 obtain rfl:=hF
 replace hc:=hc.drop k0
 exact zO1 Tryz.results122 hf rfl ⟨rfl,hc⟩

def fS (N:Nat) (s_:List bN) (x:Int):Option (cP (Int) (Int)) :=
 cond (decide (x < ((s_.length:Nat):Int)))
 (Option.bind (bQ s_ x) fun B=>
 cond (gP B)
 (some (.ret x))
 (some (.cont (W (x + 1)))))
 (some (.brk x))
def eE (N:Nat) (s_:List bN):Option (Int) :=
 Option.bind (bC (fun s4=>fS N s_ s4) N 0) fun x4=>
 exK x4 (fun s4=>some (-1)) some
theorem kP {N:Nat} {G:aU} {Lf:List Ent} {w:World} (s_:List bN) {H:Option Addr} {I:Nat} {b_:Nat} (O:Rd G 3 H I (s_.map cO)) (hc:Ctx G (.box b_ [.func (.func 98) #[] #[]] 193::Lf) w) {J:Int} (hF:eE N s_=some J):Calls Tryz.prog 136 #[.slice H s_.length I,.func (.func 122) #[] #[pq b_]] w (fun e w=>e=.returned (i6 J)∧Ctx G (.box b_ [.func (.func 98) #[] #[]] 193::Lf) w):=by
 unfold eE at hF
 refine bU Tryz.func136 rfl Tryz.ntmps136 rfl fun a hf=>zS fun K h=>sp 1 hf rfl fun a hf=>zT h ?_
 refine wp_seq_k fun K2 h2=>zS fun K h=>sp 1 hf rfl fun a hf=>zP hf rfl (cR Tryz.underlying106 rfl) fun a hf=>sp 1 hf rfl fun a hf=>zT h ?_
 refine wp_block ?_
 obtain ⟨x4,U,hF⟩:=aA hF
 let S4:Int→Act→World→Prop:=(fun (zz:Int) a w=>Has 19 a [(0,.slice H s_.length I),(1,.func (.func 122) #[] #[pq b_]),(7,i6 ((s_.length:Nat):Int)),(8,i6 zz)]∧Ctx G (.box b_ [.func (.func 98) #[] #[]] 193::Lf) w)
 have X:∀ (zz:Int) a w,x4=.go zz→S4 zz a w→K2 a w:=by
  rintro x a w rfl ⟨hf,hc⟩
  replace hF:=cI hF
  refine h2 _ _ ?_
  refine zS fun K h=>sp 1 hf rfl fun a hf=>zT h ?_
  refine wp_ret ?_
  obtain rfl:=sj hF
  exact zO1 Tryz.results136 hf rfl ⟨rfl,hc⟩
 have V:∀ r,x4=.out r→r=J:=by
  rintro r rfl
  exact sj hF
 refine eR N (eO (S:=S4) (x:=x4) ?_ N 0 _ _ ⟨hf.kp rfl,hc⟩ U)
 clear hF hf hc
 rintro x Z a w KB4 ⟨hf,hc⟩ hF B R
 unfold fS at hF
 refine zS fun K h=>sp 1 hf rfl fun a hf=>zT h ?_
 refine wp_seq_k fun K7 h7=>zI hf rfl hF ?_ ?_ <;> clear hF <;> intro hF
 ·refine wp_skip ?_
  refine h7 _ _ ?_
  refine wp_seq_k fun K8 h8=>wp_block ?_
  refine zS fun K h=>sp 2 hf rfl fun a hf=>zT h ?_
  refine zS fun K h=>sp 3 hf rfl fun a hf=>?_
  obtain ⟨D,M,hF⟩:=aA hF
  obtain ⟨Y,o,qa,qp⟩:=O.atm M
  refine zP hf rfl (pIA Tryz.underlying106 aDu rfl rfl qa) fun a hf=>zE hf hc rfl (jE (vs:=[.bool D.Known,i6 D.Flow.Lo,i6 D.Flow.Hi]) aB2 rfl rfl (dS qp (n:=3) (o':=0) rfl)) fun a w hf hc=>zQ (v:=.bool (gP D)) hf hc aOx rfl (fun w hc=>(qB D (hc.pick k0) rfl).mono fun e w h=>⟨h.1,(h.2.unpick k0)⟩) fun a w hf hc=>zT h ?_
  refine zI hf rfl hF ?_ ?_ <;> clear hF <;> intro hF
  ·refine zS fun K h=>sp 2 hf rfl fun a hf=>zT h ?_
   refine wp_ret ?_
   refine bT ?_
   refine aQ ?_
   refine aQ ?_
   have he:=sj hF
   rw [← he] at B
   replace hF:=V _ B
   refine bT ?_
   refine aQ ?_
   obtain rfl:=hF
   exact zO1 Tryz.results136 hf rfl ⟨rfl,hc⟩
  ·refine wp_skip ?_
   refine h8 _ _ ?_
   refine eB ?_
   refine sp 2 hf rfl fun a hf=>aS ?_
   exact R (W (x + 1)) _ _ (sj hF).symm ⟨hf.kp rfl,hc⟩
 ·refine wp_exit ?_
  refine bI ?_
  refine bI ?_
  have he:=sj hF
  rw [← he] at B
  refine fZ ?_
  exact X _ _ _ B ⟨hf.kp rfl,hc⟩

def dK (N:Nat) (s_:List bN):Option (Bool) :=
 Option.bind (eE N s_) fun r=>
 some (decide (0≤r))
theorem kD {N:Nat} {G:aU} {Lf:List Ent} {w:World} (s_:List bN) {B:Option Addr} {D:Nat} {b_:Nat} (I:Rd G 3 B D (s_.map cO)) (hc:Ctx G (.box b_ [.func (.func 98) #[] #[]] 193::Lf) w) {H:Bool} (hF:dK N s_=some H):Calls Tryz.prog 121 #[.slice B s_.length D,.func (.func 122) #[] #[pq b_]] w (fun e w=>e=.returned (.bool H)∧Ctx G (.box b_ [.func (.func 98) #[] #[]] 193::Lf) w):=by
 unfold dK at hF
 refine bU Tryz.func121 rfl Tryz.ntmps121 rfl fun a hf=>zS fun K h=>sp 1 hf rfl fun a hf=>zT h ?_
 refine zS fun K h=>sp 2 hf rfl fun a hf=>?_
 obtain ⟨r,hr,hF⟩:=aA hF
 refine zQ (v:=i6 r) hf hc aNe rfl (fun w hc=>(kP s_ I (hc.pick k0) hr).mono fun e w h=>⟨h.1,(h.2.unpick k0)⟩) fun a w hf hc=>sp 2 hf rfl fun a hf=>zT h ?_
 refine wp_ret ?_
 obtain rfl:=sj hF
 exact zO1 Tryz.results121 hf rfl ⟨rfl,hc⟩

def kQ (N:Nat) (l:List bN):Option (Bool) :=
 Option.bind (dK N l) fun r=>
 some (!r)
theorem rI {N:Nat} {G:aU} {Lf:List Ent} {w:World} (l:List bN) {H:Option Addr} {D:Nat} (I:Rd G 3 H D (l.map cO)) (hc:Ctx G (Lf) w) {B:Bool} (hF:kQ N l=some B):Calls Tryz.prog 97 #[.slice H l.length D,.func (.func 98) #[] #[]] w (fun e w=>e=.returned (.bool B)∧Ctx G (Lf) w):=by
 unfold kQ at hF
 refine bU Tryz.func97 rfl Tryz.ntmps97 rfl fun a hf=>zS fun K h=>zB hf hc rfl fun J a w hf hc=>sp 1 hf rfl fun a hf=>zT h ?_
 refine zS fun K h=>sp 1 hf rfl fun a hf=>zP hf rfl (pMF (us:=[pq J]) rfl rfl) fun a hf=>?_
 obtain ⟨r,hr,hF⟩:=aA hF
 refine zQ (v:=.bool r) hf hc aNd rfl (fun w hc=>(kD l I (hc.pick k0) hr).mono fun e w h=>⟨h.1,(h.2.unpick k0)⟩) fun a w hf hc=>sp 2 hf rfl fun a hf=>zT h ?_
 refine wp_ret ?_
 obtain rfl:=sj hF
 replace hc:=hc.drop k0
 exact zO1 Tryz.results97 hf rfl ⟨rfl,hc⟩

def sD (N:Nat) (r:dZ):Option (Int) :=
 cond (!(gH ((r.Days.length:Nat):Int) 1 60))
 (some 3)
 (Option.bind (cond ((!(cK r.Rise)) || (!(cK r.Fall))) (some true) (Option.bind (kQ N r.Days) fun D=>
 some (!D))) fun B=>
 cond B
 (some 80)
 (some 0))
theorem uY {N:Nat} {G:aU} {Lf:List Ent} {w:World} (r:dZ) {B:Option Addr} {D:Nat} (H:Rd G 3 B D (r.Days.map cO)) (hc:Ctx G (Lf) w) {M:Int} (hF:sD N r=some M):Calls Tryz.prog 66 #[.agg #[i6 r.Rise,i6 r.Fall,.slice B r.Days.length D]] w (fun e w=>e=.returned (i6 M)∧Ctx G (Lf) w):=by
 unfold sD at hF
 refine bU Tryz.func66 rfl Tryz.ntmps66 rfl fun a hf=>zS fun K h=>zB hf hc rfl fun I a w hf hc=>sp 1 hf rfl fun a hf=>zT h ?_
 refine wp_seq_k fun K2 h2=>wp_block ?_
 refine zS fun K h=>zP hf rfl (pFA rB rfl) fun a hf=>zL hf hc wX m0 rfl fun a w hf hc=>zP hf rfl (cR Tryz.underlying106 rfl) fun a hf=>zQ (v:=.bool (gH ((r.Days.length:Nat):Int) 1 60)) hf hc aIk rfl (fun w hc=>rZ ((r.Days.length:Nat):Int) 1 60 hc rfl) fun a w hf hc=>sp 2 hf rfl fun a hf=>zT h ?_
 refine zI hf rfl hF ?_ ?_ <;> clear hF <;> intro hF
 ·refine zS fun K h=>sp 1 hf rfl fun a hf=>zT h ?_
  refine wp_ret ?_
  refine bT ?_
  refine aQ ?_
  obtain rfl:=sj hF
  replace hc:=hc.drop k0
  exact zO1 Tryz.results66 hf rfl ⟨rfl,hc⟩
 ·refine zS fun K h=>zP hf rfl (pFA aB4 rfl) fun a hf=>zL hf hc aY m0 rfl fun a w hf hc=>zQ (v:=.bool (cK r.Rise)) hf hc aK2 rfl (fun w hc=>sP r.Rise hc rfl) fun a w hf hc=>sp 2 hf rfl fun a hf=>gQ 5 (fun a=>Has 26 a [(1,pq I),(10,pq I),(11,i6 r.Rise),(12,.bool (cK r.Rise)),(13,.bool (!(cK r.Rise))),(14,.bool (!(cK r.Rise))),(19,.bool ((!(cK r.Rise)) || (!(cK r.Fall))))]) hc ?_ ?_
  ·cases hb:(!(cK r.Rise))
   ·rw [hb] at hf
    refine zP hf rfl (pFA aA7 rfl) fun a hf=>zL hf hc aY m0 rfl fun a w hf hc=>zQ (v:=.bool (cK r.Fall)) hf hc aK2 rfl (fun w hc=>sP r.Fall hc rfl) fun a w hf hc=>sp 2 hf rfl fun a hf=>aS ⟨hf.kp rfl,hc⟩
   ·rw [hb] at hf
    refine stS hf rfl rfl rfl fun a hf=>stS hf rfl rfl rfl fun a hf=>stS hf rfl rfl rfl fun a hf=>stS hf rfl rfl rfl fun a hf=>sp 1 hf rfl fun a hf=>aS ⟨hf.kp rfl,hc⟩
  intro a w ⟨hf,hc⟩
  refine sp 1 hf rfl fun a hf=>?_
  obtain ⟨S,J,hF⟩:=aA hF
  refine gQ 5 (fun a=>Has 26 a [(1,pq I),(10,pq I),(11,i6 r.Rise),(12,.bool (cK r.Rise)),(13,.bool (!(cK r.Rise))),(14,.bool (!(cK r.Rise))),(19,.bool ((!(cK r.Rise)) || (!(cK r.Fall)))),(20,.bool ((!(cK r.Rise)) || (!(cK r.Fall)))),(25,.bool S)]) hc ?_ ?_
  ·cases hb:((!(cK r.Rise)) || (!(cK r.Fall)))
   ·rw [hb] at hf
    have hF:=mR hb J
    refine zP hf rfl (pFA rB rfl) fun a hf=>zL hf hc wX m0 rfl fun a w hf hc=>?_
    obtain ⟨R,O,hF⟩:=aA hF
    refine zQ (v:=.bool R) hf hc en_97 rfl (fun w hc=>rI r.Days H hc O) fun a w hf hc=>sp 2 hf rfl fun a hf=>?_
    obtain rfl:=sj hF
    exact aS ⟨hf.kp rfl,hc⟩
   ·rw [hb] at hf
    have hF:=mN hb J
    obtain rfl:=sj hF
    refine stS hf rfl rfl rfl fun a hf=>stS hf rfl rfl rfl fun a hf=>stS hf rfl rfl rfl fun a hf=>stS hf rfl rfl rfl fun a hf=>sp 1 hf rfl fun a hf=>aS ⟨hf.kp rfl,hc⟩
  intro a w ⟨hf,hc⟩
  refine sp 1 hf rfl fun a hf=>zT h ?_
  refine zI hf rfl hF ?_ ?_ <;> clear hF <;> intro hF
  ·refine zS fun K h=>sp 1 hf rfl fun a hf=>zT h ?_
   refine wp_ret ?_
   refine bT ?_
   refine aQ ?_
   obtain rfl:=sj hF
   replace hc:=hc.drop k0
   exact zO1 Tryz.results66 hf rfl ⟨rfl,hc⟩
  ·refine wp_skip ?_
   refine h2 _ _ ?_
   refine zS fun K h=>sp 1 hf rfl fun a hf=>zT h ?_
   refine wp_ret ?_
   obtain rfl:=sj hF
   replace hc:=hc.drop k0
   exact zO1 Tryz.results66 hf rfl ⟨rfl,hc⟩

def oR (N:Nat) (v:bN):Option (aC) :=
 cond v.Known
 (some v.Flow)
 (some (⟨0,1000000000⟩:aC))
theorem wB {N:Nat} {G:aU} {Lf:List Ent} {w:World} (v:bN)   (hc:Ctx G (Lf) w) {B:aC} (hF:oR N v=some B):Calls Tryz.prog 123 #[.agg #[.bool v.Known,i6 v.Flow.Lo,i6 v.Flow.Hi]] w (fun e w=>e=.returned (.agg #[i6 B.Lo,i6 B.Hi])∧Ctx G (Lf) w):=by
 unfold oR at hF
 refine bU Tryz.func123 rfl Tryz.ntmps123 rfl fun a hf=>zS fun K h=>zB hf hc rfl fun H a w hf hc=>zA hf hc uF rfl fun D a w hf hc=>zT h ?_
 refine wp_seq_k fun K2 h2=>zS fun K h=>zP hf rfl (pFA aFa rfl) fun a hf=>zL hf hc wC m1 rfl fun a w hf hc=>zT h ?_
 refine zI hf rfl hF ?_ ?_ <;> clear hF <;> intro hF
 ·refine zS fun K h=>zP hf rfl (pFA aFs rfl) fun a hf=>zN hf hc iS m1 rfl fun a w hf hc=>zW hf hc fN u0 rfl fun w hc=>zT h ?_
  refine wp_ret ?_
  refine aQ ?_
  obtain rfl:=sj hF
  replace hc:=hc.drop k1
  exact lC (by simp) rfl Tryz.results123 hf hc (cW (vs:=[i6 v.Flow.Lo,i6 v.Flow.Hi]) iS rfl rfl (bR (n:=2) m0 rfl)) ⟨rfl,(hc.drop k0)⟩
 ·refine wp_skip ?_
  refine h2 _ _ ?_
  refine zS fun K h=>zP hf rfl (bL (cells:=[i6 0,i6 1000000000]) qD rfl rfl) fun a hf=>zW hf hc fN u0 rfl fun w hc=>zT h ?_
  refine wp_ret ?_
  obtain rfl:=sj hF
  replace hc:=hc.drop k1
  exact lC (by simp) rfl Tryz.results123 hf hc (cW (vs:=[i6 0,i6 1000000000]) iS rfl rfl (bR (n:=2) m0 rfl)) ⟨rfl,(hc.drop k0)⟩

def kR (N:Nat) (w_:nL) (B:Bool):Option (Bool) :=
 some B
theorem qH {N:Nat} {G:aU} {Lf:List Ent} {w:World} (w_:nL) (M:Bool) {b_:Nat} {D:Option Addr} {B:Nat} {I:Option Addr} {H:Nat} (J:Rd G 3 D B (w_.Record.Days.map cO)) (O:Rd G 2 I H (w_.spans.map aH)) (hc:Ctx G (.box b_ [i6 w_.Record.Rise,i6 w_.Record.Fall,.slice D w_.Record.Days.length B,.slice I w_.spans.length H] 154::Lf) w) {S:Bool} (hF:kR N w_ M=some S):Calls Tryz.prog 125 #[pq b_,.bool M] w (fun e w=>∃ (X:Nat) (U:Nat),e=.returned (.func (.func 137) #[] #[pq X,pq U])∧Ctx G (.box X [pq b_] 150::.box U [.bool S] 4::.box b_ [i6 w_.Record.Rise,i6 w_.Record.Fall,.slice D w_.Record.Days.length B,.slice I w_.spans.length H] 154::Lf) w):=by
 unfold kR at hF
 refine bU Tryz.func125 rfl Tryz.ntmps125 rfl fun a hf=>zS fun K h=>zB hf hc rfl fun V a w hf hc=>zB hf hc rfl fun R a w hf hc=>sp 1 hf rfl fun a hf=>zT h ?_
 refine zS fun K h=>zP hf rfl (pMF (us:=[pq V,pq R]) rfl rfl) fun a hf=>sp 1 hf rfl fun a hf=>zT h ?_
 refine wp_ret ?_
 obtain rfl:=sj hF
 replace hc:=(hc.pick k0).pick k1
 exact zO1 Tryz.results125 hf rfl ⟨V,R,rfl,hc⟩

def jJ (N:Nat) {σ:Type} (y:σ→(Int × Int)→Option (σ × Bool)) (I:Int) (D:Int) (H:Int) (B:σ):Option (cP (Int × σ) (σ)) :=
 Option.bind (y B (D,H)) fun ry=>
 cond (!ry.2)
 (some (.ret ry.1))
 (some (.cont (W (I + 1),ry.1)))
def oL (N:Nat) {σ:Type} (D:List bN) (H:Bool) (y:σ→(Int × Int)→Option (σ × Bool)) (B:Int) (sg:σ):Option (cP (Int × σ) (σ)) :=
 cond (decide (B < (W (((D.length:Nat):Int) - 1))))
 (cond H
 (jJ N y B (W ((W (((D.length:Nat):Int) - 1)) - B)) (W ((W (((D.length:Nat):Int) - 2)) - B)) sg)
 (jJ N y B B (W (B + 1)) sg))
 (some (.brk (B,sg)))
def jH (N:Nat) {σ:Type} (x:Int) (I:Int) (D:List bN) (H:Bool) (y:σ→(Int × Int)→Option (σ × Bool)) (B:σ):Option (σ) :=
 Option.bind (bC (fun s3=>oL N D H y s3.1 s3.2) N (0,B)) fun x3=>
 exK x3 (fun s3=>some s3.2) some
theorem oM {N:Nat} {G:aU} {Lf:List Ent} {w:World} {σ:Type} (x:Int) (Y:Int) (R:List bN) (I:Bool) {b_:Nat} {D:Nat} {M:Option Addr} {O:Nat} {U:Option Addr} {X:Nat} {V:Nat} {H:Nat} (ag:Rd G 3 M O (R.map cO)) (J:σ→List Ent→Prop) (y:σ→(Int × Int)→Option (σ × Bool)) {l:Nat} (hy:oI Tryz.prog G l (fun x:(Int × Int)=>[i6 x.1,i6 x.2]) J y) (p:σ) {Ls0:List Ent} (k:J p Ls0) (s:∀ (o:σ) (L:List Ent),J o L→∃ A B,L=A++(.box D [i6 x,i6 Y,.slice M R.length O,.slice U X V] 154::B)) (hc:Ctx G (.box b_ [pq D] 150::.box H [.bool I] 4::(Ls0++Lf)) w) {m:σ} (hF:jH N x Y R I y p=some m):Calls Tryz.prog 137 #[.func (.yield l) #[] #[],pq b_,pq H] w (fun e w=>(∃ v,e=.returned v)∧∃ L,J m L∧Ctx G (.box b_ [pq D] 150::.box H [.bool I] 4::(L++Lf)) w):=by
 unfold jH at hF
 refine bU Tryz.func137 rfl Tryz.ntmps137 rfl fun a hf=>wp_seq_k fun K1 h1=>?_
 obtain ⟨As,Bs,j⟩:=s _ _ k
 rw [j] at hc k
 replace hc:Ctx G (.box b_ [pq D] 150::.box H [.bool I] 4::((As++(.box D [i6 x,i6 Y,.slice M R.length O,.slice U X V] 154::Bs))++Lf)) w:=hc
 replace hc:Ctx G (.box D [i6 x,i6 Y,.slice M R.length O,.slice U X V] 154::.box b_ [pq D] 150::.box H [.bool I] 4::((As++Bs)++Lf)) w:=aFy [.box b_ [pq D] 150,.box H [.bool I] 4] hc
 refine eB ?_
 refine zL hf hc lJ m1 rfl fun a w hf hc=>sp 1 hf rfl fun a hf=>zP hf rfl (pFA rH rfl) fun a hf=>zP hf rfl (pFA rB rfl) fun a hf=>zL hf hc wX m0 rfl fun a w hf hc=>zP hf rfl (cR Tryz.underlying106 rfl) fun a hf=>sp 2 hf rfl fun a hf=>aS ?_
 replace hc:Ctx G (.box b_ [pq D] 150::.box H [.bool I] 4::((As++(.box D [i6 x,i6 Y,.slice M R.length O,.slice U X V] 154::Bs))++Lf)) w:=aI0 [.box b_ [pq D] 150,.box H [.bool I] 4] hc
 refine h1 _ _ ?_
 refine lH fun K2 h2=>wp_block ?_
 obtain ⟨x3,aa,hF⟩:=aA hF
 let S3:(Int × σ)→Act→World→Prop:=(fun (zz:Int × σ) a w=>∃ (Ls:List Ent),J zz.2 Ls∧Has 45 a [(0,.func (.yield l) #[] #[]),(1,pq b_),(2,pq H),(13,i6 (W (((R.length:Nat):Int) - 1))),(14,i6 zz.1)]∧Ctx G (.box b_ [pq D] 150::.box H [.bool I] 4::(Ls++Lf)) w)
 have z:∀ (zz:Int × σ) a w,x3=.go zz→S3 zz a w→K2 a w:=by
  rintro ⟨Z,sg⟩ a w rfl ⟨Ls,hJ,hf,hc⟩
  replace hF:=cI hF
  refine h2 _ _ ?_
  obtain rfl:=sj hF
  exact rG (by simp) rfl Tryz.results137 hf ⟨⟨_,rfl⟩,Ls,hJ,hc⟩
 have af:∀ r,x3=.out r→r=m:=by
  rintro r rfl
  exact sj hF
 refine eR N (eO (S:=S3) (x:=x3) ?_ N (0,p) _ _ ⟨(As++(.box D [i6 x,i6 Y,.slice M R.length O,.slice U X V] 154::Bs)),k,hf.kp rfl,hc⟩ aa)
 clear hF hf hc
 rintro ⟨Z,sg⟩ u a w KB3 ⟨Ls,hJ,hf,hc⟩ hF b ad
 unfold oL at hF
 refine zS fun K h=>sp 1 hf rfl fun a hf=>zT h ?_
 refine wp_seq_k fun K5 h5=>zI hf rfl hF ?_ ?_ <;> clear hF <;> intro hF
 ·refine wp_skip ?_
  refine h5 _ _ ?_
  refine wp_seq_k fun K6 h6=>wp_block ?_
  refine zS fun K h=>sp 2 hf rfl fun a hf=>zT h ?_
  refine zS fun K h=>sp 5 hf rfl fun a hf=>zT h ?_
  refine wp_seq_k fun K9 h9=>?_
  have q:∀ (d:Int) (g:Int) (i:σ) (Ls_1:List Ent) a w,J i Ls_1→Has 45 a [(0,.func (.yield l) #[] #[]),(1,pq b_),(2,pq H),(5,i6 d),(6,i6 g),(13,i6 (W (((R.length:Nat):Int) - 1))),(14,i6 Z)]→Ctx G (.box b_ [pq D] 150::.box H [.bool I] 4::(Ls_1++Lf)) w→jJ N y Z d g i=some u→K9 a w:=by
   repeat (clear hF)
   repeat (clear hc)
   repeat (clear hf)
   intro d g i Ls_1 a w t hf hc hF
   unfold jJ at hF
   refine h9 _ _ ?_
   refine wp_seq_k fun K10 ab=>?_
   obtain ⟨ry,ac,hF⟩:=aA hF
   refine yReg 3 (fun a w=>Has 45 a [(0,.func (.yield l) #[] #[]),(1,pq b_),(2,pq H),(5,i6 d),(6,i6 g),(13,i6 (W (((R.length:Nat):Int) - 1))),(14,i6 Z),(39,.func (.yield l) #[] #[]),(40,i6 d),(41,i6 g)]∧Ctx G (.box b_ [pq D] 150::.box H [.bool I] 4::(Ls_1++Lf)) w) (fun _ _ h=>by obtain ⟨⟨_,h⟩,_⟩:=h; cases h) ?_ ?_
   ·refine sp 3 hf rfl fun a hf=>aS ⟨hf.kp rfl,hc⟩
   rintro a w ⟨hf,hc⟩
   refine stY (own:=[.box b_ [pq D] 150,.box H [.bool I] 4]) (v:=(d,g)) hy t ac hf hc rfl rfl rfl rfl rfl rfl fun a w Ls_2 n hf hc=>?_
   replace hc:Ctx G (.box b_ [pq D] 150::.box H [.bool I] 4::(Ls_2++Lf)) w:=hc
   refine aH2 (fun _ _ h=>by obtain ⟨⟨_,h⟩,_⟩:=h; cases h) ?_
   refine sp 1 hf rfl fun a hf=>aS ?_
   refine ab _ _ ?_
   refine zI hf rfl hF ?_ ?_ <;> clear hF <;> intro hF
   ·refine wp_ret ?_
    refine bT ?_
    refine aQ ?_
    refine aQ ?_
    have he:=sj hF
    rw [← he] at b
    replace hF:=af _ b
    refine bT ?_
    refine aQ ?_
    obtain rfl:=hF
    exact rG (by simp) rfl Tryz.results137 hf ⟨⟨_,rfl⟩,Ls_2,n,hc⟩
   ·refine wp_skip ?_
    refine h6 _ _ ?_
    refine eB ?_
    refine sp 2 hf rfl fun a hf=>aS ?_
    exact ad (W (Z + 1),ry.1) _ _ (sj hF).symm ⟨Ls_2,n,hf.kp rfl,hc⟩
  refine zS fun K h=>zL hf hc wC m1 rfl fun a w hf hc=>zT h ?_
  refine zI hf rfl hF ?_ ?_ <;> clear hF <;> intro hF
  ·obtain ⟨As_1,Bs_1,j⟩:=s _ _ hJ
   rw [j] at hc hJ
   replace hc:Ctx G (.box b_ [pq D] 150::.box H [.bool I] 4::((As_1++(.box D [i6 x,i6 Y,.slice M R.length O,.slice U X V] 154::Bs_1))++Lf)) w:=hc
   replace hc:Ctx G (.box D [i6 x,i6 Y,.slice M R.length O,.slice U X V] 154::.box b_ [pq D] 150::.box H [.bool I] 4::((As_1++Bs_1)++Lf)) w:=aFy [.box b_ [pq D] 150,.box H [.bool I] 4] hc
   refine cQ hc aW (by kernel_rfl) ?_
   refine qE hf rfl rfl rfl (cN lJ rfl (bO m1 rfl)) fun a hf=>qE hf rfl rfl rfl (Pu.ev (pNC rfl)) fun a hf=>qE hf rfl rfl rfl (Pu.ev (pFA rH rfl)) fun a hf=>qE hf rfl rfl rfl (Pu.ev (pFA rB rfl)) fun a hf=>qE hf rfl rfl rfl (cN wX rfl (bO m0 rfl)) fun a hf=>qE hf rfl rfl rfl (Pu.ev (cR Tryz.underlying106 rfl)) fun a hf=>qE hf rfl rfl rfl (Pu.ev (aEq rfl rfl)) fun a hf=>qE hf rfl rfl rfl (Pu.ev (pM rfl)) fun a hf=>qE hf rfl rfl rfl (Pu.ev (aEq rfl rfl)) fun a hf=>qE hf rfl rfl rfl (cN lJ rfl (bO m1 rfl)) fun a hf=>qE hf rfl rfl rfl (Pu.ev (pNC rfl)) fun a hf=>qE hf rfl rfl rfl (Pu.ev (pFA rH rfl)) fun a hf=>qE hf rfl rfl rfl (Pu.ev (pFA rB rfl)) fun a hf=>?_
   refine qE hf rfl rfl rfl (cN wX rfl (bO m0 rfl)) fun a hf=>qE hf rfl rfl rfl (Pu.ev (cR Tryz.underlying106 rfl)) fun a hf=>qE hf rfl rfl rfl (Pu.ev (aEq rfl rfl)) fun a hf=>qE hf rfl rfl rfl (Pu.ev (pM rfl)) fun a hf=>qE hf rfl rfl rfl (Pu.ev (aEq rfl rfl)) fun a hf=>qE hf rfl rfl rfl (Pu.ev (pA rfl)) fun a hf=>qE hf rfl rfl rfl (Pu.ev (pA rfl)) fun a hf=>?_
   intro w hc
   replace hc:Ctx G (.box b_ [pq D] 150::.box H [.bool I] 4::((As_1++(.box D [i6 x,i6 Y,.slice M R.length O,.slice U X V] 154::Bs_1))++Lf)) w:=aI0 [.box b_ [pq D] 150,.box H [.bool I] 4] hc
   exact q (W ((W (((R.length:Nat):Int) - 1)) - Z)) (W ((W (((R.length:Nat):Int) - 2)) - Z)) sg (As_1++(.box D [i6 x,i6 Y,.slice M R.length O,.slice U X V] 154::Bs_1)) _ _ hJ (hf.kp rfl) hc hF
  ·refine wp_skip ?_
   exact q Z (W (Z + 1)) sg Ls _ _ hJ (hf.kp rfl) hc hF
 ·refine wp_exit ?_
  refine bI ?_
  refine bI ?_
  have he:=sj hF
  rw [← he] at b
  refine fZ ?_
  exact z _ _ _ b ⟨Ls,hJ,hf.kp rfl,hc⟩

def oG (N:Nat) (i_:Int) (D:Int) (I:Int) (x:Int) (J:Int) (M:List bN) (H:List aC):Option ((List aC)) :=
 Option.bind (bQ H i_) fun B=>
 Option.bind (xQ ((H.set i_.toNat (⟨max B.Lo D,B.Hi⟩:aC)).set i_.toNat (⟨max B.Lo D,min B.Hi I⟩:aC)) H) fun _=>
 some ((H.set i_.toNat (⟨max B.Lo D,B.Hi⟩:aC)).set i_.toNat (⟨max B.Lo D,min B.Hi I⟩:aC))
theorem sG {N:Nat} {G:aU} {Lf:List Ent} {w:World} (i_:Int) (H:Int) (J:Int) (x:Int) (Z:Int) (Y:List bN) (I:List aC) {b_:Nat} {M:Nat} {S:Option Addr} {U:Nat} {V:Option Addr} {D:Nat} (y:Rd G 3 S U (Y.map cO)) (hc:Ctx G (.box b_ [pq M] 150::.box M [i6 x,i6 Z,.slice S Y.length U,.slice V I.length D] 154::.row V D (I.map aH) 51 2::Lf) w) {k:(List aC)} (hF:oG N i_ H J x Z Y I=some k):Calls Tryz.prog 124 #[i6 i_,i6 H,i6 J,pq b_] w (fun e w=>e=.returned (.tuple #[])∧k.length=I.length∧Ctx G (.box b_ [pq M] 150::.box M [i6 x,i6 Z,.slice S Y.length U,.slice V I.length D] 154::.row V D (k.map aH) 51 2::Lf) w):=by
 unfold oG at hF
 refine bU Tryz.func124 rfl Tryz.ntmps124 rfl fun a hf=>zS fun K h=>zL hf hc lJ m0 rfl fun a w hf hc=>sp 1 hf rfl fun a hf=>zP hf rfl (pFA oC rfl) fun a hf=>zL hf hc rC m1 rfl fun a w hf hc=>sp 1 hf rfl fun a hf=>?_
 obtain ⟨B,X,hF⟩:=aA hF
 obtain ⟨g,rfl,qa,qr⟩:=jM hc m2 X
 refine zP hf rfl (pIA Tryz.underlying79 fN rfl rfl qa) fun a hf=>sp 1 hf rfl fun a hf=>zT h ?_
 refine iE (fun θ=>[⟨none,none,1,i6 H⟩,⟨none,none,2,i6 J⟩,⟨none,none,7,.pointer (some ⟨g,i_.toNat * 2,none⟩)⟩,⟨some 0,none,14,.pointer (some ⟨g,i_.toNat * 2,none⟩)⟩,⟨some 1,none,15,.pointer (some ⟨g,i_.toNat * 2,none⟩)⟩,⟨some 2,none,16,.pointer (some ⟨g,i_.toNat * 2,none⟩)⟩,⟨some 3,none,17,.pointer (some ⟨g,i_.toNat * 2,none⟩)⟩,⟨some 4,none,18,.pointer (some ⟨g,i_.toNat * 2 + 0,none⟩)⟩,⟨some 5,none,19,i6 B.Lo⟩,⟨some 6,none,20,i6 H⟩,⟨some 7,none,21,i6 (max B.Lo H)⟩,⟨some 8,none,22,.pointer (some ⟨g,i_.toNat * 2,none⟩)⟩,⟨some 9,none,23,.pointer (some ⟨g,i_.toNat * 2,none⟩)⟩,⟨some 10,none,24,.pointer (some ⟨g,i_.toNat * 2 + 1,none⟩)⟩,⟨some 11,none,25,i6 B.Hi⟩,⟨some 12,none,26,i6 J⟩,⟨some 13,none,27,i6 (min B.Hi J)⟩,⟨some 14,none,28,.pointer (some ⟨g,i_.toNat * 2,none⟩)⟩,⟨some 15,none,29,.pointer (some ⟨g,i_.toNat * 2 + 0,none⟩)⟩,⟨some 17,none,30,.pointer (some ⟨g,i_.toNat * 2,none⟩)⟩,⟨some 18,none,31,.pointer (some ⟨g,i_.toNat * 2 + 1,none⟩)⟩]) (fun E θ=>.box b_ [pq M] 150::.box M [i6 x,i6 Z,.slice S Y.length U,.slice (some ⟨g,0,none⟩) I.length D] 154::(bif E 19 then .row (some ⟨g,0,none⟩) D (((I.set i_.toNat (⟨max B.Lo H,B.Hi⟩:aC)).set i_.toNat (⟨max B.Lo H,min B.Hi J⟩:aC)).map aH) 51 2 else bif E 16 then .row (some ⟨g,0,none⟩) D ((I.set i_.toNat (⟨max B.Lo H,B.Hi⟩:aC)).map aH) 51 2 else .row (some ⟨g,0,none⟩) D (I.map aH) 51 2)::Lf) [(16,5),(19,5),(16,11),(19,11),(19,16)] (fun a w=>Has 32 a []∧Ctx G (.box b_ [pq M] 150::.box M [i6 x,i6 Z,.slice S Y.length U,.slice (some ⟨g,0,none⟩) I.length D] 154::.row (some ⟨g,0,none⟩) D (((I.set i_.toNat (⟨max B.Lo H,B.Hi⟩:aC)).set i_.toNat (⟨max B.Lo H,min B.Hi J⟩:aC)).map aH) 51 2::Lf) w) aW (by kernel_rfl) (by kernel_rfl) (eV.of hf ⟨rfl,rfl,rfl,trivial,trivial,trivial,trivial,trivial,trivial,trivial,trivial,trivial,trivial,trivial,trivial,trivial,trivial,trivial,trivial,trivial,trivial,trivial⟩) hc ⟨?_,?_,?_,?_,?_,?_,?_,?_,?_,?_,?_,?_,?_,?_,?_,?_,?_,?_,?_,?_,trivial⟩ ?_ ?_
 ·intro E θ a w hD hi hp he hc
  have hf:=he.h0.mT he 2 rfl
  refine sp 1 hf rfl fun a hf=>zD θ he hi hf 3 rfl rfl rfl hc
 ·intro E θ a w hD hi hp he hc
  have hf:=he.h0.mT he 2 rfl
  refine sp 1 hf rfl fun a hf=>zD θ he hi hf 4 rfl rfl rfl hc
 ·intro E θ a w hD hi hp he hc
  have hf:=he.h0.mT he 2 rfl
  refine sp 1 hf rfl fun a hf=>zD θ he hi hf 5 rfl rfl rfl hc
 ·intro E θ a w hD hi hp he hc
  have e2:=hp.o 2 rfl
  have hf:=he.h0.mP he 5 rfl e2
  refine sp 1 hf rfl fun a hf=>zD θ he hi hf 6 rfl rfl rfl hc
 ·intro E θ a w hD hi hp he hc
  have e3:=hp.o 3 rfl
  have hf:=he.h0.mP he 6 rfl e3
  refine zP hf rfl (pFA fY rfl) fun a hf=>zD θ he hi hf 7 rfl rfl rfl hc
 ·intro E θ a w hD hi hp he hc
  have e4:=hp.o 4 rfl
  have R:=hD.f 0 rfl hi
  have O:=hD.f 1 rfl hi
  try dsimp only at hc
  rw [R,O] at hc
  have hf:=he.h0.mP he 7 rfl e4
  refine zE hf hc rfl (cN aY rfl (iC (sz:=2) (i:=i_.toNat) (j:=0) m2 qr rfl)) fun a w hf hc=>zD θ he hi hf 8 rfl rfl rfl ?_
  try dsimp only
  rw [aV 5 R rfl,aV 5 O rfl]
  exact hc
 ·intro E θ a w hD hi hp he hc
  have hf:=he.h0.mT he 0 rfl
  refine sp 1 hf rfl fun a hf=>zD θ he hi hf 9 rfl rfl rfl hc
 ·intro E θ a w hD hi hp he hc
  have e5:=hp.o 5 rfl
  have e6:=hp.o 6 rfl
  have hf:=(he.h0.mP he 8 rfl e5).mP he 9 rfl e6
  refine zP hf rfl (aHr rfl rfl) fun a hf=>zD θ he hi hf 10 rfl rfl rfl hc
 ·intro E θ a w hD hi hp he hc
  have hf:=he.h0.mT he 2 rfl
  refine sp 1 hf rfl fun a hf=>zD θ he hi hf 11 rfl rfl rfl hc
 ·intro E θ a w hD hi hp he hc
  have e8:=hp.o 8 rfl
  have hf:=he.h0.mP he 11 rfl e8
  refine sp 1 hf rfl fun a hf=>zD θ he hi hf 12 rfl rfl rfl hc
 ·intro E θ a w hD hi hp he hc
  have e9:=hp.o 9 rfl
  have hf:=he.h0.mP he 12 rfl e9
  refine zP hf rfl (pFA fD rfl) fun a hf=>zD θ he hi hf 13 rfl rfl rfl hc
 ·intro E θ a w hD hi hp he hc
  have t:=hp.o 10 rfl
  have R:=hD.f 2 rfl hi
  have O:=hD.f 3 rfl hi
  try dsimp only at hc
  rw [R,O] at hc
  have hf:=he.h0.mP he 13 rfl t
  refine zE hf hc rfl (cN aY rfl (iC (sz:=2) (i:=i_.toNat) (j:=1) m2 qr rfl)) fun a w hf hc=>zD θ he hi hf 14 rfl rfl rfl ?_
  try dsimp only
  rw [aV 11 R rfl,aV 11 O rfl]
  exact hc
 ·intro E θ a w hD hi hp he hc
  have hf:=he.h0.mT he 1 rfl
  refine sp 1 hf rfl fun a hf=>zD θ he hi hf 15 rfl rfl rfl hc
 ·intro E θ a w hD hi hp he hc
  have s:=hp.o 11 rfl
  have m:=hp.o 12 rfl
  have hf:=(he.h0.mP he 14 rfl s).mP he 15 rfl m
  refine zP hf rfl (aC3 rfl rfl) fun a hf=>zD θ he hi hf 16 rfl rfl rfl hc
 ·intro E θ a w hD hi hp he hc
  have e0:=hp.o 0 rfl
  have hf:=he.h0.mP he 3 rfl e0
  refine sp 1 hf rfl fun a hf=>zD θ he hi hf 17 rfl rfl rfl hc
 ·intro E θ a w hD hi hp he hc
  have q:=hp.o 14 rfl
  have hf:=he.h0.mP he 17 rfl q
  refine zP hf rfl (pFA fY rfl) fun a hf=>zD θ he hi hf 18 rfl rfl rfl hc
 ·intro E θ a w hD hi hp he hc
  have e7:=hp.o 7 rfl
  have p:=hp.o 15 rfl
  have O:=hD.f 4 rfl hi
  try dsimp only at hc
  rw [hi,O] at hc
  have hf:=(he.h0.mP he 10 rfl e7).mP he 18 rfl p
  refine aCs (sz:=2) (vs:=[i6 (max B.Lo H)]) (o':=0) (z:=(⟨max B.Lo H,B.Hi⟩:aC)) (xs:=I) hf hc rfl rfl rfl rfl eQ rfl (fun x=>(gU x).1) (nA X) (fun e' b=>by cases (b.symm.trans (jQ X).2); rfl) rfl u2 fun w hc=>zG θ he hi hf rfl ?_
  try dsimp only
  rw [aX E 16,aV 16 O rfl]
  exact hc
 ·intro E θ a w hD hi hp he hc
  have e1:=hp.o 1 rfl
  have hf:=he.h0.mP he 4 rfl e1
  refine sp 1 hf rfl fun a hf=>zD θ he hi hf 19 rfl rfl rfl hc
 ·intro E θ a w hD hi hp he hc
  have r:=hp.o 17 rfl
  have hf:=he.h0.mP he 19 rfl r
  refine zP hf rfl (pFA fD rfl) fun a hf=>zD θ he hi hf 20 rfl rfl rfl hc
 ·intro E θ a w hD hi hp he hc
  have v:=hp.o 13 rfl
  have u:=hp.o 18 rfl
  have R:=hp.o 16 rfl
  try dsimp only at hc
  rw [R,hi] at hc
  have hf:=(he.h0.mP he 16 rfl v).mP he 20 rfl u
  refine aCs (sz:=2) (vs:=[i6 (min B.Hi J)]) (o':=1) (z:=(⟨max B.Lo H,min B.Hi J⟩:aC)) (xs:=(I.set i_.toNat (⟨max B.Lo H,B.Hi⟩:aC))) hf hc rfl rfl rfl rfl eQ rfl (fun x=>(gU x).1) (by simpa using nA X) (fun e' b=>by rw [List.getElem?_set_self (by simpa using nA X)] at b; cases b; rfl) rfl u2 fun w hc=>?_
  refine zG θ he hi hf rfl ?_
  try dsimp only
  rw [eL 19 R,aX E 19]
  exact hc
 ·intro E θ a w d he hc
  have hf:=he.h0
  have R:=d 16 rfl
  have O:=d 19 rfl
  try dsimp only at hc
  rw [R,O] at hc
  exact ⟨hf.keep trivial,hc⟩
 rintro a w ⟨hf,hc⟩
 obtain ⟨_,n,hF⟩:=uR hF
 obtain rfl:=sj hF
 exact rG (by simp) rfl Tryz.results124 hf ⟨(by first | rfl | simp only [List.length_set]),n,hc⟩

def oH (s_:aC):Bool :=
 (decide (s_.Lo≤s_.Hi))
theorem xJ {G:aU} {Lf:List Ent} {w:World} (s_:aC)   (hc:Ctx G (Lf) w) {B:Bool} (hF:oH s_=B):Calls Tryz.prog 127 #[.agg #[i6 s_.Lo,i6 s_.Hi]] w (fun e w=>e=.returned (.bool B)∧Ctx G (Lf) w):=by
 unfold oH at hF
 refine bU Tryz.func127 rfl Tryz.ntmps127 rfl fun a hf=>zS fun K h=>zB hf hc rfl fun D a w hf hc=>sp 1 hf rfl fun a hf=>zT h ?_
 refine zS fun K h=>zP hf rfl (pFA fY rfl) fun a hf=>zL hf hc aY m0 rfl fun a w hf hc=>zP hf rfl (pFA fD rfl) fun a hf=>zL hf hc aY m0 rfl fun a w hf hc=>sp 2 hf rfl fun a hf=>zT h ?_
 refine wp_ret ?_
 obtain rfl:=hF
 replace hc:=hc.drop k0
 exact zO1 Tryz.results127 hf rfl ⟨rfl,hc⟩

def iP (x:aC):Bool :=
 (!(oH (⟨x.Lo,x.Hi⟩:aC)))
theorem rN {G:aU} {Lf:List Ent} {w:World} (x:aC) {b_:Nat}  (hc:Ctx G (.box b_ [.func (.func 127) #[] #[]] 192::Lf) w) {B:Bool} (hF:iP x=B):Calls Tryz.prog 139 #[.agg #[i6 x.Lo,i6 x.Hi],pq b_] w (fun e w=>e=.returned (.bool B)∧Ctx G (.box b_ [.func (.func 127) #[] #[]] 192::Lf) w):=by
 unfold iP at hF
 refine bU Tryz.func139 rfl Tryz.ntmps139 rfl fun a hf=>zS fun K h=>zB hf hc rfl fun D a w hf hc=>sp 1 hf rfl fun a hf=>zT h ?_
 refine zS fun K h=>zL hf hc aNj m1 rfl fun a w hf hc=>zN hf hc iS m0 rfl fun a w hf hc=>zQ (v:=.bool (oH (⟨x.Lo,x.Hi⟩:aC))) hf hc aOt rfl (fun w hc=>xJ (⟨x.Lo,x.Hi⟩:aC) hc rfl) fun a w hf hc=>sp 2 hf rfl fun a hf=>zT h ?_
 refine wp_ret ?_
 obtain rfl:=hF
 replace hc:=hc.drop k0
 exact zO1 Tryz.results139 hf rfl ⟨rfl,hc⟩

def hY (N:Nat) (s_:List aC) (x:Int):Option (cP (Int) (Int)) :=
 cond (decide (x < ((s_.length:Nat):Int)))
 (Option.bind (bQ s_ x) fun B=>
 cond (iP B)
 (some (.ret x))
 (some (.cont (W (x + 1)))))
 (some (.brk x))
def fJ (N:Nat) (s_:List aC):Option (Int) :=
 Option.bind (bC (fun s4=>hY N s_ s4) N 0) fun x4=>
 exK x4 (fun s4=>some (-1)) some
theorem lS {N:Nat} {G:aU} {Lf:List Ent} {w:World} (s_:List aC) {D:Option Addr} {H:Nat} {b_:Nat} (O:Rd G 2 D H (s_.map aH)) (hc:Ctx G (.box b_ [.func (.func 127) #[] #[]] 192::Lf) w) {J:Int} (hF:fJ N s_=some J):Calls Tryz.prog 152 #[.slice D s_.length H,.func (.func 139) #[] #[pq b_]] w (fun e w=>e=.returned (i6 J)∧Ctx G (.box b_ [.func (.func 127) #[] #[]] 192::Lf) w):=by
 unfold fJ at hF
 refine bU Tryz.func152 rfl Tryz.ntmps152 rfl fun a hf=>zS fun K h=>sp 1 hf rfl fun a hf=>zT h ?_
 refine wp_seq_k fun K2 h2=>zS fun K h=>sp 1 hf rfl fun a hf=>zP hf rfl (cR Tryz.underlying79 rfl) fun a hf=>sp 1 hf rfl fun a hf=>zT h ?_
 refine wp_block ?_
 obtain ⟨x4,U,hF⟩:=aA hF
 let S4:Int→Act→World→Prop:=(fun (zz:Int) a w=>Has 19 a [(0,.slice D s_.length H),(1,.func (.func 139) #[] #[pq b_]),(7,i6 ((s_.length:Nat):Int)),(8,i6 zz)]∧Ctx G (.box b_ [.func (.func 127) #[] #[]] 192::Lf) w)
 have X:∀ (zz:Int) a w,x4=.go zz→S4 zz a w→K2 a w:=by
  rintro x a w rfl ⟨hf,hc⟩
  replace hF:=cI hF
  refine h2 _ _ ?_
  refine zS fun K h=>sp 1 hf rfl fun a hf=>zT h ?_
  refine wp_ret ?_
  obtain rfl:=sj hF
  exact zO1 Tryz.results152 hf rfl ⟨rfl,hc⟩
 have V:∀ r,x4=.out r→r=J:=by
  rintro r rfl
  exact sj hF
 refine eR N (eO (S:=S4) (x:=x4) ?_ N 0 _ _ ⟨hf.kp rfl,hc⟩ U)
 clear hF hf hc
 rintro x Z a w KB4 ⟨hf,hc⟩ hF B R
 unfold hY at hF
 refine zS fun K h=>sp 1 hf rfl fun a hf=>zT h ?_
 refine wp_seq_k fun K7 h7=>zI hf rfl hF ?_ ?_ <;> clear hF <;> intro hF
 ·refine wp_skip ?_
  refine h7 _ _ ?_
  refine wp_seq_k fun K8 h8=>wp_block ?_
  refine zS fun K h=>sp 2 hf rfl fun a hf=>zT h ?_
  refine zS fun K h=>sp 3 hf rfl fun a hf=>?_
  obtain ⟨I,M,hF⟩:=aA hF
  obtain ⟨Y,o,qa,qp⟩:=O.atm M
  refine zP hf rfl (pIA Tryz.underlying79 fN rfl rfl qa) fun a hf=>zE hf hc rfl (jE (vs:=[i6 I.Lo,i6 I.Hi]) iS rfl rfl (dS qp (n:=2) (o':=0) rfl)) fun a w hf hc=>zQ (v:=.bool (iP I)) hf hc aNk rfl (fun w hc=>(rN I (hc.pick k0) rfl).mono fun e w h=>⟨h.1,(h.2.unpick k0)⟩) fun a w hf hc=>zT h ?_
  refine zI hf rfl hF ?_ ?_ <;> clear hF <;> intro hF
  ·refine zS fun K h=>sp 2 hf rfl fun a hf=>zT h ?_
   refine wp_ret ?_
   refine bT ?_
   refine aQ ?_
   refine aQ ?_
   have he:=sj hF
   rw [← he] at B
   replace hF:=V _ B
   refine bT ?_
   refine aQ ?_
   obtain rfl:=hF
   exact zO1 Tryz.results152 hf rfl ⟨rfl,hc⟩
  ·refine wp_skip ?_
   refine h8 _ _ ?_
   refine eB ?_
   refine sp 2 hf rfl fun a hf=>aS ?_
   exact R (W (x + 1)) _ _ (sj hF).symm ⟨hf.kp rfl,hc⟩
 ·refine wp_exit ?_
  refine bI ?_
  refine bI ?_
  have he:=sj hF
  rw [← he] at B
  refine fZ ?_
  exact X _ _ _ B ⟨hf.kp rfl,hc⟩

def eS (N:Nat) (s_:List aC):Option (Bool) :=
 Option.bind (fJ N s_) fun r=>
 some (decide (0≤r))
theorem lF {N:Nat} {G:aU} {Lf:List Ent} {w:World} (s_:List aC) {B:Option Addr} {D:Nat} {b_:Nat} (I:Rd G 2 B D (s_.map aH)) (hc:Ctx G (.box b_ [.func (.func 127) #[] #[]] 192::Lf) w) {H:Bool} (hF:eS N s_=some H):Calls Tryz.prog 138 #[.slice B s_.length D,.func (.func 139) #[] #[pq b_]] w (fun e w=>e=.returned (.bool H)∧Ctx G (.box b_ [.func (.func 127) #[] #[]] 192::Lf) w):=by
 unfold eS at hF
 refine bU Tryz.func138 rfl Tryz.ntmps138 rfl fun a hf=>zS fun K h=>sp 1 hf rfl fun a hf=>zT h ?_
 refine zS fun K h=>sp 2 hf rfl fun a hf=>?_
 obtain ⟨r,hr,hF⟩:=aA hF
 refine zQ (v:=i6 r) hf hc aN2 rfl (fun w hc=>(lS s_ I (hc.pick k0) hr).mono fun e w h=>⟨h.1,(h.2.unpick k0)⟩) fun a w hf hc=>sp 2 hf rfl fun a hf=>zT h ?_
 refine wp_ret ?_
 obtain rfl:=sj hF
 exact zO1 Tryz.results138 hf rfl ⟨rfl,hc⟩

def gZ (N:Nat) (l:List aC):Option (Bool) :=
 Option.bind (eS N l) fun r=>
 some (!r)
theorem sX {N:Nat} {G:aU} {Lf:List Ent} {w:World} (l:List aC) {H:Option Addr} {D:Nat} (I:Rd G 2 H D (l.map aH)) (hc:Ctx G (Lf) w) {B:Bool} (hF:gZ N l=some B):Calls Tryz.prog 126 #[.slice H l.length D,.func (.func 127) #[] #[]] w (fun e w=>e=.returned (.bool B)∧Ctx G (Lf) w):=by
 unfold gZ at hF
 refine bU Tryz.func126 rfl Tryz.ntmps126 rfl fun a hf=>zS fun K h=>zB hf hc rfl fun J a w hf hc=>sp 1 hf rfl fun a hf=>zT h ?_
 refine zS fun K h=>sp 1 hf rfl fun a hf=>zP hf rfl (pMF (us:=[pq J]) rfl rfl) fun a hf=>?_
 obtain ⟨r,hr,hF⟩:=aA hF
 refine zQ (v:=.bool r) hf hc aNq rfl (fun w hc=>(lF l I (hc.pick k0) hr).mono fun e w h=>⟨h.1,(h.2.unpick k0)⟩) fun a w hf hc=>sp 2 hf rfl fun a hf=>zT h ?_
 refine wp_ret ?_
 obtain rfl:=sj hF
 replace hc:=hc.drop k0
 exact zO1 Tryz.results126 hf rfl ⟨rfl,hc⟩

def mC (N:Nat) (r:dZ) (J:List aC) (B:List aC) (xv:Int) (H:Int):Option (Rs ((List aC))) :=
 Option.bind (bQ B xv) fun M=>
 Option.bind (bQ B xv) fun I=>
 Option.bind (oG N H (W (M.Lo - r.Fall)) (W (I.Hi + r.Rise)) r.Rise r.Fall r.Days B) fun D=>
 Option.bind (xQ D J) fun _=>
 some (.go D)
def kM (N:Nat) (r:dZ) (M:List aC) (D:List aC) (B:Int) (I:Int):Option (Rs ((List aC))) :=
 Option.bind (bQ D B) fun J=>
 Option.bind (bQ D B) fun O=>
 Option.bind (oG N I (W (J.Lo - r.Rise)) (W (O.Hi + r.Fall)) r.Rise r.Fall r.Days D) fun H=>
 Option.bind (xQ H M) fun _=>
 some (.go H)
def uH (N:Nat) (r:dZ) (x:Int) (B:List aC):Option (cP (Int × (List aC)) ((Bool × Int) ⊕ (Int × Int × (List aC) × Bool × Int))) :=
 cond (decide (x < ((r.Days.length:Nat):Int)))
 (Option.bind (bQ r.Days x) fun H=>
 Option.bind (oR N H) fun D=>
 Option.bind (rR ((B++[D])).length) fun un=>
 some (.cont (W (x + 1),(B++[D]))))
 (some (.brk (x,B)))
def tR (N:Nat) (r:dZ):Option ((Bool × Int) ⊕ (Int × Int × (List aC) × Bool × Int)) :=
 Option.bind (sD N r) fun I=>
 cond (I != 0)
 (some (.inl (false,I)))
 (Option.bind (bC (fun s9=>uH N r s9.1 s9.2) N (0,([]:List aC))) fun x9=>
 exK x9 (fun s9=>Option.bind (kR N (⟨r,s9.2⟩:nL) false) fun M=>
 Option.bind (jH N r.Rise r.Fall r.Days M (rY (fun (zz:(List aC)) (D:(Int × Int))=>mC N r s9.2 zz D.1 D.2)) (.go s9.2)) fun S=>
 rsK S (fun B=>Option.bind (kR N (⟨r,B⟩:nL) true) fun O=>
 Option.bind (jH N r.Rise r.Fall r.Days O (rY (fun (zz:(List aC)) (D:(Int × Int))=>kM N r B zz D.1 D.2)) (.go B)) fun J=>
 rsK J (fun H=>Option.bind (gZ N H) fun R=>
 some (.inr (r.Rise,r.Fall,H,R,0))) (fun H=>none)) (fun B=>none)) some)
theorem uG {N:Nat} {G:aU} {Lf:List Ent} {w:World} (r:dZ) {H:Option Addr} {D:Nat} (d:Rd G 3 H D (r.Days.map cO)) (hc:Ctx G (Lf) w) {au:(Bool × Int) ⊕ (Int × Int × (List aC) × Bool × Int)} (hF:tR N r=some au):Calls Tryz.prog 100 #[.agg #[i6 r.Rise,i6 r.Fall,.slice H r.Days.length D]] w (fun e w=>vF (fun rr=>e=.returned (.tuple #[.pointer none,.bool rr.1,i6 rr.2])∧Ctx G (Lf) w) (fun rr=>∃ (b5:Nat) (b4:Option Addr) (b3:Nat),e=.returned (.tuple #[pq b5,.bool rr.2.2.2.1,i6 rr.2.2.2.2])∧Ctx G (.row b4 b3 (rr.2.2.1.map aH) 51 2::.box b5 [i6 rr.1,i6 rr.2.1,.slice H r.Days.length D,.slice b4 rr.2.2.1.length b3] 154::Lf) w) au):=by
 unfold tR at hF
 refine xK Tryz.func100 rfl Tryz.ntmps100 rfl fun a hf=>zS fun K h=>zB hf hc rfl fun dk a w hf hc=>sp 3 hf rfl fun a hf=>zT h ?_
 refine wp_seq_k fun K2 h2=>zS fun K h=>zN hf hc zK m0 rfl fun a w hf hc=>?_
 obtain ⟨da,b7,hF⟩:=aA hF
 refine zQ (v:=i6 da) hf hc aM5 rfl (fun w hc=>uY r d hc b7) fun a w hf hc=>sp 1 hf rfl fun a hf=>zT h ?_
 refine zS fun K h=>sp 2 hf rfl fun a hf=>zT h ?_
 refine zI hf rfl hF ?_ ?_ <;> clear hF <;> intro hF
 ·refine zS fun K h=>sp 4 hf rfl fun a hf=>zT h ?_
  refine wp_ret ?_
  refine aQ ?_
  obtain rfl:=sj hF
  replace hc:=hc.drop k0
  refine wV hf ?_
  exact aFn Tryz.results100 hf hc (show eZ _ 2=_ from rfl) (show eZ _ 3=_ from rfl) (show eZ _ 4=_ from rfl) ⟨rfl,hc⟩
 ·refine wp_skip ?_
  refine h2 _ _ ?_
  refine zS fun K h=>zN hf hc zK m0 rfl fun a w hf hc=>zP hf rfl (bL (cells:=[i6 r.Rise,i6 r.Fall,.slice H r.Days.length D,.slice none 0 0]) aOm rfl rfl) fun a hf=>zB hf hc rfl fun I a w hf hc=>zA hf hc aN5 rfl fun R a w hf hc=>zW hf hc aPi u0 rfl fun w hc=>zT h ?_
  refine wp_seq_k fun K7 h7=>zS fun K h=>zP hf rfl (pFA rB rfl) fun a hf=>zL hf hc wX m2 rfl fun a w hf hc=>zP hf rfl (cR Tryz.underlying106 rfl) fun a hf=>sp 1 hf rfl fun a hf=>zT h ?_
  refine wp_block ?_
  obtain ⟨x9,c1,hF⟩:=aA hF
  let S9:(Int × (List aC))→Act→World→Prop:=(fun (zz:Int × (List aC)) a w=>∃ (U:Option Addr) (O:Nat),Has 118 a [(6,pq R),(23,.slice H r.Days.length D),(24,i6 ((r.Days.length:Nat):Int)),(25,i6 zz.1)]∧Ctx G (.row U O (zz.2.map aH) 51 2::.box R [pq I] 150::.box I [i6 r.Rise,i6 r.Fall,.slice H r.Days.length D,.slice U zz.2.length O] 154::Lf) w)
  have c0:∀ (zz:Int × (List aC)) a w,x9=.go zz→S9 zz a w→K7 a w:=by
   rintro ⟨x,k⟩ a w rfl ⟨U,O,hf,hc⟩
   replace hF:=cI hF
   refine h7 _ _ ?_
   refine zS fun K h=>zP hf rfl (pMF (us:=[pq R]) rfl rfl) fun a hf=>zA hf hc aPg rfl fun Y a w hf hc=>zW hf hc aOs u0 rfl fun w hc=>zT h ?_
   refine wp_seq_k fun K11 dd=>zS fun K h=>zL hf hc lJ m2 rfl fun a w hf hc=>?_
   obtain ⟨ap,cd,hF⟩:=aA hF
   obtain ⟨G1,a1,ak,hc,aj⟩:=lend hc k1
   refine zC hf aKm rfl (qH (⟨r,k⟩:nL) false (d.mono a1) ak (hc.pick k2) cd) ?_
   rintro _ w ⟨av,az,rfl,hc⟩
   refine ⟨_,rfl,fun a hf=>?_⟩
   replace hc:=aj _ _ hc
   refine zT h ?_
   obtain ⟨c5,ct,hF⟩:=aA hF
   replace hc:=(((hc.pick k0).pick k3).pick k3).pick k3
   refine aIa (C:=[.box av [pq I] 150,.box az [.bool ap] 4]) (C2:=[.box av [pq I] 150,.box az [.bool ap] 4]) (L0:=[.box I [i6 r.Rise,i6 r.Fall,.slice H r.Days.length D,.slice U k.length O] 154,.row U O (k.map aH) 51 2,.box Y [.func (.func 124) #[] #[pq R]] 212,.box R [pq I] 150]) (Lf:=Lf) (encs:=fun x:(Int × Int)=>[i6 x.1,i6 x.2]) (fun (zz:(List aC)) L=>zz.length=k.length∧L=[.box I [i6 r.Rise,i6 r.Fall,.slice H r.Days.length D,.slice U zz.length O] 154,.row U O (zz.map aH) 51 2,.box Y [.func (.func 124) #[] #[pq R]] 212,.box R [pq I] 150]) (fun (zz:(List aC)) (ag:(Int × Int))=>mC N r k zz ag.1 ag.2) k c5 hf hc rfl aKo (fun _=>rfl) rfl ⟨rfl,rfl⟩ ?_ ?_ ?_ ?_
   ·intro lq mq J L Lx w hy hQ hJ hc
    have a7:∀ (zz:(List aC)) (M:List Ent),(fun (zz:(List aC)) L=>zz.length=k.length∧L=[.box I [i6 r.Rise,i6 r.Fall,.slice H r.Days.length D,.slice U zz.length O] 154,.row U O (zz.map aH) 51 2,.box Y [.func (.func 124) #[] #[pq R]] 212,.box R [pq I] 150]) zz M→∃ A B,M=A++(.box I [i6 r.Rise,i6 r.Fall,.slice H r.Days.length D,.slice U k.length O] 154::B):=by
     rintro X _ ⟨hl,rfl⟩
     try rw [show _=_ from hl]
     exact ⟨[],_,rfl⟩
    exact oM r.Rise r.Fall r.Days ap d J _ hy _ hJ (hQ _ a7) hc ct
   ·clear hF hf hc
    rintro lq mq X ⟨xv,am⟩ oq _ Lr Lb a w db ⟨hl,rfl⟩ hF hf hc hK
    replace hf:Has 118 a [(6,pq R),(9,pq Y),(44,i6 xv),(45,i6 am)]:=hf.kp rfl
    replace hc:Ctx G (.box I [i6 r.Rise,i6 r.Fall,.slice H r.Days.length D,.slice U X.length O] 154::.row U O (X.map aH) 51 2::.box Y [.func (.func 124) #[] #[pq R]] 212::.box R [pq I] 150::Lr) w:=hc
    replace hF:mC N r k X xv am=some oq:=hF
    unfold mC at hF
    refine qA fun K14 c6=>mU (fun _ _ h=>h) rfl ?_
    refine sp 1 hf rfl fun a hf=>aS ?_
    refine c6 _ _ ?_
    refine mU (fun _ _ h=>h) rfl ?_
    refine sp 1 hf rfl fun a hf=>aS ?_
    refine hK _ _ [.box I [i6 r.Rise,i6 r.Fall,.slice H r.Days.length D,.slice U X.length O] 154,.row U O (X.map aH) 51 2,.box Y [.func (.func 124) #[] #[pq R]] 212,.box R [pq I] 150] hc fun w hc=>?_
    replace hc:Ctx G (.box I [i6 r.Rise,i6 r.Fall,.slice H r.Days.length D,.slice U X.length O] 154::.row U O (X.map aH) 51 2::.box Y [.func (.func 124) #[] #[pq R]] 212::.box R [pq I] 150::Lb) w:=hc
    refine rK fun K15 c4=>pW ?_
    obtain ⟨bp,cb,hF⟩:=aA hF
    obtain ⟨g,rfl,qa,qr⟩:=jM hc m1 cb
    obtain ⟨bt,cq,hF⟩:=aA hF
    obtain ⟨b6,cy⟩:=iF hc m1 cq
    obtain ⟨a5,cr,hF⟩:=aA hF
    refine tZ (fun _ _ h=>h) rfl (fun θ=>(⟨none,none,6,pq R⟩::⟨none,none,9,pq Y⟩::⟨none,none,10,i6 xv⟩::⟨none,none,11,i6 am⟩::⟨some 0,none,46,.func (.func 124) #[] #[pq R]⟩::⟨some 1,none,47,i6 am⟩::⟨some 2,none,48,pq I⟩::⟨some 3,none,49,pq I⟩::⟨some 4,none,50,.pointer (some ⟨I,3,none⟩)⟩::⟨some 5,none,51,.slice (some ⟨g,0,none⟩) X.length O⟩::⟨some 6,none,52,i6 xv⟩::⟨some 7,none,53,.pointer (some ⟨g,xv.toNat * 2,none⟩)⟩::⟨some 8,none,54,.pointer (some ⟨g,xv.toNat * 2 + 0,none⟩)⟩::⟨some 9,none,55,i6 bp.Lo⟩::⟨some 10,none,56,pq I⟩::⟨some 11,none,57,pq I⟩::⟨some 12,none,58,pq I⟩::⟨some 13,none,59,.pointer (some ⟨I,1,none⟩)⟩::⟨some 14,none,60,i6 r.Fall⟩::⟨some 15,none,61,i6 (W (bp.Lo - r.Fall))⟩::⟨some 16,none,62,pq I⟩::⟨some 17,none,63,pq I⟩::⟨some 18,none,64,.pointer (some ⟨I,3,none⟩)⟩::⟨some 19,none,65,.slice (some ⟨g,0,none⟩) X.length O⟩::⟨some 20,none,66,i6 xv⟩::⟨some 21,none,67,.pointer (some ⟨g,xv.toNat * 2,none⟩)⟩::⟨some 22,none,68,.pointer (some ⟨g,xv.toNat * 2 + 1,none⟩)⟩::⟨some 23,none,69,i6 bt.Hi⟩::⟨some 24,none,70,pq I⟩::⟨some 25,none,71,pq I⟩::⟨some 26,none,72,pq I⟩::⟨some 27,none,73,pq I⟩::⟨some 28,none,74,i6 r.Rise⟩::⟨some 29,none,75,i6 (W (bt.Hi + r.Rise))⟩::⟨some 30,none,76,.tuple #[]⟩::[])) (fun E θ=>(bif E 30 then .box I [i6 r.Rise,i6 r.Fall,.slice H r.Days.length D,.slice (some ⟨g,0,none⟩) a5.length O] 154 else .box I [i6 r.Rise,i6 r.Fall,.slice H r.Days.length D,.slice (some ⟨g,0,none⟩) X.length O] 154)::(bif E 30 then .row (some ⟨g,0,none⟩) O (a5.map aH) 51 2 else .row (some ⟨g,0,none⟩) O (X.map aH) 51 2)::.box Y [.func (.func 124) #[] #[pq R]] 212::.box R [pq I] 150::Lb) [(7,5),(8,7),(9,8),(15,9),(30,15),(15,14),(21,19),(22,21),(23,22),(29,23),(30,29),(29,28)] (fun a w=>Has 118 a [(6,pq R),(9,pq Y)]∧Ctx G (.box I [i6 r.Rise,i6 r.Fall,.slice H r.Days.length D,.slice (some ⟨g,0,none⟩) a5.length O] 154::.row (some ⟨g,0,none⟩) O (a5.map aH) 51 2::.box Y [.func (.func 124) #[] #[pq R]] 212::.box R [pq I] 150::Lb) w) aW (by kernel_rfl) (by kernel_rfl) (eV.of hf ⟨rfl,rfl,rfl,rfl,trivial,trivial,trivial,trivial,trivial,trivial,trivial,trivial,trivial,trivial,trivial,trivial,trivial,trivial,trivial,trivial,trivial,trivial,trivial,trivial,trivial,trivial,trivial,trivial,trivial,trivial,trivial,trivial,trivial,trivial,trivial,trivial⟩) hc ⟨?_,?_,?_,?_,?_,?_,?_,?_,?_,?_,?_,?_,?_,?_,?_,?_,?_,?_,?_,?_,?_,?_,?_,?_,?_,?_,?_,?_,?_,?_,?_,trivial⟩ ?_ ?_
    ·intro E θ a w hD hi hp he hc
     have hf:=he.h0.mT he 1 rfl
     refine zL hf hc aKg m2 rfl fun a w hf hc=>zD θ he hi hf 4 rfl rfl rfl hc
    ·intro E θ a w hD hi hp he hc
     have hf:=he.h0.mT he 3 rfl
     refine sp 1 hf rfl fun a hf=>zD θ he hi hf 5 rfl rfl rfl hc
    ·intro E θ a w hD hi hp he hc
     have hf:=he.h0.mT he 0 rfl
     refine zL hf hc lJ m3 rfl fun a w hf hc=>zD θ he hi hf 6 rfl rfl rfl hc
    ·intro E θ a w hD hi hp he hc
     have e2:=hp.o 2 rfl
     have hf:=he.h0.mP he 6 rfl e2
     refine sp 1 hf rfl fun a hf=>zD θ he hi hf 7 rfl rfl rfl hc
    ·intro E θ a w hD hi hp he hc
     have e3:=hp.o 3 rfl
     have hf:=he.h0.mP he 7 rfl e3
     refine zP hf rfl (pFA oC rfl) fun a hf=>zD θ he hi hf 8 rfl rfl rfl hc
    ·intro E θ a w hD hi hp he hc
     have e4:=hp.o 4 rfl
     have e7:=hD.f 0 rfl hi
     have e8:=hD.f 1 rfl e7
     have e9:=hD.f 2 rfl e8
     have q:=hD.f 3 rfl e9
     have V:=hD.f 4 rfl q
     try dsimp only at hc
     rw [V] at hc
     have hf:=he.h0.mP he 8 rfl e4
     refine zL hf hc rC m0 rfl fun a w hf hc=>zD θ he hi hf 9 rfl rfl rfl ?_
     try dsimp only
     rw [aV 5 V rfl]
     exact hc
    ·intro E θ a w hD hi hp he hc
     have hf:=he.h0.mT he 2 rfl
     refine sp 1 hf rfl fun a hf=>zD θ he hi hf 10 rfl rfl rfl hc
    ·intro E θ a w hD hi hp he hc
     have e5:=hp.o 5 rfl
     have e6:=hp.o 6 rfl
     have e8:=hD.f 1 rfl hi
     have e9:=hD.f 2 rfl e8
     have q:=hD.f 3 rfl e9
     have V:=hD.f 4 rfl q
     try dsimp only at hc
     rw [V] at hc
     have hf:=(he.h0.mP he 9 rfl e5).mP he 10 rfl e6
     refine zP hf rfl (pIA Tryz.underlying79 fN rfl rfl qa) fun a hf=>zD θ he hi hf 11 rfl rfl rfl ?_
     try dsimp only
     rw [aV 7 V rfl]
     exact hc
    ·intro E θ a w hD hi hp he hc
     have e7:=hp.o 7 rfl
     have hf:=he.h0.mP he 11 rfl e7
     refine zP hf rfl (pFA fY rfl) fun a hf=>zD θ he hi hf 12 rfl rfl rfl hc
    ·intro E θ a w hD hi hp he hc
     have e8:=hp.o 8 rfl
     have q:=hD.f 3 rfl hi
     have V:=hD.f 4 rfl q
     try dsimp only at hc
     rw [V] at hc
     have hf:=he.h0.mP he 12 rfl e8
     refine zE hf hc rfl (cN aY rfl (iC (sz:=2) (i:=xv.toNat) (j:=0) m1 qr rfl)) fun a w hf hc=>zD θ he hi hf 13 rfl rfl rfl ?_
     try dsimp only
     rw [aV 9 V rfl]
     exact hc
    ·intro E θ a w hD hi hp he hc
     have hf:=he.h0.mT he 0 rfl
     refine zL hf hc lJ m3 rfl fun a w hf hc=>zD θ he hi hf 14 rfl rfl rfl hc
    ·intro E θ a w hD hi hp he hc
     have a2:=hp.o 10 rfl
     have hf:=he.h0.mP he 14 rfl a2
     refine sp 1 hf rfl fun a hf=>zD θ he hi hf 15 rfl rfl rfl hc
    ·intro E θ a w hD hi hp he hc
     have ab:=hp.o 11 rfl
     have hf:=he.h0.mP he 15 rfl ab
     refine zP hf rfl (pFA rH rfl) fun a hf=>zD θ he hi hf 16 rfl rfl rfl hc
    ·intro E θ a w hD hi hp he hc
     have bd:=hp.o 12 rfl
     have hf:=he.h0.mP he 16 rfl bd
     refine zP hf rfl (pFA aA7 rfl) fun a hf=>zD θ he hi hf 17 rfl rfl rfl hc
    ·intro E θ a w hD hi hp he hc
     have b1:=hp.o 13 rfl
     have q:=hD.f 5 rfl hi
     have V:=hD.f 4 rfl q
     try dsimp only at hc
     rw [V] at hc
     have hf:=he.h0.mP he 17 rfl b1
     refine zL hf hc aY m0 rfl fun a w hf hc=>zD θ he hi hf 18 rfl rfl rfl ?_
     try dsimp only
     rw [aV 14 V rfl]
     exact hc
    ·intro E θ a w hD hi hp he hc
     have e9:=hp.o 9 rfl
     have bv:=hp.o 14 rfl
     have hf:=(he.h0.mP he 13 rfl e9).mP he 18 rfl bv
     refine sp 1 hf rfl fun a hf=>zD θ he hi hf 19 rfl rfl rfl hc
    ·intro E θ a w hD hi hp he hc
     have hf:=he.h0.mT he 0 rfl
     refine zL hf hc lJ m3 rfl fun a w hf hc=>zD θ he hi hf 20 rfl rfl rfl hc
    ·intro E θ a w hD hi hp he hc
     have bj:=hp.o 16 rfl
     have hf:=he.h0.mP he 20 rfl bj
     refine sp 1 hf rfl fun a hf=>zD θ he hi hf 21 rfl rfl rfl hc
    ·intro E θ a w hD hi hp he hc
     have bs:=hp.o 17 rfl
     have hf:=he.h0.mP he 21 rfl bs
     refine zP hf rfl (pFA oC rfl) fun a hf=>zD θ he hi hf 22 rfl rfl rfl hc
    ·intro E θ a w hD hi hp he hc
     have bk:=hp.o 18 rfl
     have an:=hD.f 6 rfl hi
     have aa:=hD.f 7 rfl an
     have ac:=hD.f 8 rfl aa
     have m:=hD.f 9 rfl ac
     have V:=hD.f 10 rfl m
     try dsimp only at hc
     rw [V] at hc
     have hf:=he.h0.mP he 22 rfl bk
     refine zL hf hc rC m0 rfl fun a w hf hc=>zD θ he hi hf 23 rfl rfl rfl ?_
     try dsimp only
     rw [aV 19 V rfl]
     exact hc
    ·intro E θ a w hD hi hp he hc
     have hf:=he.h0.mT he 2 rfl
     refine sp 1 hf rfl fun a hf=>zD θ he hi hf 24 rfl rfl rfl hc
    ·intro E θ a w hD hi hp he hc
     have bc:=hp.o 19 rfl
     have br:=hp.o 20 rfl
     have aa:=hD.f 7 rfl hi
     have ac:=hD.f 8 rfl aa
     have m:=hD.f 9 rfl ac
     have V:=hD.f 10 rfl m
     try dsimp only at hc
     rw [V] at hc
     have hf:=(he.h0.mP he 23 rfl bc).mP he 24 rfl br
     refine zP hf rfl (pIA Tryz.underlying79 fN rfl rfl b6) fun a hf=>zD θ he hi hf 25 rfl rfl rfl ?_
     try dsimp only
     rw [aV 21 V rfl]
     exact hc
    ·intro E θ a w hD hi hp he hc
     have an:=hp.o 21 rfl
     have hf:=he.h0.mP he 25 rfl an
     refine zP hf rfl (pFA fD rfl) fun a hf=>zD θ he hi hf 26 rfl rfl rfl hc
    ·intro E θ a w hD hi hp he hc
     have aa:=hp.o 22 rfl
     have m:=hD.f 9 rfl hi
     have V:=hD.f 10 rfl m
     try dsimp only at hc
     rw [V] at hc
     have hf:=he.h0.mP he 26 rfl aa
     refine zE hf hc rfl (cN aY rfl (iC (sz:=2) (i:=xv.toNat) (j:=1) m1 cy rfl)) fun a w hf hc=>zD θ he hi hf 27 rfl rfl rfl ?_
     try dsimp only
     rw [aV 23 V rfl]
     exact hc
    ·intro E θ a w hD hi hp he hc
     have hf:=he.h0.mT he 0 rfl
     refine zL hf hc lJ m3 rfl fun a w hf hc=>zD θ he hi hf 28 rfl rfl rfl hc
    ·intro E θ a w hD hi hp he hc
     have bm:=hp.o 24 rfl
     have hf:=he.h0.mP he 28 rfl bm
     refine sp 1 hf rfl fun a hf=>zD θ he hi hf 29 rfl rfl rfl hc
    ·intro E θ a w hD hi hp he hc
     have bu:=hp.o 25 rfl
     have hf:=he.h0.mP he 29 rfl bu
     refine zP hf rfl (pFA rH rfl) fun a hf=>zD θ he hi hf 30 rfl rfl rfl hc
    ·intro E θ a w hD hi hp he hc
     have bx:=hp.o 26 rfl
     have hf:=he.h0.mP he 30 rfl bx
     refine zP hf rfl (pFA aB4 rfl) fun a hf=>zD θ he hi hf 31 rfl rfl rfl hc
    ·intro E θ a w hD hi hp he hc
     have bi:=hp.o 27 rfl
     have m:=hD.f 11 rfl hi
     have V:=hD.f 10 rfl m
     try dsimp only at hc
     rw [V] at hc
     have hf:=he.h0.mP he 31 rfl bi
     refine zL hf hc aY m0 rfl fun a w hf hc=>zD θ he hi hf 32 rfl rfl rfl ?_
     try dsimp only
     rw [aV 28 V rfl]
     exact hc
    ·intro E θ a w hD hi hp he hc
     have ac:=hp.o 23 rfl
     have b2:=hp.o 28 rfl
     have hf:=(he.h0.mP he 27 rfl ac).mP he 32 rfl b2
     refine sp 1 hf rfl fun a hf=>zD θ he hi hf 33 rfl rfl rfl hc
    ·intro E θ a w hD hi hp he hc
     have e0:=hp.o 0 rfl
     have e1:=hp.o 1 rfl
     have q:=hp.o 15 rfl
     have m:=hp.o 29 rfl
     try dsimp only at hc
     rw [hi] at hc
     have hf:=(((he.h0.mP he 4 rfl e0).mP he 5 rfl e1).mP he 19 rfl q).mP he 33 rfl m
     refine zC hf aJl rfl (sG am (W (bp.Lo - r.Fall)) (W (bt.Hi + r.Rise)) r.Rise r.Fall r.Days X d (((hc.pick k1).pick k1).pick k3) cr) ?_
     rintro _ w ⟨rfl,bq,hc⟩
     refine ⟨_,rfl,fun a hf=>?_⟩
     try rw [← bq] at hf
     try rw [← bq] at hc
     refine aS ?_
     refine dA ?_
     intro ds u ar
     replace hc:=(((hc.pick k0).pick k3).pick k3).pick k3
     refine ⟨θ,he.put0 hi ar hf rfl 34 rfl rfl,?_⟩
     try dsimp only
     rw [aX E 30]
     exact hc
    ·intro E θ a w ad he hc
     have hf:=he.h0
     have V:=ad 30 rfl
     replace hf:=hf.more he 1 rfl (onT)
     replace hf:=hf.more he 0 rfl (onT)
     try dsimp only at hc
     rw [V] at hc
     exact ⟨hf.kp rfl,hc⟩
    rintro a w ⟨hf,hc⟩
    refine c4 _ _ ?_
    obtain ⟨_,cn,hF⟩:=uR hF
    exact ⟨a5,_,(sj hF).symm,⟨cn,rfl⟩,hc⟩
   ·rintro D_1 X _ a w ai ⟨hl,rfl⟩ hf hc
    replace hf:Has ⟨118,jA (D_1::[])⟩ a [(6,pq R),(9,pq Y)]:=hf.kp rfl
    replace hc:Ctx G (.box av [pq I] 150::.box az [.bool ap] 4::.box I [i6 r.Rise,i6 r.Fall,.slice H r.Days.length D,.slice U X.length O] 154::.row U O (X.map aH) 51 2::.box Y [.func (.func 124) #[] #[pq R]] 212::.box R [pq I] 150::(kV (D_1::[])++Lf)) w:=kS (C:=[.box av [pq I] 150,.box az [.bool ap] 4]) (L:=[.box I [i6 r.Rise,i6 r.Fall,.slice H r.Days.length D,.slice U X.length O] 154,.row U O (X.map aH) 51 2,.box Y [.func (.func 124) #[] #[pq R]] 212,.box R [pq I] 150]) hc
    replace hF:(Option.bind (kR N (⟨r,X⟩:nL) true) fun af=>Option.bind (jH N r.Rise r.Fall r.Days af (rY (fun (zz:(List aC)) (ag:(Int × Int))=>kM N r X zz ag.1 ag.2)) (.go X)) fun bn=>rsK bn (fun a6=>Option.bind (gZ N a6) fun a4=>some (.inr (r.Rise,r.Fall,a6,a4,0))) (fun a6=>none))=some au:=by rcases ai with rfl | rfl <;> exact hF
    refine dd _ _ ?_
    refine wp_seq_k fun K16 c3=>zS fun K h=>zL hf hc lJ m5 rfl fun a w hf hc=>?_
    obtain ⟨af,cp,hF⟩:=aA hF
    obtain ⟨G1,a1,ak,hc,aj⟩:=lend hc k3
    refine zC hf aKm rfl (qH (⟨r,X⟩:nL) true (d.mono a1) ak (hc.pick k2) cp) ?_
    rintro _ w ⟨ax,ay,rfl,hc⟩
    refine ⟨_,rfl,fun a hf=>?_⟩
    replace hc:=aj _ _ hc
    refine zT h ?_
    obtain ⟨bn,cc,hF⟩:=aA hF
    replace hc:=(((((hc.drop k5).drop k4).pick k0).pick k3).pick k3).pick k3
    refine aIa (C:=[.box ax [pq I] 150,.box ay [.bool af] 4]) (C2:=[.box ax [pq I] 150,.box ay [.bool af] 4]) (L0:=[.box I [i6 r.Rise,i6 r.Fall,.slice H r.Days.length D,.slice U X.length O] 154,.row U O (X.map aH) 51 2,.box Y [.func (.func 124) #[] #[pq R]] 212,.box R [pq I] 150]) (Lf:=(kV (D_1::[])++Lf)) (encs:=fun x:(Int × Int)=>[i6 x.1,i6 x.2]) (fun (zz:(List aC)) L=>zz.length=X.length∧L=[.box I [i6 r.Rise,i6 r.Fall,.slice H r.Days.length D,.slice U zz.length O] 154,.row U O (zz.map aH) 51 2,.box Y [.func (.func 124) #[] #[pq R]] 212,.box R [pq I] 150]) (fun (zz:(List aC)) (ag:(Int × Int))=>kM N r X zz ag.1 ag.2) X bn hf hc rfl aKo (fun _=>rfl) rfl ⟨rfl,rfl⟩ ?_ ?_ ?_ ?_
    ·intro lq mq J L Lx w hy hQ hJ hc
     have a7:∀ (zz:(List aC)) (M:List Ent),(fun (zz:(List aC)) L=>zz.length=X.length∧L=[.box I [i6 r.Rise,i6 r.Fall,.slice H r.Days.length D,.slice U zz.length O] 154,.row U O (zz.map aH) 51 2,.box Y [.func (.func 124) #[] #[pq R]] 212,.box R [pq I] 150]) zz M→∃ A B,M=A++(.box I [i6 r.Rise,i6 r.Fall,.slice H r.Days.length D,.slice U X.length O] 154::B):=by
      rintro Z _ ⟨a0,rfl⟩
      try rw [show _=_ from a0]
      exact ⟨[],_,rfl⟩
     exact oM r.Rise r.Fall r.Days af d J _ hy _ hJ (hQ _ a7) hc cc
    ·clear hF hf hc
     rintro lq mq Z ⟨t,aq⟩ oq _ Lr Lb a w db ⟨a0,rfl⟩ hF hf hc hK
     replace hf:Has 118 a [(6,pq R),(9,pq Y),(79,i6 t),(80,i6 aq)]:=hf.kp rfl
     replace hc:Ctx G (.box I [i6 r.Rise,i6 r.Fall,.slice H r.Days.length D,.slice U Z.length O] 154::.row U O (Z.map aH) 51 2::.box Y [.func (.func 124) #[] #[pq R]] 212::.box R [pq I] 150::Lr) w:=hc
     replace hF:kM N r X Z t aq=some oq:=hF
     unfold kM at hF
     refine qA fun K19 dg=>mU (fun _ _ h=>h) rfl ?_
     refine sp 1 hf rfl fun a hf=>aS ?_
     refine dg _ _ ?_
     refine mU (fun _ _ h=>h) rfl ?_
     refine sp 1 hf rfl fun a hf=>aS ?_
     refine hK _ _ [.box I [i6 r.Rise,i6 r.Fall,.slice H r.Days.length D,.slice U Z.length O] 154,.row U O (Z.map aH) 51 2,.box Y [.func (.func 124) #[] #[pq R]] 212,.box R [pq I] 150] hc fun w hc=>?_
     replace hc:Ctx G (.box I [i6 r.Rise,i6 r.Fall,.slice H r.Days.length D,.slice U Z.length O] 154::.row U O (Z.map aH) 51 2::.box Y [.func (.func 124) #[] #[pq R]] 212::.box R [pq I] 150::Lb) w:=hc
     refine rK fun K20 c7=>pW ?_
     obtain ⟨bz,ci,hF⟩:=aA hF
     obtain ⟨z,rfl,cx,ck⟩:=jM hc m1 ci
     obtain ⟨bf,b9,hF⟩:=aA hF
     obtain ⟨cs,cv⟩:=iF hc m1 b9
     obtain ⟨a3,cm,hF⟩:=aA hF
     refine tZ (fun _ _ h=>h) rfl (fun θ=>(⟨none,none,6,pq R⟩::⟨none,none,9,pq Y⟩::⟨none,none,12,i6 t⟩::⟨none,none,13,i6 aq⟩::⟨some 0,none,81,.func (.func 124) #[] #[pq R]⟩::⟨some 1,none,82,i6 aq⟩::⟨some 2,none,83,pq I⟩::⟨some 3,none,84,pq I⟩::⟨some 4,none,85,.pointer (some ⟨I,3,none⟩)⟩::⟨some 5,none,86,.slice (some ⟨z,0,none⟩) Z.length O⟩::⟨some 6,none,87,i6 t⟩::⟨some 7,none,88,.pointer (some ⟨z,t.toNat * 2,none⟩)⟩::⟨some 8,none,89,.pointer (some ⟨z,t.toNat * 2 + 0,none⟩)⟩::⟨some 9,none,90,i6 bz.Lo⟩::⟨some 10,none,91,pq I⟩::⟨some 11,none,92,pq I⟩::⟨some 12,none,93,pq I⟩::⟨some 13,none,94,pq I⟩::⟨some 14,none,95,i6 r.Rise⟩::⟨some 15,none,96,i6 (W (bz.Lo - r.Rise))⟩::⟨some 16,none,97,pq I⟩::⟨some 17,none,98,pq I⟩::⟨some 18,none,99,.pointer (some ⟨I,3,none⟩)⟩::⟨some 19,none,100,.slice (some ⟨z,0,none⟩) Z.length O⟩::⟨some 20,none,101,i6 t⟩::⟨some 21,none,102,.pointer (some ⟨z,t.toNat * 2,none⟩)⟩::⟨some 22,none,103,.pointer (some ⟨z,t.toNat * 2 + 1,none⟩)⟩::⟨some 23,none,104,i6 bf.Hi⟩::⟨some 24,none,105,pq I⟩::⟨some 25,none,106,pq I⟩::⟨some 26,none,107,pq I⟩::⟨some 27,none,108,.pointer (some ⟨I,1,none⟩)⟩::⟨some 28,none,109,i6 r.Fall⟩::⟨some 29,none,110,i6 (W (bf.Hi + r.Fall))⟩::⟨some 30,none,111,.tuple #[]⟩::[])) (fun E θ=>(bif E 30 then .box I [i6 r.Rise,i6 r.Fall,.slice H r.Days.length D,.slice (some ⟨z,0,none⟩) a3.length O] 154 else .box I [i6 r.Rise,i6 r.Fall,.slice H r.Days.length D,.slice (some ⟨z,0,none⟩) Z.length O] 154)::(bif E 30 then .row (some ⟨z,0,none⟩) O (a3.map aH) 51 2 else .row (some ⟨z,0,none⟩) O (Z.map aH) 51 2)::.box Y [.func (.func 124) #[] #[pq R]] 212::.box R [pq I] 150::Lb) [(7,5),(8,7),(9,8),(15,9),(30,15),(15,14),(21,19),(22,21),(23,22),(29,23),(30,29),(29,28)] (fun a w=>Has 118 a [(6,pq R),(9,pq Y)]∧Ctx G (.box I [i6 r.Rise,i6 r.Fall,.slice H r.Days.length D,.slice (some ⟨z,0,none⟩) a3.length O] 154::.row (some ⟨z,0,none⟩) O (a3.map aH) 51 2::.box Y [.func (.func 124) #[] #[pq R]] 212::.box R [pq I] 150::Lb) w) aW (by kernel_rfl) (by kernel_rfl) (eV.of hf ⟨rfl,rfl,rfl,rfl,trivial,trivial,trivial,trivial,trivial,trivial,trivial,trivial,trivial,trivial,trivial,trivial,trivial,trivial,trivial,trivial,trivial,trivial,trivial,trivial,trivial,trivial,trivial,trivial,trivial,trivial,trivial,trivial,trivial,trivial,trivial,trivial⟩) hc ⟨?_,?_,?_,?_,?_,?_,?_,?_,?_,?_,?_,?_,?_,?_,?_,?_,?_,?_,?_,?_,?_,?_,?_,?_,?_,?_,?_,?_,?_,?_,?_,trivial⟩ ?_ ?_
     ·intro E θ a w hD hi hp he hc
      have hf:=he.h0.mT he 1 rfl
      refine zL hf hc aKg m2 rfl fun a w hf hc=>zD θ he hi hf 4 rfl rfl rfl hc
     ·intro E θ a w hD hi hp he hc
      have hf:=he.h0.mT he 3 rfl
      refine sp 1 hf rfl fun a hf=>zD θ he hi hf 5 rfl rfl rfl hc
     ·intro E θ a w hD hi hp he hc
      have hf:=he.h0.mT he 0 rfl
      refine zL hf hc lJ m3 rfl fun a w hf hc=>zD θ he hi hf 6 rfl rfl rfl hc
     ·intro E θ a w hD hi hp he hc
      have e2:=hp.o 2 rfl
      have hf:=he.h0.mP he 6 rfl e2
      refine sp 1 hf rfl fun a hf=>zD θ he hi hf 7 rfl rfl rfl hc
     ·intro E θ a w hD hi hp he hc
      have e3:=hp.o 3 rfl
      have hf:=he.h0.mP he 7 rfl e3
      refine zP hf rfl (pFA oC rfl) fun a hf=>zD θ he hi hf 8 rfl rfl rfl hc
     ·intro E θ a w hD hi hp he hc
      have e4:=hp.o 4 rfl
      have e7:=hD.f 0 rfl hi
      have e8:=hD.f 1 rfl e7
      have e9:=hD.f 2 rfl e8
      have q:=hD.f 3 rfl e9
      have V:=hD.f 4 rfl q
      try dsimp only at hc
      rw [V] at hc
      have hf:=he.h0.mP he 8 rfl e4
      refine zL hf hc rC m0 rfl fun a w hf hc=>zD θ he hi hf 9 rfl rfl rfl ?_
      try dsimp only
      rw [aV 5 V rfl]
      exact hc
     ·intro E θ a w hD hi hp he hc
      have hf:=he.h0.mT he 2 rfl
      refine sp 1 hf rfl fun a hf=>zD θ he hi hf 10 rfl rfl rfl hc
     ·intro E θ a w hD hi hp he hc
      have e5:=hp.o 5 rfl
      have e6:=hp.o 6 rfl
      have e8:=hD.f 1 rfl hi
      have e9:=hD.f 2 rfl e8
      have q:=hD.f 3 rfl e9
      have V:=hD.f 4 rfl q
      try dsimp only at hc
      rw [V] at hc
      have hf:=(he.h0.mP he 9 rfl e5).mP he 10 rfl e6
      refine zP hf rfl (pIA Tryz.underlying79 fN rfl rfl cx) fun a hf=>zD θ he hi hf 11 rfl rfl rfl ?_
      try dsimp only
      rw [aV 7 V rfl]
      exact hc
     ·intro E θ a w hD hi hp he hc
      have e7:=hp.o 7 rfl
      have hf:=he.h0.mP he 11 rfl e7
      refine zP hf rfl (pFA fY rfl) fun a hf=>zD θ he hi hf 12 rfl rfl rfl hc
     ·intro E θ a w hD hi hp he hc
      have e8:=hp.o 8 rfl
      have q:=hD.f 3 rfl hi
      have V:=hD.f 4 rfl q
      try dsimp only at hc
      rw [V] at hc
      have hf:=he.h0.mP he 12 rfl e8
      refine zE hf hc rfl (cN aY rfl (iC (sz:=2) (i:=t.toNat) (j:=0) m1 ck rfl)) fun a w hf hc=>zD θ he hi hf 13 rfl rfl rfl ?_
      try dsimp only
      rw [aV 9 V rfl]
      exact hc
     ·intro E θ a w hD hi hp he hc
      have hf:=he.h0.mT he 0 rfl
      refine zL hf hc lJ m3 rfl fun a w hf hc=>zD θ he hi hf 14 rfl rfl rfl hc
     ·intro E θ a w hD hi hp he hc
      have a2:=hp.o 10 rfl
      have hf:=he.h0.mP he 14 rfl a2
      refine sp 1 hf rfl fun a hf=>zD θ he hi hf 15 rfl rfl rfl hc
     ·intro E θ a w hD hi hp he hc
      have ab:=hp.o 11 rfl
      have hf:=he.h0.mP he 15 rfl ab
      refine zP hf rfl (pFA rH rfl) fun a hf=>zD θ he hi hf 16 rfl rfl rfl hc
     ·intro E θ a w hD hi hp he hc
      have bd:=hp.o 12 rfl
      have hf:=he.h0.mP he 16 rfl bd
      refine zP hf rfl (pFA aB4 rfl) fun a hf=>zD θ he hi hf 17 rfl rfl rfl hc
     ·intro E θ a w hD hi hp he hc
      have b1:=hp.o 13 rfl
      have q:=hD.f 5 rfl hi
      have V:=hD.f 4 rfl q
      try dsimp only at hc
      rw [V] at hc
      have hf:=he.h0.mP he 17 rfl b1
      refine zL hf hc aY m0 rfl fun a w hf hc=>zD θ he hi hf 18 rfl rfl rfl ?_
      try dsimp only
      rw [aV 14 V rfl]
      exact hc
     ·intro E θ a w hD hi hp he hc
      have e9:=hp.o 9 rfl
      have bv:=hp.o 14 rfl
      have hf:=(he.h0.mP he 13 rfl e9).mP he 18 rfl bv
      refine sp 1 hf rfl fun a hf=>zD θ he hi hf 19 rfl rfl rfl hc
     ·intro E θ a w hD hi hp he hc
      have hf:=he.h0.mT he 0 rfl
      refine zL hf hc lJ m3 rfl fun a w hf hc=>zD θ he hi hf 20 rfl rfl rfl hc
     ·intro E θ a w hD hi hp he hc
      have bj:=hp.o 16 rfl
      have hf:=he.h0.mP he 20 rfl bj
      refine sp 1 hf rfl fun a hf=>zD θ he hi hf 21 rfl rfl rfl hc
     ·intro E θ a w hD hi hp he hc
      have bs:=hp.o 17 rfl
      have hf:=he.h0.mP he 21 rfl bs
      refine zP hf rfl (pFA oC rfl) fun a hf=>zD θ he hi hf 22 rfl rfl rfl hc
     ·intro E θ a w hD hi hp he hc
      have bk:=hp.o 18 rfl
      have an:=hD.f 6 rfl hi
      have aa:=hD.f 7 rfl an
      have ac:=hD.f 8 rfl aa
      have m:=hD.f 9 rfl ac
      have V:=hD.f 10 rfl m
      try dsimp only at hc
      rw [V] at hc
      have hf:=he.h0.mP he 22 rfl bk
      refine zL hf hc rC m0 rfl fun a w hf hc=>zD θ he hi hf 23 rfl rfl rfl ?_
      try dsimp only
      rw [aV 19 V rfl]
      exact hc
     ·intro E θ a w hD hi hp he hc
      have hf:=he.h0.mT he 2 rfl
      refine sp 1 hf rfl fun a hf=>zD θ he hi hf 24 rfl rfl rfl hc
     ·intro E θ a w hD hi hp he hc
      have bc:=hp.o 19 rfl
      have br:=hp.o 20 rfl
      have aa:=hD.f 7 rfl hi
      have ac:=hD.f 8 rfl aa
      have m:=hD.f 9 rfl ac
      have V:=hD.f 10 rfl m
      try dsimp only at hc
      rw [V] at hc
      have hf:=(he.h0.mP he 23 rfl bc).mP he 24 rfl br
      refine zP hf rfl (pIA Tryz.underlying79 fN rfl rfl cs) fun a hf=>zD θ he hi hf 25 rfl rfl rfl ?_
      try dsimp only
      rw [aV 21 V rfl]
      exact hc
     ·intro E θ a w hD hi hp he hc
      have an:=hp.o 21 rfl
      have hf:=he.h0.mP he 25 rfl an
      refine zP hf rfl (pFA fD rfl) fun a hf=>zD θ he hi hf 26 rfl rfl rfl hc
     ·intro E θ a w hD hi hp he hc
      have aa:=hp.o 22 rfl
      have m:=hD.f 9 rfl hi
      have V:=hD.f 10 rfl m
      try dsimp only at hc
      rw [V] at hc
      have hf:=he.h0.mP he 26 rfl aa
      refine zE hf hc rfl (cN aY rfl (iC (sz:=2) (i:=t.toNat) (j:=1) m1 cv rfl)) fun a w hf hc=>zD θ he hi hf 27 rfl rfl rfl ?_
      try dsimp only
      rw [aV 23 V rfl]
      exact hc
     ·intro E θ a w hD hi hp he hc
      have hf:=he.h0.mT he 0 rfl
      refine zL hf hc lJ m3 rfl fun a w hf hc=>zD θ he hi hf 28 rfl rfl rfl hc
     ·intro E θ a w hD hi hp he hc
      have bm:=hp.o 24 rfl
      have hf:=he.h0.mP he 28 rfl bm
      refine sp 1 hf rfl fun a hf=>zD θ he hi hf 29 rfl rfl rfl hc
     ·intro E θ a w hD hi hp he hc
      have bu:=hp.o 25 rfl
      have hf:=he.h0.mP he 29 rfl bu
      refine zP hf rfl (pFA rH rfl) fun a hf=>zD θ he hi hf 30 rfl rfl rfl hc
     ·intro E θ a w hD hi hp he hc
      have bx:=hp.o 26 rfl
      have hf:=he.h0.mP he 30 rfl bx
      refine zP hf rfl (pFA aA7 rfl) fun a hf=>zD θ he hi hf 31 rfl rfl rfl hc
     ·intro E θ a w hD hi hp he hc
      have bi:=hp.o 27 rfl
      have m:=hD.f 11 rfl hi
      have V:=hD.f 10 rfl m
      try dsimp only at hc
      rw [V] at hc
      have hf:=he.h0.mP he 31 rfl bi
      refine zL hf hc aY m0 rfl fun a w hf hc=>zD θ he hi hf 32 rfl rfl rfl ?_
      try dsimp only
      rw [aV 28 V rfl]
      exact hc
     ·intro E θ a w hD hi hp he hc
      have ac:=hp.o 23 rfl
      have b2:=hp.o 28 rfl
      have hf:=(he.h0.mP he 27 rfl ac).mP he 32 rfl b2
      refine sp 1 hf rfl fun a hf=>zD θ he hi hf 33 rfl rfl rfl hc
     ·intro E θ a w hD hi hp he hc
      have e0:=hp.o 0 rfl
      have e1:=hp.o 1 rfl
      have q:=hp.o 15 rfl
      have m:=hp.o 29 rfl
      try dsimp only at hc
      rw [hi] at hc
      have hf:=(((he.h0.mP he 4 rfl e0).mP he 5 rfl e1).mP he 19 rfl q).mP he 33 rfl m
      refine zC hf aJl rfl (sG aq (W (bz.Lo - r.Rise)) (W (bf.Hi + r.Fall)) r.Rise r.Fall r.Days Z d (((hc.pick k1).pick k1).pick k3) cm) ?_
      rintro _ w ⟨rfl,b0,hc⟩
      refine ⟨_,rfl,fun a hf=>?_⟩
      try rw [← b0] at hf
      try rw [← b0] at hc
      refine aS ?_
      refine dA ?_
      intro ds u ar
      replace hc:=(((hc.pick k0).pick k3).pick k3).pick k3
      refine ⟨θ,he.put0 hi ar hf rfl 34 rfl rfl,?_⟩
      try dsimp only
      rw [aX E 30]
      exact hc
     ·intro E θ a w ad he hc
      have hf:=he.h0
      have V:=ad 30 rfl
      replace hf:=hf.more he 1 rfl (onT)
      replace hf:=hf.more he 0 rfl (onT)
      try dsimp only at hc
      rw [V] at hc
      exact ⟨hf.kp rfl,hc⟩
     rintro a w ⟨hf,hc⟩
     refine c7 _ _ ?_
     obtain ⟨_,cj,hF⟩:=uR hF
     exact ⟨a3,_,(sj hF).symm,⟨cj,rfl⟩,hc⟩
    ·rintro D_2 Z _ a w ai ⟨a0,rfl⟩ hf hc
     replace hf:Has ⟨118,jA (D_2::(D_1::[]))⟩ a [(6,pq R),(9,pq Y)]:=hf.kp rfl
     replace hc:Ctx G (.box ax [pq I] 150::.box ay [.bool af] 4::.box I [i6 r.Rise,i6 r.Fall,.slice H r.Days.length D,.slice U Z.length O] 154::.row U O (Z.map aH) 51 2::.box Y [.func (.func 124) #[] #[pq R]] 212::.box R [pq I] 150::(kV (D_2::(D_1::[]))++Lf)) w:=kS (C:=[.box ax [pq I] 150,.box ay [.bool af] 4]) (L:=[.box I [i6 r.Rise,i6 r.Fall,.slice H r.Days.length D,.slice U Z.length O] 154,.row U O (Z.map aH) 51 2,.box Y [.func (.func 124) #[] #[pq R]] 212,.box R [pq I] 150]) hc
     replace hF:(Option.bind (gZ N Z) fun a4=>some (.inr (r.Rise,r.Fall,Z,a4,0)))=some au:=by rcases ai with rfl | rfl <;> exact hF
     refine c3 _ _ ?_
     refine wp_seq_k fun K21 c8=>?_
     obtain ⟨a4,b8,hF⟩:=aA hF
     refine cQ hc aW (by kernel_rfl) ?_
     refine qE hf rfl rfl rfl (cN lJ rfl (bO m5 rfl)) fun a hf=>qE hf rfl rfl rfl (cN lJ rfl (bO m5 rfl)) fun a hf=>qE hf rfl rfl rfl (Pu.ev (pNC rfl)) fun a hf=>qE hf rfl rfl rfl (Pu.ev (pFA oC rfl)) fun a hf=>qE hf rfl rfl rfl (cN rC rfl (bO m2 rfl)) fun a hf=>qE hf rfl rfl rfl (eC (v:=.bool a4) (vs:=[.slice U Z.length O,.func (.func 127) #[] #[]]) (caps:=[]) aPd rfl rfl rfl rfl (fun w hc=>by obtain ⟨G1,a1,ak,hc,aj⟩:=lend hc k3; exact (sX Z ak hc b8).mono fun e w h=>⟨h.1,((aj _ _ h.2).unpick k3)⟩)) fun a hf=>qE hf rfl rfl rfl (Pu.ev (pA rfl)) fun a hf=>qE hf rfl rfl rfl (Pu.ev (pA rfl)) fun a hf=>qE hf rfl rfl rfl (Pu.ev (pA rfl)) fun a hf=>?_
     intro w hc
     refine c8 _ _ ?_
     refine wp_ret ?_
     obtain rfl:=sj hF
     replace hc:=(((((hc.drop k5).drop k4).drop k1).drop k0).pick k0).pick k1
     refine wV hf ?_
     refine uC [.row U O (Z.map aH) 51 2,.box I [i6 r.Rise,i6 r.Fall,.slice H r.Days.length D,.slice U Z.length O] 154] (D_2::(D_1::[])) hc fun w hc=>?_
     replace hc:Ctx G (.row U O (Z.map aH) 51 2::.box I [i6 r.Rise,i6 r.Fall,.slice H r.Days.length D,.slice U Z.length O] 154::Lf) w:=hc
     exact aFn Tryz.results100 hf hc (show eZ _ 2=_ from rfl) (show eZ _ 3=_ from rfl) (show eZ _ 4=_ from rfl) ⟨I,U,O,rfl,hc⟩
    ·rintro D_2 Z _ a w ai ⟨a0,rfl⟩ hf hc
     replace hf:Has ⟨118,jA (D_2::(D_1::[]))⟩ a [(6,pq R),(9,pq Y)]:=hf.kp rfl
     replace hc:Ctx G (.box ax [pq I] 150::.box ay [.bool af] 4::.box I [i6 r.Rise,i6 r.Fall,.slice H r.Days.length D,.slice U Z.length O] 154::.row U O (Z.map aH) 51 2::.box Y [.func (.func 124) #[] #[pq R]] 212::.box R [pq I] 150::(kV (D_2::(D_1::[]))++Lf)) w:=kS (C:=[.box ax [pq I] 150,.box ay [.bool af] 4]) (L:=[.box I [i6 r.Rise,i6 r.Fall,.slice H r.Days.length D,.slice U Z.length O] 154,.row U O (Z.map aH) 51 2,.box Y [.func (.func 124) #[] #[pq R]] 212,.box R [pq I] 150]) hc
     replace hF:(none)=some au:=by subst ai; exact hF
     cases hF
   ·rintro D_1 X _ a w ai ⟨hl,rfl⟩ hf hc
    replace hf:Has ⟨118,jA (D_1::[])⟩ a [(6,pq R),(9,pq Y)]:=hf.kp rfl
    replace hc:Ctx G (.box av [pq I] 150::.box az [.bool ap] 4::.box I [i6 r.Rise,i6 r.Fall,.slice H r.Days.length D,.slice U X.length O] 154::.row U O (X.map aH) 51 2::.box Y [.func (.func 124) #[] #[pq R]] 212::.box R [pq I] 150::(kV (D_1::[])++Lf)) w:=kS (C:=[.box av [pq I] 150,.box az [.bool ap] 4]) (L:=[.box I [i6 r.Rise,i6 r.Fall,.slice H r.Days.length D,.slice U X.length O] 154,.row U O (X.map aH) 51 2,.box Y [.func (.func 124) #[] #[pq R]] 212,.box R [pq I] 150]) hc
    replace hF:(none)=some au:=by subst ai; exact hF
    cases hF
  have dn:∀ r,x9=.out r→r=au:=by
   rintro r rfl
   exact sj hF
  replace hc:=hc.nilRow 51 2
  replace hc:=hc.drop k3
  refine eR N (eO (S:=S9) (x:=x9) ?_ N (0,([]:List aC)) _ _ ⟨none,0,hf.kp rfl,hc⟩ c1)
  clear hF hf hc
  rintro ⟨x,k⟩ dj a w KB9 ⟨U,O,hf,hc⟩ hF ba dc
  unfold uH at hF
  refine zS fun K h=>sp 1 hf rfl fun a hf=>zT h ?_
  refine wp_seq_k fun K23 di=>zI hf rfl hF ?_ ?_ <;> clear hF <;> intro hF
  ·refine wp_skip ?_
   refine di _ _ ?_
   refine wp_seq_k fun K24 c2=>wp_block ?_
   refine zS fun K h=>?_
   obtain ⟨y,cu,hF⟩:=aA hF
   obtain ⟨dm,o,cf,qp⟩:=d.atm cu
   refine zP hf rfl (pIA Tryz.underlying106 aDu rfl rfl cf) fun a hf=>zE hf hc rfl (jE (vs:=[.bool y.Known,i6 y.Flow.Lo,i6 y.Flow.Hi]) aB2 rfl rfl (dS qp (n:=3) (o':=0) rfl)) fun a w hf hc=>zA hf hc aJ4 rfl fun a8 a w hf hc=>zW hf hc aDu u0 rfl fun w hc=>zT h ?_
   obtain ⟨s,ca,hF⟩:=aA hF
   obtain ⟨un,df,hF⟩:=aA hF
   replace hc:=hc.nilRow 0 0
   refine iE (fun θ=>[⟨none,none,6,pq R⟩,⟨none,none,8,pq a8⟩,⟨none,none,23,.slice H r.Days.length D⟩,⟨none,none,24,i6 ((r.Days.length:Nat):Int)⟩,⟨none,none,25,i6 x⟩,⟨some 0,none,29,pq I⟩,⟨some 1,none,30,pq I⟩,⟨some 2,none,31,pq I⟩,⟨some 3,none,32,.pointer (some ⟨I,3,none⟩)⟩,⟨some 4,none,33,.slice U k.length O⟩,⟨some 5,none,34,.agg #[.bool y.Known,i6 y.Flow.Lo,i6 y.Flow.Hi]⟩,⟨some 6,none,35,.agg #[i6 s.Lo,i6 s.Hi]⟩,⟨some 7,none,36,.slice (some ⟨(θ 56).b,0,none⟩) 1 1⟩,⟨some 8,none,37,.slice ((θ 64).p) ((k++[s]).length) ((θ 64).c)⟩,⟨some 9,none,38,pq I⟩,⟨some 10,none,39,.pointer (some ⟨I,3,none⟩)⟩]) (fun E θ=>(bif E 7 then .row (some ⟨(θ 56).b,0,none⟩) 1 (([s]:List aC).map aH) 51 2 else .row none 0 [] 0 0)::.box a8 [.bool y.Known,i6 y.Flow.Lo,i6 y.Flow.Hi] 162::(bif E 8 then .row ((θ 64).p) ((θ 64).c) ((k++[s]).map aH) 51 2 else .row U O (k.map aH) 51 2)::.box R [pq I] 150::(bif E 11 then .box I [i6 r.Rise,i6 r.Fall,.slice H r.Days.length D,.slice ((θ 64).p) ((k++[s]).length) ((θ 64).c)] 154 else .box I [i6 r.Rise,i6 r.Fall,.slice H r.Days.length D,.slice U k.length O] 154)::Lf) [(11,4),(11,8)] (fun a w=>∃ (bg:Nat) (bb:Option Addr) (a9:Nat),Has 118 a [(6,pq R),(23,.slice H r.Days.length D),(24,i6 ((r.Days.length:Nat):Int)),(25,i6 x)]∧Ctx G (.row (some ⟨bg,0,none⟩) 1 (([s]:List aC).map aH) 51 2::.box a8 [.bool y.Known,i6 y.Flow.Lo,i6 y.Flow.Hi] 162::.row bb a9 ((k++[s]).map aH) 51 2::.box R [pq I] 150::.box I [i6 r.Rise,i6 r.Fall,.slice H r.Days.length D,.slice bb ((k++[s]).length) a9] 154::Lf) w) aW (by kernel_rfl) (by kernel_rfl) (eV.of hf ⟨rfl,rfl,rfl,rfl,rfl,trivial,trivial,trivial,trivial,trivial,trivial,trivial,trivial,trivial,trivial,trivial,trivial⟩) hc ⟨?_,?_,?_,?_,?_,?_,?_,?_,?_,?_,?_,?_,trivial⟩ ?_ ?_
   ·intro E θ a w hD hi hp he hc
    have hf:=he.h0.mT he 0 rfl
    refine zL hf hc lJ m3 rfl fun a w hf hc=>zD θ he hi hf 5 rfl rfl rfl hc
   ·intro E θ a w hD hi hp he hc
    have hf:=he.h0.mT he 0 rfl
    refine zL hf hc lJ m3 rfl fun a w hf hc=>zD θ he hi hf 6 rfl rfl rfl hc
   ·intro E θ a w hD hi hp he hc
    have e1:=hp.o 1 rfl
    have hf:=he.h0.mP he 6 rfl e1
    refine sp 1 hf rfl fun a hf=>zD θ he hi hf 7 rfl rfl rfl hc
   ·intro E θ a w hD hi hp he hc
    have e2:=hp.o 2 rfl
    have hf:=he.h0.mP he 7 rfl e2
    refine zP hf rfl (pFA oC rfl) fun a hf=>zD θ he hi hf 8 rfl rfl rfl hc
   ·intro E θ a w hD hi hp he hc
    have e3:=hp.o 3 rfl
    have ab:=hD.f 0 rfl hi
    try dsimp only at hc
    rw [ab] at hc
    have hf:=he.h0.mP he 8 rfl e3
    refine zL hf hc rC m4 rfl fun a w hf hc=>zD θ he hi hf 9 rfl rfl rfl ?_
    try dsimp only
    rw [aV 4 ab rfl]
    exact hc
   ·intro E θ a w hD hi hp he hc
    have hf:=he.h0.mT he 1 rfl
    refine zN hf hc aB2 m1 rfl fun a w hf hc=>zD θ he hi hf 10 rfl rfl rfl hc
   ·intro E θ a w hD hi hp he hc
    have e5:=hp.o 5 rfl
    have hf:=he.h0.mP he 10 rfl e5
    refine zQ (v:=.agg #[i6 s.Lo,i6 s.Hi]) hf hc aPc rfl (fun w hc=>wB y hc ca) fun a w hf hc=>zD θ he hi hf 11 rfl rfl rfl hc
   ·intro E θ a w hD hi hp he hc
    have e6:=hp.o 6 rfl
    try dsimp only at hc
    rw [hi] at hc
    have hf:=he.h0.mP he 11 rfl e6
    refine pJ (rows:=([s]:List aC).map aH) (vs:=[(0,.agg #[i6 s.Lo,i6 s.Hi])]) hf hc rfl rfl aC8 rfl ⟨rfl,rfl,rfl,trivial⟩ rfl rfl fun cg a w hf hc=>aS ?_
    refine dA ?_
    intro ds u ar
    replace hc:=hc.drop k1
    refine ⟨(sK θ 56 ⟨cg,none,0,(fun _=>(none,0))⟩),he.put hi ar hf rfl [] trivial ⟨qq,qq,qq,qq,qq,qq,qq,qq,qq,qq,qq,qq,qq,qq,qq,qq,trivial⟩,?_⟩
    try dsimp only
    rw [aX E 7]
    exact hc
   ·intro E θ a w hD hi hp he hc
    have e4:=hp.o 4 rfl
    have e7:=hp.o 7 rfl
    have ab:=hD.f 1 rfl hi
    try dsimp only at hc
    rw [e7,hi,ab] at hc
    have hf:=(he.h0.mP he 9 rfl e4).mP he 12 rfl e7
    refine qI (xs:=k) (ys:=([s]:List aC)) hf hc rfl rfl aC8 rfl rfl rfl rfl rfl gU (mJ hc m0) (fun _ _=>u2) (by simpa using gJ df) fun cz c9 a w hf hc=>aS ?_
    refine dA ?_
    intro ds u ar
    refine ⟨(sK θ 64 ⟨0,cz,c9,(fun _=>(none,0))⟩),he.put hi ar hf rfl [] trivial ⟨qq,qq,qq,qq,qq,qq,qq,qq,qq,qq,qq,qq,qq,qq,qq,qq,trivial⟩,?_⟩
    try dsimp only
    rw [eL 8 e7,aX E 8,aV 8 ab rfl]
    exact hc
   ·intro E θ a w hD hi hp he hc
    have e0:=hp.o 0 rfl
    have hf:=he.h0.mP he 5 rfl e0
    refine sp 1 hf rfl fun a hf=>zD θ he hi hf 14 rfl rfl rfl hc
   ·intro E θ a w hD hi hp he hc
    have e9:=hp.o 9 rfl
    have hf:=he.h0.mP he 14 rfl e9
    refine zP hf rfl (pFA oC rfl) fun a hf=>zD θ he hi hf 15 rfl rfl rfl hc
   ·intro E θ a w hD hi hp he hc
    have e8:=hp.o 8 rfl
    have a2:=hp.o 10 rfl
    try dsimp only at hc
    rw [hi] at hc
    have hf:=(he.h0.mP he 13 rfl e8).mP he 15 rfl a2
    refine zW hf hc aMy u4 rfl fun w hc=>zG θ he hi hf rfl ?_
    try dsimp only
    rw [aX E 11]
    exact hc
   ·intro E θ a w ad he hc
    have hf:=he.h0
    have e7:=ad 7 rfl
    have e8:=ad 8 rfl
    have ab:=ad 11 rfl
    replace hf:=hf.more he 4 rfl (onT)
    replace hf:=hf.more he 3 rfl (onT)
    replace hf:=hf.more he 2 rfl (onT)
    replace hf:=hf.more he 0 rfl (onT)
    try dsimp only at hc
    rw [e7,e8,ab] at hc
    exact ⟨(θ 56).b,(θ 64).p,(θ 64).c,hf.kp rfl,hc⟩
   rintro a w ⟨bg,bb,a9,hf,hc⟩
   refine c2 _ _ ?_
   refine eB ?_
   refine sp 2 hf rfl fun a hf=>aS ?_
   replace hc:=(hc.drop k1).drop k0
   exact dc (W (x + 1),(k++[s])) _ _ (sj hF).symm ⟨bb,a9,hf.kp rfl,hc⟩
  ·refine wp_exit ?_
   refine bI ?_
   refine bI ?_
   have he:=sj hF
   rw [← he] at ba
   refine fZ ?_
   exact c0 _ _ _ ba ⟨U,O,hf.kp rfl,hc⟩

def mZ (N:Nat) (B:Int):Option ((Int) ⊕ (Int × Int × (List aC) × Int)) :=
 some (.inl B)
def nB (N:Nat) (B:Int × Int × (List aC) × Bool × Int) (D:Int):Option ((Int) ⊕ (Int × Int × (List aC) × Int)) :=
 some (.inr (B.1,B.2.1,B.2.2.1,D))
def tU (N:Nat) (r:dZ):Option ((Int) ⊕ (Int × Int × (List aC) × Int)) :=
 Option.bind (tR N r) (vF (fun D=>cond ((D.2 == 0) && (!D.1))
 (mZ N 7)
 (mZ N D.2))
 (fun B=>cond ((B.2.2.2.2 == 0) && (!B.2.2.2.1))
 (nB N B 7)
 (nB N B B.2.2.2.2)))
theorem uE {N:Nat} {G:aU} {Lf:List Ent} {w:World} (r:dZ) {H:Option Addr} {D:Nat} (J:Rd G 3 H D (r.Days.map cO)) (hc:Ctx G (Lf) w) {O:(Int) ⊕ (Int × Int × (List aC) × Int)} (hF:tU N r=some O):Calls Tryz.prog 68 #[.agg #[i6 r.Rise,i6 r.Fall,.slice H r.Days.length D]] w (fun e w=>vF (fun rr=>e=.returned (.tuple #[.pointer none,i6 rr])∧Ctx G (Lf) w) (fun rr=>∃ (g:Nat) (b:Option Addr) (Z:Nat),e=.returned (.tuple #[pq g,i6 rr.2.2.2])∧Ctx G (.row b Z (rr.2.2.1.map aH) 51 2::.box g [i6 rr.1,i6 rr.2.1,.slice H r.Days.length D,.slice b rr.2.2.1.length Z] 154::Lf) w) O):=by
 unfold tU at hF
 refine bU Tryz.func68 rfl Tryz.ntmps68 rfl fun a hf=>zS fun K h=>zB hf hc rfl fun j a w hf hc=>sp 2 hf rfl fun a hf=>zT h ?_
 refine zS fun K h=>zN hf hc zK m0 rfl fun a w hf hc=>?_
 obtain ⟨I,U,hF⟩:=aA hF
 cases I with
 | inl I=>
  replace hF:=wF hF
  refine zC hf aJs rfl (uG r J hc U) ?_
  rintro _ w ⟨rfl,hc⟩
  refine ⟨_,rfl,fun a hf=>?_⟩
  refine sp 7 hf rfl fun a hf=>zT h ?_
  refine wp_seq_k fun K3 h3=>?_
  have d:∀ (S:Int) a w,Has 21 a [(4,.pointer none),(6,i6 S)]→Ctx G (Lf) w→mZ N S=some O→K3 a w:=by
   repeat (clear hF)
   repeat (clear hc)
   repeat (clear hf)
   intro S a w hf hc hF
   unfold mZ at hF
   refine h3 _ _ ?_
   refine zS fun K h=>sp 4 hf rfl fun a hf=>zT h ?_
   refine wp_ret ?_
   obtain rfl:=sj hF
   exact zO2 Tryz.results68 hf rfl rfl ⟨rfl,hc⟩
  refine zS fun K h=>sp 3 hf rfl fun a hf=>gQ 3 (fun a=>Has 21 a [(4,.pointer none),(5,.bool I.1),(6,i6 I.2),(13,i6 I.2),(14,.bool (I.2 == 0)),(15,.bool (I.2 == 0)),(18,.bool ((I.2 == 0) && (!I.1)))]) hc ?_ ?_
  ·cases hb:(I.2 == 0)
   ·rw [hb] at hf
    refine stS hf rfl rfl rfl fun a hf=>stS hf rfl rfl rfl fun a hf=>sp 1 hf rfl fun a hf=>aS ⟨hf.kp rfl,hc⟩
   ·rw [hb] at hf
    refine sp 3 hf rfl fun a hf=>aS ⟨hf.kp rfl,hc⟩
  intro a w ⟨hf,hc⟩
  refine zT h ?_
  refine zI hf rfl hF ?_ ?_ <;> clear hF <;> intro hF
  ·refine eB ?_
   refine sp 1 hf rfl fun a hf=>aS ?_
   replace hc:=hc.drop k0
   exact d 7 _ _  (hf.kp rfl) hc hF
  ·refine wp_skip ?_
   replace hc:=hc.drop k0
   exact d I.2 _ _  (hf.kp rfl) hc hF
 | inr B=>
  replace hF:=wI hF
  have i:=U
  refine zC hf aJs rfl (uG r J hc i) ?_
  rintro _ w ⟨M,R,X,rfl,hc⟩
  refine ⟨_,rfl,fun a hf=>?_⟩
  refine sp 7 hf rfl fun a hf=>zT h ?_
  refine wp_seq_k fun K6 h6=>?_
  have Y:∀ (V:Int) a w,Has 21 a [(4,pq M),(6,i6 V)]→Ctx G (.row R X (B.2.2.1.map aH) 51 2::.box M [i6 B.1,i6 B.2.1,.slice H r.Days.length D,.slice R B.2.2.1.length X] 154::Lf) w→nB N B V=some O→K6 a w:=by
   repeat (clear hF)
   repeat (clear hc)
   repeat (clear hf)
   intro V a w hf hc hF
   unfold nB at hF
   refine h6 _ _ ?_
   refine zS fun K h=>sp 4 hf rfl fun a hf=>zT h ?_
   refine wp_ret ?_
   obtain rfl:=sj hF
   exact zO2 Tryz.results68 hf rfl rfl ⟨M,R,X,rfl,hc⟩
  refine zS fun K h=>sp 3 hf rfl fun a hf=>gQ 3 (fun a=>Has 21 a [(4,pq M),(5,.bool B.2.2.2.1),(6,i6 B.2.2.2.2),(13,i6 B.2.2.2.2),(14,.bool (B.2.2.2.2 == 0)),(15,.bool (B.2.2.2.2 == 0)),(18,.bool ((B.2.2.2.2 == 0) && (!B.2.2.2.1)))]) hc ?_ ?_
  ·cases hb:(B.2.2.2.2 == 0)
   ·rw [hb] at hf
    refine stS hf rfl rfl rfl fun a hf=>stS hf rfl rfl rfl fun a hf=>sp 1 hf rfl fun a hf=>aS ⟨hf.kp rfl,hc⟩
   ·rw [hb] at hf
    refine sp 3 hf rfl fun a hf=>aS ⟨hf.kp rfl,hc⟩
  intro a w ⟨hf,hc⟩
  refine zT h ?_
  refine zI hf rfl hF ?_ ?_ <;> clear hF <;> intro hF
  ·refine eB ?_
   refine sp 1 hf rfl fun a hf=>aS ?_
   replace hc:=hc.drop k2
   exact Y 7 _ _  (hf.kp rfl) hc hF
  ·refine wp_skip ?_
   replace hc:=hc.drop k2
   exact Y B.2.2.2.2 _ _  (hf.kp rfl) hc hF

def aBi  : Unit :=
 ()
theorem aCp {G:aU} {Lf:List Ent} {w:World}    (hc:Ctx G (Lf) w) {B:Unit} (hF:aBi=B):Calls Tryz.prog 69 #[] w (fun e w=>e=.returned (.agg #[.func (.func 101) #[] #[],.func (.func 102) #[] #[]])∧Ctx G (Lf) w):=by
 unfold aBi at hF
 refine bU Tryz.func69 rfl Tryz.ntmps69 rfl fun a hf=>zS fun K h=>zA hf hc aKn rfl fun D a w hf hc=>zT h ?_
 refine zS fun K h=>zP hf rfl (bL (cells:=[.func (.func 101) #[] #[]]) aLf rfl rfl) fun a hf=>zP hf rfl (bL (cells:=[.func (.func 102) #[] #[]]) aLf rfl rfl) fun a hf=>zP hf rfl (aKt (cells:=[.func (.func 101) #[] #[],.func (.func 102) #[] #[]]) rfl (by rfl)) fun a hf=>zW hf hc aJ9 u0 rfl fun w hc=>zT h ?_
 refine wp_ret ?_
 obtain rfl:=hF
 exact lC (by simp) rfl Tryz.results69 hf hc (cW (vs:=[.func (.func 101) #[] #[],.func (.func 102) #[] #[]]) aOy rfl rfl (bR (n:=2) m0 rfl)) ⟨rfl,(hc.drop k0)⟩

def iO (s_:aC):Int :=
 s_.Lo
theorem aAl {G:aU} {Lf:List Ent} {w:World} (s_:aC)   (hc:Ctx G (Lf) w) {B:Int} (hF:iO s_=B):Calls Tryz.prog 101 #[.agg #[i6 s_.Lo,i6 s_.Hi]] w (fun e w=>e=.returned (i6 B)∧Ctx G (Lf) w):=by
 unfold iO at hF
 refine bU Tryz.func101 rfl Tryz.ntmps101 rfl fun a hf=>zS fun K h=>zB hf hc rfl fun D a w hf hc=>sp 1 hf rfl fun a hf=>zT h ?_
 refine zS fun K h=>zP hf rfl (pFA fY rfl) fun a hf=>zL hf hc aY m0 rfl fun a w hf hc=>sp 1 hf rfl fun a hf=>zT h ?_
 refine wp_ret ?_
 obtain rfl:=hF
 replace hc:=hc.drop k0
 exact zO1 Tryz.results101 hf rfl ⟨rfl,hc⟩

def wG (N:Nat) (l:List aC) (out:List Int) (x:Int):Option (cP ((List Int) × Int) ((List Int))) :=
 cond (decide (x < ((l.length:Nat):Int)))
 (Option.bind (bQ l x) fun B=>
 Option.bind (rR ((out++[(iO B)])).length) fun un=>
 some (.cont ((out++[(iO B)]),W (x + 1))))
 (some (.brk (out,x)))
def wO (N:Nat) (l:List aC):Option ((List Int)) :=
 Option.bind (bC (fun s5=>wG N l s5.1 s5.2) N (([]:List Int),0)) fun x5=>
 exK x5 (fun s5=>some s5.1) some
theorem aCt {N:Nat} {G:aU} {Lf:List Ent} {w:World} (l:List aC) {O:Option Addr} {M:Nat} (j:Rd G 2 O M (l.map aH)) (hc:Ctx G (Lf) w) {J:(List Int)} (hF:wO N l=some J):Calls Tryz.prog 71 #[.slice O l.length M,.agg #[.func (.func 101) #[] #[]]] w (fun e w=>∃ (V:Option Addr) (U:Nat),e=.returned (.slice V J.length U)∧Ctx G (.row V U (J.map aB) 3 1::Lf) w):=by
 unfold wO at hF
 refine bU Tryz.func71 rfl Tryz.ntmps71 rfl fun a hf=>zS fun K h=>zB hf hc rfl fun R a w hf hc=>sp 1 hf rfl fun a hf=>zT h ?_
 refine zS fun K h=>sp 1 hf rfl fun a hf=>zT h ?_
 refine wp_seq_k fun K3 h3=>zS fun K h=>sp 1 hf rfl fun a hf=>zP hf rfl (cR Tryz.underlying79 rfl) fun a hf=>sp 1 hf rfl fun a hf=>zT h ?_
 refine wp_block ?_
 obtain ⟨x5,b,hF⟩:=aA hF
 let S5:((List Int) × Int)→Act→World→Prop:=(fun (zz:(List Int) × Int) a w=>∃ (D:Option Addr) (H:Nat),Has 23 a [(3,pq R),(5,.slice D zz.1.length H),(8,.slice O l.length M),(9,i6 ((l.length:Nat):Int)),(10,i6 zz.2)]∧Ctx G (.row D H (zz.1.map aB) 3 1::.box R [.func (.func 101) #[] #[]] 156::Lf) w)
 have Z:∀ (zz:(List Int) × Int) a w,x5=.go zz→S5 zz a w→K3 a w:=by
  rintro ⟨out,x⟩ a w rfl ⟨D,H,hf,hc⟩
  replace hF:=cI hF
  refine h3 _ _ ?_
  refine zS fun K h=>sp 2 hf rfl fun a hf=>zT h ?_
  refine wp_ret ?_
  obtain rfl:=sj hF
  replace hc:=hc.drop k1
  exact zO1 Tryz.results71 hf rfl ⟨D,H,rfl,hc⟩
 have p:∀ r,x5=.out r→r=J:=by
  rintro r rfl
  exact sj hF
 replace hc:=hc.nilRow 3 1
 refine eR N (eO (S:=S5) (x:=x5) ?_ N (([]:List Int),0) _ _ ⟨none,0,hf.kp rfl,hc⟩ b)
 clear hF hf hc
 rintro ⟨out,x⟩ q a w KB5 ⟨D,H,hf,hc⟩ hF I Y
 unfold wG at hF
 refine zS fun K h=>sp 1 hf rfl fun a hf=>zT h ?_
 refine wp_seq_k fun K8 h8=>zI hf rfl hF ?_ ?_ <;> clear hF <;> intro hF
 ·refine wp_skip ?_
  refine h8 _ _ ?_
  refine wp_seq_k fun K9 h9=>wp_block ?_
  refine zS fun K h=>?_
  obtain ⟨B,X,hF⟩:=aA hF
  obtain ⟨k,o,qa,qp⟩:=j.atm X
  refine zP hf rfl (pIA Tryz.underlying79 fN rfl rfl qa) fun a hf=>zE hf hc rfl (jE (vs:=[i6 B.Lo,i6 B.Hi]) iS rfl rfl (dS qp (n:=2) (o':=0) rfl)) fun a w hf hc=>zA hf hc uF rfl fun s a w hf hc=>zW hf hc fN u0 rfl fun w hc=>zT h ?_
  refine eB ?_
  refine sp 1 hf rfl fun a hf=>zP hf rfl (pFA aEv rfl) fun a hf=>zL hf hc aG8 m2 rfl fun a w hf hc=>zN hf hc iS m0 rfl fun a w hf hc=>zQ (v:=i6 (iO B)) hf hc aO1 rfl (fun w hc=>aAl B hc rfl) fun a w hf hc=>pJ (rows:=([(iO B)]:List Int).map aB) (vs:=[(0,i6 (iO B))]) hf hc rfl rfl qG rfl ⟨rfl,rfl,rfl,trivial⟩ rfl rfl fun m a w hf hc=>?_
  obtain ⟨un,i,hF⟩:=aA hF
  refine qI (xs:=out) (ys:=([(iO B)]:List Int)) hf hc rfl rfl qG rfl rfl rfl rfl rfl bA (mJ hc m0) (fun _ _=>u2) (by simpa using gJ i) fun d g a w hf hc=>sp 1 hf rfl fun a hf=>aS ?_
  refine h9 _ _ ?_
  refine eB ?_
  refine sp 2 hf rfl fun a hf=>aS ?_
  replace hc:=(hc.drop k1).drop k0
  exact Y ((out++[(iO B)]),W (x + 1)) _ _ (sj hF).symm ⟨d,g,hf.kp rfl,hc⟩
 ·refine wp_exit ?_
  refine bI ?_
  refine bI ?_
  have he:=sj hF
  rw [← he] at I
  refine fZ ?_
  exact Z _ _ _ I ⟨D,H,hf.kp rfl,hc⟩

def yH (N:Nat) (l:List Int) (out:Int) (x:Int):Option (cP (Int × Int) (Int)) :=
 cond (decide (x < ((l.length:Nat):Int)))
 (Option.bind (bQ l x) fun B=>
 some (.cont (W (out + B),W (x + 1))))
 (some (.brk (out,x)))
def vU (N:Nat) (l:List Int):Option (Int) :=
 Option.bind (bC (fun s5=>yH N l s5.1 s5.2) N (0,0)) fun x5=>
 exK x5 (fun s5=>some s5.1) some
theorem xI {N:Nat} {G:aU} {Lf:List Ent} {w:World} (l:List Int) {I:Option Addr} {D:Nat} (V:Rd G 1 I D (l.map aB)) (hc:Ctx G (Lf) w) {H:Int} (hF:vU N l=some H):Calls Tryz.prog 70 #[.slice I l.length D] w (fun e w=>e=.returned (i6 H)∧Ctx G (Lf) w):=by
 unfold vU at hF
 refine bU Tryz.func70 rfl Tryz.ntmps70 rfl fun a hf=>zS fun K h=>sp 1 hf rfl fun a hf=>zT h ?_
 refine zS fun K h=>sp 1 hf rfl fun a hf=>zT h ?_
 refine wp_seq_k fun K3 h3=>zS fun K h=>sp 1 hf rfl fun a hf=>zP hf rfl (cR Tryz.underlying26 rfl) fun a hf=>sp 1 hf rfl fun a hf=>zT h ?_
 refine wp_block ?_
 obtain ⟨x5,R,hF⟩:=aA hF
 let S5:(Int × Int)→Act→World→Prop:=(fun (zz:Int × Int) a w=>Has 17 a [(3,i6 zz.1),(6,.slice I l.length D),(7,i6 ((l.length:Nat):Int)),(8,i6 zz.2)]∧Ctx G (Lf) w)
 have O:∀ (zz:Int × Int) a w,x5=.go zz→S5 zz a w→K3 a w:=by
  rintro ⟨out,x⟩ a w rfl ⟨hf,hc⟩
  replace hF:=cI hF
  refine h3 _ _ ?_
  refine zS fun K h=>sp 2 hf rfl fun a hf=>zT h ?_
  refine wp_ret ?_
  obtain rfl:=sj hF
  exact zO1 Tryz.results70 hf rfl ⟨rfl,hc⟩
 have X:∀ r,x5=.out r→r=H:=by
  rintro r rfl
  exact sj hF
 refine eR N (eO (S:=S5) (x:=x5) ?_ N (0,0) _ _ ⟨hf.kp rfl,hc⟩ R)
 clear hF hf hc
 rintro ⟨out,x⟩ Z a w KB5 ⟨hf,hc⟩ hF B M
 unfold yH at hF
 refine zS fun K h=>sp 1 hf rfl fun a hf=>zT h ?_
 refine wp_seq_k fun K8 h8=>zI hf rfl hF ?_ ?_ <;> clear hF <;> intro hF
 ·refine wp_skip ?_
  refine h8 _ _ ?_
  refine wp_seq_k fun K9 h9=>wp_block ?_
  refine zS fun K h=>?_
  obtain ⟨U,J,hF⟩:=aA hF
  obtain ⟨Y,o,qa,qp⟩:=V.atm J
  refine zP hf rfl (pIA Tryz.underlying26 eQ rfl rfl qa) fun a hf=>zE hf hc rfl (cN aY rfl (gO (j:=0) qp rfl)) fun a w hf hc=>sp 1 hf rfl fun a hf=>zT h ?_
  refine eB ?_
  refine sp 4 hf rfl fun a hf=>aS ?_
  refine h9 _ _ ?_
  refine eB ?_
  refine sp 2 hf rfl fun a hf=>aS ?_
  exact M (W (out + U),W (x + 1)) _ _ (sj hF).symm ⟨hf.kp rfl,hc⟩
 ·refine wp_exit ?_
  refine bI ?_
  refine bI ?_
  have he:=sj hF
  rw [← he] at B
  refine fZ ?_
  exact O _ _ _ B ⟨hf.kp rfl,hc⟩

def iN (s_:aC):Int :=
 s_.Hi
theorem aAf {G:aU} {Lf:List Ent} {w:World} (s_:aC)   (hc:Ctx G (Lf) w) {B:Int} (hF:iN s_=B):Calls Tryz.prog 102 #[.agg #[i6 s_.Lo,i6 s_.Hi]] w (fun e w=>e=.returned (i6 B)∧Ctx G (Lf) w):=by
 unfold iN at hF
 refine bU Tryz.func102 rfl Tryz.ntmps102 rfl fun a hf=>zS fun K h=>zB hf hc rfl fun D a w hf hc=>sp 1 hf rfl fun a hf=>zT h ?_
 refine zS fun K h=>zP hf rfl (pFA fD rfl) fun a hf=>zL hf hc aY m0 rfl fun a w hf hc=>sp 1 hf rfl fun a hf=>zT h ?_
 refine wp_ret ?_
 obtain rfl:=hF
 replace hc:=hc.drop k0
 exact zO1 Tryz.results102 hf rfl ⟨rfl,hc⟩

def sT (N:Nat) (l:List aC) (out:List Int) (x:Int):Option (cP ((List Int) × Int) ((List Int))) :=
 cond (decide (x < ((l.length:Nat):Int)))
 (Option.bind (bQ l x) fun B=>
 Option.bind (rR ((out++[(iN B)])).length) fun un=>
 some (.cont ((out++[(iN B)]),W (x + 1))))
 (some (.brk (out,x)))
def sN (N:Nat) (l:List aC):Option ((List Int)) :=
 Option.bind (bC (fun s5=>sT N l s5.1 s5.2) N (([]:List Int),0)) fun x5=>
 exK x5 (fun s5=>some s5.1) some
theorem yZ {N:Nat} {G:aU} {Lf:List Ent} {w:World} (l:List aC) {O:Option Addr} {M:Nat} (j:Rd G 2 O M (l.map aH)) (hc:Ctx G (Lf) w) {J:(List Int)} (hF:sN N l=some J):Calls Tryz.prog 71 #[.slice O l.length M,.agg #[.func (.func 102) #[] #[]]] w (fun e w=>∃ (V:Option Addr) (U:Nat),e=.returned (.slice V J.length U)∧Ctx G (.row V U (J.map aB) 3 1::Lf) w):=by
 unfold sN at hF
 refine bU Tryz.func71 rfl Tryz.ntmps71 rfl fun a hf=>zS fun K h=>zB hf hc rfl fun R a w hf hc=>sp 1 hf rfl fun a hf=>zT h ?_
 refine zS fun K h=>sp 1 hf rfl fun a hf=>zT h ?_
 refine wp_seq_k fun K3 h3=>zS fun K h=>sp 1 hf rfl fun a hf=>zP hf rfl (cR Tryz.underlying79 rfl) fun a hf=>sp 1 hf rfl fun a hf=>zT h ?_
 refine wp_block ?_
 obtain ⟨x5,b,hF⟩:=aA hF
 let S5:((List Int) × Int)→Act→World→Prop:=(fun (zz:(List Int) × Int) a w=>∃ (D:Option Addr) (H:Nat),Has 23 a [(3,pq R),(5,.slice D zz.1.length H),(8,.slice O l.length M),(9,i6 ((l.length:Nat):Int)),(10,i6 zz.2)]∧Ctx G (.row D H (zz.1.map aB) 3 1::.box R [.func (.func 102) #[] #[]] 156::Lf) w)
 have Z:∀ (zz:(List Int) × Int) a w,x5=.go zz→S5 zz a w→K3 a w:=by
  rintro ⟨out,x⟩ a w rfl ⟨D,H,hf,hc⟩
  replace hF:=cI hF
  refine h3 _ _ ?_
  refine zS fun K h=>sp 2 hf rfl fun a hf=>zT h ?_
  refine wp_ret ?_
  obtain rfl:=sj hF
  replace hc:=hc.drop k1
  exact zO1 Tryz.results71 hf rfl ⟨D,H,rfl,hc⟩
 have p:∀ r,x5=.out r→r=J:=by
  rintro r rfl
  exact sj hF
 replace hc:=hc.nilRow 3 1
 refine eR N (eO (S:=S5) (x:=x5) ?_ N (([]:List Int),0) _ _ ⟨none,0,hf.kp rfl,hc⟩ b)
 clear hF hf hc
 rintro ⟨out,x⟩ q a w KB5 ⟨D,H,hf,hc⟩ hF I Y
 unfold sT at hF
 refine zS fun K h=>sp 1 hf rfl fun a hf=>zT h ?_
 refine wp_seq_k fun K8 h8=>zI hf rfl hF ?_ ?_ <;> clear hF <;> intro hF
 ·refine wp_skip ?_
  refine h8 _ _ ?_
  refine wp_seq_k fun K9 h9=>wp_block ?_
  refine zS fun K h=>?_
  obtain ⟨B,X,hF⟩:=aA hF
  obtain ⟨k,o,qa,qp⟩:=j.atm X
  refine zP hf rfl (pIA Tryz.underlying79 fN rfl rfl qa) fun a hf=>zE hf hc rfl (jE (vs:=[i6 B.Lo,i6 B.Hi]) iS rfl rfl (dS qp (n:=2) (o':=0) rfl)) fun a w hf hc=>zA hf hc uF rfl fun s a w hf hc=>zW hf hc fN u0 rfl fun w hc=>zT h ?_
  refine eB ?_
  refine sp 1 hf rfl fun a hf=>zP hf rfl (pFA aEv rfl) fun a hf=>zL hf hc aG8 m2 rfl fun a w hf hc=>zN hf hc iS m0 rfl fun a w hf hc=>zQ (v:=i6 (iN B)) hf hc aOk rfl (fun w hc=>aAf B hc rfl) fun a w hf hc=>pJ (rows:=([(iN B)]:List Int).map aB) (vs:=[(0,i6 (iN B))]) hf hc rfl rfl qG rfl ⟨rfl,rfl,rfl,trivial⟩ rfl rfl fun m a w hf hc=>?_
  obtain ⟨un,i,hF⟩:=aA hF
  refine qI (xs:=out) (ys:=([(iN B)]:List Int)) hf hc rfl rfl qG rfl rfl rfl rfl rfl bA (mJ hc m0) (fun _ _=>u2) (by simpa using gJ i) fun d g a w hf hc=>sp 1 hf rfl fun a hf=>aS ?_
  refine h9 _ _ ?_
  refine eB ?_
  refine sp 2 hf rfl fun a hf=>aS ?_
  replace hc:=(hc.drop k1).drop k0
  exact Y ((out++[(iN B)]),W (x + 1)) _ _ (sj hF).symm ⟨d,g,hf.kp rfl,hc⟩
 ·refine wp_exit ?_
  refine bI ?_
  refine bI ?_
  have he:=sj hF
  rw [← he] at I
  refine fZ ?_
  exact Z _ _ _ I ⟨D,H,hf.kp rfl,hc⟩

def tO (N:Nat) (r:dZ) (B:Int) (D:Int):Option (aC × Int) :=
 Option.bind (sD N r) fun I=>
 cond (I != 0)
 (some ((⟨0,0⟩:aC),I))
 (cond ((!(gH B 0 D)) || (decide (((r.Days.length:Nat):Int)≤D)))
 (some ((⟨0,0⟩:aC),2))
 (Option.bind (tU N r) (vF (fun J=>cond (J != 0)
 (some ((⟨0,0⟩:aC),J))
 (none))
 (fun H=>cond (H.2.2.2 != 0)
 (some ((⟨0,0⟩:aC),H.2.2.2))
 (Option.bind (rO H.2.2.1 B (W (D + 1))) fun sub=>
 Option.bind (wO N sub) fun R=>
 Option.bind (vU N R) fun S=>
 Option.bind (sN N sub) fun O=>
 Option.bind (vU N O) fun M=>
 some ((⟨S,M⟩:aC),0))))))
theorem aAp {N:Nat} {G:aU} {Lf:List Ent} {w:World} (r:dZ) (B:Int) (O:Int) {H:Option Addr} {D:Nat} (U:Rd G 3 H D (r.Days.map cO)) (hc:Ctx G (Lf) w) {x:aC × Int} (hF:tO N r B O=some x):Calls Tryz.prog 34 #[.agg #[i6 r.Rise,i6 r.Fall,.slice H r.Days.length D],i6 B,i6 O] w (fun e w=>e=.returned (.tuple #[.agg #[i6 x.1.Lo,i6 x.1.Hi],i6 x.2])∧Ctx G (Lf) w):=by
 unfold tO at hF
 refine bU Tryz.func34 rfl Tryz.ntmps34 rfl fun a hf=>zS fun K h=>zB hf hc rfl fun j a w hf hc=>zA hf hc uF rfl fun S a w hf hc=>sp 1 hf rfl fun a hf=>zT h ?_
 refine wp_seq_k fun K2 h2=>zS fun K h=>zN hf hc zK m1 rfl fun a w hf hc=>?_
 obtain ⟨ay,ag,hF⟩:=aA hF
 refine zQ (v:=i6 ay) hf hc aM5 rfl (fun w hc=>uY r U hc ag) fun a w hf hc=>sp 1 hf rfl fun a hf=>zT h ?_
 refine zS fun K h=>sp 2 hf rfl fun a hf=>zT h ?_
 refine zI hf rfl hF ?_ ?_ <;> clear hF <;> intro hF
 ·refine zS fun K h=>zP hf rfl (bL (cells:=[i6 0,i6 0]) qD rfl rfl) fun a hf=>sp 1 hf rfl fun a hf=>zW hf hc fN u0 rfl fun w hc=>sp 1 hf rfl fun a hf=>zT h ?_
  refine wp_ret ?_
  refine aQ ?_
  obtain rfl:=sj hF
  replace hc:=hc.drop k1
  exact qX (by simp) rfl Tryz.results34 hf hc (cW (vs:=[i6 0,i6 0]) iS rfl rfl (bR (n:=2) m0 rfl)) (show eZ _ 7=_ from rfl) ⟨rfl,(hc.drop k0)⟩
 ·refine wp_skip ?_
  refine h2 _ _ ?_
  refine wp_seq_k fun K6 h6=>zS fun K h=>sp 2 hf rfl fun a hf=>zQ (v:=.bool (gH B 0 O)) hf hc aIk rfl (fun w hc=>rZ B 0 O hc rfl) fun a w hf hc=>sp 2 hf rfl fun a hf=>gQ 6 (fun a=>Has 60 a [(1,i6 B),(2,i6 O),(3,pq j),(6,pq S),(19,i6 B),(20,i6 O),(21,.bool (gH B 0 O)),(22,.bool (!(gH B 0 O))),(23,.bool (!(gH B 0 O))),(29,.bool ((!(gH B 0 O)) || (decide (((r.Days.length:Nat):Int)≤O))))]) hc ?_ ?_
  ·cases hb:(!(gH B 0 O))
   ·rw [hb] at hf
    refine sp 1 hf rfl fun a hf=>zP hf rfl (pFA rB rfl) fun a hf=>zL hf hc wX m1 rfl fun a w hf hc=>zP hf rfl (cR Tryz.underlying106 rfl) fun a hf=>sp 2 hf rfl fun a hf=>aS ⟨hf.kp rfl,hc⟩
   ·rw [hb] at hf
    refine stS hf rfl rfl rfl fun a hf=>stS hf rfl rfl rfl fun a hf=>stS hf rfl rfl rfl fun a hf=>stS hf rfl rfl rfl fun a hf=>stS hf rfl rfl rfl fun a hf=>sp 1 hf rfl fun a hf=>aS ⟨hf.kp rfl,hc⟩
  intro a w ⟨hf,hc⟩
  refine zT h ?_
  refine zI hf rfl hF ?_ ?_ <;> clear hF <;> intro hF
  ·refine zS fun K h=>zP hf rfl (bL (cells:=[i6 0,i6 0]) qD rfl rfl) fun a hf=>zW hf hc fN u0 rfl fun w hc=>sp 1 hf rfl fun a hf=>zT h ?_
   refine wp_ret ?_
   refine aQ ?_
   obtain rfl:=sj hF
   replace hc:=hc.drop k1
   exact qX (by simp) rfl Tryz.results34 hf hc (cW (vs:=[i6 0,i6 0]) iS rfl rfl (bR (n:=2) m0 rfl)) (show eZ _ 7=_ from rfl) ⟨rfl,(hc.drop k0)⟩
  ·refine wp_skip ?_
   refine h6 _ _ ?_
   refine zS fun K h=>zN hf hc zK m1 rfl fun a w hf hc=>?_
   obtain ⟨aa,z,hF⟩:=aA hF
   cases aa with
   | inl aa=>
    replace hF:=wF hF
    refine zC hf aL9 rfl (uE r U hc z) ?_
    rintro _ w ⟨rfl,hc⟩
    refine ⟨_,rfl,fun a hf=>?_⟩
    refine sp 5 hf rfl fun a hf=>zT h ?_
    refine wp_seq_k fun K10 a0=>zS fun K h=>sp 2 hf rfl fun a hf=>zT h ?_
    refine zI hf rfl hF ?_ ?_ <;> clear hF <;> intro hF
    ·refine zS fun K h=>zP hf rfl (bL (cells:=[i6 0,i6 0]) qD rfl rfl) fun a hf=>sp 1 hf rfl fun a hf=>zW hf hc fN u0 rfl fun w hc=>sp 1 hf rfl fun a hf=>zT h ?_
     refine wp_ret ?_
     refine aQ ?_
     obtain rfl:=sj hF
     replace hc:=hc.drop k1
     exact qX (by simp) rfl Tryz.results34 hf hc (cW (vs:=[i6 0,i6 0]) iS rfl rfl (bR (n:=2) m0 rfl)) (show eZ _ 7=_ from rfl) ⟨rfl,(hc.drop k0)⟩
    ·refine wp_skip ?_
     refine a0 _ _ ?_
     refine wp_seq_k fun K13 a3=>wD hF
   | inr J=>
    replace hF:=wI hF
    have am:=z
    refine zC hf aL9 rfl (uE r U hc am) ?_
    rintro _ w ⟨Y,M,I,rfl,hc⟩
    refine ⟨_,rfl,fun a hf=>?_⟩
    refine sp 5 hf rfl fun a hf=>zT h ?_
    refine wp_seq_k fun K14 ar=>zS fun K h=>sp 2 hf rfl fun a hf=>zT h ?_
    refine zI hf rfl hF ?_ ?_ <;> clear hF <;> intro hF
    ·refine zS fun K h=>zP hf rfl (bL (cells:=[i6 0,i6 0]) qD rfl rfl) fun a hf=>sp 1 hf rfl fun a hf=>zW hf hc fN u2 rfl fun w hc=>sp 1 hf rfl fun a hf=>zT h ?_
     refine wp_ret ?_
     refine aQ ?_
     obtain rfl:=sj hF
     replace hc:=((hc.drop k3).drop k1).drop k0
     exact qX (by simp) rfl Tryz.results34 hf hc (cW (vs:=[i6 0,i6 0]) iS rfl rfl (bR (n:=2) m0 rfl)) (show eZ _ 7=_ from rfl) ⟨rfl,(hc.drop k0)⟩
    ·refine wp_skip ?_
     refine ar _ _ ?_
     refine wp_seq_k fun K17 ax=>?_
     have qc:=aLy hc m0
     obtain ⟨sub,m,hF⟩:=aA hF
     replace hc:=hc.nilRow 0 0
     refine iE (fun θ=>[⟨none,none,1,i6 B⟩,⟨none,none,2,i6 O⟩,⟨none,none,6,pq S⟩,⟨none,none,9,pq Y⟩,⟨some 0,none,40,pq Y⟩,⟨some 1,none,41,pq Y⟩,⟨some 2,none,42,.pointer (some ⟨Y,3,none⟩)⟩,⟨some 3,none,43,.slice M J.2.2.1.length I⟩,⟨some 4,none,44,i6 B⟩,⟨some 5,none,45,i6 O⟩,⟨some 6,none,46,i6 (W (O + 1))⟩,⟨some 7,none,47,.slice (uI M I B.toNat 2) sub.length (I - B.toNat)⟩,⟨some 8,none,48,.agg #[.func (.func 101) #[] #[],.func (.func 102) #[] #[]]⟩,⟨some 9,none,12,.pointer (some ⟨(θ 72).b,0,none⟩)⟩,⟨some 10,none,11,.slice (uI M I B.toNat 2) sub.length (I - B.toNat)⟩]) (fun E θ=>(bif E 11 then .box (θ 72).b [.func (.func 101) #[] #[],.func (.func 102) #[] #[]] 157 else bif E 9 then .box (θ 72).b [.nilFunc,.nilFunc] 157 else .row none 0 [] 0 0)::.row M I (J.2.2.1.map aH) 51 2::.box Y [i6 J.1,i6 J.2.1,.slice H r.Days.length D,.slice M J.2.2.1.length I] 154::.box S [i6 0,i6 0] 51::.box j [i6 r.Rise,i6 r.Fall,.slice H r.Days.length D] 108::Lf) [(11,9)] (fun a w=>∃ (Z:Nat),Has 60 a [(6,pq S),(12,pq Z),(11,.slice (uI M I B.toNat 2) sub.length (I - B.toNat))]∧Ctx G (.box Z [.func (.func 101) #[] #[],.func (.func 102) #[] #[]] 157::.row M I (J.2.2.1.map aH) 51 2::.box Y [i6 J.1,i6 J.2.1,.slice H r.Days.length D,.slice M J.2.2.1.length I] 154::.box S [i6 0,i6 0] 51::.box j [i6 r.Rise,i6 r.Fall,.slice H r.Days.length D] 108::Lf) w) aW (by kernel_rfl) (by kernel_rfl) (eV.of hf ⟨rfl,rfl,rfl,rfl,trivial,trivial,trivial,trivial,trivial,trivial,trivial,trivial,trivial,trivial,trivial,trivial⟩) hc ⟨?_,?_,?_,?_,?_,?_,?_,?_,?_,?_,?_,?_,trivial⟩ ?_ ?_
     ·intro E θ a w hD hi hp he hc
      have hf:=he.h0.mT he 3 rfl
      refine sp 1 hf rfl fun a hf=>zD θ he hi hf 4 rfl rfl rfl hc
     ·intro E θ a w hD hi hp he hc
      have e0:=hp.o 0 rfl
      have hf:=he.h0.mP he 4 rfl e0
      refine sp 1 hf rfl fun a hf=>zD θ he hi hf 5 rfl rfl rfl hc
     ·intro E θ a w hD hi hp he hc
      have e1:=hp.o 1 rfl
      have hf:=he.h0.mP he 5 rfl e1
      refine zP hf rfl (pFA oC rfl) fun a hf=>zD θ he hi hf 6 rfl rfl rfl hc
     ·intro E θ a w hD hi hp he hc
      have e2:=hp.o 2 rfl
      have hf:=he.h0.mP he 6 rfl e2
      refine zL hf hc rC m2 rfl fun a w hf hc=>zD θ he hi hf 7 rfl rfl rfl hc
     ·intro E θ a w hD hi hp he hc
      have hf:=he.h0.mT he 0 rfl
      refine sp 1 hf rfl fun a hf=>zD θ he hi hf 8 rfl rfl rfl hc
     ·intro E θ a w hD hi hp he hc
      have hf:=he.h0.mT he 1 rfl
      refine sp 1 hf rfl fun a hf=>zD θ he hi hf 9 rfl rfl rfl hc
     ·intro E θ a w hD hi hp he hc
      have e5:=hp.o 5 rfl
      have hf:=he.h0.mP he 9 rfl e5
      refine sp 1 hf rfl fun a hf=>zD θ he hi hf 10 rfl rfl rfl hc
     ·intro E θ a w hD hi hp he hc
      have e3:=hp.o 3 rfl
      have e4:=hp.o 4 rfl
      have e6:=hp.o 6 rfl
      have hf:=((he.h0.mP he 7 rfl e3).mP he 8 rfl e4).mP he 10 rfl e6
      refine zP hf rfl (pSl Tryz.underlying79 fN rfl rfl qc rfl rfl m) fun a hf=>zD θ he hi hf 11 rfl rfl rfl hc
     ·intro E θ a w hD hi hp he hc
      have hf:=he.h0
      refine zQ (v:=.agg #[.func (.func 101) #[] #[],.func (.func 102) #[] #[]]) hf hc en_69 rfl (fun w hc=>aCp hc rfl) fun a w hf hc=>zD θ he hi hf 12 rfl rfl rfl hc
     ·intro E θ a w hD hi hp he hc
      have i:=hD.f 0 rfl hi
      try dsimp only at hc
      rw [hi,i] at hc
      have hf:=he.h0
      refine zA hf hc aKn rfl fun aq a w hf hc=>aS ?_
      refine dA ?_
      intro ds u k
      replace hc:=hc.drop k1
      refine ⟨(sK θ 72 ⟨aq,none,0,(fun _=>(none,0))⟩),he.put hi k hf rfl [] trivial ⟨qq,qq,qq,qq,qq,qq,qq,qq,qq,qq,qq,qq,qq,qq,qq,trivial⟩,?_⟩
      try dsimp only
      rw [aX E 9,aV 9 i rfl]
      exact hc
     ·intro E θ a w hD hi hp he hc
      have e7:=hp.o 7 rfl
      have hf:=he.h0.mP he 11 rfl e7
      refine sp 1 hf rfl fun a hf=>zD θ he hi hf 14 rfl rfl rfl hc
     ·intro E θ a w hD hi hp he hc
      have e8:=hp.o 8 rfl
      have e9:=hp.o 9 rfl
      try dsimp only at hc
      rw [e9,hi] at hc
      have hf:=(he.h0.mP he 12 rfl e8).mP he 13 rfl e9
      refine zW hf hc aJ9 u0 rfl fun w hc=>zG θ he hi hf rfl ?_
      try dsimp only
      rw [eL 11 e9,aX E 11]
      exact hc
     ·intro E θ a w R he hc
      have hf:=he.h0
      have e9:=R 9 rfl
      have y:=R 10 rfl
      have i:=R 11 rfl
      replace hf:=hf.more he 14 rfl (onP y)
      replace hf:=hf.more he 13 rfl (onP e9)
      replace hf:=hf.more he 2 rfl (onT)
      try dsimp only at hc
      rw [e9,i] at hc
      exact ⟨(θ 72).b,hf.kp rfl,hc⟩
     rintro a w ⟨Z,hf,hc⟩
     refine ax _ _ ?_
     refine wp_seq_k fun K18 a2=>?_
     obtain ⟨t,ak,hF⟩:=aA hF
     obtain ⟨d,ai,hF⟩:=aA hF
     obtain ⟨s,aj,hF⟩:=aA hF
     obtain ⟨g,an,hF⟩:=aA hF
     replace hc:=hc.nilRow 0 0
     replace hc:=hc.nilRow 0 0
     refine iE (fun θ=>[⟨none,none,6,pq S⟩,⟨none,none,11,.slice (uI M I B.toNat 2) sub.length (I - B.toNat)⟩,⟨none,none,12,pq Z⟩,⟨some 0,none,49,.slice (uI M I B.toNat 2) sub.length (I - B.toNat)⟩,⟨some 1,none,50,pq Z⟩,⟨some 2,none,51,.agg #[.func (.func 101) #[] #[]]⟩,⟨some 3,none,52,.slice ((θ 24).p) t.length ((θ 24).c)⟩,⟨some 4,none,53,i6 d⟩,⟨some 5,none,54,.slice (uI M I B.toNat 2) sub.length (I - B.toNat)⟩,⟨some 6,none,55,.pointer (some ⟨Z,1,none⟩)⟩,⟨some 7,none,56,.agg #[.func (.func 102) #[] #[]]⟩,⟨some 8,none,57,.slice ((θ 64).p) s.length ((θ 64).c)⟩,⟨some 9,none,58,i6 g⟩,⟨some 10,none,59,.agg #[i6 d,i6 g]⟩,⟨some 12,none,7,i6 0⟩]) (fun E θ=>(bif E 8 then .row ((θ 64).p) ((θ 64).c) (s.map aB) 3 1 else .row none 0 [] 0 0)::(bif E 3 then .row ((θ 24).p) ((θ 24).c) (t.map aB) 3 1 else .row none 0 [] 0 0)::.box Z [.func (.func 101) #[] #[],.func (.func 102) #[] #[]] 157::.row M I (J.2.2.1.map aH) 51 2::.box Y [i6 J.1,i6 J.2.1,.slice H r.Days.length D,.slice M J.2.2.1.length I] 154::(bif E 11 then .box S [i6 d,i6 g] 51 else .box S [i6 0,i6 0] 51)::.box j [i6 r.Rise,i6 r.Fall,.slice H r.Days.length D] 108::Lf) [] (fun a w=>∃ (af:Option Addr) (ad:Nat) (ac:Option Addr) (ab:Nat),Has 60 a [(6,pq S),(7,i6 0)]∧Ctx G (.row af ad (s.map aB) 3 1::.row ac ab (t.map aB) 3 1::.box Z [.func (.func 101) #[] #[],.func (.func 102) #[] #[]] 157::.row M I (J.2.2.1.map aH) 51 2::.box Y [i6 J.1,i6 J.2.1,.slice H r.Days.length D,.slice M J.2.2.1.length I] 154::.box S [i6 d,i6 g] 51::.box j [i6 r.Rise,i6 r.Fall,.slice H r.Days.length D] 108::Lf) w) aW (by kernel_rfl) (by kernel_rfl) (eV.of hf ⟨rfl,rfl,rfl,trivial,trivial,trivial,trivial,trivial,trivial,trivial,trivial,trivial,trivial,trivial,trivial,trivial⟩) hc ⟨?_,?_,?_,?_,?_,?_,?_,?_,?_,?_,?_,?_,?_,trivial⟩ ?_ ?_
     ·intro E θ a w hD hi hp he hc
      have hf:=he.h0.mT he 1 rfl
      refine sp 1 hf rfl fun a hf=>zD θ he hi hf 3 rfl rfl rfl hc
     ·intro E θ a w hD hi hp he hc
      have hf:=he.h0.mT he 2 rfl
      refine zP hf rfl (kK Tryz.underlying157 aK1 rfl rfl (by decide) (by decide)) fun a hf=>zD θ he hi hf 4 rfl rfl rfl hc
     ·intro E θ a w hD hi hp he hc
      have e1:=hp.o 1 rfl
      have hf:=he.h0.mP he 4 rfl e1
      refine zN hf hc aKk m2 rfl fun a w hf hc=>zD θ he hi hf 5 rfl rfl rfl hc
     ·intro E θ a w hD hi hp he hc
      have e0:=hp.o 0 rfl
      have e2:=hp.o 2 rfl
      try dsimp only at hc
      rw [hi] at hc
      have hf:=(he.h0.mP he 3 rfl e0).mP he 5 rfl e2
      obtain ⟨G1,q,X,hc,V⟩:=lend hc k3
      refine zC hf aL8 rfl (aCt sub (Rd.sub X m) hc ak) ?_
      rintro _ w ⟨au,av,rfl,hc⟩
      refine ⟨_,rfl,fun a hf=>?_⟩
      replace hc:=V _ _ hc
      refine aS ?_
      refine dA ?_
      intro ds u k
      replace hc:=((((hc.drop k3).pick k0).pick k3).pick k2).pick k3
      refine ⟨(sK θ 24 ⟨0,au,av,(fun _=>(none,0))⟩),he.put hi k hf rfl [] trivial ⟨qq,qq,qq,qq,qq,qq,qq,qq,qq,qq,qq,qq,qq,qq,qq,trivial⟩,?_⟩
      try dsimp only
      rw [aX E 3]
      exact hc
     ·intro E θ a w hD hi hp he hc
      have e3:=hp.o 3 rfl
      try dsimp only at hc
      rw [e3] at hc
      have hf:=he.h0.mP he 6 rfl e3
      refine zQ (v:=i6 d) hf hc aM0 rfl (fun w hc=>by obtain ⟨G1,q,X,hc,V⟩:=lend hc k1; exact (xI t X hc ai).mono fun e w h=>⟨h.1,((V _ _ h.2).unpick k1)⟩) fun a w hf hc=>zD θ he hi hf 7 rfl rfl rfl ?_
      try dsimp only
      rw [eL 4 e3]
      exact hc
     ·intro E θ a w hD hi hp he hc
      have hf:=he.h0.mT he 1 rfl
      refine sp 1 hf rfl fun a hf=>zD θ he hi hf 8 rfl rfl rfl hc
     ·intro E θ a w hD hi hp he hc
      have hf:=he.h0.mT he 2 rfl
      refine zP hf rfl (kK Tryz.underlying157 aK1 rfl rfl (by decide) (by decide)) fun a hf=>zD θ he hi hf 9 rfl rfl rfl hc
     ·intro E θ a w hD hi hp he hc
      have e6:=hp.o 6 rfl
      have hf:=he.h0.mP he 9 rfl e6
      refine zN hf hc aKk m2 rfl fun a w hf hc=>zD θ he hi hf 10 rfl rfl rfl hc
     ·intro E θ a w hD hi hp he hc
      have e5:=hp.o 5 rfl
      have e7:=hp.o 7 rfl
      try dsimp only at hc
      rw [hi] at hc
      have hf:=(he.h0.mP he 8 rfl e5).mP he 10 rfl e7
      obtain ⟨G1,q,X,hc,V⟩:=lend hc k3
      refine zC hf aL8 rfl (yZ sub (Rd.sub X m) hc aj) ?_
      rintro _ w ⟨az,ap,rfl,hc⟩
      refine ⟨_,rfl,fun a hf=>?_⟩
      replace hc:=V _ _ hc
      refine aS ?_
      refine dA ?_
      intro ds u k
      replace hc:=((((hc.drop k2).pick k0).pick k3).pick k3).pick k3
      refine ⟨(sK θ 64 ⟨0,az,ap,(fun _=>(none,0))⟩),he.put hi k hf rfl [] trivial ⟨qq,qq,qq,qq,qq,qq,qq,qq,qq,qq,qq,qq,qq,qq,qq,trivial⟩,?_⟩
      try dsimp only
      rw [aX E 8]
      exact hc
     ·intro E θ a w hD hi hp he hc
      have e8:=hp.o 8 rfl
      try dsimp only at hc
      rw [e8] at hc
      have hf:=he.h0.mP he 11 rfl e8
      refine zQ (v:=i6 g) hf hc aM0 rfl (fun w hc=>by obtain ⟨G1,q,X,hc,V⟩:=lend hc k0; exact (xI s X hc an).mono fun e w h=>⟨h.1,((V _ _ h.2).unpick k0)⟩) fun a w hf hc=>zD θ he hi hf 12 rfl rfl rfl ?_
      try dsimp only
      rw [eL 9 e8]
      exact hc
     ·intro E θ a w hD hi hp he hc
      have e4:=hp.o 4 rfl
      have e9:=hp.o 9 rfl
      have hf:=(he.h0.mP he 7 rfl e4).mP he 12 rfl e9
      refine zP hf rfl (bL (cells:=[i6 d,i6 g]) qD rfl rfl) fun a hf=>zD θ he hi hf 13 rfl rfl rfl hc
     ·intro E θ a w hD hi hp he hc
      have y:=hp.o 10 rfl
      try dsimp only at hc
      rw [hi] at hc
      have hf:=(he.h0.mT he 0 rfl).mP he 13 rfl y
      refine zW hf hc fN u5 rfl fun w hc=>zG θ he hi hf rfl ?_
      try dsimp only
      rw [aX E 11]
      exact hc
     ·intro E θ a w hD hi hp he hc
      have hf:=he.h0
      refine sp 1 hf rfl fun a hf=>zD θ he hi hf 14 rfl rfl rfl hc
     ·intro E θ a w R he hc
      have hf:=he.h0
      have e3:=R 3 rfl
      have e8:=R 8 rfl
      have i:=R 11 rfl
      have a1:=R 12 rfl
      replace hf:=hf.more he 14 rfl (onP a1)
      replace hf:=hf.more he 0 rfl (onT)
      try dsimp only at hc
      rw [e3,e8,i] at hc
      exact ⟨(θ 64).p,(θ 64).c,(θ 24).p,(θ 24).c,hf.kp rfl,hc⟩
     rintro a w ⟨af,ad,ac,ab,hf,hc⟩
     refine a2 _ _ ?_
     refine wp_ret ?_
     obtain rfl:=sj hF
     replace hc:=(((((hc.drop k6).drop k4).drop k3).drop k2).drop k1).drop k0
     exact qX (by simp) rfl Tryz.results34 hf hc (cW (vs:=[i6 d,i6 g]) iS rfl rfl (bR (n:=2) m0 rfl)) (show eZ _ 7=_ from rfl) ⟨rfl,(hc.drop k0)⟩

def yO (N:Nat)  : Option (bW) :=
 some (⟨2,([(⟨0,100,50⟩:bM),(⟨1,60,100⟩:bM),(⟨0,40,0⟩:bM)]:List bM)⟩:bW)
theorem aD6 {N:Nat} {G:aU} {Lf:List Ent} {w:World}    (hc:Ctx G (Lf) w) {B:bW} (hF:yO N=some B):Calls Tryz.prog 37 #[] w (fun e w=>∃ (H:Option Addr) (I:Nat),e=.returned (.agg #[i6 B.States,.slice H B.Rights.length I])∧Ctx G (.row H I (B.Rights.map cB) 167 3::Lf) w):=by
 unfold yO at hF
 refine bU Tryz.func37 rfl Tryz.ntmps37 rfl fun a hf=>zS fun K h=>zA hf hc aOq rfl fun J a w hf hc=>zT h ?_
 refine zS fun K h=>zP hf rfl (bL (cells:=[i6 0,i6 100,i6 50]) aGu rfl rfl) fun a hf=>zP hf rfl (bL (cells:=[i6 1,i6 60,i6 100]) aGu rfl rfl) fun a hf=>zP hf rfl (bL (cells:=[i6 0,i6 40,i6 0]) aGu rfl rfl) fun a hf=>pJ (rows:=([(⟨0,100,50⟩:bM),(⟨1,60,100⟩:bM),(⟨0,40,0⟩:bM)]:List bM).map cB) (vs:=[(0,.agg #[i6 0,i6 100,i6 50]),(1,.agg #[i6 1,i6 60,i6 100]),(2,.agg #[i6 0,i6 40,i6 0])]) hf hc rfl rfl aNa rfl ⟨rfl,rfl,rfl,rfl,rfl,rfl,rfl,rfl,rfl,trivial⟩ rfl rfl fun D a w hf hc=>zP hf rfl (bL (cells:=[i6 2,.slice (some ⟨D,0,none⟩) 3 3]) aPl rfl rfl) fun a hf=>zW hf hc aPe u1 rfl fun w hc=>zT h ?_
 refine wp_ret ?_
 obtain rfl:=sj hF
 exact lC (by simp) rfl Tryz.results37 hf hc (cW (vs:=[i6 2,.slice (some ⟨D,0,none⟩) 3 3]) aDz rfl rfl (bR (n:=2) m1 rfl)) ⟨(some ⟨D,0,none⟩),3,rfl,(hc.drop k1)⟩

end Go.Nilo
