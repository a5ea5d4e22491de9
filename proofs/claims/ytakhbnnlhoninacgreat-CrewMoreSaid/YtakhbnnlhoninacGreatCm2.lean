/-
 What functions of the Go text compute, as plain functions, and that they do, part 2 of 4. Conditions: what each theorem names.
-/
import Derived.Test.YtakhbnnlhoninacGreatCm1
import Derived.Test.YtakhbnnlhoninacGreatProg
set_option linter.unusedVariables false
set_option linter.unusedSimpArgs false
set_option maxRecDepth 100000
set_option maxHeartbeats 4000000
namespace Go.Nilo
open Go.Proofs


def fJ (N:Nat) (D:Int) (B:Int):Option (cK (Int × Int) (Rs ((List aE) × (List Int) × (List (Option (List (Int × Bool))))))) :=
 some (.cont (B,W (D + 1)))
def dB (N:Nat) (p_:Int) (x:aT) (H:List (Option (List (Int × Bool)))) (xv:Int) (mm:List (Int × Bool)) (q:Int) (B:Int):Option (cK (Int × Int) (Rs ((List aE) × (List Int) × (List (Option (List (Int × Bool))))))) :=
 cond (decide (B < ((x.Roster.People.length:Nat):Int)))
 (Option.bind (Option.bind (bH (H.set xv.toNat (some (eP mm p_ true))) xv) fun I=>
 Option.bind (I) fun D=>
 cond ((lkA D B).getD false)
 (Option.bind (inR xv 12) fun M=>
 Option.bind (inR B 12) fun O=>
 Option.bind (inR q 12) fun J=>
 some (decide ((x.rank (xv * 12 + q).toNat) < (x.rank (xv * 12 + B).toNat))))
 (some false)) fun rg=>
 cond rg
 (fJ N B B)
 (fJ N B q))
 (some (.brk (q,B)))
def bS (N:Nat) (R:Int→aT→(List aE)→(List Int)→(List (Option (List (Int × Bool))))→Option ((List aE) × (List Int) × (List (Option (List (Int × Bool)))))) (p_:Int) (x:aT) (H:List aE) (I:List Int) (B:List (Option (List (Int × Bool)))) (xv:Int):Option (Rs ((List aE) × (List Int) × (List (Option (List (Int × Bool)))))) :=
 Option.bind (bJ N H p_ xv) fun Z=>
 cond Z
 (some (.go (H,I,B)))
 (Option.bind (bH I p_) fun d=>
 Option.bind (bH B xv) fun U=>
 Option.bind (U) fun mm=>
 Option.bind (bH (B.set xv.toNat (some (eP mm p_ true))) xv) fun Y=>
 Option.bind (Y) fun O=>
 Option.bind (bH x.Roster.Stations xv) fun S=>
 cond (decide (((O.length:Nat):Int)≤S.Places))
 (some (.ret (H,(I.set p_.toNat xv),(B.set xv.toNat (some (eP mm p_ true))))))
 (Option.bind (bE (fun D=>dB N p_ x B xv mm D.1 D.2) N (p_,0)) fun V=>
 exK V (fun D=>Option.bind (bH (B.set xv.toNat (some (eP mm p_ true))) xv) fun X=>
 Option.bind (X) fun M=>
 Option.bind (bH (I.set p_.toNat xv) D.1) fun b=>
 Option.bind (room ((H++[(⟨D.1,xv⟩:aE)])).length) fun un=>
 Option.bind (R D.1 (⟨x.Roster,x.rank⟩:aT) (H++[(⟨D.1,xv⟩:aE)]) ((I.set p_.toNat xv).set D.1.toNat (-1)) ((B.set xv.toNat (some (eP mm p_ true))).set xv.toNat (some (vV M D.1)))) fun J=>
 some (.ret (J.1,J.2.1,J.2.2))) some))
def cA:Nat→Int→aT→(List aE)→(List Int)→(List (Option (List (Int × Bool))))→Option ((List aE) × (List Int) × (List (Option (List (Int × Bool)))))
| 0,_,_,_,_,_=>none
| N + 1,p_,x,x_1,x_2,x_3=>
 Option.bind (gA N (⟨x.Roster,x.rank⟩:aT) p_ (-1)) fun r=>
 Option.bind (dQ N (⟨x.Roster,x.rank⟩:aT) r.1 r.2 (rY (fun (zz:(List aE) × (List Int) × (List (Option (List (Int × Bool))))) (D:Int)=>bS N (cA N) p_ x zz.1 zz.2.1 zz.2.2 D)) (.go (x_1,x_2,x_3))) fun x3=>
 rsK x3 (fun B=>some (B.1,B.2.1,B.2.2)) (fun B=>some (B.1,B.2.1,B.2.2))
theorem tR {N:Nat}:∀ {G:aO} {Lf:List Ent} {w:World} (p_:Int) (x:aT) (a5:List aE) (a6:List Int) (az:List (Option (List (Int × Bool)))) {b_:Nat} {V:Nat} {ai:Option Addr} {aj:Nat} {t:Option Addr} {u:Nat} {H:Nat} {au:Option Addr} {ar:Nat} {O:Nat} {av:Option Addr} {aq:Nat} {I:Nat} {ax:Option Addr} {ak:rM} {R:Nat} (ab:RdT aG G 1 ai aj x.Roster.People) (s:RdT aL G 2 t u x.Roster.Stations) (am:PC G V 0 (sQ [.slice ai x.Roster.People.length aj,.slice t x.Roster.Stations.length u] 144 aD x.rank [])) (hc:Ctx G (.box b_ [pq V] 47::.box H [.slice au a5.length ar] 50::.row au ar (a5.map aJ) 59 2::.box O [.slice av a6.length aq] 30::.row av aq (a6.map aD) 3 1::.box I [.slice ax az.length ak.1] 95::.row ax ak.1 ((aF ak.2 az).map (Kd.v bK)) 96 1::aQ bK (aF ak.2 az)::.box R [.func (.func 39) #[] #[pq b_,pq H,pq O,pq I,pq R]] 98::Lf) w) {ay:(List aE) × (List Int) × (List (Option (List (Int × Bool))))} (hF:cA N p_ x a5 a6 az=some ay),Calls Tryz.prog 39 #[i6 p_,pq b_,pq H,pq O,pq I,pq R] w (fun e w=>∃ (cj:Option Addr) (cg:Nat) (cm:Option Addr) (cn:Nat) (cf:Option Addr) (ba:rM),e=.returned (.tuple #[])∧Ctx G (.row cj cg (ay.1.map aJ) 59 2::.row cm cn (ay.2.1.map aD) 3 1::.row cf ba.1 ((aF ba.2 ay.2.2).map (Kd.v bK)) 96 1::aQ bK (aF ba.2 ay.2.2)::.box b_ [pq V] 47::.box H [.slice cj ay.1.length cg] 50::.box O [.slice cm ay.2.1.length cn] 30::.box I [.slice cf ay.2.2.length ba.1] 95::.box R [.func (.func 39) #[] #[pq b_,pq H,pq O,pq I,pq R]] 98::Lf) w):=by
 induction N with
 | zero=>
  intro G Lf w p_ x a5 a6 az b_ V ai aj t u H au ar O av aq I ax ak R ab s am hc ay hF
  exact aAb hF
 | succ N ih=>
 intro G Lf w p_ x a5 a6 az b_ V ai aj t u H au ar O av aq I ax ak R ab s am hc ay hF
 rw [cA] at hF
 refine aH9 Tryz.func39 rfl Tryz.ntmps39 rfl fun a hf=>zS fun K h=>zB hf hc rfl fun aa a w hf hc=>zT h ?_
 refine zS fun K h=>zL hf hc nI m1 rfl fun a w hf hc=>zL hf hc bA m0 rfl fun a w hf hc=>?_
 obtain ⟨r,hr,hF⟩:=aA hF
 refine zC hf aE2 rfl (lV (⟨x.Roster,x.rank⟩:aT) p_ (-1) ab s am hc hr) ?_
 rintro _ w ⟨bs,bq,br,rfl,hc⟩
 refine ⟨_,rfl,fun a hf=>?_⟩
 refine zT h ?_
 obtain ⟨x3,dp,hF⟩:=aA hF
 refine aGr (C:=[.box bs [pq V] 47,.box bq [i6 r.1] 3,.box br [i6 r.2] 3]) (C2:=[.box bs [pq V] 47,.box bq [i6 r.1] 3,.box br [i6 r.2] 3]) (L0:=[.box aa [i6 p_] 3,.box b_ [pq V] 47,.box H [.slice au a5.length ar] 50,.row au ar (a5.map aJ) 59 2,.box O [.slice av a6.length aq] 30,.row av aq (a6.map aD) 3 1,.box I [.slice ax az.length ak.1] 95,.row ax ak.1 ((aF ak.2 az).map (Kd.v bK)) 96 1,aQ bK (aF ak.2 az),.box R [.func (.func 39) #[] #[pq b_,pq H,pq O,pq I,pq R]] 98]) (Lf:=Lf) (encs:=fun x:Int=>[i6 x]) (fun (zz:(List aE) × (List Int) × (List (Option (List (Int × Bool))))) L=>∃ (Z:Option Addr) (d:Nat) (ad:Option Addr) (Y:Nat) (af:Option Addr) (B:rM),L=[.box aa [i6 p_] 3,.box b_ [pq V] 47,.box H [.slice Z zz.1.length d] 50,.row Z d (zz.1.map aJ) 59 2,.box O [.slice ad zz.2.1.length Y] 30,.row ad Y (zz.2.1.map aD) 3 1,.box I [.slice af zz.2.2.length B.1] 95,.row af B.1 ((aF B.2 zz.2.2).map (Kd.v bK)) 96 1,aQ bK (aF B.2 zz.2.2),.box R [.func (.func 39) #[] #[pq b_,pq H,pq O,pq I,pq R]] 98]) (fun (zz:(List aE) × (List Int) × (List (Option (List (Int × Bool))))) (dy:Int)=>bS N (cA N) p_ x zz.1 zz.2.1 zz.2.2 dy) (a5,a6,az) x3 hf hc rfl aIs (fun _=>rfl) rfl ⟨au,ar,av,aq,ax,ak,rfl⟩ ?_ ?_ ?_ ?_
 ·intro lq mq J L Lx w hy hJ hc
  exact kT (⟨x.Roster,x.rank⟩:aT) r.1 r.2 ab s am J _ hy _ hJ hc dp
 ·clear hF hf hc
  rintro lq mq ⟨X,U,D⟩ xv oq _ Lr Lb a w gi ⟨Z,d,ad,Y,af,B,rfl⟩ hF hf hc hK
  replace hf:Has 95 a [(1,pq b_),(2,pq H),(3,pq O),(4,pq I),(5,pq R),(6,pq aa),(13,i6 xv)]:=hf.kp rfl
  replace hc:Ctx G (.box aa [i6 p_] 3::.box b_ [pq V] 47::.box H [.slice Z X.length d] 50::.row Z d (X.map aJ) 59 2::.box O [.slice ad U.length Y] 30::.row ad Y (U.map aD) 3 1::.box I [.slice af D.length B.1] 95::.row af B.1 ((aF B.2 D).map (Kd.v bK)) 96 1::aQ bK (aF B.2 D)::.box R [.func (.func 39) #[] #[pq b_,pq H,pq O,pq I,pq R]] 98::Lr) w:=hc
  replace hF:bS N (cA N) p_ x X U D xv=some oq:=hF
  unfold bS at hF
  refine tS (fun _ _ h=>h) rfl ?_
  refine zA hf hc aG3 rfl fun ac a w hf hc=>zW hf hc eL u0 rfl fun w hc=>aP ?_
  refine hK _ _ [.box ac [i6 xv] 3,.box aa [i6 p_] 3,.box b_ [pq V] 47,.box H [.slice Z X.length d] 50,.row Z d (X.map aJ) 59 2,.box O [.slice ad U.length Y] 30,.row ad Y (U.map aD) 3 1,.box I [.slice af D.length B.1] 95,.row af B.1 ((aF B.2 D).map (Kd.v bK)) 96 1,aQ bK (aF B.2 D),.box R [.func (.func 39) #[] #[pq b_,pq H,pq O,pq I,pq R]] 98] hc fun w hc=>?_
  replace hc:Ctx G (.box ac [i6 xv] 3::.box aa [i6 p_] 3::.box b_ [pq V] 47::.box H [.slice Z X.length d] 50::.row Z d (X.map aJ) 59 2::.box O [.slice ad U.length Y] 30::.row ad Y (U.map aD) 3 1::.box I [.slice af D.length B.1] 95::.row af B.1 ((aF B.2 D).map (Kd.v bK)) 96 1::aQ bK (aF B.2 D)::.box R [.func (.func 39) #[] #[pq b_,pq H,pq O,pq I,pq R]] 98::Lb) w:=hc
  refine aEk fun K4 h4=>aAj ?_
  refine rH fun K5 h5=>rH fun K6 h6=>tS (fun _ _ h=>h) rfl ?_
  refine zL hf hc aEr m3 rfl fun a w hf hc=>zP hf rfl (pMF (us:=[pq aa,pq ac]) rfl rfl) fun a hf=>?_
  obtain ⟨ci,db,hF⟩:=aA hF
  refine zQ (v:=.bool ci) hf hc aJ9 rfl (fun w hc=>by obtain ⟨G1,gc,ct,hc,c9⟩:=lend hc k4; exact (iA X p_ xv ct ((hc.pick k0).pick k1) db).mono fun e w h=>⟨h.1,((c9 _ _ ((h.2.unpick k1).unpick k0)).unpick k4)⟩) fun a w hf hc=>aP ?_
  refine h6 _ _ ?_
  refine aC1 (b:=ci) hf rfl (fun hb=>?_) (fun hb=>?_)
  ·replace hF:=iL hb hF
   clear hb
   refine aIr ?_
   refine aW ?_
   refine eV ?_
   refine h4 _ _ ?_
   replace hc:=hc.drop k0
   exact ⟨(X,U,D),_,(sj hF).symm,⟨Z,d,ad,Y,af,B,rfl⟩,hc⟩
  ·replace hF:=jM hb hF
   clear hb
   refine aC7 ?_
   refine h5 _ _ ?_
   refine rH fun K7 h7=>tS (fun _ _ h=>h) rfl ?_
   refine zL hf hc kJ m5 rfl fun a w hf hc=>zL hf hc bA m1 rfl fun a w hf hc=>zL hf hc bA m0 rfl fun a w hf hc=>?_
   obtain ⟨gf,ca,hF⟩:=aA hF
   obtain ⟨g,rfl,qa,qr⟩:=hU hc m6 ca
   refine zP hf rfl (pIA Tryz.underlying30 eL rfl rfl qa) fun a hf=>aBi (sz:=1) (vs:=[i6 xv]) (o':=0) (z:=xv) (xs:=U) hf hc rfl rfl rfl rfl eL rfl (fun x=>(bF x).1) (oE ca) (fun _ _=>rfl) rfl u6 fun w hc=>aP ?_
   refine h7 _ _ ?_
   refine rH fun K8 h8=>?_
   obtain ⟨gg,bv,hF⟩:=aA hF
   obtain ⟨p,rfl,cy,c1⟩:=hU hc m8 (dE bv)
   obtain ⟨mm,b9,hF⟩:=aA hF
   refine aBm (fun _ _ h=>h) rfl (fun θ=>[⟨none,none,1,pq b_⟩,⟨none,none,2,pq H⟩,⟨none,none,3,pq O⟩,⟨none,none,4,pq I⟩,⟨none,none,5,pq R⟩,⟨none,none,6,pq aa⟩,⟨none,none,7,pq ac⟩,⟨some 0,none,21,.slice (some ⟨p,0,none⟩) D.length B.1⟩,⟨some 1,none,22,i6 xv⟩,⟨some 2,none,23,.pointer (some ⟨p,xv.toNat * 1,none⟩)⟩,⟨some 3,none,24,.map (some ((B.2 xv.toNat).2))⟩,⟨some 4,none,25,i6 p_⟩]) (fun E θ=>.box ac [i6 xv] 3::.box aa [i6 p_] 3::.box b_ [pq V] 47::.box H [.slice Z X.length d] 50::.row Z d (X.map aJ) 59 2::.box O [.slice (some ⟨g,0,none⟩) U.length Y] 30::.row (some ⟨g,0,none⟩) Y ((U.set p_.toNat xv).map aD) 3 1::.box I [.slice (some ⟨p,0,none⟩) D.length B.1] 95::(bif E 5 then .row (some ⟨p,0,none⟩) B.1 ((aF B.2 (D.set xv.toNat (some (eP mm p_ true)))).map (Kd.v bK)) 96 1 else .row (some ⟨p,0,none⟩) B.1 ((aF B.2 D).map (Kd.v bK)) 96 1)::(bif E 5 then aQ bK (aF B.2 (D.set xv.toNat (some (eP mm p_ true)))) else aQ bK (aF B.2 D))::.box R [.func (.func 39) #[] #[pq b_,pq H,pq O,pq I,pq R]] 98::Lb) [(5,2),(5,3)] (fun a w=>Has 95 a [(1,pq b_),(2,pq H),(3,pq O),(4,pq I),(5,pq R),(6,pq aa),(7,pq ac)]∧Ctx G (.box ac [i6 xv] 3::.box aa [i6 p_] 3::.box b_ [pq V] 47::.box H [.slice Z X.length d] 50::.row Z d (X.map aJ) 59 2::.box O [.slice (some ⟨g,0,none⟩) U.length Y] 30::.row (some ⟨g,0,none⟩) Y ((U.set p_.toNat xv).map aD) 3 1::.box I [.slice (some ⟨p,0,none⟩) D.length B.1] 95::.row (some ⟨p,0,none⟩) B.1 ((aF B.2 (D.set xv.toNat (some (eP mm p_ true)))).map (Kd.v bK)) 96 1::aQ bK (aF B.2 (D.set xv.toNat (some (eP mm p_ true))))::.box R [.func (.func 39) #[] #[pq b_,pq H,pq O,pq I,pq R]] 98::Lb) w) aU (by kernel_rfl) (by kernel_rfl) (fB.of hf ⟨rfl,rfl,rfl,rfl,rfl,rfl,rfl,trivial,trivial,trivial,trivial,trivial,trivial⟩) hc ⟨?_,?_,?_,?_,?_,?_,trivial⟩ ?_ ?_
   ·intro E θ a w hD hi hp he hc
    have hf:=he.h0.mT he 3 rfl
    refine zL hf hc aAm m7 rfl fun a w hf hc=>zD θ he hi hf 7 rfl rfl rfl hc
   ·intro E θ a w hD hi hp he hc
    have hf:=he.h0.mT he 6 rfl
    refine zL hf hc bA m0 rfl fun a w hf hc=>zD θ he hi hf 8 rfl rfl rfl hc
   ·intro E θ a w hD hi hp he hc
    have e0:=hp.o 0 rfl
    have e1:=hp.o 1 rfl
    have e5:=hD.f 0 rfl hi
    try dsimp only at hc
    rw [e5] at hc
    have hf:=(he.h0.mP he 7 rfl e0).mP he 8 rfl e1
    refine zP hf rfl (pIA Tryz.underlying95 aA1 rfl rfl (At.len cy (by simp only [bY,List.length_set]))) fun a hf=>zD θ he hi hf 9 rfl rfl rfl ?_
    try dsimp only
    rw [bB 2 e5 rfl]
    exact hc
   ·intro E θ a w hD hi hp he hc
    have e2:=hp.o 2 rfl
    have e5:=hD.f 1 rfl hi
    try dsimp only at hc
    rw [e5] at hc
    have hf:=he.h0.mP he 9 rfl e2
    refine zE hf hc rfl (bT aDt rfl (eJ (sz:=1) (i:=xv.toNat) (j:=0) m8 c1 (by subst b9; rfl))) fun a w hf hc=>zD θ he hi hf 10 rfl rfl rfl ?_
    try dsimp only
    rw [bB 3 e5 rfl]
    exact hc
   ·intro E θ a w hD hi hp he hc
    have hf:=he.h0.mT he 5 rfl
    refine zL hf hc bA m1 rfl fun a w hf hc=>zD θ he hi hf 11 rfl rfl rfl hc
   ·intro E θ a w hD hi hp he hc
    have e3:=hp.o 3 rfl
    have e4:=hp.o 4 rfl
    try dsimp only at hc
    rw [hi] at hc
    have hf:=(he.h0.mP he 10 rfl e3).mP he 11 rfl e4
    replace hc:=vC (hc.pick k9) (sH (sP bv b9))
    replace hc:Ctx G (.gm ((B.2 xv.toNat).2) (ALq Value.bool mm)::aQ bK ((aF B.2 D).eraseIdx xv.toNat)::.box ac [i6 xv] 3::.box aa [i6 p_] 3::.box b_ [pq V] 47::.box H [.slice Z X.length d] 50::.row Z d (X.map aJ) 59 2::.box O [.slice (some ⟨g,0,none⟩) U.length Y] 30::.row (some ⟨g,0,none⟩) Y ((U.set p_.toNat xv).map aD) 3 1::.box I [.slice (some ⟨p,0,none⟩) D.length B.1] 95::.row (some ⟨p,0,none⟩) B.1 ((aF B.2 D).map (Kd.v bK)) 96 1::.box R [.func (.func 39) #[] #[pq b_,pq H,pq O,pq I,pq R]] 98::Lb) w:=hc
    refine stAU (enc:=Value.bool) (kvs:=mm) (k:=p_) (v:=true) hf hc rfl Tryz.underlying96 Tryz.underlying3 rfl rfl rfl u0 fun w hc=>?_
    replace hc:=((((((((((hc.pick k9).pick k9).pick k9).pick k9).pick k9).pick k9).pick k9).pick k9).pick k9).pick k10).pick k10
    replace hc:=aDj (K:=bK) (y:=some (eP mm p_ true)) (sH (sP bv b9)) rfl hc
    replace hc:Ctx G (.row (some ⟨p,0,none⟩) B.1 ((aF B.2 (D.set xv.toNat (some (eP mm p_ true)))).map (Kd.v bK)) 96 1::aQ bK (aF B.2 (D.set xv.toNat (some (eP mm p_ true))))::.box ac [i6 xv] 3::.box aa [i6 p_] 3::.box b_ [pq V] 47::.box H [.slice Z X.length d] 50::.row Z d (X.map aJ) 59 2::.box O [.slice (some ⟨g,0,none⟩) U.length Y] 30::.row (some ⟨g,0,none⟩) Y ((U.set p_.toNat xv).map aD) 3 1::.box I [.slice (some ⟨p,0,none⟩) D.length B.1] 95::.box R [.func (.func 39) #[] #[pq b_,pq H,pq O,pq I,pq R]] 98::Lb) w:=hc
    replace hc:=(((((((((hc.pick k1).pick k1).pick k9).pick k9).pick k9).pick k9).pick k9).pick k9).pick k9).pick k9
    refine zG θ he hi hf rfl ?_
    try dsimp only
    rw [aR E 5]
    exact hc
   ·intro E θ a w n he hc
    have hf:=he.h0
    have e5:=n 5 rfl
    replace hf:=hf.more he 6 rfl (onT)
    replace hf:=hf.more he 5 rfl (onT)
    replace hf:=hf.more he 4 rfl (onT)
    replace hf:=hf.more he 3 rfl (onT)
    replace hf:=hf.more he 2 rfl (onT)
    replace hf:=hf.more he 1 rfl (onT)
    replace hf:=hf.more he 0 rfl (onT)
    try dsimp only at hc
    rw [e5] at hc
    exact ⟨hf.kp rfl,hc⟩
   rintro a w ⟨hf,hc⟩
   refine h8 _ _ ?_
   refine rH fun K9 h9=>rH fun K10 ds=>?_
   obtain ⟨gk,cb,hF⟩:=aA hF
   obtain ⟨c0,c3⟩:=jE hc m8 (dE cb)
   obtain ⟨bm,b1,hF⟩:=aA hF
   obtain ⟨b0,dd,hF⟩:=aA hF
   obtain ⟨cp,o,hd,cv,qp,d5⟩:=s.atm dd
   refine aBm (fun _ _ h=>h) rfl (fun θ=>[⟨none,none,1,pq b_⟩,⟨none,none,2,pq H⟩,⟨none,none,3,pq O⟩,⟨none,none,4,pq I⟩,⟨none,none,5,pq R⟩,⟨none,none,6,pq aa⟩,⟨none,none,7,pq ac⟩,⟨some 0,none,26,.slice (some ⟨p,0,none⟩) D.length B.1⟩,⟨some 1,none,27,i6 xv⟩,⟨some 2,none,28,.pointer (some ⟨p,xv.toNat * 1,none⟩)⟩,⟨some 3,none,29,.map (some ((B.2 xv.toNat).2))⟩,⟨some 4,none,30,i6 ((bm.length:Nat):Int)⟩,⟨some 5,none,31,pq V⟩,⟨some 6,none,32,pq V⟩,⟨some 7,none,33,.pointer (some ⟨V,0 + 0,none⟩)⟩,⟨some 8,none,34,.pointer (some ⟨V,0 + 0 + 1,none⟩)⟩,⟨some 9,none,35,.slice t x.Roster.Stations.length u⟩,⟨some 10,none,36,i6 xv⟩,⟨some 11,none,37,.pointer (some ⟨cp,o,none⟩)⟩,⟨some 12,none,38,.pointer (some ⟨cp,o + 0,none⟩)⟩,⟨some 13,none,39,i6 b0.Places⟩,⟨some 14,none,40,.bool (decide (((bm.length:Nat):Int)≤b0.Places))⟩]) (fun E θ=>.box ac [i6 xv] 3::.box aa [i6 p_] 3::.box b_ [pq V] 47::.box H [.slice Z X.length d] 50::.row Z d (X.map aJ) 59 2::.box O [.slice (some ⟨g,0,none⟩) U.length Y] 30::.row (some ⟨g,0,none⟩) Y ((U.set p_.toNat xv).map aD) 3 1::.box I [.slice (some ⟨p,0,none⟩) D.length B.1] 95::.row (some ⟨p,0,none⟩) B.1 ((aF B.2 (D.set xv.toNat (some (eP mm p_ true)))).map (Kd.v bK)) 96 1::aQ bK (aF B.2 (D.set xv.toNat (some (eP mm p_ true))))::.box R [.func (.func 39) #[] #[pq b_,pq H,pq O,pq I,pq R]] 98::Lb) [] (fun a w=>Has 95 a [(1,pq b_),(2,pq H),(3,pq O),(4,pq I),(5,pq R),(6,pq aa),(7,pq ac),(40,.bool (decide (((bm.length:Nat):Int)≤b0.Places)))]∧Ctx G (.box ac [i6 xv] 3::.box aa [i6 p_] 3::.box b_ [pq V] 47::.box H [.slice Z X.length d] 50::.row Z d (X.map aJ) 59 2::.box O [.slice (some ⟨g,0,none⟩) U.length Y] 30::.row (some ⟨g,0,none⟩) Y ((U.set p_.toNat xv).map aD) 3 1::.box I [.slice (some ⟨p,0,none⟩) D.length B.1] 95::.row (some ⟨p,0,none⟩) B.1 ((aF B.2 (D.set xv.toNat (some (eP mm p_ true)))).map (Kd.v bK)) 96 1::aQ bK (aF B.2 (D.set xv.toNat (some (eP mm p_ true))))::.box R [.func (.func 39) #[] #[pq b_,pq H,pq O,pq I,pq R]] 98::Lb) w) aU (by kernel_rfl) (by kernel_rfl) (fB.of hf ⟨rfl,rfl,rfl,rfl,rfl,rfl,rfl,trivial,trivial,trivial,trivial,trivial,trivial,trivial,trivial,trivial,trivial,trivial,trivial,trivial,trivial,trivial,trivial⟩) hc ⟨?_,?_,?_,?_,?_,?_,?_,?_,?_,?_,?_,?_,?_,?_,?_,trivial⟩ ?_ ?_
   ·intro E θ a w hD hi hp he hc
    have hf:=he.h0.mT he 3 rfl
    refine zL hf hc aAm m7 rfl fun a w hf hc=>zD θ he hi hf 7 rfl rfl rfl hc
   ·intro E θ a w hD hi hp he hc
    have hf:=he.h0.mT he 6 rfl
    refine zL hf hc bA m0 rfl fun a w hf hc=>zD θ he hi hf 8 rfl rfl rfl hc
   ·intro E θ a w hD hi hp he hc
    have e0:=hp.o 0 rfl
    have e1:=hp.o 1 rfl
    have hf:=(he.h0.mP he 7 rfl e0).mP he 8 rfl e1
    refine zP hf rfl (pIA Tryz.underlying95 aA1 rfl rfl (At.len c0 (by simp only [bY,List.length_set]))) fun a hf=>zD θ he hi hf 9 rfl rfl rfl hc
   ·intro E θ a w hD hi hp he hc
    have e2:=hp.o 2 rfl
    have hf:=he.h0.mP he 9 rfl e2
    refine zE hf hc rfl (bT aDt rfl (eJ (sz:=1) (i:=xv.toNat) (j:=0) m8 c3 (by subst b1; rfl))) fun a w hf hc=>zD θ he hi hf 10 rfl rfl rfl hc
   ·intro E θ a w hD hi hp he hc
    have e3:=hp.o 3 rfl
    have hf:=he.h0.mP he 10 rfl e3
    refine zE hf hc rfl (eLenA (enc:=Value.bool) (kvs:=bm) (aH2 m9 (sP cb b1)) Tryz.underlying96 rfl) fun a w hf hc=>zD θ he hi hf 11 rfl rfl rfl hc
   ·intro E θ a w hD hi hp he hc
    have hf:=he.h0.mT he 0 rfl
    refine zL hf hc nI m2 rfl fun a w hf hc=>zD θ he hi hf 12 rfl rfl rfl hc
   ·intro E θ a w hD hi hp he hc
    have e5:=hp.o 5 rfl
    have hf:=he.h0.mP he 12 rfl e5
    refine sp 1 hf rfl fun a hf=>zD θ he hi hf 13 rfl rfl rfl hc
   ·intro E θ a w hD hi hp he hc
    have e6:=hp.o 6 rfl
    have hf:=he.h0.mP he 13 rfl e6
    refine zP hf rfl (pFA pI rfl) fun a hf=>zD θ he hi hf 14 rfl rfl rfl hc
   ·intro E θ a w hD hi hp he hc
    have e7:=hp.o 7 rfl
    have hf:=he.h0.mP he 14 rfl e7
    refine zP hf rfl (pFA eG rfl) fun a hf=>zD θ he hi hf 15 rfl rfl rfl hc
   ·intro E θ a w hD hi hp he hc
    have e8:=hp.o 8 rfl
    have hf:=he.h0.mP he 15 rfl e8
    refine zE hf hc rfl (bT lN rfl (bL (j:=1) am rfl)) fun a w hf hc=>zD θ he hi hf 16 rfl rfl rfl hc
   ·intro E θ a w hD hi hp he hc
    have hf:=he.h0.mT he 6 rfl
    refine zL hf hc bA m0 rfl fun a w hf hc=>zD θ he hi hf 17 rfl rfl rfl hc
   ·intro E θ a w hD hi hp he hc
    have e9:=hp.o 9 rfl
    have a1:=hp.o 10 rfl
    have hf:=(he.h0.mP he 16 rfl e9).mP he 17 rfl a1
    refine zP hf rfl (pIA Tryz.underlying24 pF rfl rfl cv) fun a hf=>zD θ he hi hf 18 rfl rfl rfl hc
   ·intro E θ a w hD hi hp he hc
    have a3:=hp.o 11 rfl
    have hf:=he.h0.mP he 18 rfl a3
    refine zP hf rfl (pFA pW rfl) fun a hf=>zD θ he hi hf 19 rfl rfl rfl hc
   ·intro E θ a w hD hi hp he hc
    have a0:=hp.o 12 rfl
    have hf:=he.h0.mP he 19 rfl a0
    refine zE hf hc rfl (bT bA rfl (bL (j:=0) qp rfl)) fun a w hf hc=>zD θ he hi hf 20 rfl rfl rfl hc
   ·intro E θ a w hD hi hp he hc
    have e4:=hp.o 4 rfl
    have a2:=hp.o 13 rfl
    have hf:=(he.h0.mP he 11 rfl e4).mP he 20 rfl a2
    refine sp 1 hf rfl fun a hf=>zD θ he hi hf 21 rfl rfl rfl hc
   ·intro E θ a w n he hc
    have hf:=he.h0
    have a4:=n 14 rfl
    replace hf:=hf.more he 21 rfl (onP a4)
    replace hf:=hf.more he 6 rfl (onT)
    replace hf:=hf.more he 5 rfl (onT)
    replace hf:=hf.more he 4 rfl (onT)
    replace hf:=hf.more he 3 rfl (onT)
    replace hf:=hf.more he 2 rfl (onT)
    replace hf:=hf.more he 1 rfl (onT)
    replace hf:=hf.more he 0 rfl (onT)
    exact ⟨hf.kp rfl,hc⟩
   rintro a w ⟨hf,hc⟩
   refine ds _ _ ?_
   refine aC1 (b:=(decide (((bm.length:Nat):Int)≤b0.Places))) hf rfl (fun hb=>?_) (fun hb=>?_)
   ·replace hF:=iL hb hF
    clear hb
    refine rRet ?_
    refine aN ?_
    refine bN ?_
    refine aN ?_
    replace hc:Ctx G (.box ac [i6 xv] 3::.box aa [i6 p_] 3::.box b_ [pq V] 47::.box H [.slice Z X.length d] 50::.row Z d (X.map aJ) 59 2::.box O [.slice (some ⟨g,0,none⟩) ((U.set p_.toNat xv).length) Y] 30::.row (some ⟨g,0,none⟩) Y ((U.set p_.toNat xv).map aD) 3 1::.box I [.slice (some ⟨p,0,none⟩) ((D.set xv.toNat (some (eP mm p_ true))).length) B.1] 95::.row (some ⟨p,0,none⟩) B.1 ((aF B.2 (D.set xv.toNat (some (eP mm p_ true)))).map (Kd.v bK)) 96 1::aQ bK (aF B.2 (D.set xv.toNat (some (eP mm p_ true))))::.box R [.func (.func 39) #[] #[pq b_,pq H,pq O,pq I,pq R]] 98::Lb) w:=by simp only [List.length_set] at hc ⊢; exact hc
    replace hc:=hc.drop k0
    exact ⟨(X,(U.set p_.toNat xv),(D.set xv.toNat (some (eP mm p_ true)))),_,(sj hF).symm,⟨Z,d,(some ⟨g,0,none⟩),Y,(some ⟨p,0,none⟩),B,rfl⟩,hc⟩
   ·replace hF:=jM hb hF
    clear hb
    refine aC7 ?_
    refine h9 _ _ ?_
    refine rH fun K11 dk=>tS (fun _ _ h=>h) rfl ?_
    refine zL hf hc bA m1 rfl fun a w hf hc=>sp 1 hf rfl fun a hf=>aP ?_
    refine dk _ _ ?_
    refine rH fun K12 dz=>rH fun K13 du=>tS (fun _ _ h=>h) rfl ?_
    refine zL hf hc nI m2 rfl fun a w hf hc=>sp 1 hf rfl fun a hf=>zP hf rfl (pFA pI rfl) fun a hf=>zP hf rfl (pFA eZ rfl) fun a hf=>zE hf hc rfl (bT mA rfl (bL (j:=0) am rfl)) fun a w hf hc=>zP hf rfl (bC Tryz.underlying23 rfl) fun a hf=>sp 1 hf rfl fun a hf=>aP ?_
    refine du _ _ ?_
    refine aAj ?_
    obtain ⟨b5,cz,hF⟩:=aA hF
    let S14:(Int × Int)→Act→World→Prop:=(fun (zz:Int × Int) a w=>Has 95 a [(1,pq b_),(2,pq H),(3,pq O),(4,pq I),(5,pq R),(7,pq ac),(8,i6 zz.1),(47,i6 ((x.Roster.People.length:Nat):Int)),(48,i6 zz.2)]∧Ctx G (.box ac [i6 xv] 3::.box aa [i6 p_] 3::.box b_ [pq V] 47::.box H [.slice Z X.length d] 50::.row Z d (X.map aJ) 59 2::.box O [.slice (some ⟨g,0,none⟩) ((U.set p_.toNat xv).length) Y] 30::.row (some ⟨g,0,none⟩) Y ((U.set p_.toNat xv).map aD) 3 1::.box I [.slice (some ⟨p,0,none⟩) ((D.set xv.toNat (some (eP mm p_ true))).length) B.1] 95::.row (some ⟨p,0,none⟩) B.1 ((aF B.2 (D.set xv.toNat (some (eP mm p_ true)))).map (Kd.v bK)) 96 1::aQ bK (aF B.2 (D.set xv.toNat (some (eP mm p_ true))))::.box R [.func (.func 39) #[] #[pq b_,pq H,pq O,pq I,pq R]] 98::Lb) w)
    have c8:∀ (zz:Int × Int) a w,b5=.go zz→S14 zz a w→K12 a w:=by
     rintro ⟨q,ag⟩ a w rfl ⟨hf,hc⟩
     replace hF:=bP hF
     refine dz _ _ ?_
     refine rH fun K15 dq=>tS (fun _ _ h=>h) rfl ?_
     refine zL hf hc aAm m7 rfl fun a w hf hc=>zL hf hc bA m0 rfl fun a w hf hc=>?_
     obtain ⟨gp,bz,hF⟩:=aA hF
     obtain ⟨c5,c4⟩:=jE hc m8 (dE bz)
     refine zP hf rfl (pIA Tryz.underlying95 aA1 rfl rfl (At.len c5 (by simp only [bY,List.length_set]))) fun a hf=>?_
     obtain ⟨ap,bt,hF⟩:=aA hF
     refine zE hf hc rfl (bT aDt rfl (eJ (sz:=1) (i:=xv.toNat) (j:=0) m8 c4 (by subst bt; rfl))) fun a w hf hc=>sp 1 hf rfl fun a hf=>?_
     replace hc:=vC (hc.pick k9) (sH (sP bz bt))
     replace hc:Ctx G (.gm ((B.2 xv.toNat).2) (ALq Value.bool ap)::aQ bK ((aF B.2 (D.set xv.toNat (some (eP mm p_ true)))).eraseIdx xv.toNat)::.box ac [i6 xv] 3::.box aa [i6 p_] 3::.box b_ [pq V] 47::.box H [.slice Z X.length d] 50::.row Z d (X.map aJ) 59 2::.box O [.slice (some ⟨g,0,none⟩) ((U.set p_.toNat xv).length) Y] 30::.row (some ⟨g,0,none⟩) Y ((U.set p_.toNat xv).map aD) 3 1::.box I [.slice (some ⟨p,0,none⟩) ((D.set xv.toNat (some (eP mm p_ true))).length) B.1] 95::.row (some ⟨p,0,none⟩) B.1 ((aF B.2 (D.set xv.toNat (some (eP mm p_ true)))).map (Kd.v bK)) 96 1::.box R [.func (.func 39) #[] #[pq b_,pq H,pq O,pq I,pq R]] 98::Lb) w:=hc
     refine stAD (enc:=Value.bool) (kvs:=ap) (k:=q) hf hc rfl rfl Tryz.underlying96 Tryz.underlying3 rfl rfl u0 fun w hc=>?_
     replace hc:=((((((((((hc.pick k9).pick k9).pick k9).pick k9).pick k9).pick k9).pick k9).pick k9).pick k9).pick k10).pick k10
     replace hc:=aDj (K:=bK) (y:=some (vV ap q)) (sH (sP bz bt)) rfl hc
     replace hc:Ctx G (.row (some ⟨p,0,none⟩) B.1 ((aF B.2 ((D.set xv.toNat (some (eP mm p_ true))).set xv.toNat (some (vV ap q)))).map (Kd.v bK)) 96 1::aQ bK (aF B.2 ((D.set xv.toNat (some (eP mm p_ true))).set xv.toNat (some (vV ap q))))::.box ac [i6 xv] 3::.box aa [i6 p_] 3::.box b_ [pq V] 47::.box H [.slice Z X.length d] 50::.row Z d (X.map aJ) 59 2::.box O [.slice (some ⟨g,0,none⟩) ((U.set p_.toNat xv).length) Y] 30::.row (some ⟨g,0,none⟩) Y ((U.set p_.toNat xv).map aD) 3 1::.box I [.slice (some ⟨p,0,none⟩) ((D.set xv.toNat (some (eP mm p_ true))).length) B.1] 95::.box R [.func (.func 39) #[] #[pq b_,pq H,pq O,pq I,pq R]] 98::Lb) w:=hc
     replace hc:=(((((((((hc.pick k1).pick k1).pick k9).pick k9).pick k9).pick k9).pick k9).pick k9).pick k9).pick k9
     refine aP ?_
     refine dq _ _ ?_
     refine rH fun K16 dj=>tS (fun _ _ h=>h) rfl ?_
     refine zL hf hc kJ m5 rfl fun a w hf hc=>sp 1 hf rfl fun a hf=>?_
     obtain ⟨gj,b4,hF⟩:=aA hF
     obtain ⟨da,d9⟩:=jE hc m6 b4
     refine zP hf rfl (pIA Tryz.underlying30 eL rfl rfl (At.len da (by simp only [List.length_set]))) fun a hf=>aBi (sz:=1) (vs:=[i6 (-1)]) (o':=0) (z:=(-1)) (xs:=(U.set p_.toNat xv)) hf hc rfl rfl rfl rfl eL rfl (fun x=>(bF x).1) (oE b4) (fun _ _=>rfl) rfl u6 fun w hc=>aP ?_
     refine dj _ _ ?_
     refine rH fun K17 dx=>tS (fun _ _ h=>h) rfl ?_
     refine zL hf hc aEr m3 rfl fun a w hf hc=>sp 1 hf rfl fun a hf=>zL hf hc bA m0 rfl fun a w hf hc=>zP hf rfl (cF (cells:=[i6 q,i6 xv]) sK rfl rfl) fun a hf=>jD (rows:=([(⟨q,xv⟩:aE)]:List aE).map aJ) (vs:=[(0,.agg #[i6 q,i6 xv])]) hf hc rfl rfl aIh rfl ⟨rfl,rfl,rfl,trivial⟩ rfl rfl fun d1 a w hf hc=>?_
     obtain ⟨un,d4,hF⟩:=aA hF
     refine kY (xs:=X) (ys:=([(⟨q,xv⟩:aE)]:List aE)) hf hc rfl rfl aIh rfl rfl rfl rfl rfl tZ (fG hc m0) (fun _ _=>u5) (by simpa using cP d4) fun cr ck a w hf hc=>zW hf hc sz_50 u4 rfl fun w hc=>aP ?_
     refine dx _ _ ?_
     refine rH fun K18 d3=>tS (fun _ _ h=>h) rfl ?_
     refine zL hf hc aKf m11 rfl fun a w hf hc=>sp 1 hf rfl fun a hf=>?_
     replace hc:Ctx G (.row (some ⟨d1,0,none⟩) 1 (([(⟨q,xv⟩:aE)]:List aE).map aJ) 59 2::.box ac [i6 xv] 3::.box aa [i6 p_] 3::.box b_ [pq V] 47::.box H [.slice cr ((X++[(⟨q,xv⟩:aE)]).length) ck] 50::.row cr ck ((X++[(⟨q,xv⟩:aE)]).map aJ) 59 2::.box O [.slice (some ⟨g,0,none⟩) (((U.set p_.toNat xv).set q.toNat (-1)).length) Y] 30::.row (some ⟨g,0,none⟩) Y (((U.set p_.toNat xv).set q.toNat (-1)).map aD) 3 1::.box I [.slice (some ⟨p,0,none⟩) (((D.set xv.toNat (some (eP mm p_ true))).set xv.toNat (some (vV ap q))).length) B.1] 95::.row (some ⟨p,0,none⟩) B.1 ((aF B.2 ((D.set xv.toNat (some (eP mm p_ true))).set xv.toNat (some (vV ap q)))).map (Kd.v bK)) 96 1::aQ bK (aF B.2 ((D.set xv.toNat (some (eP mm p_ true))).set xv.toNat (some (vV ap q))))::.box R [.func (.func 39) #[] #[pq b_,pq H,pq O,pq I,pq R]] 98::Lb) w:=by simp only [List.length_set] at hc ⊢; exact hc
     obtain ⟨b6,c2,hF⟩:=aA hF
     refine zC hf aJ3 rfl (by have hq:=ih q (⟨x.Roster,x.rank⟩:aT) (X++[(⟨q,xv⟩:aE)]) ((U.set p_.toNat xv).set q.toNat (-1)) ((D.set xv.toNat (some (eP mm p_ true))).set xv.toNat (some (vV ap q))) ab s am (((((((((hc.pick k11).pick k11).pick k11).pick k11).pick k11).pick k11).pick k11).pick k11).pick k11) c2; (try simp only [List.length_set] at hq); exact hq) ?_
     rintro _ w ⟨dt,di,dg,dr,d2,cd,rfl,hc⟩
     refine ⟨_,rfl,fun a hf=>?_⟩
     refine aP ?_
     refine d3 _ _ ?_
     refine rRet ?_
     refine bN ?_
     refine aN ?_
     replace hc:=(((((((((((hc.drop k10).drop k9).pick k8).pick k4).pick k4).pick k8).pick k5).pick k8).pick k6).pick k8).pick k8).pick k9
     exact ⟨(b6.1,b6.2.1,b6.2.2),_,(sj hF).symm,⟨dt,di,dg,dr,d2,cd,rfl⟩,hc⟩
    have d8:∀ r,b5=.out r→r=oq:=by
     rintro r rfl
     exact sj hF
    replace hc:Ctx G (.box ac [i6 xv] 3::.box aa [i6 p_] 3::.box b_ [pq V] 47::.box H [.slice Z X.length d] 50::.row Z d (X.map aJ) 59 2::.box O [.slice (some ⟨g,0,none⟩) ((U.set p_.toNat xv).length) Y] 30::.row (some ⟨g,0,none⟩) Y ((U.set p_.toNat xv).map aD) 3 1::.box I [.slice (some ⟨p,0,none⟩) ((D.set xv.toNat (some (eP mm p_ true))).length) B.1] 95::.row (some ⟨p,0,none⟩) B.1 ((aF B.2 (D.set xv.toNat (some (eP mm p_ true)))).map (Kd.v bK)) 96 1::aQ bK (aF B.2 (D.set xv.toNat (some (eP mm p_ true))))::.box R [.func (.func 39) #[] #[pq b_,pq H,pq O,pq I,pq R]] 98::Lb) w:=by simp only [List.length_set] at hc ⊢; exact hc
    refine rLoop N (aJ8 (S:=S14) (x:=b5) ?_ N (p_,0) _ _ ⟨hf.kp rfl,hc⟩ cz)
    clear hF hf hc
    rintro ⟨q,ag⟩ cx a w KB14 ⟨hf,hc⟩ hF bu c6
    unfold dB at hF
    refine rH fun K19 dn=>tS (fun _ _ h=>h) rfl ?_
    refine sp 1 hf rfl fun a hf=>aP ?_
    refine dn _ _ ?_
    refine rH fun K20 dv=>aC1 (b:=(decide (ag < ((x.Roster.People.length:Nat):Int)))) hf rfl (fun hb=>?_) (fun hb=>?_)
    ·replace hF:=iL hb hF
     clear hb
     refine aC7 ?_
     refine dv _ _ ?_
     refine rH fun K21 d0=>?_
     have b8:∀ (b2:Int) a w,Has 95 a [(1,pq b_),(2,pq H),(3,pq O),(4,pq I),(5,pq R),(7,pq ac),(8,i6 b2),(47,i6 ((x.Roster.People.length:Nat):Int)),(48,i6 ag)]→Ctx G (.box ac [i6 xv] 3::.box aa [i6 p_] 3::.box b_ [pq V] 47::.box H [.slice Z X.length d] 50::.row Z d (X.map aJ) 59 2::.box O [.slice (some ⟨g,0,none⟩) ((U.set p_.toNat xv).length) Y] 30::.row (some ⟨g,0,none⟩) Y ((U.set p_.toNat xv).map aD) 3 1::.box I [.slice (some ⟨p,0,none⟩) ((D.set xv.toNat (some (eP mm p_ true))).length) B.1] 95::.row (some ⟨p,0,none⟩) B.1 ((aF B.2 (D.set xv.toNat (some (eP mm p_ true)))).map (Kd.v bK)) 96 1::aQ bK (aF B.2 (D.set xv.toNat (some (eP mm p_ true))))::.box R [.func (.func 39) #[] #[pq b_,pq H,pq O,pq I,pq R]] 98::Lb) w→fJ N ag b2=some cx→K21 a w:=by
      repeat (clear hF)
      repeat (clear hc)
      repeat (clear hf)
      intro b2 a w hf hc hF
      unfold fJ at hF
      refine d0 _ _ ?_
      refine tS (fun _ _ h=>h) rfl ?_
      refine sp 2 hf rfl fun a hf=>aP ?_
      exact c6 (b2,W (ag + 1)) _ _ (sj hF).symm ⟨hf.kp rfl,hc⟩
     refine aAj ?_
     refine rH fun K22 dm=>tS (fun _ _ h=>h) rfl ?_
     refine sp 2 hf rfl fun a hf=>aP ?_
     refine dm _ _ ?_
     refine rH fun K23 df=>?_
     obtain ⟨rg,cq,hF⟩:=aA hF
     refine rCut (fun a w=>Has 95 a [(1,pq b_),(2,pq H),(3,pq O),(4,pq I),(5,pq R),(7,pq ac),(8,i6 q),(9,i6 ag),(47,i6 ((x.Roster.People.length:Nat):Int)),(48,i6 ag),(75,.bool rg)]∧Ctx G (.box ac [i6 xv] 3::.box aa [i6 p_] 3::.box b_ [pq V] 47::.box H [.slice Z X.length d] 50::.row Z d (X.map aJ) 59 2::.box O [.slice (some ⟨g,0,none⟩) ((U.set p_.toNat xv).length) Y] 30::.row (some ⟨g,0,none⟩) Y ((U.set p_.toNat xv).map aD) 3 1::.box I [.slice (some ⟨p,0,none⟩) ((D.set xv.toNat (some (eP mm p_ true))).length) B.1] 95::.row (some ⟨p,0,none⟩) B.1 ((aF B.2 (D.set xv.toNat (some (eP mm p_ true)))).map (Kd.v bK)) 96 1::aQ bK (aF B.2 (D.set xv.toNat (some (eP mm p_ true))))::.box R [.func (.func 39) #[] #[pq b_,pq H,pq O,pq I,pq R]] 98::Lb) w) ?_ ?_
     ·clear hF
      have hF:=cq
      clear cq
      obtain ⟨gn,bn,hF⟩:=aA hF
      obtain ⟨gd,ga⟩:=jE hc m8 (dE bn)
      obtain ⟨bx,a8,hF⟩:=aA hF
      cases hb:((lkA bx ag).getD false)
      ·replace hF:=jM hb hF
       try rw [hb] at hf
       try rw [hb] at hc
       have cc:=hb
       clear hb
       obtain ⟨cs,cu⟩:=jE hc m8 (dE bn)
       refine aBm (fun _ _ h=>h) rfl (fun θ=>(⟨none,none,1,pq b_⟩::⟨none,none,2,pq H⟩::⟨none,none,3,pq O⟩::⟨none,none,4,pq I⟩::⟨none,none,5,pq R⟩::⟨none,none,7,pq ac⟩::⟨none,none,8,i6 q⟩::⟨none,none,9,i6 ag⟩::⟨none,none,47,i6 ((x.Roster.People.length:Nat):Int)⟩::⟨none,none,48,i6 ag⟩::⟨some 0,none,51,.slice (some ⟨p,0,none⟩) ((D.set xv.toNat (some (eP mm p_ true))).length) B.1⟩::⟨some 1,none,52,i6 xv⟩::⟨some 2,none,53,.pointer (some ⟨p,xv.toNat * 1,none⟩)⟩::⟨some 3,none,54,.map (some ((B.2 xv.toNat).2))⟩::⟨some 4,none,55,i6 ag⟩::⟨some 5,none,56,.bool false⟩::⟨some 6,none,57,.bool false⟩::⟨some 7,none,58,undef⟩::⟨some 8,none,59,undef⟩::⟨some 9,none,60,undef⟩::⟨some 10,none,61,undef⟩::⟨some 11,none,62,undef⟩::⟨some 12,none,63,undef⟩::⟨some 13,none,64,undef⟩::⟨some 14,none,65,undef⟩::⟨some 15,none,66,undef⟩::⟨some 16,none,67,undef⟩::⟨some 17,none,68,undef⟩::⟨some 18,none,69,undef⟩::⟨some 19,none,70,undef⟩::⟨some 20,none,71,undef⟩::⟨some 21,none,72,undef⟩::⟨some 22,none,73,undef⟩::⟨some 23,none,74,undef⟩::⟨some 24,none,75,.bool false⟩::[])) (fun E θ=>.box ac [i6 xv] 3::.box aa [i6 p_] 3::.box b_ [pq V] 47::.box H [.slice Z X.length d] 50::.row Z d (X.map aJ) 59 2::.box O [.slice (some ⟨g,0,none⟩) ((U.set p_.toNat xv).length) Y] 30::.row (some ⟨g,0,none⟩) Y ((U.set p_.toNat xv).map aD) 3 1::.box I [.slice (some ⟨p,0,none⟩) ((D.set xv.toNat (some (eP mm p_ true))).length) B.1] 95::.row (some ⟨p,0,none⟩) B.1 ((aF B.2 (D.set xv.toNat (some (eP mm p_ true)))).map (Kd.v bK)) 96 1::aQ bK (aF B.2 (D.set xv.toNat (some (eP mm p_ true))))::.box R [.func (.func 39) #[] #[pq b_,pq H,pq O,pq I,pq R]] 98::Lb) [] (fun a w=>Has 95 a [(1,pq b_),(2,pq H),(3,pq O),(4,pq I),(5,pq R),(7,pq ac),(8,i6 q),(9,i6 ag),(47,i6 ((x.Roster.People.length:Nat):Int)),(48,i6 ag),(58,undef),(59,undef),(60,undef),(61,undef),(62,undef),(63,undef),(64,undef),(65,undef),(66,undef),(67,undef),(68,undef),(69,undef),(70,undef),(71,undef),(72,undef),(73,undef),(74,undef),(75,.bool false)]∧Ctx G (.box ac [i6 xv] 3::.box aa [i6 p_] 3::.box b_ [pq V] 47::.box H [.slice Z X.length d] 50::.row Z d (X.map aJ) 59 2::.box O [.slice (some ⟨g,0,none⟩) ((U.set p_.toNat xv).length) Y] 30::.row (some ⟨g,0,none⟩) Y ((U.set p_.toNat xv).map aD) 3 1::.box I [.slice (some ⟨p,0,none⟩) ((D.set xv.toNat (some (eP mm p_ true))).length) B.1] 95::.row (some ⟨p,0,none⟩) B.1 ((aF B.2 (D.set xv.toNat (some (eP mm p_ true)))).map (Kd.v bK)) 96 1::aQ bK (aF B.2 (D.set xv.toNat (some (eP mm p_ true))))::.box R [.func (.func 39) #[] #[pq b_,pq H,pq O,pq I,pq R]] 98::Lb) w) aU (by kernel_rfl) (by kernel_rfl) (fB.of hf ⟨rfl,rfl,rfl,rfl,rfl,rfl,rfl,rfl,rfl,rfl,trivial,trivial,trivial,trivial,trivial,trivial,trivial,trivial,trivial,trivial,trivial,trivial,trivial,trivial,trivial,trivial,trivial,trivial,trivial,trivial,trivial,trivial,trivial,trivial,trivial,trivial⟩) hc ⟨?_,?_,?_,?_,?_,?_,?_,?_,?_,?_,?_,?_,?_,?_,?_,?_,?_,?_,?_,?_,?_,?_,?_,?_,?_,trivial⟩ ?_ ?_
       ·intro E θ a w hD hi hp he hc
        have hf:=he.h0.mT he 3 rfl
        refine zL hf hc aAm m7 rfl fun a w hf hc=>zD θ he hi hf 10 rfl rfl rfl hc
       ·intro E θ a w hD hi hp he hc
        have hf:=he.h0.mT he 5 rfl
        refine zL hf hc bA m0 rfl fun a w hf hc=>zD θ he hi hf 11 rfl rfl rfl hc
       ·intro E θ a w hD hi hp he hc
        have e0:=hp.o 0 rfl
        have e1:=hp.o 1 rfl
        have hf:=(he.h0.mP he 10 rfl e0).mP he 11 rfl e1
        refine zP hf rfl (pIA Tryz.underlying95 aA1 rfl rfl (At.len cs (by simp only [bY,List.length_set]))) fun a hf=>zD θ he hi hf 12 rfl rfl rfl hc
       ·intro E θ a w hD hi hp he hc
        have e2:=hp.o 2 rfl
        have hf:=he.h0.mP he 12 rfl e2
        refine zE hf hc rfl (bT aDt rfl (eJ (sz:=1) (i:=xv.toNat) (j:=0) m8 cu (by subst a8; rfl))) fun a w hf hc=>zD θ he hi hf 13 rfl rfl rfl hc
       ·intro E θ a w hD hi hp he hc
        have hf:=he.h0.mT he 7 rfl
        refine sp 1 hf rfl fun a hf=>zD θ he hi hf 14 rfl rfl rfl hc
       ·intro E θ a w hD hi hp he hc
        have e3:=hp.o 3 rfl
        have e4:=hp.o 4 rfl
        have hf:=(he.h0.mP he 13 rfl e3).mP he 14 rfl e4
        refine zE hf hc rfl (eLk (enc:=Value.bool) (z0:=false) (m:=(lkA bx)) (alS (aH2 m9 (sP bn a8))) Tryz.underlying96 Tryz.underlying3 zr_4 rfl rfl) fun a w hf hc=>?_
        rw [cc] at hf
        exact zD θ he hi hf 15 rfl rfl rfl hc
       ·intro E θ a w hD hi hp he hc
        have e5:=hp.o 5 rfl
        have hf:=he.h0.mP he 15 rfl e5
        refine sp 1 hf rfl fun a hf=>zD θ he hi hf 16 rfl rfl rfl hc
       ·intro E θ a w hD hi hp he hc
        have e6:=hp.o 6 rfl
        have hf:=(he.h0.mT he 0 rfl).mP he 16 rfl e6
        refine stS hf rfl rfl rfl fun a hf=>zD θ he hi hf 17 rfl rfl rfl hc
       ·intro E θ a w hD hi hp he hc
        have e6:=hp.o 6 rfl
        have hf:=(he.h0.mT he 5 rfl).mP he 16 rfl e6
        refine stS hf rfl rfl rfl fun a hf=>zD θ he hi hf 18 rfl rfl rfl hc
       ·intro E θ a w hD hi hp he hc
        have e6:=hp.o 6 rfl
        have hf:=(he.h0.mT he 7 rfl).mP he 16 rfl e6
        refine stS hf rfl rfl rfl fun a hf=>zD θ he hi hf 19 rfl rfl rfl hc
       ·intro E θ a w hD hi hp he hc
        have e6:=hp.o 6 rfl
        have e7:=hp.o 7 rfl
        have hf:=(he.h0.mP he 16 rfl e6).mP he 17 rfl e7
        refine stS hf rfl rfl rfl fun a hf=>zD θ he hi hf 20 rfl rfl rfl hc
       ·intro E θ a w hD hi hp he hc
        have e6:=hp.o 6 rfl
        have a1:=hp.o 10 rfl
        have hf:=(he.h0.mP he 16 rfl e6).mP he 20 rfl a1
        refine stS hf rfl rfl rfl fun a hf=>zD θ he hi hf 21 rfl rfl rfl hc
       ·intro E θ a w hD hi hp he hc
        have e6:=hp.o 6 rfl
        have e8:=hp.o 8 rfl
        have a3:=hp.o 11 rfl
        have hf:=((he.h0.mP he 16 rfl e6).mP he 18 rfl e8).mP he 21 rfl a3
        refine stS hf rfl rfl rfl fun a hf=>zD θ he hi hf 22 rfl rfl rfl hc
       ·intro E θ a w hD hi hp he hc
        have e6:=hp.o 6 rfl
        have e9:=hp.o 9 rfl
        have a0:=hp.o 12 rfl
        have hf:=((he.h0.mP he 16 rfl e6).mP he 19 rfl e9).mP he 22 rfl a0
        refine stS hf rfl rfl rfl fun a hf=>zD θ he hi hf 23 rfl rfl rfl hc
       ·intro E θ a w hD hi hp he hc
        have e6:=hp.o 6 rfl
        have a2:=hp.o 13 rfl
        have hf:=(he.h0.mP he 16 rfl e6).mP he 23 rfl a2
        refine stS hf rfl rfl rfl fun a hf=>zD θ he hi hf 24 rfl rfl rfl hc
       ·intro E θ a w hD hi hp he hc
        have e6:=hp.o 6 rfl
        have hf:=(he.h0.mT he 0 rfl).mP he 16 rfl e6
        refine stS hf rfl rfl rfl fun a hf=>zD θ he hi hf 25 rfl rfl rfl hc
       ·intro E θ a w hD hi hp he hc
        have e6:=hp.o 6 rfl
        have hf:=(he.h0.mT he 5 rfl).mP he 16 rfl e6
        refine stS hf rfl rfl rfl fun a hf=>zD θ he hi hf 26 rfl rfl rfl hc
       ·intro E θ a w hD hi hp he hc
        have e6:=hp.o 6 rfl
        have hf:=(he.h0.mT he 6 rfl).mP he 16 rfl e6
        refine stS hf rfl rfl rfl fun a hf=>zD θ he hi hf 27 rfl rfl rfl hc
       ·intro E θ a w hD hi hp he hc
        have e6:=hp.o 6 rfl
        have bi:=hp.o 15 rfl
        have hf:=(he.h0.mP he 16 rfl e6).mP he 25 rfl bi
        refine stS hf rfl rfl rfl fun a hf=>zD θ he hi hf 28 rfl rfl rfl hc
       ·intro E θ a w hD hi hp he hc
        have e6:=hp.o 6 rfl
        have bb:=hp.o 18 rfl
        have hf:=(he.h0.mP he 16 rfl e6).mP he 28 rfl bb
        refine stS hf rfl rfl rfl fun a hf=>zD θ he hi hf 29 rfl rfl rfl hc
       ·intro E θ a w hD hi hp he hc
        have e6:=hp.o 6 rfl
        have bf:=hp.o 16 rfl
        have bj:=hp.o 19 rfl
        have hf:=((he.h0.mP he 16 rfl e6).mP he 26 rfl bf).mP he 29 rfl bj
        refine stS hf rfl rfl rfl fun a hf=>zD θ he hi hf 30 rfl rfl rfl hc
       ·intro E θ a w hD hi hp he hc
        have e6:=hp.o 6 rfl
        have bk:=hp.o 17 rfl
        have bg:=hp.o 20 rfl
        have hf:=((he.h0.mP he 16 rfl e6).mP he 27 rfl bk).mP he 30 rfl bg
        refine stS hf rfl rfl rfl fun a hf=>zD θ he hi hf 31 rfl rfl rfl hc
       ·intro E θ a w hD hi hp he hc
        have e6:=hp.o 6 rfl
        have bc:=hp.o 21 rfl
        have hf:=(he.h0.mP he 16 rfl e6).mP he 31 rfl bc
        refine stS hf rfl rfl rfl fun a hf=>zD θ he hi hf 32 rfl rfl rfl hc
       ·intro E θ a w hD hi hp he hc
        have e6:=hp.o 6 rfl
        have a4:=hp.o 14 rfl
        have bp:=hp.o 22 rfl
        have hf:=((he.h0.mP he 16 rfl e6).mP he 24 rfl a4).mP he 32 rfl bp
        refine stS hf rfl rfl rfl fun a hf=>zD θ he hi hf 33 rfl rfl rfl hc
       ·intro E θ a w hD hi hp he hc
        have e6:=hp.o 6 rfl
        have bd:=hp.o 23 rfl
        have hf:=(he.h0.mP he 16 rfl e6).mP he 33 rfl bd
        refine sp 1 hf rfl fun a hf=>zD θ he hi hf 34 rfl rfl rfl hc
       ·intro E θ a w n he hc
        have hf:=he.h0
        have e7:=n 7 rfl
        have e8:=n 8 rfl
        have e9:=n 9 rfl
        have a1:=n 10 rfl
        have a3:=n 11 rfl
        have a0:=n 12 rfl
        have a2:=n 13 rfl
        have a4:=n 14 rfl
        have bi:=n 15 rfl
        have bf:=n 16 rfl
        have bk:=n 17 rfl
        have bb:=n 18 rfl
        have bj:=n 19 rfl
        have bg:=n 20 rfl
        have bc:=n 21 rfl
        have bp:=n 22 rfl
        have bd:=n 23 rfl
        have b7:=n 24 rfl
        replace hf:=hf.more he 34 rfl (onP b7)
        replace hf:=hf.more he 33 rfl (onP bd)
        replace hf:=hf.more he 32 rfl (onP bp)
        replace hf:=hf.more he 31 rfl (onP bc)
        replace hf:=hf.more he 30 rfl (onP bg)
        replace hf:=hf.more he 29 rfl (onP bj)
        replace hf:=hf.more he 28 rfl (onP bb)
        replace hf:=hf.more he 27 rfl (onP bk)
        replace hf:=hf.more he 26 rfl (onP bf)
        replace hf:=hf.more he 25 rfl (onP bi)
        replace hf:=hf.more he 24 rfl (onP a4)
        replace hf:=hf.more he 23 rfl (onP a2)
        replace hf:=hf.more he 22 rfl (onP a0)
        replace hf:=hf.more he 21 rfl (onP a3)
        replace hf:=hf.more he 20 rfl (onP a1)
        replace hf:=hf.more he 19 rfl (onP e9)
        replace hf:=hf.more he 18 rfl (onP e8)
        replace hf:=hf.more he 17 rfl (onP e7)
        replace hf:=hf.more he 9 rfl (onT)
        replace hf:=hf.more he 8 rfl (onT)
        replace hf:=hf.more he 7 rfl (onT)
        replace hf:=hf.more he 6 rfl (onT)
        replace hf:=hf.more he 5 rfl (onT)
        replace hf:=hf.more he 4 rfl (onT)
        replace hf:=hf.more he 3 rfl (onT)
        replace hf:=hf.more he 2 rfl (onT)
        replace hf:=hf.more he 1 rfl (onT)
        replace hf:=hf.more he 0 rfl (onT)
        exact ⟨hf.kp rfl,hc⟩
       rintro a w ⟨hf,hc⟩
       refine cV ?_
       obtain rfl:=sj hF
       exact ⟨hf.kp rfl,hc⟩
      ·replace hF:=iL hb hF
       try rw [hb] at hf
       try rw [hb] at hc
       have cc:=hb
       clear hb
       obtain ⟨c7,dc⟩:=jE hc m8 (dE bn)
       obtain ⟨d6,an,hF⟩:=aA hF
       obtain ⟨gb,a9,hF⟩:=aA hF
       obtain ⟨d7,a7,hF⟩:=aA hF
       refine aBm (fun _ _ h=>h) rfl (fun θ=>(⟨none,none,1,pq b_⟩::⟨none,none,2,pq H⟩::⟨none,none,3,pq O⟩::⟨none,none,4,pq I⟩::⟨none,none,5,pq R⟩::⟨none,none,7,pq ac⟩::⟨none,none,8,i6 q⟩::⟨none,none,9,i6 ag⟩::⟨none,none,47,i6 ((x.Roster.People.length:Nat):Int)⟩::⟨none,none,48,i6 ag⟩::⟨some 0,none,51,.slice (some ⟨p,0,none⟩) ((D.set xv.toNat (some (eP mm p_ true))).length) B.1⟩::⟨some 1,none,52,i6 xv⟩::⟨some 2,none,53,.pointer (some ⟨p,xv.toNat * 1,none⟩)⟩::⟨some 3,none,54,.map (some ((B.2 xv.toNat).2))⟩::⟨some 4,none,55,i6 ag⟩::⟨some 5,none,56,.bool true⟩::⟨some 6,none,57,.bool true⟩::⟨some 7,none,58,pq V⟩::⟨some 8,none,59,i6 xv⟩::⟨some 9,none,60,i6 ag⟩::⟨some 10,none,61,pq V⟩::⟨some 11,none,62,.pointer (some ⟨V,0 + 2,none⟩)⟩::⟨some 12,none,63,.pointer (some ⟨V,0 + 2 + xv.toNat * 12,none⟩)⟩::⟨some 13,none,64,.pointer (some ⟨V,0 + 2 + (xv * 12 + ag).toNat * 1,none⟩)⟩::⟨some 14,none,65,i6 (x.rank (xv * 12 + ag).toNat)⟩::⟨some 15,none,66,pq V⟩::⟨some 16,none,67,i6 xv⟩::⟨some 17,none,68,i6 q⟩::⟨some 18,none,69,pq V⟩::⟨some 19,none,70,.pointer (some ⟨V,0 + 2,none⟩)⟩::⟨some 20,none,71,.pointer (some ⟨V,0 + 2 + xv.toNat * 12,none⟩)⟩::⟨some 21,none,72,.pointer (some ⟨V,0 + 2 + (xv * 12 + q).toNat * 1,none⟩)⟩::⟨some 22,none,73,i6 (x.rank (xv * 12 + q).toNat)⟩::⟨some 23,none,74,.bool (decide ((x.rank (xv * 12 + q).toNat) < (x.rank (xv * 12 + ag).toNat)))⟩::⟨some 24,none,75,.bool (decide ((x.rank (xv * 12 + q).toNat) < (x.rank (xv * 12 + ag).toNat)))⟩::[])) (fun E θ=>.box ac [i6 xv] 3::.box aa [i6 p_] 3::.box b_ [pq V] 47::.box H [.slice Z X.length d] 50::.row Z d (X.map aJ) 59 2::.box O [.slice (some ⟨g,0,none⟩) ((U.set p_.toNat xv).length) Y] 30::.row (some ⟨g,0,none⟩) Y ((U.set p_.toNat xv).map aD) 3 1::.box I [.slice (some ⟨p,0,none⟩) ((D.set xv.toNat (some (eP mm p_ true))).length) B.1] 95::.row (some ⟨p,0,none⟩) B.1 ((aF B.2 (D.set xv.toNat (some (eP mm p_ true)))).map (Kd.v bK)) 96 1::aQ bK (aF B.2 (D.set xv.toNat (some (eP mm p_ true))))::.box R [.func (.func 39) #[] #[pq b_,pq H,pq O,pq I,pq R]] 98::Lb) [] (fun a w=>Has 95 a [(1,pq b_),(2,pq H),(3,pq O),(4,pq I),(5,pq R),(7,pq ac),(8,i6 q),(9,i6 ag),(47,i6 ((x.Roster.People.length:Nat):Int)),(48,i6 ag),(58,pq V),(59,i6 xv),(60,i6 ag),(61,pq V),(62,.pointer (some ⟨V,0 + 2,none⟩)),(63,.pointer (some ⟨V,0 + 2 + xv.toNat * 12,none⟩)),(64,.pointer (some ⟨V,0 + 2 + (xv * 12 + ag).toNat * 1,none⟩)),(65,i6 (x.rank (xv * 12 + ag).toNat)),(66,pq V),(67,i6 xv),(68,i6 q),(69,pq V),(70,.pointer (some ⟨V,0 + 2,none⟩)),(71,.pointer (some ⟨V,0 + 2 + xv.toNat * 12,none⟩)),(72,.pointer (some ⟨V,0 + 2 + (xv * 12 + q).toNat * 1,none⟩)),(73,i6 (x.rank (xv * 12 + q).toNat)),(74,.bool (decide ((x.rank (xv * 12 + q).toNat) < (x.rank (xv * 12 + ag).toNat)))),(75,.bool (decide ((x.rank (xv * 12 + q).toNat) < (x.rank (xv * 12 + ag).toNat))))]∧Ctx G (.box ac [i6 xv] 3::.box aa [i6 p_] 3::.box b_ [pq V] 47::.box H [.slice Z X.length d] 50::.row Z d (X.map aJ) 59 2::.box O [.slice (some ⟨g,0,none⟩) ((U.set p_.toNat xv).length) Y] 30::.row (some ⟨g,0,none⟩) Y ((U.set p_.toNat xv).map aD) 3 1::.box I [.slice (some ⟨p,0,none⟩) ((D.set xv.toNat (some (eP mm p_ true))).length) B.1] 95::.row (some ⟨p,0,none⟩) B.1 ((aF B.2 (D.set xv.toNat (some (eP mm p_ true)))).map (Kd.v bK)) 96 1::aQ bK (aF B.2 (D.set xv.toNat (some (eP mm p_ true))))::.box R [.func (.func 39) #[] #[pq b_,pq H,pq O,pq I,pq R]] 98::Lb) w) aU (by kernel_rfl) (by kernel_rfl) (fB.of hf ⟨rfl,rfl,rfl,rfl,rfl,rfl,rfl,rfl,rfl,rfl,trivial,trivial,trivial,trivial,trivial,trivial,trivial,trivial,trivial,trivial,trivial,trivial,trivial,trivial,trivial,trivial,trivial,trivial,trivial,trivial,trivial,trivial,trivial,trivial,trivial,trivial⟩) hc ⟨?_,?_,?_,?_,?_,?_,?_,?_,?_,?_,?_,?_,?_,?_,?_,?_,?_,?_,?_,?_,?_,?_,?_,?_,?_,trivial⟩ ?_ ?_
       ·intro E θ a w hD hi hp he hc
        have hf:=he.h0.mT he 3 rfl
        refine zL hf hc aAm m7 rfl fun a w hf hc=>zD θ he hi hf 10 rfl rfl rfl hc
       ·intro E θ a w hD hi hp he hc
        have hf:=he.h0.mT he 5 rfl
        refine zL hf hc bA m0 rfl fun a w hf hc=>zD θ he hi hf 11 rfl rfl rfl hc
       ·intro E θ a w hD hi hp he hc
        have e0:=hp.o 0 rfl
        have e1:=hp.o 1 rfl
        have hf:=(he.h0.mP he 10 rfl e0).mP he 11 rfl e1
        refine zP hf rfl (pIA Tryz.underlying95 aA1 rfl rfl (At.len c7 (by simp only [bY,List.length_set]))) fun a hf=>zD θ he hi hf 12 rfl rfl rfl hc
       ·intro E θ a w hD hi hp he hc
        have e2:=hp.o 2 rfl
        have hf:=he.h0.mP he 12 rfl e2
        refine zE hf hc rfl (bT aDt rfl (eJ (sz:=1) (i:=xv.toNat) (j:=0) m8 dc (by subst a8; rfl))) fun a w hf hc=>zD θ he hi hf 13 rfl rfl rfl hc
       ·intro E θ a w hD hi hp he hc
        have hf:=he.h0.mT he 7 rfl
        refine sp 1 hf rfl fun a hf=>zD θ he hi hf 14 rfl rfl rfl hc
       ·intro E θ a w hD hi hp he hc
        have e3:=hp.o 3 rfl
        have e4:=hp.o 4 rfl
        have hf:=(he.h0.mP he 13 rfl e3).mP he 14 rfl e4
        refine zE hf hc rfl (eLk (enc:=Value.bool) (z0:=false) (m:=(lkA bx)) (alS (aH2 m9 (sP bn a8))) Tryz.underlying96 Tryz.underlying3 zr_4 rfl rfl) fun a w hf hc=>?_
        rw [cc] at hf
        exact zD θ he hi hf 15 rfl rfl rfl hc
       ·intro E θ a w hD hi hp he hc
        have e5:=hp.o 5 rfl
        have hf:=he.h0.mP he 15 rfl e5
        refine sp 1 hf rfl fun a hf=>zD θ he hi hf 16 rfl rfl rfl hc
       ·intro E θ a w hD hi hp he hc
        have e6:=hp.o 6 rfl
        have hf:=(he.h0.mT he 0 rfl).mP he 16 rfl e6
        refine zL hf hc nI m2 rfl fun a w hf hc=>zD θ he hi hf 17 rfl rfl rfl hc
       ·intro E θ a w hD hi hp he hc
        have e6:=hp.o 6 rfl
        have hf:=(he.h0.mT he 5 rfl).mP he 16 rfl e6
        refine zL hf hc bA m0 rfl fun a w hf hc=>zD θ he hi hf 18 rfl rfl rfl hc
       ·intro E θ a w hD hi hp he hc
        have e6:=hp.o 6 rfl
        have hf:=(he.h0.mT he 7 rfl).mP he 16 rfl e6
        refine sp 1 hf rfl fun a hf=>zD θ he hi hf 19 rfl rfl rfl hc
       ·intro E θ a w hD hi hp he hc
        have e6:=hp.o 6 rfl
        have e7:=hp.o 7 rfl
        have hf:=(he.h0.mP he 16 rfl e6).mP he 17 rfl e7
        refine sp 1 hf rfl fun a hf=>zD θ he hi hf 20 rfl rfl rfl hc
       ·intro E θ a w hD hi hp he hc
        have e6:=hp.o 6 rfl
        have a1:=hp.o 10 rfl
        have hf:=(he.h0.mP he 16 rfl e6).mP he 20 rfl a1
        refine zP hf rfl (pFA rB rfl) fun a hf=>zD θ he hi hf 21 rfl rfl rfl hc
       ·intro E θ a w hD hi hp he hc
        have e6:=hp.o 6 rfl
        have e8:=hp.o 8 rfl
        have a3:=hp.o 11 rfl
        have hf:=((he.h0.mP he 16 rfl e6).mP he 18 rfl e8).mP he 21 rfl a3
        refine zP hf rfl (pS Tryz.underlying92 yO rfl rfl (aZ an).1 (aZ an).2) fun a hf=>zD θ he hi hf 22 rfl rfl rfl hc
       ·intro E θ a w hD hi hp he hc
        have e6:=hp.o 6 rfl
        have e9:=hp.o 9 rfl
        have a0:=hp.o 12 rfl
        have hf:=((he.h0.mP he 16 rfl e6).mP he 19 rfl e9).mP he 22 rfl a0
        refine zP hf rfl (Pu.cast (pS Tryz.underlying91 eL rfl rfl (aZ a9).1 (aZ a9).2) (congrArg (fun k=>Value.pointer (some ⟨V,k,none⟩)) (oO (M:=12) (0 + 2) an a9 rfl))) fun a hf=>zD θ he hi hf 23 rfl rfl rfl hc
       ·intro E θ a w hD hi hp he hc
        have e6:=hp.o 6 rfl
        have a2:=hp.o 13 rfl
        have hf:=(he.h0.mP he 16 rfl e6).mP he 23 rfl a2
        refine zE hf hc rfl (bT bA rfl (qU (j:=0) am (fun x=>(bF x).1) rfl (aCz an a9 rfl) rfl)) fun a w hf hc=>zD θ he hi hf 24 rfl rfl rfl hc
       ·intro E θ a w hD hi hp he hc
        have e6:=hp.o 6 rfl
        have hf:=(he.h0.mT he 0 rfl).mP he 16 rfl e6
        refine zL hf hc nI m2 rfl fun a w hf hc=>zD θ he hi hf 25 rfl rfl rfl hc
       ·intro E θ a w hD hi hp he hc
        have e6:=hp.o 6 rfl
        have hf:=(he.h0.mT he 5 rfl).mP he 16 rfl e6
        refine zL hf hc bA m0 rfl fun a w hf hc=>zD θ he hi hf 26 rfl rfl rfl hc
       ·intro E θ a w hD hi hp he hc
        have e6:=hp.o 6 rfl
        have hf:=(he.h0.mT he 6 rfl).mP he 16 rfl e6
        refine sp 1 hf rfl fun a hf=>zD θ he hi hf 27 rfl rfl rfl hc
       ·intro E θ a w hD hi hp he hc
        have e6:=hp.o 6 rfl
        have bi:=hp.o 15 rfl
        have hf:=(he.h0.mP he 16 rfl e6).mP he 25 rfl bi
        refine sp 1 hf rfl fun a hf=>zD θ he hi hf 28 rfl rfl rfl hc
       ·intro E θ a w hD hi hp he hc
        have e6:=hp.o 6 rfl
        have bb:=hp.o 18 rfl
        have hf:=(he.h0.mP he 16 rfl e6).mP he 28 rfl bb
        refine zP hf rfl (pFA rB rfl) fun a hf=>zD θ he hi hf 29 rfl rfl rfl hc
       ·intro E θ a w hD hi hp he hc
        have e6:=hp.o 6 rfl
        have bf:=hp.o 16 rfl
        have bj:=hp.o 19 rfl
        have hf:=((he.h0.mP he 16 rfl e6).mP he 26 rfl bf).mP he 29 rfl bj
        refine zP hf rfl (pS Tryz.underlying92 yO rfl rfl (aZ an).1 (aZ an).2) fun a hf=>zD θ he hi hf 30 rfl rfl rfl hc
       ·intro E θ a w hD hi hp he hc
        have e6:=hp.o 6 rfl
        have bk:=hp.o 17 rfl
        have bg:=hp.o 20 rfl
        have hf:=((he.h0.mP he 16 rfl e6).mP he 27 rfl bk).mP he 30 rfl bg
        refine zP hf rfl (Pu.cast (pS Tryz.underlying91 eL rfl rfl (aZ a7).1 (aZ a7).2) (congrArg (fun k=>Value.pointer (some ⟨V,k,none⟩)) (oO (M:=12) (0 + 2) an a7 rfl))) fun a hf=>zD θ he hi hf 31 rfl rfl rfl hc
       ·intro E θ a w hD hi hp he hc
        have e6:=hp.o 6 rfl
        have bc:=hp.o 21 rfl
        have hf:=(he.h0.mP he 16 rfl e6).mP he 31 rfl bc
        refine zE hf hc rfl (bT bA rfl (qU (j:=0) am (fun x=>(bF x).1) rfl (aCz an a7 rfl) rfl)) fun a w hf hc=>zD θ he hi hf 32 rfl rfl rfl hc
       ·intro E θ a w hD hi hp he hc
        have e6:=hp.o 6 rfl
        have a4:=hp.o 14 rfl
        have bp:=hp.o 22 rfl
        have hf:=((he.h0.mP he 16 rfl e6).mP he 24 rfl a4).mP he 32 rfl bp
        refine sp 1 hf rfl fun a hf=>zD θ he hi hf 33 rfl rfl rfl hc
       ·intro E θ a w hD hi hp he hc
        have e6:=hp.o 6 rfl
        have bd:=hp.o 23 rfl
        have hf:=(he.h0.mP he 16 rfl e6).mP he 33 rfl bd
        refine sp 1 hf rfl fun a hf=>zD θ he hi hf 34 rfl rfl rfl hc
       ·intro E θ a w n he hc
        have hf:=he.h0
        have e7:=n 7 rfl
        have e8:=n 8 rfl
        have e9:=n 9 rfl
        have a1:=n 10 rfl
        have a3:=n 11 rfl
        have a0:=n 12 rfl
        have a2:=n 13 rfl
        have a4:=n 14 rfl
        have bi:=n 15 rfl
        have bf:=n 16 rfl
        have bk:=n 17 rfl
        have bb:=n 18 rfl
        have bj:=n 19 rfl
        have bg:=n 20 rfl
        have bc:=n 21 rfl
        have bp:=n 22 rfl
        have bd:=n 23 rfl
        have b7:=n 24 rfl
        replace hf:=hf.more he 34 rfl (onP b7)
        replace hf:=hf.more he 33 rfl (onP bd)
        replace hf:=hf.more he 32 rfl (onP bp)
        replace hf:=hf.more he 31 rfl (onP bc)
        replace hf:=hf.more he 30 rfl (onP bg)
        replace hf:=hf.more he 29 rfl (onP bj)
        replace hf:=hf.more he 28 rfl (onP bb)
        replace hf:=hf.more he 27 rfl (onP bk)
        replace hf:=hf.more he 26 rfl (onP bf)
        replace hf:=hf.more he 25 rfl (onP bi)
        replace hf:=hf.more he 24 rfl (onP a4)
        replace hf:=hf.more he 23 rfl (onP a2)
        replace hf:=hf.more he 22 rfl (onP a0)
        replace hf:=hf.more he 21 rfl (onP a3)
        replace hf:=hf.more he 20 rfl (onP a1)
        replace hf:=hf.more he 19 rfl (onP e9)
        replace hf:=hf.more he 18 rfl (onP e8)
        replace hf:=hf.more he 17 rfl (onP e7)
        replace hf:=hf.more he 9 rfl (onT)
        replace hf:=hf.more he 8 rfl (onT)
        replace hf:=hf.more he 7 rfl (onT)
        replace hf:=hf.more he 6 rfl (onT)
        replace hf:=hf.more he 5 rfl (onT)
        replace hf:=hf.more he 4 rfl (onT)
        replace hf:=hf.more he 3 rfl (onT)
        replace hf:=hf.more he 2 rfl (onT)
        replace hf:=hf.more he 1 rfl (onT)
        replace hf:=hf.more he 0 rfl (onT)
        exact ⟨hf.kp rfl,hc⟩
       rintro a w ⟨hf,hc⟩
       refine cV ?_
       obtain rfl:=sj hF
       exact ⟨hf.kp rfl,hc⟩
     rintro a w ⟨hf,hc⟩
     refine df _ _ ?_
     refine aC1 (b:=rg) hf rfl (fun hb=>?_) (fun hb=>?_)
     ·replace hF:=iL hb hF
      clear hb
      refine tS (fun _ _ h=>h) rfl ?_
      refine sp 2 hf rfl fun a hf=>aP ?_
      exact b8 ag _ _  (hf.kp rfl) hc hF
     ·replace hF:=jM hb hF
      clear hb
      refine aC7 ?_
      exact b8 q _ _  (hf.kp rfl) hc hF
    ·replace hF:=jM hb hF
     clear hb
     refine aIr ?_
     refine aW ?_
     refine aW ?_
     have he:=sj hF
     rw [← he] at bu
     refine eV ?_
     exact c8 _ _ _ bu ⟨hf.kp rfl,hc⟩
 ·rintro D_1 ⟨X,U,D⟩ _ a w b3 ⟨Z,d,ad,Y,af,B,rfl⟩ hf hc
  replace hf:Has ⟨95,rG (D_1::[])⟩ a [(1,pq b_),(2,pq H),(3,pq O),(4,pq I),(5,pq R),(6,pq aa)]:=hf.kp rfl
  replace hc:Ctx G (.box bs [pq V] 47::.box bq [i6 r.1] 3::.box br [i6 r.2] 3::.box aa [i6 p_] 3::.box b_ [pq V] 47::.box H [.slice Z X.length d] 50::.row Z d (X.map aJ) 59 2::.box O [.slice ad U.length Y] 30::.row ad Y (U.map aD) 3 1::.box I [.slice af D.length B.1] 95::.row af B.1 ((aF B.2 D).map (Kd.v bK)) 96 1::aQ bK (aF B.2 D)::.box R [.func (.func 39) #[] #[pq b_,pq H,pq O,pq I,pq R]] 98::(vN (D_1::[])++Lf)) w:=xV (C:=[.box bs [pq V] 47,.box bq [i6 r.1] 3,.box br [i6 r.2] 3]) (L:=[.box aa [i6 p_] 3,.box b_ [pq V] 47,.box H [.slice Z X.length d] 50,.row Z d (X.map aJ) 59 2,.box O [.slice ad U.length Y] 30,.row ad Y (U.map aD) 3 1,.box I [.slice af D.length B.1] 95,.row af B.1 ((aF B.2 D).map (Kd.v bK)) 96 1,aQ bK (aF B.2 D),.box R [.func (.func 39) #[] #[pq b_,pq H,pq O,pq I,pq R]] 98]) hc
  replace hF:(some (X,U,D))=some ay:=by rcases b3 with rfl | rfl <;> exact hF
  obtain rfl:=sj hF
  replace hc:=(((((((((((hc.drop k3).drop k2).drop k1).drop k0).pick k5).pick k4).pick k3).pick k3).pick k7).pick k7).pick k7).pick k7
  refine zZ hf ?_
  refine aDs [.row Z d (X.map aJ) 59 2,.row ad Y (U.map aD) 3 1,.row af B.1 ((aF B.2 D).map (Kd.v bK)) 96 1,aQ bK (aF B.2 D),.box b_ [pq V] 47,.box H [.slice Z X.length d] 50,.box O [.slice ad U.length Y] 30,.box I [.slice af D.length B.1] 95,.box R [.func (.func 39) #[] #[pq b_,pq H,pq O,pq I,pq R]] 98] (D_1::[]) hc fun w hc=>?_
  replace hc:Ctx G (.row Z d (X.map aJ) 59 2::.row ad Y (U.map aD) 3 1::.row af B.1 ((aF B.2 D).map (Kd.v bK)) 96 1::aQ bK (aF B.2 D)::.box b_ [pq V] 47::.box H [.slice Z X.length d] 50::.box O [.slice ad U.length Y] 30::.box I [.slice af D.length B.1] 95::.box R [.func (.func 39) #[] #[pq b_,pq H,pq O,pq I,pq R]] 98::Lf) w:=hc
  exact aJs Tryz.results39 ⟨Z,d,ad,Y,af,B,rfl,hc⟩
 ·rintro D_1 ⟨X,U,D⟩ _ a w b3 ⟨Z,d,ad,Y,af,B,rfl⟩ hf hc
  replace hf:Has ⟨95,rG (D_1::[])⟩ a [(1,pq b_),(2,pq H),(3,pq O),(4,pq I),(5,pq R),(6,pq aa)]:=hf.kp rfl
  replace hc:Ctx G (.box bs [pq V] 47::.box bq [i6 r.1] 3::.box br [i6 r.2] 3::.box aa [i6 p_] 3::.box b_ [pq V] 47::.box H [.slice Z X.length d] 50::.row Z d (X.map aJ) 59 2::.box O [.slice ad U.length Y] 30::.row ad Y (U.map aD) 3 1::.box I [.slice af D.length B.1] 95::.row af B.1 ((aF B.2 D).map (Kd.v bK)) 96 1::aQ bK (aF B.2 D)::.box R [.func (.func 39) #[] #[pq b_,pq H,pq O,pq I,pq R]] 98::(vN (D_1::[])++Lf)) w:=xV (C:=[.box bs [pq V] 47,.box bq [i6 r.1] 3,.box br [i6 r.2] 3]) (L:=[.box aa [i6 p_] 3,.box b_ [pq V] 47,.box H [.slice Z X.length d] 50,.row Z d (X.map aJ) 59 2,.box O [.slice ad U.length Y] 30,.row ad Y (U.map aD) 3 1,.box I [.slice af D.length B.1] 95,.row af B.1 ((aF B.2 D).map (Kd.v bK)) 96 1,aQ bK (aF B.2 D),.box R [.func (.func 39) #[] #[pq b_,pq H,pq O,pq I,pq R]] 98]) hc
  replace hF:(some (X,U,D))=some ay:=by subst b3; exact hF
  obtain rfl:=sj hF
  replace hc:=(((((((((((hc.drop k3).drop k2).drop k1).drop k0).pick k5).pick k4).pick k3).pick k3).pick k7).pick k7).pick k7).pick k7
  refine zZ hf ?_
  refine aDs [.row Z d (X.map aJ) 59 2,.row ad Y (U.map aD) 3 1,.row af B.1 ((aF B.2 D).map (Kd.v bK)) 96 1,aQ bK (aF B.2 D),.box b_ [pq V] 47,.box H [.slice Z X.length d] 50,.box O [.slice ad U.length Y] 30,.box I [.slice af D.length B.1] 95,.box R [.func (.func 39) #[] #[pq b_,pq H,pq O,pq I,pq R]] 98] (D_1::[]) hc fun w hc=>?_
  replace hc:Ctx G (.row Z d (X.map aJ) 59 2::.row ad Y (U.map aD) 3 1::.row af B.1 ((aF B.2 D).map (Kd.v bK)) 96 1::aQ bK (aF B.2 D)::.box b_ [pq V] 47::.box H [.slice Z X.length d] 50::.box O [.slice ad U.length Y] 30::.box I [.slice af D.length B.1] 95::.box R [.func (.func 39) #[] #[pq b_,pq H,pq O,pq I,pq R]] 98::Lf) w:=hc
  exact aJs Tryz.results39 ⟨Z,d,ad,Y,af,B,rfl,hc⟩

def cY (N:Nat) (w_:aT) (B:Int) (J:List Int) (H:List aE) (I:List (Option (List (Int × Bool)))):Option (cK (Int × (List Int) × (List aE) × (List (Option (List (Int × Bool))))) ((List Int) × (List aE))) :=
 cond (decide (B < ((w_.Roster.People.length:Nat):Int)))
 (Option.bind (cA N B w_ H J I) fun D=>
 some (.cont (W (B + 1),D.2.1,D.1,D.2.2)))
 (some (.brk (B,J,H,I)))
def cT (N:Nat) (w_:aT) (x:Int) (B:List (Option (List (Int × Bool)))):Option (cK (Int × (List (Option (List (Int × Bool))))) ((List Int) × (List aE))) :=
 cond (decide (x < (((List.replicate ((w_.Roster.Stations.length:Nat):Int).toNat (none:Option (List (Int × Bool)))).length:Nat):Int)))
 (Option.bind (bH B x) fun D=>
 some (.cont (W (x + 1),(B.set x.toNat (some ([]:List (Int × Bool)))))))
 (some (.brk (x,B)))
def jK (N:Nat) (w_:aT):Option ((List Int) × (List aE)) :=
 Option.bind (inM ((w_.Roster.Stations.length:Nat):Int)) fun un=>
 Option.bind (bE (fun s5=>cT N w_ s5.1 s5.2) N (0,(List.replicate ((w_.Roster.Stations.length:Nat):Int).toNat (none:Option (List (Int × Bool)))))) fun x5=>
 exK x5 (fun s5=>Option.bind (aV N ([(-1)]:List Int) ((w_.Roster.People.length:Nat):Int)) fun r=>
 Option.bind (bE (fun B=>cY N w_ B.1 B.2.1 B.2.2.1 B.2.2.2) N (0,r,([]:List aE),s5.2)) fun D=>
 exK D (fun B=>some (B.2.1,B.2.2.1)) some) some
theorem vK {N:Nat} {G:aO} {Lf:List Ent} {w:World} (w_:aT) {b_:Nat} {J:Option Addr} {I:Nat} {B:Option Addr} {D:Nat} (U:RdT aG G 1 J I w_.Roster.People) (O:RdT aL G 2 B D w_.Roster.Stations) (V:PC G b_ 0 (sQ [.slice J w_.Roster.People.length I,.slice B w_.Roster.Stations.length D] 144 aD w_.rank [])) (hc:Ctx G (Lf) w) {b:(List Int) × (List aE)} (hF:jK N w_=some b):Calls Tryz.prog 16 #[pq b_] w (fun e w=>∃ (ak:Option Addr) (aj:Nat) (am:Option Addr) (an:Nat),e=.returned (.tuple #[.slice ak b.1.length aj,.slice am b.2.length an])∧Ctx G (.row ak aj (b.1.map aD) 3 1::.row am an (b.2.map aJ) 59 2::Lf) w):=by
 unfold jK at hF
 refine bI Tryz.func16 rfl Tryz.ntmps16 rfl fun a hf=>zS fun K h=>zB hf hc rfl fun Y a w hf hc=>sp 2 hf rfl fun a hf=>zT h ?_
 refine zS fun K h=>zL hf hc nI m0 rfl fun a w hf hc=>sp 1 hf rfl fun a hf=>zP hf rfl (pFA pI rfl) fun a hf=>zP hf rfl (pFA eG rfl) fun a hf=>zE hf hc rfl (bT lN rfl (bL (j:=1) V rfl)) fun a w hf hc=>zP hf rfl (bC Tryz.underlying24 rfl) fun a hf=>?_
 obtain ⟨un,bk,hF⟩:=aA hF
 refine stMk (m:=(List.replicate ((w_.Roster.Stations.length:Nat):Int).toNat (none:Option (List (Int × Bool)))).length) (rows:=(List.replicate ((w_.Roster.Stations.length:Nat):Int).toNat (((none,0),(none:Option (List (Int × Bool)))):H2 × (Option (List (Int × Bool))))).map (Kd.v bK)) hf hc rfl rfl sl_95 rfl rfl (aDx bk) rfl rfl (by simp [List.map_replicate,Value.cells,Kd.v,kM,kL,Kd.comp]) (by simp) fun ap a w hf hc=>?_
 obtain ⟨af,hc⟩:=aDb (K:=bK) (x:=(none:Option (List (Int × Bool)))) (fun _ h=>h.nilRow _ _) _ hc
 replace hc:Ctx G (.row (some ⟨ap,0,none⟩) (((w_.Roster.Stations.length:Nat):Int).toNat) ((aF af (List.replicate ((w_.Roster.Stations.length:Nat):Int).toNat (none:Option (List (Int × Bool))))).map (Kd.v bK)) 96 1::aQ bK (aF af (List.replicate ((w_.Roster.Stations.length:Nat):Int).toNat (none:Option (List (Int × Bool)))))::.box Y [pq b_] 47::Lf) w:=hc
 refine zA hf hc zr_95 rfl fun Z a w hf hc=>zW hf hc sz_95 u0 rfl fun w hc=>zT h ?_
 refine wp_seq_k fun K3 h3=>zS fun K h=>zL hf hc aAm m0 rfl fun a w hf hc=>zP hf rfl (bC Tryz.underlying95 rfl) fun a hf=>sp 1 hf rfl fun a hf=>zT h ?_
 refine wp_block ?_
 obtain ⟨x5,a3,hF⟩:=aA hF
 let S5:(Int × (List (Option (List (Int × Bool)))))→Act→World→Prop:=(fun (zz:Int × (List (Option (List (Int × Bool))))) a w=>∃ (d:Option Addr) (H:rM),Has 51 a [(1,pq Y),(4,pq Z),(18,i6 (((List.replicate ((w_.Roster.Stations.length:Nat):Int).toNat (none:Option (List (Int × Bool)))).length:Nat):Int)),(19,i6 zz.1)]∧Ctx G (.box Z [.slice d zz.2.length H.1] 95::.row d H.1 ((aF H.2 zz.2).map (Kd.v bK)) 96 1::aQ bK (aF H.2 zz.2)::.box Y [pq b_] 47::Lf) w)
 have bb:∀ (zz:Int × (List (Option (List (Int × Bool))))) a w,x5=.go zz→S5 zz a w→K3 a w:=by
  rintro ⟨x,M⟩ a w rfl ⟨d,H,hf,hc⟩
  replace hF:=bP hF
  refine h3 _ _ ?_
  refine zS fun K h=>jD (rows:=([(-1)]:List Int).map aD) (vs:=[(0,i6 (-1))]) hf hc rfl rfl fN rfl ⟨rfl,rfl,rfl,trivial⟩ rfl rfl fun br a w hf hc=>zL hf hc nI m4 rfl fun a w hf hc=>sp 1 hf rfl fun a hf=>zP hf rfl (pFA pI rfl) fun a hf=>zP hf rfl (pFA eZ rfl) fun a hf=>zE hf hc rfl (bT mA rfl (bL (j:=0) V rfl)) fun a w hf hc=>zP hf rfl (bC Tryz.underlying23 rfl) fun a hf=>?_
  obtain ⟨r,hr,hF⟩:=aA hF
  obtain ⟨G1,bp,ax,hc,az⟩:=lend hc k0
  refine zC hf en_38 rfl (qX ([(-1)]:List Int) ((w_.Roster.People.length:Nat):Int) ax hc hr) ?_
  rintro _ w ⟨a2,a7,rfl,hc⟩
  refine ⟨_,rfl,fun a hf=>?_⟩
  replace hc:=az _ _ hc
  refine zA hf hc aJy rfl fun u a w hf hc=>zW hf hc nB u0 rfl fun w hc=>zT h ?_
  refine zS fun K h=>zA hf hc zr_50 rfl fun aa a w hf hc=>zT h ?_
  refine wp_seq_k fun K8 h8=>cJ ?_
  refine zA hf hc zr_98 rfl fun ab a w hf hc=>aP ?_
  replace hc:=hc.drop k3
  refine h8 _ _ ?_
  refine zS fun K h=>zP hf rfl (pMF (us:=[pq Y,pq aa,pq u,pq Z,pq ab]) rfl rfl) fun a hf=>zW hf hc sz_98 u0 rfl fun w hc=>zT h ?_
  refine wp_seq_k fun K10 bg=>zS fun K h=>zL hf hc nI m7 rfl fun a w hf hc=>sp 1 hf rfl fun a hf=>zP hf rfl (pFA pI rfl) fun a hf=>zP hf rfl (pFA eZ rfl) fun a hf=>zE hf hc rfl (bT mA rfl (bL (j:=0) V rfl)) fun a w hf hc=>zP hf rfl (bC Tryz.underlying23 rfl) fun a hf=>sp 1 hf rfl fun a hf=>zT h ?_
  refine wp_block ?_
  obtain ⟨ac,av,hF⟩:=aA hF
  let S12:(Int × (List Int) × (List aE) × (List (Option (List (Int × Bool)))))→Act→World→Prop:=(fun (zz:Int × (List Int) × (List aE) × (List (Option (List (Int × Bool))))) a w=>∃ (n:Option Addr) (i:Nat) (o:Option Addr) (k:Nat) (s:Option Addr) (R:rM),Has 51 a [(6,pq u),(7,pq aa),(8,pq ab),(41,i6 ((w_.Roster.People.length:Nat):Int)),(42,i6 zz.1)]∧Ctx G (.row o k (zz.2.2.1.map aJ) 59 2::.box ab [.func (.func 39) #[] #[pq Y,pq aa,pq u,pq Z,pq ab]] 98::.box aa [.slice o zz.2.2.1.length k] 50::.box u [.slice n zz.2.1.length i] 30::.row n i (zz.2.1.map aD) 3 1::.box Z [.slice s zz.2.2.2.length R.1] 95::.row s R.1 ((aF R.2 zz.2.2.2).map (Kd.v bK)) 96 1::aQ bK (aF R.2 zz.2.2.2)::.box Y [pq b_] 47::Lf) w)
  have ay:∀ (zz:Int × (List Int) × (List aE) × (List (Option (List (Int × Bool))))) a w,ac=.go zz→S12 zz a w→K10 a w:=by
   rintro ⟨ag,ar,aq,au⟩ a w rfl ⟨n,i,o,k,s,R,hf,hc⟩
   replace hF:=bP hF
   refine bg _ _ ?_
   refine wp_seq_k fun K13 a9=>cQ hc aU (by kernel_rfl) ?_
   refine qE hf rfl rfl rfl (bT kJ rfl (bU m3 rfl)) fun a hf=>qE hf rfl rfl rfl (bT aEr rfl (bU m2 rfl)) fun a hf=>qE hf rfl rfl rfl (Pu.ev (pA rfl)) fun a hf=>qE hf rfl rfl rfl (Pu.ev (pA rfl)) fun a hf=>?_
   intro w hc
   replace hc:=((((((hc.drop k8).drop k7).drop k6).drop k5).drop k3).drop k2).drop k1
   refine a9 _ _ ?_
   refine wp_ret ?_
   obtain rfl:=sj hF
   replace hc:=(hc.pick k0).pick k1
   exact zO2 Tryz.results16 hf rfl rfl ⟨n,i,o,k,rfl,hc⟩
  have bn:∀ r,ac=.out r→r=b:=by
   rintro r rfl
   exact sj hF
  replace hc:=hc.nilRow 59 2
  refine cR N (cL (S:=S12) (x:=ac) ?_ N (0,r,([]:List aE),M) _ _ ⟨a2,a7,none,0,d,H,hf.kp rfl,hc⟩ av)
  clear hF hf hc
  rintro ⟨ag,ar,aq,au⟩ bm a w KB12 ⟨n,i,o,k,s,R,hf,hc⟩ hF q a1
  unfold cY at hF
  refine zS fun K h=>sp 1 hf rfl fun a hf=>zT h ?_
  refine wp_seq_k fun K15 bd=>zI hf rfl hF ?_ ?_ <;> clear hF <;> intro hF
  ·refine wp_skip ?_
   refine bd _ _ ?_
   refine wp_seq_k fun K16 a8=>wp_block ?_
   refine zS fun K h=>sp 2 hf rfl fun a hf=>zT h ?_
   refine cJ ?_
   refine zL hf hc aKf m1 rfl fun a w hf hc=>sp 1 hf rfl fun a hf=>?_
   obtain ⟨ad,a0,hF⟩:=aA hF
   refine zC hf aJ3 rfl (tR ag w_ aq ar au U O V (((((((((hc.pick k1).pick k7).pick k7).pick k7).pick k7).pick k7).pick k6).pick k7).pick k8) a0) ?_
   rintro _ w ⟨a5,a6,bj,bf,bi,ai,rfl,hc⟩
   refine ⟨_,rfl,fun a hf=>?_⟩
   refine aP ?_
   refine a8 _ _ ?_
   refine cJ ?_
   refine sp 2 hf rfl fun a hf=>aP ?_
   replace hc:=((((((((hc.pick k4).pick k4).pick k4).pick k7).pick k5).pick k7).pick k7).pick k8).pick k8
   exact a1 (W (ag + 1),ad.2.1,ad.1,ad.2.2) _ _ (sj hF).symm ⟨bj,bf,a5,a6,bi,ai,hf.kp rfl,hc⟩
  ·refine wp_exit ?_
   refine aW ?_
   refine aW ?_
   have he:=sj hF
   rw [← he] at q
   refine eV ?_
   exact ay _ _ _ q ⟨n,i,o,k,s,R,hf.kp rfl,hc⟩
 have bt:∀ r,x5=.out r→r=b:=by
  rintro r rfl
  exact sj hF
 refine cR N (cL (S:=S5) (x:=x5) ?_ N (0,(List.replicate ((w_.Roster.Stations.length:Nat):Int).toNat (none:Option (List (Int × Bool))))) _ _ ⟨(some ⟨ap,0,none⟩),(((w_.Roster.Stations.length:Nat):Int).toNat,af),hf.kp rfl,hc⟩ a3)
 clear hF hf hc
 rintro ⟨x,M⟩ bs a w KB5 ⟨d,H,hf,hc⟩ hF t a4
 unfold cT at hF
 refine zS fun K h=>sp 1 hf rfl fun a hf=>zT h ?_
 refine wp_seq_k fun K19 bc=>zI hf rfl hF ?_ ?_ <;> clear hF <;> intro hF
 ·refine wp_skip ?_
  refine bc _ _ ?_
  refine wp_seq_k fun K20 ba=>wp_block ?_
  refine zS fun K h=>sp 2 hf rfl fun a hf=>zT h ?_
  refine cJ ?_
  refine zL hf hc aAm m0 rfl fun a w hf hc=>sp 1 hf rfl fun a hf=>stAM (enc:=Value.bool) hf hc rfl rfl fun mb a w hf hc=>?_
  obtain ⟨bq,p,hF⟩:=aA hF
  obtain ⟨g,rfl,qa,qr⟩:=hU hc m2 (dE p)
  refine zP hf rfl (pIA Tryz.underlying95 aA1 rfl rfl (At.len qa (by simp only [bY,List.length_set]))) fun a hf=>?_
  replace hc:=(vC (hc.pick k3) p).tail
  replace hc:Ctx G (aQ bK ((aF H.2 M).eraseIdx x.toNat)::.gm mb (ALq Value.bool ([]:List (Int × Bool)))::.box Z [.slice (some ⟨g,0,none⟩) M.length H.1] 95::.row (some ⟨g,0,none⟩) H.1 ((aF H.2 M).map (Kd.v bK)) 96 1::.box Y [pq b_] 47::Lf) w:=hc
  refine aBi (vs:=[.map (some mb)]) (o':=0) (z:=((none,mb),(some ([]:List (Int × Bool))))) (xs:=(aF H.2 M)) hf hc rfl rfl rfl rfl aA1 rfl (fun x=>(aBn x).1) (oE (dE p)) (fun e _=>splW (aBn e).1) rfl u3 fun w hc=>?_
  replace hc:=(((hc.pick k2).pick k1).pick k3).pick k3
  obtain ⟨X,hc⟩:=vI (K:=bK) (h':=(none,mb)) (y:=(some ([]:List (Int × Bool)))) p hc
  replace hc:Ctx G (.row (some ⟨g,0,none⟩) H.1 ((aF X (M.set x.toNat (some ([]:List (Int × Bool))))).map (Kd.v bK)) 96 1::aQ bK (aF X (M.set x.toNat (some ([]:List (Int × Bool)))))::.box Z [.slice (some ⟨g,0,none⟩) M.length H.1] 95::.box Y [pq b_] 47::Lf) w:=hc
  refine aP ?_
  refine ba _ _ ?_
  refine cJ ?_
  refine sp 2 hf rfl fun a hf=>aP ?_
  replace hc:Ctx G (.row (some ⟨g,0,none⟩) H.1 ((aF X (M.set x.toNat (some ([]:List (Int × Bool))))).map (Kd.v bK)) 96 1::aQ bK (aF X (M.set x.toNat (some ([]:List (Int × Bool)))))::.box Z [.slice (some ⟨g,0,none⟩) ((M.set x.toNat (some ([]:List (Int × Bool)))).length) H.1] 95::.box Y [pq b_] 47::Lf) w:=by simp only [List.length_set] at hc ⊢; exact hc
  replace hc:=((hc.pick k1).pick k1).pick k2
  exact a4 (W (x + 1),(M.set x.toNat (some ([]:List (Int × Bool))))) _ _ (sj hF).symm ⟨(some ⟨g,0,none⟩),(H.1,X),hf.kp rfl,hc⟩
 ·refine wp_exit ?_
  refine aW ?_
  refine aW ?_
  have he:=sj hF
  rw [← he] at t
  refine eV ?_
  exact bb _ _ _ t ⟨d,H,hf.kp rfl,hc⟩

def gC (N:Nat) (r:aB):Option ((List Int) × Int) :=
 Option.bind (lH N r) (aEi (fun D=>cond (D != 0)
 (some (([]:List Int),D))
 (none))
 (fun B=>cond (B.2 != 0)
 (some (([]:List Int),B.2))
 (Option.bind (jK N (⟨r,B.1⟩:aT)) fun H=>
 some (H.1,0))))
theorem lI {N:Nat} {G:aO} {Lf:List Ent} {w:World} (r:aB) {J:Option Addr} {O:Nat} {I:Option Addr} {H:Nat} (D:RdT aG G 1 J O r.People) (B:RdT aL G 2 I H r.Stations) (hc:Ctx G (Lf) w) {S:(List Int) × Int} (hF:gC N r=some S):Calls Tryz.prog 6 #[.agg #[.slice J r.People.length O,.slice I r.Stations.length H]] w (fun e w=>∃ (X:Option Addr) (V:Nat),e=.returned (.tuple #[.slice X S.1.length V,i6 S.2])∧Ctx G (.row X V (S.1.map aD) 3 1::Lf) w):=by
 unfold gC at hF
 refine bI Tryz.func6 rfl Tryz.ntmps6 rfl fun a hf=>zS fun K h=>zB hf hc rfl fun m a w hf hc=>sp 2 hf rfl fun a hf=>zT h ?_
 refine wp_seq_k fun K2 h2=>cJ ?_
 refine zN hf hc mD m0 rfl fun a w hf hc=>?_
 obtain ⟨Y,U,hF⟩:=aA hF
 cases Y with
 | inl Y=>
  replace hF:=aId hF
  refine zC hf aBv rfl (jL r D B hc U) ?_
  rintro _ w ⟨rfl,hc⟩
  refine ⟨_,rfl,fun a hf=>?_⟩
  refine sp 5 hf rfl fun a hf=>aP ?_
  refine h2 _ _ ?_
  refine wp_seq_k fun K3 h3=>zS fun K h=>sp 2 hf rfl fun a hf=>zT h ?_
  refine zI hf rfl hF ?_ ?_ <;> clear hF <;> intro hF
  ·refine zS fun K h=>sp 3 hf rfl fun a hf=>zT h ?_
   refine wp_ret ?_
   refine aN ?_
   obtain rfl:=sj hF
   replace hc:=hc.nilRow 3 1
   replace hc:=hc.drop k1
   exact zO2 Tryz.results6 hf rfl rfl ⟨none,0,rfl,hc⟩
  ·refine wp_skip ?_
   refine h3 _ _ ?_
   refine wp_seq_k fun K6 h6=>aAb hF
 | inr i=>
  replace hF:=aIl hF
  have Z:=U
  refine zC hf aBv rfl (jL r D B hc Z) ?_
  rintro _ w ⟨n,rfl,hc⟩
  refine ⟨_,rfl,fun a hf=>?_⟩
  refine sp 5 hf rfl fun a hf=>aP ?_
  obtain ⟨G,M,R,hc,-⟩:=aGu hc k0
  replace R:=aG8 R
  refine h2 _ _ ?_
  refine wp_seq_k fun K7 h7=>zS fun K h=>sp 2 hf rfl fun a hf=>zT h ?_
  refine zI hf rfl hF ?_ ?_ <;> clear hF <;> intro hF
  ·refine zS fun K h=>sp 3 hf rfl fun a hf=>zT h ?_
   refine wp_ret ?_
   refine aN ?_
   obtain rfl:=sj hF
   replace hc:=hc.down M
   replace hc:=hc.nilRow 3 1
   replace hc:=hc.drop k1
   exact zO2 Tryz.results6 hf rfl rfl ⟨none,0,rfl,hc⟩
  ·refine wp_skip ?_
   refine h7 _ _ ?_
   refine zS fun K h=>sp 1 hf rfl fun a hf=>?_
   obtain ⟨o,b,hF⟩:=aA hF
   refine zC hf en_16 rfl (vK (⟨r,i.1⟩:aT) (D.mono M) (B.mono M) R hc b) ?_
   rintro _ w ⟨d,g,j,k,rfl,hc⟩
   refine ⟨_,rfl,fun a hf=>?_⟩
   refine sp 5 hf rfl fun a hf=>zT h ?_
   refine zS fun K h=>sp 3 hf rfl fun a hf=>zT h ?_
   refine wp_ret ?_
   obtain rfl:=sj hF
   replace hc:=hc.down M
   replace hc:=(hc.drop k2).drop k1
   exact zO2 Tryz.results6 hf rfl rfl ⟨d,g,rfl,hc⟩

def lP (N:Nat) (l:List Int):Option ((List Int)) :=
 Option.bind (room (l).length) fun un=>
 some l
theorem tO {N:Nat} {G:aO} {Lf:List Ent} {w:World} (l:List Int) {D:Option Addr} {J:Nat} (O:Rd G 1 D J (l.map aD)) (hc:Ctx G (Lf) w) {B:(List Int)} (hF:lP N l=some B):Calls Tryz.prog 18 #[.slice D l.length J] w (fun e w=>∃ (I:Option Addr) (H:Nat),e=.returned (.slice I B.length H)∧Ctx G (.row I H (B.map aD) 3 1::Lf) w):=by
 unfold lP at hF
 refine bI Tryz.func18 rfl Tryz.ntmps18 rfl fun a hf=>zS fun K h=>sp 1 hf rfl fun a hf=>zT h ?_
 refine zS fun K h=>sp 1 hf rfl fun a hf=>zT h ?_
 refine zS fun K h=>sp 2 hf rfl fun a hf=>?_
 replace hc:=hc.nilRow 3 1
 obtain ⟨un,S,hF⟩:=aA hF
 refine kY (xs:=([]:List Int)) (ys:=l) hf hc rfl rfl fN rfl rfl rfl rfl rfl bF (aCl hc O) (fun _ _=>u0) (by simpa using cP S) fun R M a w hf hc=>sp 1 hf rfl fun a hf=>zT h ?_
 refine wp_ret ?_
 obtain rfl:=sj hF
 exact zO1 Tryz.results18 hf rfl ⟨R,M,rfl,hc⟩

def cX (N:Nat) (l:List (List Int)) (out:List (List Int)) (B:Int):Option (cK ((List (List Int)) × Int) ((List (List Int)))) :=
 cond (decide (B < ((l.length:Nat):Int)))
 (Option.bind (bH l B) fun D=>
 Option.bind (lP N D) fun r=>
 Option.bind (room ((out++[r])).length) fun un=>
 some (.cont ((out++[r]),W (B + 1))))
 (some (.brk (out,B)))
def iK (N:Nat) (l:List (List Int)):Option ((List (List Int))) :=
 Option.bind (bE (fun s5=>cX N l s5.1 s5.2) N (([]:List (List Int)),0)) fun x5=>
 exK x5 (fun s5=>some s5.1) some
theorem uO {N:Nat} {G:aO} {Lf:List Ent} {w:World} (l:List (List Int)) {V:Option Addr} {X:Nat} (i:RdT aG G 1 V X l) (hc:Ctx G (Lf) w) {I:(List (List Int))} (hF:iK N l=some I):Calls Tryz.prog 17 #[.slice V l.length X] w (fun e w=>∃ (Z:Option Addr) (D:rM),e=.returned (.slice Z I.length D.1)∧Ctx G (.row Z D.1 ((aF D.2 I).map (Kd.v aG)) 30 1::aQ aG (aF D.2 I)::Lf) w):=by
 unfold iK at hF
 refine bI Tryz.func17 rfl Tryz.ntmps17 rfl fun a hf=>zS fun K h=>sp 1 hf rfl fun a hf=>zT h ?_
 refine zS fun K h=>sp 1 hf rfl fun a hf=>zT h ?_
 refine wp_seq_k fun K3 h3=>zS fun K h=>sp 1 hf rfl fun a hf=>zT h ?_
 refine wp_block ?_
 obtain ⟨x5,g,hF⟩:=aA hF
 let S5:((List (List Int)) × Int)→Act→World→Prop:=(fun (zz:(List (List Int)) × Int) a w=>∃ (H:Option Addr) (B:rM),Has 20 a [(0,.slice V l.length X),(3,.slice H zz.1.length B.1),(4,i6 zz.2)]∧Ctx G (.row H B.1 ((aF B.2 zz.1).map (Kd.v aG)) 30 1::aQ aG (aF B.2 zz.1)::Lf) w)
 have m:∀ (zz:(List (List Int)) × Int) a w,x5=.go zz→S5 zz a w→K3 a w:=by
  rintro ⟨out,b⟩ a w rfl ⟨H,B,hf,hc⟩
  replace hF:=bP hF
  refine h3 _ _ ?_
  refine zS fun K h=>sp 2 hf rfl fun a hf=>zT h ?_
  refine wp_ret ?_
  obtain rfl:=sj hF
  exact zO1 Tryz.results17 hf rfl ⟨H,B,rfl,hc⟩
 have s:∀ r,x5=.out r→r=I:=by
  rintro r rfl
  exact sj hF
 replace hc:=hc.nilRow 30 1
 replace hc:=zH (K:=aG) (hs:=(noH 0)) hc
 replace hc:=(hc.pick k0).pick k1
 refine cR N (cL (S:=S5) (x:=x5) ?_ N (([]:List (List Int)),0) _ _ ⟨none,(0,(noH 0)),hf.kp rfl,hc⟩ g)
 clear hF hf hc
 rintro ⟨out,b⟩ q a w KB5 ⟨H,B,hf,hc⟩ hF J n
 unfold cX at hF
 refine wp_seq_k fun K7 h7=>zS fun K h=>sp 2 hf rfl fun a hf=>zP hf rfl (bC Tryz.underlying23 rfl) fun a hf=>sp 1 hf rfl fun a hf=>zT h ?_
 refine zI hf rfl hF ?_ ?_ <;> clear hF <;> intro hF
 ·refine wp_skip ?_
  refine h7 _ _ ?_
  refine wp_seq_k fun K9 h9=>wp_block ?_
  refine cJ ?_
  refine sp 3 hf rfl fun a hf=>?_
  obtain ⟨k,d,hF⟩:=aA hF
  obtain ⟨t,o,hd,qa,qp,qr⟩:=i.atm d
  refine zP hf rfl (pIA Tryz.underlying23 nB rfl rfl qa) fun a hf=>zE hf hc rfl (bT kJ rfl (bL (j:=0) qp rfl)) fun a w hf hc=>?_
  obtain ⟨r,hr,hF⟩:=aA hF
  refine zC hf aKa rfl (tO k qr hc hr) ?_
  rintro _ w ⟨M,O,rfl,hc⟩
  refine ⟨_,rfl,fun a hf=>?_⟩
  refine jD (rows:=([((M,O),r)]:List (H2 × (List Int))).map (Kd.v aG)) (vs:=[(0,.slice M r.length O)]) hf hc rfl rfl wH rfl ⟨rfl,rfl,rfl,trivial⟩ rfl rfl fun u a w hf hc=>?_
  obtain ⟨un,p,hF⟩:=aA hF
  refine kY (xs:=(aF B.2 out)) (ys:=([((M,O),r)]:List (H2 × (List Int)))) hf hc rfl rfl wH rfl rfl (bY _ _).symm rfl rfl cD (fG hc m0) (fun _ _=>u2) (by simpa [bY] using cP p) fun U R a w hf hc=>?_
  replace hf:=jP (v':=.slice U (out++[r]).length R) (by simp [bY]) hf
  refine sp 1 hf rfl fun a hf=>aP ?_
  replace hc:=(((hc.drop k0).pick k0).pick k2).pick k2
  obtain ⟨Y,hc⟩:=nW (K:=aG) ([((M,O),r)]:List (H2 × (List Int))) hc
  replace hc:Ctx G (.row U R ((aF Y (out++[r])).map (Kd.v aG)) 30 1::aQ aG (aF Y (out++[r]))::Lf) w:=hc
  refine h9 _ _ ?_
  refine cJ ?_
  refine sp 3 hf rfl fun a hf=>aP ?_
  exact n ((out++[r]),W (b + 1)) _ _ (sj hF).symm ⟨U,(R,Y),hf.kp rfl,hc⟩
 ·refine wp_exit ?_
  refine aW ?_
  refine aW ?_
  have he:=sj hF
  rw [← he] at J
  refine eV ?_
  exact m _ _ _ J ⟨H,B,hf.kp rfl,hc⟩

def dG (N:Nat) (r:aB) (x:Int) (B:List aC):Option (cK (Int × (List aC)) (aB)) :=
 cond (decide (x < ((r.Stations.length:Nat):Int)))
 (Option.bind (bH r.Stations x) fun D=>
 Option.bind (lP N D.Order) fun H=>
 Option.bind (room ((B++[(⟨D.Places,H⟩:aC)])).length) fun un=>
 some (.cont (W (x + 1),(B++[(⟨D.Places,H⟩:aC)]))))
 (some (.brk (x,B)))
def fZ (N:Nat) (r:aB):Option (aB) :=
 Option.bind (iK N r.People) fun B=>
 Option.bind (bE (fun s5=>dG N r s5.1 s5.2) N (0,([]:List aC))) fun x5=>
 exK x5 (fun s5=>some (⟨B,s5.2⟩:aB)) some
theorem lZ {N:Nat} {G:aO} {Lf:List Ent} {w:World} (r:aB) {Z:Option Addr} {Y:Nat} {H:Option Addr} {I:Nat} (z:RdT aG G 1 Z Y r.People) (m:RdT aL G 2 H I r.Stations) (hc:Ctx G (Lf) w) {d:aB} (hF:fZ N r=some d):Calls Tryz.prog 7 #[.agg #[.slice Z r.People.length Y,.slice H r.Stations.length I]] w (fun e w=>∃ (ai:Option Addr) (g:rM) (ak:Option Addr) (i:rM),e=.returned (.agg #[.slice ai d.People.length g.1,.slice ak d.Stations.length i.1])∧Ctx G (.row ai g.1 ((aF g.2 d.People).map (Kd.v aG)) 30 1::aQ aG (aF g.2 d.People)::.row ak i.1 ((aF i.2 d.Stations).map (Kd.v aL)) 36 2::aQ aL (aF i.2 d.Stations)::Lf) w):=by
 unfold fZ at hF
 refine bI Tryz.func7 rfl Tryz.ntmps7 rfl fun a hf=>zS fun K h=>zB hf hc rfl fun a3 a w hf hc=>zA hf hc wW rfl fun j a w hf hc=>zT h ?_
 refine zS fun K h=>zP hf rfl (pFA eZ rfl) fun a hf=>zL hf hc mA m1 rfl fun a w hf hc=>?_
 obtain ⟨R,aq,hF⟩:=aA hF
 refine zC hf en_17 rfl (uO r.People z hc aq) ?_
 rintro _ w ⟨U,M,rfl,hc⟩
 refine ⟨_,rfl,fun a hf=>?_⟩
 refine zP hf rfl (cF (cells:=[.slice U R.length M.1,.slice none 0 0]) aKg rfl rfl) fun a hf=>zA hf hc wW rfl fun X a w hf hc=>zW hf hc yL u0 rfl fun w hc=>zT h ?_
 refine wp_seq_k fun K3 h3=>zS fun K h=>zP hf rfl (pFA eG rfl) fun a hf=>zL hf hc lN m4 rfl fun a w hf hc=>zP hf rfl (bC Tryz.underlying24 rfl) fun a hf=>sp 1 hf rfl fun a hf=>zT h ?_
 refine wp_block ?_
 obtain ⟨x5,au,hF⟩:=aA hF
 let S5:(Int × (List aC))→Act→World→Prop:=(fun (zz:Int × (List aC)) a w=>∃ (V:Option Addr) (B:rM),Has 30 a [(2,pq j),(3,pq X),(11,.slice H r.Stations.length I),(12,i6 ((r.Stations.length:Nat):Int)),(13,i6 zz.1)]∧Ctx G (.row V B.1 ((aF B.2 zz.2).map (Kd.v aL)) 36 2::aQ aL (aF B.2 zz.2)::.box X [.slice U R.length M.1,.slice V zz.2.length B.1] 26::.row U M.1 ((aF M.2 R).map (Kd.v aG)) 30 1::aQ aG (aF M.2 R)::.box j [.slice none 0 0,.slice none 0 0] 26::Lf) w)
 have a0:∀ (zz:Int × (List aC)) a w,x5=.go zz→S5 zz a w→K3 a w:=by
  rintro ⟨x,O⟩ a w rfl ⟨V,B,hf,hc⟩
  replace hF:=bP hF
  refine h3 _ _ ?_
  refine zS fun K h=>zN hf hc mD m2 rfl fun a w hf hc=>zW hf hc yL u5 rfl fun w hc=>zT h ?_
  refine wp_ret ?_
  obtain rfl:=sj hF
  replace hc:=((((hc.drop k2).pick k1).pick k1).pick k3).pick k3
  exact tC (by simp) rfl Tryz.results7 hf hc (fK (vs:=[.slice U R.length M.1,.slice V O.length B.1]) mD rfl rfl (bM (n:=2) m4 rfl)) ⟨U,M,V,B,rfl,(hc.drop k4)⟩
 have a6:∀ r,x5=.out r→r=d:=by
  rintro r rfl
  exact sj hF
 replace hc:=hc.nilRow 36 2
 replace hc:=zH (K:=aL) (hs:=(noH 0)) hc
 replace hc:=((hc.drop k6).pick k0).pick k1
 refine cR N (cL (S:=S5) (x:=x5) ?_ N (0,([]:List aC)) _ _ ⟨none,(0,(noH 0)),hf.kp rfl,hc⟩ au)
 clear hF hf hc
 rintro ⟨x,O⟩ a5 a w KB5 ⟨V,B,hf,hc⟩ hF af ax
 unfold dG at hF
 refine zS fun K h=>sp 1 hf rfl fun a hf=>zT h ?_
 refine wp_seq_k fun K8 h8=>zI hf rfl hF ?_ ?_ <;> clear hF <;> intro hF
 ·refine wp_skip ?_
  refine h8 _ _ ?_
  refine wp_seq_k fun K9 h9=>wp_block ?_
  refine zS fun K h=>?_
  obtain ⟨D,ap,hF⟩:=aA hF
  obtain ⟨a4,o,hd,qa,qp,qr⟩:=m.atm ap
  refine zP hf rfl (pIA Tryz.underlying24 pF rfl rfl qa) fun a hf=>zE hf hc rfl (jN (vs:=[i6 D.Places,.slice hd.1 D.Order.length hd.2]) aAn rfl rfl (eX qp (n:=2) (o':=0) rfl)) fun a w hf hc=>zA hf hc aHd rfl fun y a w hf hc=>zW hf hc pF u0 rfl fun w hc=>zT h ?_
  obtain ⟨J,ar,hF⟩:=aA hF
  obtain ⟨un,a2,hF⟩:=aA hF
  replace hc:=hc.nilRow 0 0
  replace hc:=hc.nilRow 0 0
  refine gK (fun θ=>[⟨none,none,2,pq j⟩,⟨none,none,3,pq X⟩,⟨none,none,5,pq y⟩,⟨none,none,11,.slice H r.Stations.length I⟩,⟨none,none,12,i6 ((r.Stations.length:Nat):Int)⟩,⟨none,none,13,i6 x⟩,⟨some 0,none,17,.pointer (some ⟨X,1,none⟩)⟩,⟨some 1,none,18,.slice V O.length B.1⟩,⟨some 2,none,19,pq y⟩,⟨some 3,none,20,i6 D.Places⟩,⟨some 4,none,21,.pointer (some ⟨y,1,none⟩)⟩,⟨some 5,none,22,.slice hd.1 D.Order.length hd.2⟩,⟨some 6,none,23,.slice ((θ 48).p) J.length ((θ 48).c)⟩,⟨some 7,none,24,.agg #[i6 D.Places,.slice ((θ 48).p) J.length ((θ 48).c)]⟩,⟨some 8,none,25,.slice (some ⟨(θ 64).b,0,none⟩) 1 1⟩,⟨some 9,none,26,.slice ((θ 72).p) ((O++[(⟨D.Places,J⟩:aC)]).length) ((θ 72).c)⟩,⟨some 10,none,27,.pointer (some ⟨X,1,none⟩)⟩]) (fun E θ=>(bif E 8 then .row (some ⟨(θ 64).b,0,none⟩) 1 (([(((θ 48).p,(θ 48).c),(⟨D.Places,J⟩:aC))]:List (H2 × aC)).map (Kd.v aL)) 36 2 else .row none 0 [] 0 0)::(bif E 6 then .row ((θ 48).p) ((θ 48).c) (J.map aD) 3 1 else .row none 0 [] 0 0)::.box y [i6 D.Places,.slice hd.1 D.Order.length hd.2] 36::(bif E 9 then .row ((θ 72).p) ((θ 72).c) (((aF B.2 O)++([(((θ 48).p,(θ 48).c),(⟨D.Places,J⟩:aC))]:List (H2 × aC))).map (Kd.v aL)) 36 2 else .row V B.1 ((aF B.2 O).map (Kd.v aL)) 36 2)::aQ aL (aF B.2 O)::(bif E 11 then .box X [.slice U R.length M.1,.slice ((θ 72).p) ((O++[(⟨D.Places,J⟩:aC)]).length) ((θ 72).c)] 26 else .box X [.slice U R.length M.1,.slice V O.length B.1] 26)::.row U M.1 ((aF M.2 R).map (Kd.v aG)) 30 1::aQ aG (aF M.2 R)::.box j [.slice none 0 0,.slice none 0 0] 26::Lf) [(7,6),(11,1),(8,7),(9,6),(11,9)] (fun a w=>∃ (am:Nat) (ac:Option Addr) (ab:Nat) (q:Option Addr) (s:Nat),Has 30 a [(2,pq j),(3,pq X),(11,.slice H r.Stations.length I),(12,i6 ((r.Stations.length:Nat):Int)),(13,i6 x)]∧Ctx G (.row (some ⟨am,0,none⟩) 1 (([((ac,ab),(⟨D.Places,J⟩:aC))]:List (H2 × aC)).map (Kd.v aL)) 36 2::.row ac ab (J.map aD) 3 1::.box y [i6 D.Places,.slice hd.1 D.Order.length hd.2] 36::.row q s (((aF B.2 O)++([((ac,ab),(⟨D.Places,J⟩:aC))]:List (H2 × aC))).map (Kd.v aL)) 36 2::aQ aL (aF B.2 O)::.box X [.slice U R.length M.1,.slice q ((O++[(⟨D.Places,J⟩:aC)]).length) s] 26::.row U M.1 ((aF M.2 R).map (Kd.v aG)) 30 1::aQ aG (aF M.2 R)::.box j [.slice none 0 0,.slice none 0 0] 26::Lf) w) aU (by kernel_rfl) (by kernel_rfl) (fB.of hf ⟨rfl,rfl,rfl,rfl,rfl,rfl,trivial,trivial,trivial,trivial,trivial,trivial,trivial,trivial,trivial,trivial,trivial,trivial⟩) hc ⟨?_,?_,?_,?_,?_,?_,?_,?_,?_,?_,?_,?_,trivial⟩ ?_ ?_
  ·intro E θ a w hD hi hp he hc
   have hf:=he.h0.mT he 1 rfl
   refine zP hf rfl (pFA eG rfl) fun a hf=>zD θ he hi hf 6 rfl rfl rfl hc
  ·intro E θ a w hD hi hp he hc
   have e0:=hp.o 0 rfl
   have k:=hD.f 1 rfl hi
   try dsimp only at hc
   rw [k] at hc
   have hf:=he.h0.mP he 6 rfl e0
   refine zL hf hc lN m5 rfl fun a w hf hc=>zD θ he hi hf 7 rfl rfl rfl ?_
   try dsimp only
   rw [bB 1 k rfl]
   exact hc
  ·intro E θ a w hD hi hp he hc
   have hf:=he.h0.mT he 2 rfl
   refine zP hf rfl (pFA pW rfl) fun a hf=>zD θ he hi hf 8 rfl rfl rfl hc
  ·intro E θ a w hD hi hp he hc
   have e2:=hp.o 2 rfl
   have hf:=he.h0.mP he 8 rfl e2
   refine zL hf hc bA m2 rfl fun a w hf hc=>zD θ he hi hf 9 rfl rfl rfl hc
  ·intro E θ a w hD hi hp he hc
   have hf:=he.h0.mT he 2 rfl
   refine zP hf rfl (pFA tF rfl) fun a hf=>zD θ he hi hf 10 rfl rfl rfl hc
  ·intro E θ a w hD hi hp he hc
   have e4:=hp.o 4 rfl
   have hf:=he.h0.mP he 10 rfl e4
   refine zL hf hc kJ m2 rfl fun a w hf hc=>zD θ he hi hf 11 rfl rfl rfl hc
  ·intro E θ a w hD hi hp he hc
   have e5:=hp.o 5 rfl
   have e7:=hD.f 0 rfl hi
   have e8:=hD.f 2 rfl e7
   have e9:=hD.f 3 rfl hi
   try dsimp only at hc
   rw [hi,e8,e9] at hc
   have hf:=he.h0.mP he 11 rfl e5
   refine zC hf aKa rfl (tO D.Order qr hc ar) ?_
   rintro _ w ⟨av,ay,rfl,hc⟩
   refine ⟨_,rfl,fun a hf=>?_⟩
   refine aP ?_
   refine cV ?_
   intro ds u ad
   replace hc:=((hc.drop k2).pick k0).pick k1
   refine ⟨(lA θ 48 ⟨0,av,ay,(fun _=>(none,0))⟩),he.put hi ad hf rfl [7] ⟨⟨e7,rfl⟩,trivial⟩ ⟨qq,qq,qq,qq,qq,qq,qq,qq,qq,qq,qq,qq,qq,trivial,qq,qq,qq,trivial⟩,?_⟩
   try dsimp only
   rw [aR E 6,bB 6 e8 rfl,bB 6 e9 rfl]
   exact hc
  ·intro E θ a w hD hi hp he hc
   have e3:=hp.o 3 rfl
   have e6:=hp.o 6 rfl
   have hf:=(he.h0.mP he 9 rfl e3).mP he 12 rfl e6
   refine zP hf rfl (cF (cells:=[i6 D.Places,.slice ((θ 48).p) J.length ((θ 48).c)]) aDm rfl rfl) fun a hf=>zD θ he hi hf 13 rfl rfl rfl hc
  ·intro E θ a w hD hi hp he hc
   have e7:=hp.o 7 rfl
   have e6:=hD.t 0 rfl e7
   try dsimp only at hc
   rw [hi,e6] at hc
   have hf:=he.h0.mP he 13 rfl e7
   refine jD (rows:=([(((θ 48).p,(θ 48).c),(⟨D.Places,J⟩:aC))]:List (H2 × aC)).map (Kd.v aL)) (vs:=[(0,.agg #[i6 D.Places,.slice ((θ 48).p) J.length ((θ 48).c)])]) hf hc rfl rfl aAe rfl ⟨rfl,rfl,rfl,trivial⟩ rfl rfl fun az a w hf hc=>aP ?_
   refine cV ?_
   intro ds u ad
   replace hc:=hc.drop k1
   refine ⟨(lA θ 64 ⟨az,none,0,(fun _=>(none,0))⟩),he.put hi ad hf rfl [] trivial ⟨qq,qq,qq,qq,qq,qq,qq,qq,qq,qq,qq,qq,qq,qq,qq,qq,qq,trivial⟩,?_⟩
   try dsimp only
   rw [aR E 8,dK 8 e6]
   exact hc
  ·intro E θ a w hD hi hp he hc
   have e1:=hp.o 1 rfl
   have e8:=hp.o 8 rfl
   have k:=hD.f 4 rfl hi
   try dsimp only at hc
   rw [e8,hi,k] at hc
   have hf:=(he.h0.mP he 7 rfl e1).mP he 14 rfl e8
   refine kY (xs:=(aF B.2 O)) (ys:=([(((θ 48).p,(θ 48).c),(⟨D.Places,J⟩:aC))]:List (H2 × aC))) hf hc rfl rfl aAe rfl rfl (bY _ _).symm rfl rfl rV (fG hc m0) (fun _ _=>u3) (by simpa [bY] using cP a2) fun an aj a w hf hc=>?_
   replace hf:=jP (v':=.slice an (O++[(⟨D.Places,J⟩:aC)]).length aj) (by simp [bY]) hf
   refine aP ?_
   refine cV ?_
   intro ds u ad
   refine ⟨(lA θ 72 ⟨0,an,aj,(fun _=>(none,0))⟩),he.put hi ad hf rfl [] trivial ⟨qq,qq,qq,qq,qq,qq,qq,qq,qq,qq,qq,qq,qq,qq,qq,qq,qq,trivial⟩,?_⟩
   try dsimp only
   rw [dK 9 e8,aR E 9,bB 9 k rfl]
   exact hc
  ·intro E θ a w hD hi hp he hc
   have hf:=he.h0.mT he 1 rfl
   refine zP hf rfl (pFA eG rfl) fun a hf=>zD θ he hi hf 16 rfl rfl rfl hc
  ·intro E θ a w hD hi hp he hc
   have e9:=hp.o 9 rfl
   have a1:=hp.o 10 rfl
   try dsimp only at hc
   rw [hi] at hc
   have hf:=(he.h0.mP he 15 rfl e9).mP he 16 rfl a1
   refine zW hf hc aIq u5 rfl fun w hc=>zG θ he hi hf rfl ?_
   try dsimp only
   rw [aR E 11]
   exact hc
  ·intro E θ a w aa he hc
   have hf:=he.h0
   have e6:=aa 6 rfl
   have e8:=aa 8 rfl
   have e9:=aa 9 rfl
   have k:=aa 11 rfl
   replace hf:=hf.more he 5 rfl (onT)
   replace hf:=hf.more he 4 rfl (onT)
   replace hf:=hf.more he 3 rfl (onT)
   replace hf:=hf.more he 1 rfl (onT)
   replace hf:=hf.more he 0 rfl (onT)
   try dsimp only at hc
   rw [e6,e8,e9,k] at hc
   exact ⟨(θ 64).b,(θ 48).p,(θ 48).c,(θ 72).p,(θ 72).c,hf.kp rfl,hc⟩
  rintro a w ⟨am,ac,ab,q,s,hf,hc⟩
  replace hc:=((((hc.drop k0).pick k1).pick k1).pick k3).pick k3
  obtain ⟨ag,hc⟩:=nW (K:=aL) ([((ac,ab),(⟨D.Places,J⟩:aC))]:List (H2 × aC)) hc
  replace hc:Ctx G (.row q s ((aF ag (O++[(⟨D.Places,J⟩:aC)])).map (Kd.v aL)) 36 2::aQ aL (aF ag (O++[(⟨D.Places,J⟩:aC)]))::.box y [i6 D.Places,.slice hd.1 D.Order.length hd.2] 36::.box X [.slice U R.length M.1,.slice q ((O++[(⟨D.Places,J⟩:aC)]).length) s] 26::.row U M.1 ((aF M.2 R).map (Kd.v aG)) 30 1::aQ aG (aF M.2 R)::.box j [.slice none 0 0,.slice none 0 0] 26::Lf) w:=hc
  refine h9 _ _ ?_
  refine cJ ?_
  refine sp 2 hf rfl fun a hf=>aP ?_
  replace hc:=hc.drop k2
  exact ax (W (x + 1),(O++[(⟨D.Places,J⟩:aC)])) _ _ (sj hF).symm ⟨q,(s,ag),hf.kp rfl,hc⟩
 ·refine wp_exit ?_
  refine aW ?_
  refine aW ?_
  have he:=sj hF
  rw [← he] at af
  refine eV ?_
  exact a0 _ _ _ af ⟨V,B,hf.kp rfl,hc⟩

def fH (N:Nat) (s_:List Int) (i_:Int) (v:List Int):Option ((List Int)) :=
 insO s_ i_ v
/-! ### Walks of the library -/
section
open Go.RowKit Go.Lib
theorem iX9:(Tryz.prog.info? 3).map (fun i=>(i.zero,i.size,i.bytes))=some (some (Value.int .i64 0),1,8):=by kernel_rfl
theorem soX9:∀ w:World,(Go.sizeOf 3).run Tryz.prog w=.ok 1 w:=fun w=>by
 obtain ⟨i0,B,H,D,I⟩:=info_parts iX9
 simp [Go.sizeOf,typeInfo,B,D]
theorem szX9:(Tryz.prog.info? 3).map (·.size)=some 1:=by kernel_rfl
set_option maxHeartbeats 4000000 in
set_option maxRecDepth 1000000 in
theorem aD8 (b n c i vb m vc:Nat) (cs vs:List Value) (w:World) (hi:i < n) (hm:0 < m) (y:n + m≤c) (z:c≤9223372036854775807) (M:vb ≠ b)
  (t:cs.length=n * 1) (d:vs.length=m * 1)
  (Z:∀ j v,cs[j]?=some v→w.cell? ⟨b,j,none⟩=some v) (H:∀ j,j < (n + m) * 1→(w.cell? ⟨b,j,none⟩).isSome=true) (J:∀ j,j < (n + m) * 1→w.frozen? ⟨b,j,none⟩=false)
  (u:∀ j v,vs[j]?=some v→w.cell? ⟨vb,j,none⟩=some v) (X:∀ v ∈ cs,v.oneCell'=true) (g:∀ v ∈ vs,v.oneCell'=true)
  (tA tB:TypeId) (kA kB:Nat) (r:w.shape? vb=some (tA,kA)) (p:w.shape? b=some (tB,kB)) (V:kB ≠ 0) (o:w.frozen? ⟨vb,0,none⟩=false) (U:w.frozen? ⟨vb,kA,none⟩=false) :
  Calls Tryz.prog 9 #[.slice (some ⟨b,0,none⟩) n c,i6 i,.slice (some ⟨vb,0,none⟩) m vc] w fun e w'=>
   e=.returned (.slice (some ⟨b,0,none⟩) (n + m) c)∧w'=(w.drew.setCells b ((i + m) * 1) (cs.drop (i * 1))).setCells b (i * 1) vs:=by
 have ak:¬ ((m:Int)=0):=by omega
 have ag:¬ ((i:Int)=(n:Int)):=by omega
 have s:∀ lb cb,(callFunc 20 #[.slice (some ⟨vb,0,none⟩) m vc,.slice (some ⟨b,(i + m) * 1,none⟩) lb cb]).run Tryz.prog w=.ok (.value (.bool false)) w:=fun lb cb=>by
  rw [run_callFunc_extern Tryz.func20 (by kernel_rfl) (by kernel_rfl) (by kernel_rfl) (e:=Extern.SlicesOverlaps.overlaps #[30,30] #[4]) (by kernel_rfl),
   Lib.run_overlaps_apart w 30 4 3 Tryz.underlying30 1 soX9 ⟨vb,0,none⟩ ⟨b,(i + m) * 1,none⟩ m vc lb cb M tA tB kA kB r p V o U]
  rfl
 have Y:(cs.drop (i * 1)).length=(n - i) * 1:=by rw [List.length_drop,t]; omega
 have ab:IntKind.i64.wrap ((i:Int) + (m:Int))=(i:Int) + (m:Int):=by rw [IntKind.wrap_i64]; omega
 have ai:(0:Int)≤(i:Int) + (m:Int):=by omega
 have aa:i≤n:=by omega
 have ac:((i:Int) + (m:Int)).toNat=i + m:=by omega
 have aj:¬ (c=i + m):=by omega
 have ad:(i:Int)≤(n:Int) + (m:Int):=by omega
 have af:¬ (c=i):=by omega
 have B:Nat.min (n + m - i) (n + m - (i + m))=n - i:=by simp only [Nat.min_def]; split <;> omega
 have D:Nat.min m (n + m - i)=m:=by simp only [Nat.min_def]; split <;> omega
 have I:∀ ty dc sc,(Builtin.copy_ #[30,30] ty #[.slice (some ⟨b,(i + m) * 1,none⟩) (n + m - (i + m)) dc,.slice (some ⟨b,i * 1,none⟩) (n + m - i) sc]).run Tryz.prog w.drew=.ok (goInt (Nat.min (n + m - i) (n + m - (i + m)))) (w.drew.setCells b ((i + m) * 1) (cs.drop (i * 1))):=fun ty dc sc=>
  Go.Nilo.mC w.drew _ _ ty 3 b ((i + m) * 1) (n + m - (i + m)) dc ⟨b,i * 1,none⟩ (n + m - i) sc 1 (cs.drop (i * 1)) Tryz.underlying30 szX9 (by rw [Y,B])
   (fun j v hj=>by rw [Addr.add_lit]; exact Z (i * 1 + j) v (by rwa [List.getElem?_drop] at hj))
   (fun j hj=>H _ (by omega)) (fun j hj=>J _ (by omega)) (fun v hv=>X v (List.mem_of_mem_drop hv))
 obtain ⟨W1,hW1⟩:∃ W1,W1=w.drew.setCells b ((i + m) * 1) (cs.drop (i * 1)):=⟨_,rfl⟩
 have S:∀ k,k < (n + m) * 1→(W1.cell? ⟨b,k,none⟩).isSome=true:=fun k hk=>by
  rw [hW1]
  exact Go.Proofs.isSome_setCells b (cs.drop (i * 1)) ((i + m) * 1) w.drew (fun j hj=>H _ (by omega)) _ (H k hk)
 have R:∀ (W:World),(∀ x,W.cell? x=W1.cell? x)→(∀ x,W.frozen? x=W1.frozen? x)→∀ ty dc,(Builtin.copy_ #[30,30] ty #[.slice (some ⟨b,i * 1,none⟩) (n + m - i) dc,.slice (some ⟨vb,0,none⟩) m vc]).run Tryz.prog W=.ok (goInt (Nat.min m (n + m - i))) (W.setCells b (i * 1) vs):=fun W O q ty dc=>
  Go.Nilo.mC W _ _ ty 3 b (i * 1) (n + m - i) dc ⟨vb,0,none⟩ m vc 1 vs Tryz.underlying30 szX9 (by rw [d,D])
   (fun j v hj=>by
    rw [Addr.add_lit,O,hW1,World.cell?_setCells_out b _ _ _ _ (fun h _=>absurd h M),Nat.zero_add]
    exact u j v hj)
   (fun j hj=>by rw [O]; exact S _ (by omega)) (fun j hj=>by rw [q,hW1,World.frozen?_setCells]; exact J _ (by omega)) g
 rw [← hW1] at I
 clear B D
 try simp only [Nat.mul_one] at *
 go_enter Tryz.func9,Tryz.ntmps9
 go_wp2_with (simp only [s])
 go_region_law (refine Go.Proofs.step_copy_runI rfl _ _ 30 30 rfl _ _ (by simp [Act.eval,Act.put]) (by simp [Act.eval,Act.put]) (I _ _ _) ?_)
 go_wp2_with (at_builtin; refine Go.Proofs.wpList_copy_runI _ rfl _ _ 30 30 rfl _ _ rfl rfl (R _ (fun _=>rfl) (fun _=>rfl) _ _) ?_)
 go_ret
 first | exact ⟨rfl,rfl⟩ | exact ⟨rfl,by rw [hW1]⟩

set_option maxHeartbeats 4000000 in
set_option maxRecDepth 1000000 in
theorem aGb (b n c i vb m vc:Nat) (cs vs:List Value) (w:World) (hi:i < n) (hm:0 < m) (a1:n≤c) (S:c < n + m) (Z:(n + m) * 8≤140737488355328)
  (ad:cs.length=n * 1) (ag:vs.length=m * 1)
  (V:∀ j v,cs[j]?=some v→w.cell? ⟨b,j,none⟩=some v)
  (ak:∀ j v,vs[j]?=some v→w.cell? ⟨vb,j,none⟩=some v) (g:∀ v ∈ cs,v.oneCell'=true) (o:∀ v ∈ vs,v.oneCell'=true) (z:b < w.heap.size) (u:vb < w.heap.size) :
  Calls Tryz.prog 9 #[.slice (some ⟨b,0,none⟩) n c,i6 i,.slice (some ⟨vb,0,none⟩) m vc] w fun e w'=>
   e=.returned (.slice (some ⟨w.heap.size,0,none⟩) (n + m) (grownCap w (n + m) c 3)) ∧
   w'=(((w.alloc (.cells ((cs.take (i * 1)).toArray++Builtin.zeroCells (Value.int .i64 0).cells (n + m - i)++Builtin.zeroCells (Value.int .i64 0).cells (grownCap w (n + m) c 3 - (n + m))) 3)).drew.setCells w.heap.size (i * 1) vs).drew).setCells w.heap.size ((i + m) * 1) (cs.drop (i * 1)):=by
 obtain ⟨i0,y,aa,q,U⟩:=info_parts iX9
 have az:¬ ((m:Int)=0):=by omega
 have av:¬ ((i:Int)=(n:Int)):=by omega
 have ar:(c:Int) < (n:Int) + (m:Int):=by omega
 have Y:(n:Int) + (m:Int) - (i:Int)=((n + m - i:Nat):Int):=by omega
 have O:i + (n + m - i)=n + m:=by omega
 have R:(Builtin.firstCells i0.size i (.slice (some ⟨b,0,none⟩) i c)).run Tryz.prog w.drew=.ok (cs.take (i * 1)).toArray w.drew:=by
  rw [q]
  exact run_firstCells_some w.drew 1 i ⟨b,0,none⟩ i c (cs.take (i * 1)) (by rw [List.length_take]; omega) (fun j v hj=>by
   rw [Addr.add_lit]
   rw [List.getElem?_take] at hj
   split at hj
   ·rw [Nat.zero_add]; exact V j v hj
   ·cases hj)
 have I:∀ ty,(Builtin.append_ #[30,3] ty #[.slice (some ⟨b,0,none⟩) i c,i6 ((n:Int) + (m:Int) - (i:Int))]).run Tryz.prog w =
   .ok (.slice (some ⟨w.heap.size,0,none⟩) (n + m) (grownCap w (n + m) c 3)) (w.drew.alloc (.cells ((cs.take (i * 1)).toArray++Builtin.zeroCells (Value.int .i64 0).cells (n + m - i)++Builtin.zeroCells (Value.int .i64 0).cells (grownCap w (n + m) c 3 - (n + m))) 3)):=fun ty=>by
  have h:=Lib.run_append_grow_zeros w 30 3 ty 3 i0 _ .i64 .i64 Tryz.underlying30 Tryz.underlying3 y aa (some ⟨b,0,none⟩) i c (cs.take (i * 1)) R (n + m - i) (by omega) (by omega) (by omega) (by omega) (by rw [U]; omega) (by rw [U,O]; exact growslice_fits S Z)
  rw [O] at h
  rw [Y]
  exact h
 obtain ⟨G,hG⟩:∃ G,G=grownCap w (n + m) c 3:=⟨_,rfl⟩
 obtain ⟨ROW,hROW⟩:∃ ROW:Array Value,ROW=(cs.take (i * 1)).toArray++Builtin.zeroCells (Value.int .i64 0).cells (n + m - i)++Builtin.zeroCells (Value.int .i64 0).cells (G - (n + m)):=⟨_,rfl⟩
 rw [← hG] at I ⊢
 rw [← hROW] at I ⊢
 have r:(n + m) * 1≤ROW.size:=by
  rw [hROW,Array.size_append,Array.size_append,size_zeroCells,size_zeroCells,List.size_toArray,List.length_take]
  have:(Value.int .i64 0).cells.size=1:=by decide
  rw [this]
  omega
 obtain ⟨W1,hW1⟩:∃ W1,W1=w.drew.alloc (.cells ROW 3):=⟨_,rfl⟩
 rw [← hW1] at I
 have hN:∀ j,j < (n + m) * 1→(W1.cell? ⟨w.heap.size,j,none⟩).isSome=true:=fun j hj=>by
  rw [hW1,World.cell?_alloc_at (w:=w.drew) ROW _ w.heap.size j rfl,Array.getElem?_eq_getElem (by omega)]; rfl
 have X:∀ j,W1.frozen? ⟨w.heap.size,j,none⟩=false:=fun j=>by rw [hW1]; exact World.frozen?_alloc_at (w:=w.drew) ROW _ w.heap.size j rfl
 have ai:∀ j v,w.cell? ⟨b,j,none⟩=some v→W1.cell? ⟨b,j,none⟩=some v:=fun j v h=>by rw [hW1,World.cell?_alloc_past (w:=w.drew) _ b j z]; exact h
 have ac:∀ j v,w.cell? ⟨vb,j,none⟩=some v→W1.cell? ⟨vb,j,none⟩=some v:=fun j v h=>by rw [hW1,World.cell?_alloc_past (w:=w.drew) _ vb j u]; exact h
 have D:Nat.min m (n + m - i)=m:=by simp only [Nat.min_def]; split <;> omega
 have H:Nat.min (n - i) (n + m - (i + m))=n - i:=by simp only [Nat.min_def]; split <;> omega
 have d:∀ (W:World),(∀ x,W.cell? x=W1.cell? x)→(∀ x,W.frozen? x=W1.frozen? x)→∀ ty dc,(Builtin.copy_ #[30,30] ty #[.slice (some ⟨w.heap.size,i * 1,none⟩) (n + m - i) dc,.slice (some ⟨vb,0,none⟩) m vc]).run Tryz.prog W=.ok (goInt (Nat.min m (n + m - i))) (W.setCells w.heap.size (i * 1) vs):=fun W B J ty dc=>
  Go.Nilo.mC W _ _ ty 3 w.heap.size (i * 1) (n + m - i) dc ⟨vb,0,none⟩ m vc 1 vs Tryz.underlying30 szX9 (by rw [ag,D])
   (fun j v hj=>by rw [Addr.add_lit,B,Nat.zero_add]; exact ac _ v (ak j v hj))
   (fun j hj=>by rw [B]; exact hN _ (by omega)) (fun j hj=>by rw [J]; exact X _) o
 have au:n + m≤G:=by rw [hG]; exact grownCap_ge w _ _ _
 have an:G≤9223372036854775807:=by
  have:=grownCap_le_maxLen w (n + m) c 3 (by unfold maxLen; omega)
  rw [← hG] at this
  unfold maxLen at this
  omega
 have ay:¬ (G=i):=by omega
 have am:¬ (G=i + m):=by omega
 have ax:¬ (c=i):=by omega
 have aj:b ≠ w.heap.size:=by omega
 have k:(cs.drop (i * 1)).length=(n - i) * 1:=by rw [List.length_drop,ad]; omega
 have M:∀ (W:World),(∀ x,W.cell? x=(W1.setCells w.heap.size (i * 1) vs).cell? x)→(∀ x,W.frozen? x=(W1.setCells w.heap.size (i * 1) vs).frozen? x)→∀ ty dc sc,(Builtin.copy_ #[30,30] ty #[.slice (some ⟨w.heap.size,(i + m) * 1,none⟩) (n + m - (i + m)) dc,.slice (some ⟨b,i * 1,none⟩) (n - i) sc]).run Tryz.prog W=.ok (goInt (Nat.min (n - i) (n + m - (i + m)))) (W.setCells w.heap.size ((i + m) * 1) (cs.drop (i * 1))):=fun W B J ty dc sc=>
  Go.Nilo.mC W _ _ ty 3 w.heap.size ((i + m) * 1) (n + m - (i + m)) dc ⟨b,i * 1,none⟩ (n - i) sc 1 (cs.drop (i * 1)) Tryz.underlying30 szX9 (by rw [k,H])
   (fun j v hj=>by
    rw [Addr.add_lit,B,World.cell?_setCells_out _ _ _ _ _ (fun h _=>absurd h aj)]
    exact ai _ v (V (i * 1 + j) v (by rwa [List.getElem?_drop] at hj)))
   (fun j hj=>by rw [B]; exact Go.Proofs.isSome_setCells _ vs _ _ (fun t ht=>hN _ (by omega)) _ (hN _ (by omega)))
   (fun j hj=>by rw [J,World.frozen?_setCells]; exact X _) (fun v hv=>g v (List.mem_of_mem_drop hv))
 subst hW1
 have af:∀ x,((w.alloc (.cells ROW 3)).drew).cell? x=(w.drew.alloc (.cells ROW 3)).cell? x:=fun x=>rfl
 have ab:∀ x,((w.alloc (.cells ROW 3)).drew).frozen? x=(w.drew.alloc (.cells ROW 3)).frozen? x:=fun x=>rfl
 have p:∀ x,(((w.alloc (.cells ROW 3)).drew.setCells w.heap.size (i * 1) vs).drew).cell? x=((w.drew.alloc (.cells ROW 3)).setCells w.heap.size (i * 1) vs).cell? x:=fun x=>rfl
 have s:∀ x,(((w.alloc (.cells ROW 3)).drew.setCells w.heap.size (i * 1) vs).drew).frozen? x=((w.drew.alloc (.cells ROW 3)).setCells w.heap.size (i * 1) vs).frozen? x:=fun x=>rfl
 have aq:IntKind.i64.wrap ((i:Int) + (m:Int))=(i:Int) + (m:Int):=by rw [IntKind.wrap_i64]; omega
 have a0:(0:Int)≤(i:Int) + (m:Int):=by omega
 have ap:i≤n:=by omega
 have a2:((i:Int) + (m:Int)).toNat=i + m:=by omega
 have a3:(i:Int)≤(n:Int):=by omega
 clear Y O R hROW hG r D H
 try simp only [Nat.mul_one] at *
 go_enter Tryz.func9,Tryz.ntmps9
 go_wp2_with (first
  | (at_builtin; refine Lib.wpList_append_run _ rfl _ _ _ _ rfl _ _ rfl rfl _ _ (I _) ?_)
  | (at_builtin; refine Go.Proofs.wpList_copy_runI _ rfl _ _ 30 30 rfl _ _ rfl rfl (d _ af ab _ _) ?_)
  | (at_builtin; refine Go.Proofs.wpList_copy_runI _ rfl _ _ 30 30 rfl _ _ rfl rfl (M _ (fun _=>rfl) (fun _=>rfl) _ _ _) ?_))
 go_region_law (refine Go.Proofs.step_copy_runI rfl _ _ 30 30 rfl (.slice (some ⟨w.heap.size,(i + m),none⟩) (n + m - (i + m)) (G - (i + m))) (.slice (some ⟨b,i,none⟩) (n - i) (c - i)) (by simp [Act.eval,Act.put]) (by simp [Act.eval,Act.put]) (M _ p s 3 (G - (i + m)) (c - i)) ?_)
 go_wp2
 go_ret
 exact ⟨rfl,rfl⟩

set_option maxHeartbeats 4000000 in
set_option maxRecDepth 1000000 in
theorem aGy (p:Option Addr) (n B:Nat) (q:Option Addr) (m vc:Nat) (w w':World) (r:Value) (hm:0 < m) (hn:n≤B) (D:B≤9223372036854775807)
  (hr:∀ ty,(Builtin.append_ #[30,30] ty #[.slice p n B,.slice q m vc]).run Tryz.prog w=.ok r w') :
  Calls Tryz.prog 9 #[.slice p n B,i6 n,.slice q m vc] w fun e w2=>e=.returned r∧w2=w':=by
 have H:¬ ((m:Int)=0):=by omega
 try simp only [Nat.mul_one] at *
 go_enter Tryz.func9,Tryz.ntmps9
 go_wp2_with (at_builtin; refine Lib.wpList_append_run _ rfl _ _ _ _ rfl _ _ rfl rfl _ _ (hr _) ?_)
 all_goals (go_ret; exact ⟨rfl,rfl⟩)
end

theorem qY {N:Nat} {G:aO} {Lf:List Ent} {w:World} (s_:List Int) (i_:Int) (v:List Int) {M:Option Addr} {O:Nat} {S:Option Addr} {I:Nat}  (hc:Ctx G (.row M O (s_.map aD) 3 1::.row S I (v.map aD) 3 1::Lf) w) {D:(List Int)} (hF:fH N s_ i_ v=some D):Calls Tryz.prog 9 #[.slice M s_.length O,i6 i_,.slice S v.length I] w (fun e w=>∃ (V:Option Addr) (U:Nat),e=.returned (.slice V D.length U)∧Ctx G (.row V U (D.map aD) 3 1::.row S I (v.map aD) 3 1::Lf) w):=by
 unfold fH at hF
 exact aEn (ty0:=0) fN (by decide) bF (fun p n Z q m vc w w' r h1 h2 h3 h4=>aGy p n Z q m vc w w' r h1 h2 h3 h4) (fun _ _ _ _=>rfl) (fun b n c i vb m vc cs vs w h1 h2 h3 h4 h5 h6 h7 h8 h9 R H J B tA tB kA kB Y g X d j=>aD8 b n c i vb m vc cs vs w h1 h2 h3 h4 h5 h6 h7 h8 h9 R H J B tA tB kA kB Y g X d j) (fun b n c i vb m vc cs vs w h1 h2 h3 h4 h5 h6 h7 h8 h9 R H J B=>aGb b n c i vb m vc cs vs w h1 h2 h3 h4 h5 h6 h7 h8 h9 R H J B) hc hF

def kN (N:Nat) (a_:List Int) (b_:List Int) (B:Int):Option (cK (Int) (Bool)) :=
 cond (decide (B < ((a_.length:Nat):Int)))
 (Option.bind (bH a_ B) fun D=>
 Option.bind (bH b_ B) fun H=>
 cond (D != H)
 (some (.ret false))
 (some (.cont (W (B + 1)))))
 (some (.brk B))
def kG (N:Nat) (a_:List Int) (b_:List Int):Option (Bool) :=
 cond (((a_.length:Nat):Int) != ((b_.length:Nat):Int))
 (some false)
 (Option.bind (bE (fun s7=>kN N a_ b_ s7) N 0) fun x7=>
 exK x7 (fun s7=>some true) some)
theorem pC {N:Nat} {G:aO} {Lf:List Ent} {w:World} (a_:List Int) (b_:List Int) {D:Option Addr} {I:Nat} {J:Option Addr} {H:Nat} (R:Rd G 1 D I (a_.map aD)) (Z:Rd G 1 J H (b_.map aD)) (hc:Ctx G (Lf) w) {M:Bool} (hF:kG N a_ b_=some M):Calls Tryz.prog 11 #[.slice D a_.length I,.slice J b_.length H] w (fun e w=>e=.returned (.bool M)∧Ctx G (Lf) w):=by
 unfold kG at hF
 refine bI Tryz.func11 rfl Tryz.ntmps11 rfl fun a hf=>zS fun K h=>sp 1 hf rfl fun a hf=>zT h ?_
 refine wp_seq_k fun K2 h2=>zS fun K h=>sp 1 hf rfl fun a hf=>zP hf rfl (bC Tryz.underlying30 rfl) fun a hf=>sp 1 hf rfl fun a hf=>zP hf rfl (bC Tryz.underlying30 rfl) fun a hf=>sp 1 hf rfl fun a hf=>zT h ?_
 refine zI hf rfl hF ?_ ?_ <;> clear hF <;> intro hF
 ·refine zS fun K h=>sp 1 hf rfl fun a hf=>zT h ?_
  refine wp_ret ?_
  refine aN ?_
  obtain rfl:=sj hF
  exact zO1 Tryz.results11 hf rfl ⟨rfl,hc⟩
 ·refine wp_skip ?_
  refine h2 _ _ ?_
  refine wp_seq_k fun K5 h5=>zS fun K h=>sp 1 hf rfl fun a hf=>zT h ?_
  refine wp_block ?_
  obtain ⟨x7,m,hF⟩:=aA hF
  let S7:Int→Act→World→Prop:=(fun (zz:Int) a w=>Has 26 a [(0,.slice D a_.length I),(1,.slice J b_.length H),(5,i6 zz)]∧Ctx G (Lf) w)
  have k:∀ (zz:Int) a w,x7=.go zz→S7 zz a w→K5 a w:=by
   rintro O a w rfl ⟨hf,hc⟩
   replace hF:=bP hF
   refine h5 _ _ ?_
   refine zS fun K h=>sp 1 hf rfl fun a hf=>zT h ?_
   refine wp_ret ?_
   obtain rfl:=sj hF
   exact zO1 Tryz.results11 hf rfl ⟨rfl,hc⟩
  have b:∀ r,x7=.out r→r=M:=by
   rintro r rfl
   exact sj hF
  refine cR N (cL (S:=S7) (x:=x7) ?_ N 0 _ _ ⟨hf.kp rfl,hc⟩ m)
  clear hF hf hc
  rintro O n a w KB7 ⟨hf,hc⟩ hF B d
  unfold kN at hF
  refine wp_seq_k fun K9 h9=>zS fun K h=>sp 2 hf rfl fun a hf=>zP hf rfl (bC Tryz.underlying30 rfl) fun a hf=>sp 1 hf rfl fun a hf=>zT h ?_
  refine zI hf rfl hF ?_ ?_ <;> clear hF <;> intro hF
  ·refine wp_skip ?_
   refine h9 _ _ ?_
   refine wp_seq_k fun K11 g=>wp_block ?_
   refine wp_seq_k fun K12 i=>?_
   obtain ⟨p,V,hF⟩:=aA hF
   obtain ⟨s,o,qa,qp⟩:=R.atm V
   obtain ⟨q,X,hF⟩:=aA hF
   obtain ⟨t,u,Y,U⟩:=Z.atm X
   refine cQ hc aU (by kernel_rfl) ?_
   refine qE hf rfl rfl rfl (Pu.ev (pM rfl)) fun a hf=>qE hf rfl rfl rfl (Pu.ev (pM rfl)) fun a hf=>qE hf rfl rfl rfl (Pu.ev (pIA Tryz.underlying30 eL rfl rfl qa)) fun a hf=>qE hf rfl rfl rfl (bT bA rfl (bL (j:=0) qp rfl)) fun a hf=>qE hf rfl rfl rfl (Pu.ev (pM rfl)) fun a hf=>qE hf rfl rfl rfl (Pu.ev (pM rfl)) fun a hf=>qE hf rfl rfl rfl (Pu.ev (pIA Tryz.underlying30 eL rfl rfl Y)) fun a hf=>qE hf rfl rfl rfl (bT bA rfl (bL (j:=0) U rfl)) fun a hf=>qE hf rfl rfl rfl (Pu.ev (pNe rfl rfl)) fun a hf=>?_
   intro w hc
   refine i _ _ ?_
   refine zI hf rfl hF ?_ ?_ <;> clear hF <;> intro hF
   ·refine zS fun K h=>sp 1 hf rfl fun a hf=>zT h ?_
    refine wp_ret ?_
    refine bN ?_
    refine aN ?_
    refine aN ?_
    have he:=sj hF
    rw [← he] at B
    replace hF:=b _ B
    refine bN ?_
    refine aN ?_
    obtain rfl:=hF
    exact zO1 Tryz.results11 hf rfl ⟨rfl,hc⟩
   ·refine wp_skip ?_
    refine g _ _ ?_
    refine cJ ?_
    refine sp 3 hf rfl fun a hf=>aP ?_
    exact d (W (O + 1)) _ _ (sj hF).symm ⟨hf.kp rfl,hc⟩
  ·refine wp_exit ?_
   refine aW ?_
   refine aW ?_
   have he:=sj hF
   rw [← he] at B
   refine eV ?_
   exact k _ _ _ B ⟨hf.kp rfl,hc⟩

def lK (N:Nat) (r:aB) (p_:Int) (s_:Int):Option (Int) :=
 Option.bind (bH r.People p_) fun D=>
 Option.bind (dI N D s_) fun B=>
 cond (decide (0≤B))
 (some B)
 (some ((r.Stations.length:Nat):Int))
theorem oC {N:Nat} {G:aO} {Lf:List Ent} {w:World} (r:aB) (p_:Int) (s_:Int) {H:Option Addr} {I:Nat} {D:Option Addr} {B:Nat} (J:RdT aG G 1 H I r.People) (M:RdT aL G 2 D B r.Stations) (hc:Ctx G (Lf) w) {O:Int} (hF:lK N r p_ s_=some O):Calls Tryz.prog 12 #[.agg #[.slice H r.People.length I,.slice D r.Stations.length B],i6 p_,i6 s_] w (fun e w=>e=.returned (i6 O)∧Ctx G (Lf) w):=by
 unfold lK at hF
 refine bI Tryz.func12 rfl Tryz.ntmps12 rfl fun a hf=>zS fun K h=>zB hf hc rfl fun Y a w hf hc=>sp 1 hf rfl fun a hf=>zT h ?_
 refine wp_seq_k fun K2 h2=>zS fun K h=>zP hf rfl (pFA eZ rfl) fun a hf=>zL hf hc mA m0 rfl fun a w hf hc=>sp 1 hf rfl fun a hf=>?_
 obtain ⟨U,S,hF⟩:=aA hF
 obtain ⟨X,o,hd,qa,qp,qr⟩:=J.atm S
 refine zP hf rfl (pIA Tryz.underlying23 nB rfl rfl qa) fun a hf=>zE hf hc rfl (bT kJ rfl (bL (j:=0) qp rfl)) fun a w hf hc=>sp 1 hf rfl fun a hf=>?_
 obtain ⟨V,R,hF⟩:=aA hF
 refine zQ (v:=i6 V) hf hc aIo rfl (fun w hc=>iS U s_ qr hc R) fun a w hf hc=>sp 1 hf rfl fun a hf=>zT h ?_
 refine zS fun K h=>sp 2 hf rfl fun a hf=>zT h ?_
 refine zI hf rfl hF ?_ ?_ <;> clear hF <;> intro hF
 ·refine zS fun K h=>sp 2 hf rfl fun a hf=>zT h ?_
  refine wp_ret ?_
  refine aN ?_
  obtain rfl:=sj hF
  replace hc:=hc.drop k0
  exact zO1 Tryz.results12 hf rfl ⟨rfl,hc⟩
 ·refine wp_skip ?_
  refine h2 _ _ ?_
  refine zS fun K h=>zP hf rfl (pFA eG rfl) fun a hf=>zL hf hc lN m0 rfl fun a w hf hc=>zP hf rfl (bC Tryz.underlying24 rfl) fun a hf=>sp 1 hf rfl fun a hf=>zT h ?_
  refine wp_ret ?_
  obtain rfl:=sj hF
  replace hc:=hc.drop k0
  exact zO1 Tryz.results12 hf rfl ⟨rfl,hc⟩

def rU (N:Nat)  : Option (aB) :=
 some (⟨([([0,1]:List Int),([0,1]:List Int)]:List (List Int)),([(⟨1,([1,0]:List Int)⟩:aC),(⟨1,([0,1]:List Int)⟩:aC)]:List aC)⟩:aB)
theorem sZ {N:Nat} {G:aO} {Lf:List Ent} {w:World}    (hc:Ctx G (Lf) w) {J:aB} (hF:rU N=some J):Calls Tryz.prog 23 #[] w (fun e w=>∃ (X:Option Addr) (B:rM) (Y:Option Addr) (D:rM),e=.returned (.agg #[.slice X J.People.length B.1,.slice Y J.Stations.length D.1])∧Ctx G (.row X B.1 ((aF B.2 J.People).map (Kd.v aG)) 30 1::aQ aG (aF B.2 J.People)::.row Y D.1 ((aF D.2 J.Stations).map (Kd.v aL)) 36 2::aQ aL (aF D.2 J.Stations)::Lf) w):=by
 unfold rU at hF
 refine bI Tryz.func23 rfl Tryz.ntmps23 rfl fun a hf=>zS fun K h=>zA hf hc wW rfl fun Z a w hf hc=>zT h ?_
 refine wp_seq_k fun K2 h2=>cJ ?_
 refine jD (rows:=([0,1]:List Int).map aD) (vs:=[(0,i6 0),(1,i6 1)]) hf hc rfl rfl fN rfl ⟨rfl,rfl,rfl,rfl,rfl,rfl,trivial⟩ rfl rfl fun S a w hf hc=>jD (rows:=([0,1]:List Int).map aD) (vs:=[(0,i6 0),(1,i6 1)]) hf hc rfl rfl fN rfl ⟨rfl,rfl,rfl,rfl,rfl,rfl,trivial⟩ rfl rfl fun R a w hf hc=>jD (rows:=([(((some ⟨S,0,none⟩),2),([0,1]:List Int)),(((some ⟨R,0,none⟩),2),([0,1]:List Int))]:List (H2 × (List Int))).map (Kd.v aG)) (vs:=[(0,.slice (some ⟨S,0,none⟩) 2 2),(1,.slice (some ⟨R,0,none⟩) 2 2)]) hf hc rfl rfl wH rfl ⟨rfl,rfl,rfl,rfl,rfl,rfl,trivial⟩ rfl rfl fun I a w hf hc=>jD (rows:=([1,0]:List Int).map aD) (vs:=[(0,i6 1),(1,i6 0)]) hf hc rfl rfl fN rfl ⟨rfl,rfl,rfl,rfl,rfl,rfl,trivial⟩ rfl rfl fun U a w hf hc=>zP hf rfl (cF (cells:=[i6 1,.slice (some ⟨U,0,none⟩) 2 2]) aDm rfl rfl) fun a hf=>jD (rows:=([0,1]:List Int).map aD) (vs:=[(0,i6 0),(1,i6 1)]) hf hc rfl rfl fN rfl ⟨rfl,rfl,rfl,rfl,rfl,rfl,trivial⟩ rfl rfl fun V a w hf hc=>zP hf rfl (cF (cells:=[i6 1,.slice (some ⟨V,0,none⟩) 2 2]) aDm rfl rfl) fun a hf=>jD (rows:=([(((some ⟨U,0,none⟩),2),(⟨1,([1,0]:List Int)⟩:aC)),(((some ⟨V,0,none⟩),2),(⟨1,([0,1]:List Int)⟩:aC))]:List (H2 × aC)).map (Kd.v aL)) (vs:=[(0,.agg #[i6 1,.slice (some ⟨U,0,none⟩) 2 2]),(1,.agg #[i6 1,.slice (some ⟨V,0,none⟩) 2 2])]) hf hc rfl rfl aAe rfl ⟨rfl,rfl,rfl,rfl,rfl,rfl,trivial⟩ rfl rfl fun H a w hf hc=>zP hf rfl (cF (cells:=[.slice (some ⟨I,0,none⟩) 2 2,.slice (some ⟨H,0,none⟩) 2 2]) aKg rfl rfl) fun a hf=>zW hf hc yL u6 rfl fun w hc=>aP ?_
 replace hc:=((hc.pick k1).pick k2).pick k2
 obtain ⟨O,hc⟩:=aH1 (K:=aL) ([(((some ⟨U,0,none⟩),2),(⟨1,([1,0]:List Int)⟩:aC)),(((some ⟨V,0,none⟩),2),(⟨1,([0,1]:List Int)⟩:aC))]:List (H2 × aC)) hc
 replace hc:Ctx G (.row (some ⟨H,0,none⟩) 2 ((aF O ([(⟨1,([1,0]:List Int)⟩:aC),(⟨1,([0,1]:List Int)⟩:aC)]:List aC)).map (Kd.v aL)) 36 2::aQ aL (aF O ([(⟨1,([1,0]:List Int)⟩:aC),(⟨1,([0,1]:List Int)⟩:aC)]:List aC))::.row (some ⟨I,0,none⟩) 2 (([(((some ⟨S,0,none⟩),2),([0,1]:List Int)),(((some ⟨R,0,none⟩),2),([0,1]:List Int))]:List (H2 × (List Int))).map (Kd.v aG)) 30 1::.row (some ⟨R,0,none⟩) 2 (([0,1]:List Int).map aD) 3 1::.row (some ⟨S,0,none⟩) 2 (([0,1]:List Int).map aD) 3 1::.box Z [.slice (some ⟨I,0,none⟩) 2 2,.slice (some ⟨H,0,none⟩) 2 2] 26::Lf) w:=hc
 replace hc:=((((hc.pick k1).pick k1).pick k3).pick k4).pick k4
 obtain ⟨M,hc⟩:=aH1 (K:=aG) ([(((some ⟨S,0,none⟩),2),([0,1]:List Int)),(((some ⟨R,0,none⟩),2),([0,1]:List Int))]:List (H2 × (List Int))) hc
 replace hc:Ctx G (.row (some ⟨I,0,none⟩) 2 ((aF M ([([0,1]:List Int),([0,1]:List Int)]:List (List Int))).map (Kd.v aG)) 30 1::aQ aG (aF M ([([0,1]:List Int),([0,1]:List Int)]:List (List Int)))::.row (some ⟨H,0,none⟩) 2 ((aF O ([(⟨1,([1,0]:List Int)⟩:aC),(⟨1,([0,1]:List Int)⟩:aC)]:List aC)).map (Kd.v aL)) 36 2::aQ aL (aF O ([(⟨1,([1,0]:List Int)⟩:aC),(⟨1,([0,1]:List Int)⟩:aC)]:List aC))::.box Z [.slice (some ⟨I,0,none⟩) 2 2,.slice (some ⟨H,0,none⟩) 2 2] 26::Lf) w:=hc
 refine h2 _ _ ?_
 refine wp_ret ?_
 obtain rfl:=sj hF
 exact tC (by simp) rfl Tryz.results23 hf hc (fK (vs:=[.slice (some ⟨I,0,none⟩) 2 2,.slice (some ⟨H,0,none⟩) 2 2]) mD rfl rfl (bM (n:=2) m4 rfl)) ⟨(some ⟨I,0,none⟩),(2,M),(some ⟨H,0,none⟩),(2,O),rfl,(hc.drop k4)⟩

def oK (s_:Int) (x:aB):Bool :=
 (aH s_ (-1) (W (((x.Stations.length:Nat):Int) - 1)))
theorem yI {G:aO} {Lf:List Ent} {w:World} (s_:Int) (x:aB) {b_:Nat} {I:Option Addr} {H:Nat} {D:Option Addr} {B:Nat} (M:RdT aG G 1 I H x.People) (J:RdT aL G 2 D B x.Stations) (hc:Ctx G (.box b_ [.slice I x.People.length H,.slice D x.Stations.length B] 26::Lf) w) {O:Bool} (hF:oK s_ x=O):Calls Tryz.prog 45 #[i6 s_,pq b_] w (fun e w=>e=.returned (.bool O)∧Ctx G (.box b_ [.slice I x.People.length H,.slice D x.Stations.length B] 26::Lf) w):=by
 unfold oK at hF
 refine bI Tryz.func45 rfl Tryz.ntmps45 rfl fun a hf=>zS fun K h=>sp 1 hf rfl fun a hf=>zT h ?_
 refine zS fun K h=>sp 1 hf rfl fun a hf=>zP hf rfl (pFA eG rfl) fun a hf=>zL hf hc lN m0 rfl fun a w hf hc=>zP hf rfl (bC Tryz.underlying24 rfl) fun a hf=>sp 1 hf rfl fun a hf=>zQ (v:=.bool (aH s_ (-1) (W (((x.Stations.length:Nat):Int) - 1)))) hf hc lJ rfl (fun w hc=>cG s_ (-1) (W (((x.Stations.length:Nat):Int) - 1)) hc rfl) fun a w hf hc=>sp 1 hf rfl fun a hf=>zT h ?_
 refine wp_ret ?_
 obtain rfl:=hF
 exact zO1 Tryz.results45 hf rfl ⟨rfl,hc⟩

def jG (x:Int) (B:aB):Bool :=
 (!(oK x B))
theorem tH {G:aO} {Lf:List Ent} {w:World} (x:Int) (J:aB) {b_:Nat} {R:Nat} {H:Option Addr} {I:Nat} {B:Option Addr} {D:Nat} (O:RdT aG G 1 H I J.People) (M:RdT aL G 2 B D J.Stations) (hc:Ctx G (.box b_ [.func (.func 45) #[] #[pq R]] 106::.box R [.slice H J.People.length I,.slice B J.Stations.length D] 26::Lf) w) {S:Bool} (hF:jG x J=S):Calls Tryz.prog 84 #[i6 x,pq b_] w (fun e w=>e=.returned (.bool S)∧Ctx G (.box b_ [.func (.func 45) #[] #[pq R]] 106::.box R [.slice H J.People.length I,.slice B J.Stations.length D] 26::Lf) w):=by
 unfold jG at hF
 refine bI Tryz.func84 rfl Tryz.ntmps84 rfl fun a hf=>zS fun K h=>sp 1 hf rfl fun a hf=>zT h ?_
 refine zS fun K h=>zL hf hc aB6 m0 rfl fun a w hf hc=>sp 1 hf rfl fun a hf=>zQ (v:=.bool (oK x J)) hf hc en_45 rfl (fun w hc=>(yI x J O M (hc.pick k1) rfl).mono fun e w h=>⟨h.1,(h.2.unpick k1)⟩) fun a w hf hc=>sp 2 hf rfl fun a hf=>zT h ?_
 refine wp_ret ?_
 obtain rfl:=hF
 exact zO1 Tryz.results84 hf rfl ⟨rfl,hc⟩

def iW (N:Nat) (s_:List Int) (f_:aB) (x:Int):Option (cK (Int) (Int)) :=
 cond (decide (x < ((s_.length:Nat):Int)))
 (Option.bind (bH s_ x) fun B=>
 cond (jG B f_)
 (some (.ret x))
 (some (.cont (W (x + 1)))))
 (some (.brk x))
def gS (N:Nat) (s_:List Int) (f_:aB):Option (Int) :=
 Option.bind (bE (fun s4=>iW N s_ f_ s4) N 0) fun x4=>
 exK x4 (fun s4=>some (-1)) some
theorem nS {N:Nat} {G:aO} {Lf:List Ent} {w:World} (s_:List Int) (f_:aB) {U:Option Addr} {V:Nat} {b_:Nat} {J:Nat} {I:Option Addr} {H:Nat} {D:Option Addr} {B:Nat} (b:Rd G 1 U V (s_.map aD)) (R:RdT aG G 1 I H f_.People) (M:RdT aL G 2 D B f_.Stations) (hc:Ctx G (.box b_ [.func (.func 45) #[] #[pq J]] 106::.box J [.slice I f_.People.length H,.slice D f_.Stations.length B] 26::Lf) w) {X:Int} (hF:gS N s_ f_=some X):Calls Tryz.prog 63 #[.slice U s_.length V,.func (.func 84) #[] #[pq b_]] w (fun e w=>e=.returned (i6 X)∧Ctx G (.box b_ [.func (.func 45) #[] #[pq J]] 106::.box J [.slice I f_.People.length H,.slice D f_.Stations.length B] 26::Lf) w):=by
 unfold gS at hF
 refine bI Tryz.func63 rfl Tryz.ntmps63 rfl fun a hf=>zS fun K h=>sp 1 hf rfl fun a hf=>zT h ?_
 refine wp_seq_k fun K2 h2=>zS fun K h=>sp 1 hf rfl fun a hf=>zP hf rfl (bC Tryz.underlying30 rfl) fun a hf=>sp 1 hf rfl fun a hf=>zT h ?_
 refine wp_block ?_
 obtain ⟨x4,g,hF⟩:=aA hF
 let S4:Int→Act→World→Prop:=(fun (zz:Int) a w=>Has 19 a [(0,.slice U s_.length V),(1,.func (.func 84) #[] #[pq b_]),(7,i6 ((s_.length:Nat):Int)),(8,i6 zz)]∧Ctx G (.box b_ [.func (.func 45) #[] #[pq J]] 106::.box J [.slice I f_.People.length H,.slice D f_.Stations.length B] 26::Lf) w)
 have i:∀ (zz:Int) a w,x4=.go zz→S4 zz a w→K2 a w:=by
  rintro x a w rfl ⟨hf,hc⟩
  replace hF:=bP hF
  refine h2 _ _ ?_
  refine zS fun K h=>sp 1 hf rfl fun a hf=>zT h ?_
  refine wp_ret ?_
  obtain rfl:=sj hF
  exact zO1 Tryz.results63 hf rfl ⟨rfl,hc⟩
 have k:∀ r,x4=.out r→r=X:=by
  rintro r rfl
  exact sj hF
 refine cR N (cL (S:=S4) (x:=x4) ?_ N 0 _ _ ⟨hf.kp rfl,hc⟩ g)
 clear hF hf hc
 rintro x m a w KB4 ⟨hf,hc⟩ hF O d
 unfold iW at hF
 refine zS fun K h=>sp 1 hf rfl fun a hf=>zT h ?_
 refine wp_seq_k fun K7 h7=>zI hf rfl hF ?_ ?_ <;> clear hF <;> intro hF
 ·refine wp_skip ?_
  refine h7 _ _ ?_
  refine wp_seq_k fun K8 h8=>wp_block ?_
  refine zS fun K h=>sp 2 hf rfl fun a hf=>zT h ?_
  refine zS fun K h=>sp 3 hf rfl fun a hf=>?_
  obtain ⟨Y,Z,hF⟩:=aA hF
  obtain ⟨n,o,qa,qp⟩:=b.atm Z
  refine zP hf rfl (pIA Tryz.underlying30 eL rfl rfl qa) fun a hf=>zE hf hc rfl (bT bA rfl (bL (j:=0) qp rfl)) fun a w hf hc=>zQ (v:=.bool (jG Y f_)) hf hc aE9 rfl (fun w hc=>(tH Y f_ R M ((hc.pick k1).pick k1) rfl).mono fun e w h=>⟨h.1,((h.2.unpick k1).unpick k1)⟩) fun a w hf hc=>zT h ?_
  refine zI hf rfl hF ?_ ?_ <;> clear hF <;> intro hF
  ·refine zS fun K h=>sp 2 hf rfl fun a hf=>zT h ?_
   refine wp_ret ?_
   refine bN ?_
   refine aN ?_
   refine aN ?_
   have he:=sj hF
   rw [← he] at O
   replace hF:=k _ O
   refine bN ?_
   refine aN ?_
   obtain rfl:=hF
   exact zO1 Tryz.results63 hf rfl ⟨rfl,hc⟩
  ·refine wp_skip ?_
   refine h8 _ _ ?_
   refine cJ ?_
   refine sp 2 hf rfl fun a hf=>aP ?_
   exact d (W (x + 1)) _ _ (sj hF).symm ⟨hf.kp rfl,hc⟩
 ·refine wp_exit ?_
  refine aW ?_
  refine aW ?_
  have he:=sj hF
  rw [← he] at O
  refine eV ?_
  exact i _ _ _ O ⟨hf.kp rfl,hc⟩

def fR (N:Nat) (s_:List Int) (f_:aB):Option (Bool) :=
 Option.bind (gS N s_ f_) fun r=>
 some (decide (0≤r))
theorem mU {N:Nat} {G:aO} {Lf:List Ent} {w:World} (s_:List Int) (f_:aB) {R:Option Addr} {S:Nat} {b_:Nat} {O:Nat} {I:Option Addr} {H:Nat} {D:Option Addr} {B:Nat} (V:Rd G 1 R S (s_.map aD)) (M:RdT aG G 1 I H f_.People) (J:RdT aL G 2 D B f_.Stations) (hc:Ctx G (.box b_ [.func (.func 45) #[] #[pq O]] 106::.box O [.slice I f_.People.length H,.slice D f_.Stations.length B] 26::Lf) w) {U:Bool} (hF:fR N s_ f_=some U):Calls Tryz.prog 50 #[.slice R s_.length S,.func (.func 84) #[] #[pq b_]] w (fun e w=>e=.returned (.bool U)∧Ctx G (.box b_ [.func (.func 45) #[] #[pq O]] 106::.box O [.slice I f_.People.length H,.slice D f_.Stations.length B] 26::Lf) w):=by
 unfold fR at hF
 refine bI Tryz.func50 rfl Tryz.ntmps50 rfl fun a hf=>zS fun K h=>sp 1 hf rfl fun a hf=>zT h ?_
 refine zS fun K h=>sp 2 hf rfl fun a hf=>?_
 obtain ⟨r,hr,hF⟩:=aA hF
 refine zQ (v:=i6 r) hf hc aA3 rfl (fun w hc=>(nS s_ f_ V M J ((hc.pick k1).pick k1) hr).mono fun e w h=>⟨h.1,((h.2.unpick k1).unpick k1)⟩) fun a w hf hc=>sp 2 hf rfl fun a hf=>zT h ?_
 refine wp_ret ?_
 obtain rfl:=sj hF
 exact zO1 Tryz.results50 hf rfl ⟨rfl,hc⟩

def kW (N:Nat) (l:List Int) (so:aB):Option (Bool) :=
 Option.bind (fR N l so) fun r=>
 some (!r)
theorem oP {N:Nat} {G:aO} {Lf:List Ent} {w:World} (l:List Int) (so:aB) {O:Option Addr} {R:Nat} {b_:Nat} {H:Option Addr} {I:Nat} {D:Option Addr} {B:Nat} (U:Rd G 1 O R (l.map aD)) (M:RdT aG G 1 H I so.People) (J:RdT aL G 2 D B so.Stations) (hc:Ctx G (.box b_ [.slice H so.People.length I,.slice D so.Stations.length B] 26::Lf) w) {S:Bool} (hF:kW N l so=some S):Calls Tryz.prog 44 #[.slice O l.length R,.func (.func 45) #[] #[pq b_]] w (fun e w=>e=.returned (.bool S)∧Ctx G (.box b_ [.slice H so.People.length I,.slice D so.Stations.length B] 26::Lf) w):=by
 unfold kW at hF
 refine bI Tryz.func44 rfl Tryz.ntmps44 rfl fun a hf=>zS fun K h=>zB hf hc rfl fun V a w hf hc=>sp 1 hf rfl fun a hf=>zT h ?_
 refine zS fun K h=>sp 1 hf rfl fun a hf=>zP hf rfl (pMF (us:=[pq V]) rfl rfl) fun a hf=>?_
 obtain ⟨r,hr,hF⟩:=aA hF
 refine zQ (v:=.bool r) hf hc aC0 rfl (fun w hc=>(mU l so U M J ((hc.pick k1).pick k1) hr).mono fun e w h=>⟨h.1,((h.2.unpick k1).unpick k1)⟩) fun a w hf hc=>sp 2 hf rfl fun a hf=>zT h ?_
 refine wp_ret ?_
 obtain rfl:=sj hF
 replace hc:=hc.drop k0
 exact zO1 Tryz.results44 hf rfl ⟨rfl,hc⟩

def lR (N:Nat) (x:Int) (B:List (List Int)):Option (cK (Int × (List (List Int))) ((List (List Int)))) :=
 some (.cont (W (x + 1),B))
def rW (N:Nat) (B:List Int) (x:Int) (H:List (List Int)):Option (cK (Int × (List (List Int))) ((List (List Int)))) :=
 cond (decide (x < ((B.length:Nat):Int)))
 (Option.bind (bH B x) fun D=>
 cond (D != (-1))
 (Option.bind (inR D 12) fun M=>
 Option.bind (bH H D) fun I=>
 Option.bind (room ((I++[x])).length) fun O=>
 Option.bind (inR D 12) fun J=>
 Option.bind (bH H D) fun R=>
 lR N x (H.set D.toNat (I++[x])))
 (lR N x H))
 (some (.brk (x,H)))
def rQ (N:Nat) (B:List Int):Option ((List (List Int))) :=
 Option.bind (bE (fun s5=>rW N B s5.1 s5.2) N (0,(List.replicate 12 ([]:List Int)))) fun x5=>
 exK x5 (fun s5=>Option.bind (aAt 12 s5.2) fun un=>
 some s5.2) some
theorem xR {N:Nat} {G:aO} {Lf:List Ent} {w:World} (B:List Int) {I:Option Addr} {D:Nat} (U:Rd G 1 I D (B.map aD)) (hc:Ctx G (Lf) w) {p:(List (List Int))} (hF:rQ N B=some p):Calls Tryz.prog 47 #[.pointer none,.slice I B.length D] w (fun e w=>∃ (s:Hds),e=.returned (.agg ((aF s p).map (Kd.v aG)).flatten.toArray)∧Ctx G (aQ aG (aF s p)::Lf) w):=by
 unfold rQ at hF
 refine bI Tryz.func47 rfl Tryz.ntmps47 rfl fun a hf=>zS fun K h=>zA hf hc xY rfl fun X a w hf hc=>zT h ?_
 refine zS fun K h=>zA hf hc xY rfl fun M a w hf hc=>?_
 obtain ⟨ab,hc⟩:=aE7 (K:=aG) (x:=([]:List Int)) (n:=12) (fun _ h=>h.nilRow _ _) cD rfl rfl hc
 replace hc:Ctx G (.row (some ⟨M,0,none⟩) 12 ((aF ab (List.replicate 12 ([]:List Int))).map (Kd.v aG)) 107 1::aQ aG (aF ab (List.replicate 12 ([]:List Int)))::.box X [.slice none 0 0,.slice none 0 0,.slice none 0 0,.slice none 0 0,.slice none 0 0,.slice none 0 0,.slice none 0 0,.slice none 0 0,.slice none 0 0,.slice none 0 0,.slice none 0 0,.slice none 0 0] 107::Lf) w:=hc
 refine zT h ?_
 refine wp_seq_k fun K3 h3=>zS fun K h=>sp 1 hf rfl fun a hf=>zP hf rfl (bC Tryz.underlying30 rfl) fun a hf=>sp 1 hf rfl fun a hf=>zT h ?_
 refine wp_block ?_
 obtain ⟨x5,ai,hF⟩:=aA hF
 let S5:(Int × (List (List Int)))→Act→World→Prop:=(fun (zz:Int × (List (List Int))) a w=>∃ (H:rM),Has 27 a [(4,pq X),(5,pq M),(8,.slice I B.length D),(9,i6 ((B.length:Nat):Int)),(10,i6 zz.1)]∧Ctx G (.row (some ⟨M,0,none⟩) H.1 ((aF H.2 zz.2).map (Kd.v aG)) 107 1::aQ aG (aF H.2 zz.2)::.box X [.slice none 0 0,.slice none 0 0,.slice none 0 0,.slice none 0 0,.slice none 0 0,.slice none 0 0,.slice none 0 0,.slice none 0 0,.slice none 0 0,.slice none 0 0,.slice none 0 0,.slice none 0 0] 107::Lf) w)
 have ak:∀ (zz:Int × (List (List Int))) a w,x5=.go zz→S5 zz a w→K3 a w:=by
  rintro ⟨x,J⟩ a w rfl ⟨H,hf,hc⟩
  replace hF:=bP hF
  refine h3 _ _ ?_
  refine zS fun K h=>?_
  obtain ⟨un,q,hF⟩:=aA hF
  refine zE hf hc rfl (jN (vs:=((aF H.2 J).map (Kd.v aG)).flatten) aCj rfl (mF cD q) (wQ m0)) fun a w hf hc=>aFs (n:=12) (vs:=((aF H.2 J).map (Kd.v aG)).flatten) hf hc rfl rfl rfl rfl aCu (mF cD q) (xM cD) rfl u2 fun w hc=>zT h ?_
  refine wp_ret ?_
  obtain rfl:=sj hF
  replace hc:=hc.drop k0
  exact tC (by simp) rfl Tryz.results47 hf hc (fK (vs:=((aF H.2 J).map (Kd.v aG)).flatten) aCj rfl (mF cD q) (bM (n:=12) m1 (aJ0 (mF cD q)))) ⟨H.2,rfl,(hc.drop k1)⟩
 have ay:∀ r,x5=.out r→r=p:=by
  rintro r rfl
  exact sj hF
 refine cR N (cL (S:=S5) (x:=x5) ?_ N (0,(List.replicate 12 ([]:List Int))) _ _ ⟨(12,ab),hf.kp rfl,hc⟩ ai)
 clear hF hf hc
 rintro ⟨x,J⟩ aj a w KB5 ⟨H,hf,hc⟩ hF d am
 unfold rW at hF
 refine zS fun K h=>sp 1 hf rfl fun a hf=>zT h ?_
 refine wp_seq_k fun K8 h8=>zI hf rfl hF ?_ ?_ <;> clear hF <;> intro hF
 ·refine wp_skip ?_
  refine h8 _ _ ?_
  refine wp_seq_k fun K9 h9=>?_
  have af:∀ (Z:List (List Int)) (O:rM) a w,Has 27 a [(4,pq X),(5,pq M),(8,.slice I B.length D),(9,i6 ((B.length:Nat):Int)),(10,i6 x)]→Ctx G (.row (some ⟨M,0,none⟩) O.1 ((aF O.2 Z).map (Kd.v aG)) 107 1::aQ aG (aF O.2 Z)::.box X [.slice none 0 0,.slice none 0 0,.slice none 0 0,.slice none 0 0,.slice none 0 0,.slice none 0 0,.slice none 0 0,.slice none 0 0,.slice none 0 0,.slice none 0 0,.slice none 0 0,.slice none 0 0] 107::Lf) w→lR N x Z=some aj→K9 a w:=by
   repeat (clear hF)
   repeat (clear hc)
   repeat (clear hf)
   intro Z O a w hf hc hF
   unfold lR at hF
   refine h9 _ _ ?_
   refine cJ ?_
   refine sp 2 hf rfl fun a hf=>aP ?_
   exact am (W (x + 1),Z) _ _ (sj hF).symm ⟨O,hf.kp rfl,hc⟩
  refine wp_block ?_
  refine zS fun K h=>sp 1 hf rfl fun a hf=>?_
  obtain ⟨V,ag,hF⟩:=aA hF
  obtain ⟨az,o,qa,qp⟩:=U.atm ag
  refine zP hf rfl (pIA Tryz.underlying30 eL rfl rfl qa) fun a hf=>zE hf hc rfl (bT bA rfl (bL (j:=0) qp rfl)) fun a w hf hc=>sp 2 hf rfl fun a hf=>zT h ?_
  refine zS fun K h=>sp 2 hf rfl fun a hf=>zT h ?_
  refine zI hf rfl hF ?_ ?_ <;> clear hF <;> intro hF
  ·refine cJ ?_
   refine sp 2 hf rfl fun a hf=>?_
   obtain ⟨ap,m,hF⟩:=aA hF
   obtain ⟨R,aa,hF⟩:=aA hF
   obtain ⟨au,qr⟩:=jE hc m0 (dE aa)
   refine zP hf rfl (Pu.cast (pS Tryz.underlying107 nB rfl rfl (aZ m).1 (aZ m).2) (congrArg (fun k=>Value.pointer (some ⟨M,k,none⟩)) (Nat.zero_add _))) fun a hf=>zE hf hc rfl (bT kJ rfl (eJ (sz:=1) (i:=V.toNat) (j:=0) m0 qr rfl)) fun a w hf hc=>sp 1 hf rfl fun a hf=>jD (rows:=([x]:List Int).map aD) (vs:=[(0,i6 x)]) hf hc rfl rfl fN rfl ⟨rfl,rfl,rfl,trivial⟩ rfl rfl fun ad a w hf hc=>?_
   replace hc:=vC (hc.pick k2) aa
   replace hc:Ctx G (.row ((H.2 V.toNat).1) ((H.2 V.toNat).2) (R.map aD) 3 1::aQ aG ((aF H.2 J).eraseIdx V.toNat)::.row (some ⟨ad,0,none⟩) 1 (([x]:List Int).map aD) 3 1::.row (some ⟨M,0,none⟩) H.1 ((aF H.2 J).map (Kd.v aG)) 107 1::.box X [.slice none 0 0,.slice none 0 0,.slice none 0 0,.slice none 0 0,.slice none 0 0,.slice none 0 0,.slice none 0 0,.slice none 0 0,.slice none 0 0,.slice none 0 0,.slice none 0 0,.slice none 0 0] 107::Lf) w:=hc
   obtain ⟨ar,ac,hF⟩:=aA hF
   refine kY (xs:=R) (ys:=([x]:List Int)) hf hc rfl rfl fN rfl rfl rfl rfl rfl bF (fG hc m2) (fun _ _=>u0) (by simpa using cP ac) fun t u a w hf hc=>?_
   obtain ⟨aq,g,hF⟩:=aA hF
   obtain ⟨ax,b,hF⟩:=aA hF
   obtain ⟨av,an⟩:=jE hc m3 (dE b)
   refine zP hf rfl (Pu.cast (pS Tryz.underlying107 nB rfl rfl (aZ g).1 (aZ g).2) (congrArg (fun k=>Value.pointer (some ⟨M,k,none⟩)) (Nat.zero_add _))) fun a hf=>aBi (vs:=[.slice t ((R++[x]).length) u]) (o':=0) (z:=((t,u),(R++[x]))) (xs:=(aF H.2 J)) hf hc rfl rfl rfl rfl nB rfl (fun x=>(cD x).1) (oE (dE b)) (fun e _=>splW (cD e).1) rfl u3 fun w hc=>?_
   replace hc:=(((hc.pick k2).pick k2).pick k3).pick k3
   obtain ⟨Y,hc⟩:=vI (K:=aG) (h':=(t,u)) (y:=(R++[x])) b hc
   replace hc:Ctx G (.row (some ⟨M,0,none⟩) H.1 ((aF Y (J.set V.toNat (R++[x]))).map (Kd.v aG)) 107 1::aQ aG (aF Y (J.set V.toNat (R++[x])))::.row (some ⟨ad,0,none⟩) 1 (([x]:List Int).map aD) 3 1::.box X [.slice none 0 0,.slice none 0 0,.slice none 0 0,.slice none 0 0,.slice none 0 0,.slice none 0 0,.slice none 0 0,.slice none 0 0,.slice none 0 0,.slice none 0 0,.slice none 0 0,.slice none 0 0] 107::Lf) w:=hc
   refine aP ?_
   replace hc:=hc.drop k2
   exact af (J.set V.toNat (R++[x])) (H.1,Y) _ _  (hf.kp rfl) hc hF
  ·refine wp_skip ?_
   exact af J H _ _  (hf.kp rfl) hc hF
 ·refine wp_exit ?_
  refine aW ?_
  refine aW ?_
  have he:=sj hF
  rw [← he] at d
  refine eV ?_
  exact ak _ _ _ d ⟨H,hf.kp rfl,hc⟩

def lY (N:Nat) (p_:Int) (than:Int):Option (Int × Int) :=
 some (p_,than)
theorem sU {N:Nat} {G:aO} {Lf:List Ent} {w:World} (p_:Int) (than:Int)   (hc:Ctx G (Lf) w) {B:Int × Int} (hF:lY N p_ than=some B):Calls Tryz.prog 40 #[.pointer none,i6 p_,i6 than] w (fun e w=>∃ (H:Nat) (M:Nat) (J:Nat),e=.returned (.func (.func 81) #[] #[pq H,pq M,pq J])∧Ctx G (.box H [.pointer none] 47::.box M [i6 B.1] 3::.box J [i6 B.2] 3::Lf) w):=by
 unfold lY at hF
 refine bI Tryz.func40 rfl Tryz.ntmps40 rfl fun a hf=>zS fun K h=>zB hf hc rfl fun O a w hf hc=>zB hf hc rfl fun D a w hf hc=>zB hf hc rfl fun I a w hf hc=>sp 1 hf rfl fun a hf=>zT h ?_
 refine zS fun K h=>zP hf rfl (pMF (us:=[pq O,pq D,pq I]) rfl rfl) fun a hf=>sp 1 hf rfl fun a hf=>zT h ?_
 refine wp_ret ?_
 obtain rfl:=sj hF
 replace hc:=((hc.pick k0).pick k1).pick k2
 exact zO1 Tryz.results40 hf rfl ⟨O,D,I,rfl,hc⟩

def jI (N:Nat) (x:Int) (B:List (List Int)):Option (cK (Int × (List (List Int))) ((List (List Int)))) :=
 some (.cont (W (x + 1),B))
def pE (N:Nat) (B:List Int) (x:Int) (H:List (List Int)):Option (cK (Int × (List (List Int))) ((List (List Int)))) :=
 cond (decide (x < ((B.length:Nat):Int)))
 (Option.bind (bH B x) fun D=>
 cond (D != (-1))
 (Option.bind (inR D 12) fun M=>
 Option.bind (bH H D) fun I=>
 Option.bind (room ((I++[x])).length) fun O=>
 Option.bind (inR D 12) fun J=>
 Option.bind (bH H D) fun R=>
 jI N x (H.set D.toNat (I++[x])))
 (jI N x H))
 (some (.brk (x,H)))
def nV (N:Nat) (w_:aT) (B:List Int):Option ((List (List Int))) :=
 Option.bind (bE (fun s5=>pE N B s5.1 s5.2) N (0,(List.replicate 12 ([]:List Int)))) fun x5=>
 exK x5 (fun s5=>Option.bind (aAt 12 s5.2) fun un=>
 some s5.2) some
theorem vM {N:Nat} {G:aO} {Lf:List Ent} {w:World} (w_:aT) (B:List Int) {b_:Nat} {R:Option Addr} {O:Nat} {H:Option Addr} {I:Nat} {M:Option Addr} {J:Nat} (p:RdT aG G 1 R O w_.Roster.People) (m:RdT aL G 2 H I w_.Roster.Stations) (aq:PC G b_ 0 (sQ [.slice R w_.Roster.People.length O,.slice H w_.Roster.Stations.length I] 144 aD w_.rank [])) (Z:Rd G 1 M J (B.map aD)) (hc:Ctx G (Lf) w) {u:(List (List Int))} (hF:nV N w_ B=some u):Calls Tryz.prog 47 #[pq b_,.slice M B.length J] w (fun e w=>∃ (ad:Hds),e=.returned (.agg ((aF ad u).map (Kd.v aG)).flatten.toArray)∧Ctx G (aQ aG (aF ad u)::Lf) w):=by
 unfold nV at hF
 refine bI Tryz.func47 rfl Tryz.ntmps47 rfl fun a hf=>zS fun K h=>zA hf hc xY rfl fun d a w hf hc=>zT h ?_
 refine zS fun K h=>zA hf hc xY rfl fun V a w hf hc=>?_
 obtain ⟨aj,hc⟩:=aE7 (K:=aG) (x:=([]:List Int)) (n:=12) (fun _ h=>h.nilRow _ _) cD rfl rfl hc
 replace hc:Ctx G (.row (some ⟨V,0,none⟩) 12 ((aF aj (List.replicate 12 ([]:List Int))).map (Kd.v aG)) 107 1::aQ aG (aF aj (List.replicate 12 ([]:List Int)))::.box d [.slice none 0 0,.slice none 0 0,.slice none 0 0,.slice none 0 0,.slice none 0 0,.slice none 0 0,.slice none 0 0,.slice none 0 0,.slice none 0 0,.slice none 0 0,.slice none 0 0,.slice none 0 0] 107::Lf) w:=hc
 refine zT h ?_
 refine wp_seq_k fun K3 h3=>zS fun K h=>sp 1 hf rfl fun a hf=>zP hf rfl (bC Tryz.underlying30 rfl) fun a hf=>sp 1 hf rfl fun a hf=>zT h ?_
 refine wp_block ?_
 obtain ⟨x5,ar,hF⟩:=aA hF
 let S5:(Int × (List (List Int)))→Act→World→Prop:=(fun (zz:Int × (List (List Int))) a w=>∃ (D:rM),Has 27 a [(4,pq d),(5,pq V),(8,.slice M B.length J),(9,i6 ((B.length:Nat):Int)),(10,i6 zz.1)]∧Ctx G (.row (some ⟨V,0,none⟩) D.1 ((aF D.2 zz.2).map (Kd.v aG)) 107 1::aQ aG (aF D.2 zz.2)::.box d [.slice none 0 0,.slice none 0 0,.slice none 0 0,.slice none 0 0,.slice none 0 0,.slice none 0 0,.slice none 0 0,.slice none 0 0,.slice none 0 0,.slice none 0 0,.slice none 0 0,.slice none 0 0] 107::Lf) w)
 have ax:∀ (zz:Int × (List (List Int))) a w,x5=.go zz→S5 zz a w→K3 a w:=by
  rintro ⟨x,U⟩ a w rfl ⟨D,hf,hc⟩
  replace hF:=bP hF
  refine h3 _ _ ?_
  refine zS fun K h=>?_
  obtain ⟨un,ac,hF⟩:=aA hF
  refine zE hf hc rfl (jN (vs:=((aF D.2 U).map (Kd.v aG)).flatten) aCj rfl (mF cD ac) (wQ m0)) fun a w hf hc=>aFs (n:=12) (vs:=((aF D.2 U).map (Kd.v aG)).flatten) hf hc rfl rfl rfl rfl aCu (mF cD ac) (xM cD) rfl u2 fun w hc=>zT h ?_
  refine wp_ret ?_
  obtain rfl:=sj hF
  replace hc:=hc.drop k0
  exact tC (by simp) rfl Tryz.results47 hf hc (fK (vs:=((aF D.2 U).map (Kd.v aG)).flatten) aCj rfl (mF cD ac) (bM (n:=12) m1 (aJ0 (mF cD ac)))) ⟨D.2,rfl,(hc.drop k1)⟩
 have a6:∀ r,x5=.out r→r=u:=by
  rintro r rfl
  exact sj hF
 refine cR N (cL (S:=S5) (x:=x5) ?_ N (0,(List.replicate 12 ([]:List Int))) _ _ ⟨(12,aj),hf.kp rfl,hc⟩ ar)
 clear hF hf hc
 rintro ⟨x,U⟩ av a w KB5 ⟨D,hf,hc⟩ hF t au
 unfold pE at hF
 refine zS fun K h=>sp 1 hf rfl fun a hf=>zT h ?_
 refine wp_seq_k fun K8 h8=>zI hf rfl hF ?_ ?_ <;> clear hF <;> intro hF
 ·refine wp_skip ?_
  refine h8 _ _ ?_
  refine wp_seq_k fun K9 h9=>?_
  have am:∀ (q:List (List Int)) (X:rM) a w,Has 27 a [(4,pq d),(5,pq V),(8,.slice M B.length J),(9,i6 ((B.length:Nat):Int)),(10,i6 x)]→Ctx G (.row (some ⟨V,0,none⟩) X.1 ((aF X.2 q).map (Kd.v aG)) 107 1::aQ aG (aF X.2 q)::.box d [.slice none 0 0,.slice none 0 0,.slice none 0 0,.slice none 0 0,.slice none 0 0,.slice none 0 0,.slice none 0 0,.slice none 0 0,.slice none 0 0,.slice none 0 0,.slice none 0 0,.slice none 0 0] 107::Lf) w→jI N x q=some av→K9 a w:=by
   repeat (clear hF)
   repeat (clear hc)
   repeat (clear hf)
   intro q X a w hf hc hF
   unfold jI at hF
   refine h9 _ _ ?_
   refine cJ ?_
   refine sp 2 hf rfl fun a hf=>aP ?_
   exact au (W (x + 1),q) _ _ (sj hF).symm ⟨X,hf.kp rfl,hc⟩
  refine wp_block ?_
  refine zS fun K h=>sp 1 hf rfl fun a hf=>?_
  obtain ⟨b,ap,hF⟩:=aA hF
  obtain ⟨a5,o,qa,qp⟩:=Z.atm ap
  refine zP hf rfl (pIA Tryz.underlying30 eL rfl rfl qa) fun a hf=>zE hf hc rfl (bT bA rfl (bL (j:=0) qp rfl)) fun a w hf hc=>sp 2 hf rfl fun a hf=>zT h ?_
  refine zS fun K h=>sp 2 hf rfl fun a hf=>zT h ?_
  refine zI hf rfl hF ?_ ?_ <;> clear hF <;> intro hF
  ·refine cJ ?_
   refine sp 2 hf rfl fun a hf=>?_
   obtain ⟨az,ab,hF⟩:=aA hF
   obtain ⟨Y,ai,hF⟩:=aA hF
   obtain ⟨a2,qr⟩:=jE hc m0 (dE ai)
   refine zP hf rfl (Pu.cast (pS Tryz.underlying107 nB rfl rfl (aZ ab).1 (aZ ab).2) (congrArg (fun k=>Value.pointer (some ⟨V,k,none⟩)) (Nat.zero_add _))) fun a hf=>zE hf hc rfl (bT kJ rfl (eJ (sz:=1) (i:=b.toNat) (j:=0) m0 qr rfl)) fun a w hf hc=>sp 1 hf rfl fun a hf=>jD (rows:=([x]:List Int).map aD) (vs:=[(0,i6 x)]) hf hc rfl rfl fN rfl ⟨rfl,rfl,rfl,trivial⟩ rfl rfl fun an a w hf hc=>?_
   replace hc:=vC (hc.pick k2) ai
   replace hc:Ctx G (.row ((D.2 b.toNat).1) ((D.2 b.toNat).2) (Y.map aD) 3 1::aQ aG ((aF D.2 U).eraseIdx b.toNat)::.row (some ⟨an,0,none⟩) 1 (([x]:List Int).map aD) 3 1::.row (some ⟨V,0,none⟩) D.1 ((aF D.2 U).map (Kd.v aG)) 107 1::.box d [.slice none 0 0,.slice none 0 0,.slice none 0 0,.slice none 0 0,.slice none 0 0,.slice none 0 0,.slice none 0 0,.slice none 0 0,.slice none 0 0,.slice none 0 0,.slice none 0 0,.slice none 0 0] 107::Lf) w:=hc
   obtain ⟨a1,ak,hF⟩:=aA hF
   refine kY (xs:=Y) (ys:=([x]:List Int)) hf hc rfl rfl fN rfl rfl rfl rfl rfl bF (fG hc m2) (fun _ _=>u0) (by simpa using cP ak) fun af ag a w hf hc=>?_
   obtain ⟨a0,aa,hF⟩:=aA hF
   obtain ⟨a4,s,hF⟩:=aA hF
   obtain ⟨a3,ay⟩:=jE hc m3 (dE s)
   refine zP hf rfl (Pu.cast (pS Tryz.underlying107 nB rfl rfl (aZ aa).1 (aZ aa).2) (congrArg (fun k=>Value.pointer (some ⟨V,k,none⟩)) (Nat.zero_add _))) fun a hf=>aBi (vs:=[.slice af ((Y++[x]).length) ag]) (o':=0) (z:=((af,ag),(Y++[x]))) (xs:=(aF D.2 U)) hf hc rfl rfl rfl rfl nB rfl (fun x=>(cD x).1) (oE (dE s)) (fun e _=>splW (cD e).1) rfl u3 fun w hc=>?_
   replace hc:=(((hc.pick k2).pick k2).pick k3).pick k3
   obtain ⟨g,hc⟩:=vI (K:=aG) (h':=(af,ag)) (y:=(Y++[x])) s hc
   replace hc:Ctx G (.row (some ⟨V,0,none⟩) D.1 ((aF g (U.set b.toNat (Y++[x]))).map (Kd.v aG)) 107 1::aQ aG (aF g (U.set b.toNat (Y++[x])))::.row (some ⟨an,0,none⟩) 1 (([x]:List Int).map aD) 3 1::.box d [.slice none 0 0,.slice none 0 0,.slice none 0 0,.slice none 0 0,.slice none 0 0,.slice none 0 0,.slice none 0 0,.slice none 0 0,.slice none 0 0,.slice none 0 0,.slice none 0 0,.slice none 0 0] 107::Lf) w:=hc
   refine aP ?_
   replace hc:=hc.drop k2
   exact am (U.set b.toNat (Y++[x])) (D.1,g) _ _  (hf.kp rfl) hc hF
  ·refine wp_skip ?_
   exact am U D _ _  (hf.kp rfl) hc hF
 ·refine wp_exit ?_
  refine aW ?_
  refine aW ?_
  have he:=sj hF
  rw [← he] at t
  refine eV ?_
  exact ax _ _ _ t ⟨D,hf.kp rfl,hc⟩

def rO (N:Nat) (q:Int) (x:aT) (B:Int) (D:Int):Option (Bool) :=
 Option.bind (inR B 12) fun un=>
 Option.bind (inR q 12) fun I=>
 Option.bind (inR B 12) fun J=>
 Option.bind (inR D 12) fun H=>
 some (decide ((x.rank (B * 12 + D).toNat) < (x.rank (B * 12 + q).toNat)))
theorem xO {N:Nat} {G:aO} {Lf:List Ent} {w:World} (q:Int) (x:aT) (d:Int) (g:Int) {b_:Nat} {S:Nat} {H:Option Addr} {I:Nat} {D:Option Addr} {B:Nat} {Z:Nat} {Y:Nat} (X:RdT aG G 1 H I x.Roster.People) (U:RdT aL G 2 D B x.Roster.Stations) (V:PC G S 0 (sQ [.slice H x.Roster.People.length I,.slice D x.Roster.Stations.length B] 144 aD x.rank [])) (hc:Ctx G (.box b_ [pq S] 47::.box Z [i6 d] 3::.box Y [i6 g] 3::Lf) w) {i:Bool} (hF:rO N q x d g=some i):Calls Tryz.prog 49 #[i6 q,pq b_,pq Z,pq Y] w (fun e w=>e=.returned (.bool i)∧Ctx G (.box b_ [pq S] 47::.box Z [i6 d] 3::.box Y [i6 g] 3::Lf) w):=by
 unfold rO at hF
 refine bI Tryz.func49 rfl Tryz.ntmps49 rfl fun a hf=>zS fun K h=>sp 1 hf rfl fun a hf=>zT h ?_
 refine wp_seq_k fun K2 h2=>?_
 obtain ⟨un,b,hF⟩:=aA hF
 obtain ⟨m,R,hF⟩:=aA hF
 obtain ⟨o,J,hF⟩:=aA hF
 obtain ⟨n,O,hF⟩:=aA hF
 refine cQ hc aU (by kernel_rfl) ?_
 refine qE hf rfl rfl rfl (bT nI rfl (bU m0 rfl)) fun a hf=>qE hf rfl rfl rfl (bT bA rfl (bU m1 rfl)) fun a hf=>qE hf rfl rfl rfl (Pu.ev (pM rfl)) fun a hf=>qE hf rfl rfl rfl (Pu.ev (pNC rfl)) fun a hf=>qE hf rfl rfl rfl (Pu.ev (pFA rB rfl)) fun a hf=>qE hf rfl rfl rfl (Pu.ev (pS Tryz.underlying92 yO rfl rfl (aZ b).1 (aZ b).2)) fun a hf=>qE hf rfl rfl rfl (Pu.ev (Pu.cast (pS Tryz.underlying91 eL rfl rfl (aZ R).1 (aZ R).2) (congrArg (fun k=>Value.pointer (some ⟨S,k,none⟩)) (oO (M:=12) (0 + 2) b R rfl)))) fun a hf=>qE hf rfl rfl rfl (bT bA rfl (qU (j:=0) V (fun x=>(bF x).1) rfl (aCz b R rfl) rfl)) fun a hf=>qE hf rfl rfl rfl (bT nI rfl (bU m0 rfl)) fun a hf=>qE hf rfl rfl rfl (bT bA rfl (bU m1 rfl)) fun a hf=>qE hf rfl rfl rfl (bT bA rfl (bU m2 rfl)) fun a hf=>qE hf rfl rfl rfl (Pu.ev (pNC rfl)) fun a hf=>qE hf rfl rfl rfl (Pu.ev (pFA rB rfl)) fun a hf=>?_
 refine qE hf rfl rfl rfl (Pu.ev (pS Tryz.underlying92 yO rfl rfl (aZ J).1 (aZ J).2)) fun a hf=>qE hf rfl rfl rfl (Pu.ev (Pu.cast (pS Tryz.underlying91 eL rfl rfl (aZ O).1 (aZ O).2) (congrArg (fun k=>Value.pointer (some ⟨S,k,none⟩)) (oO (M:=12) (0 + 2) J O rfl)))) fun a hf=>qE hf rfl rfl rfl (bT bA rfl (qU (j:=0) V (fun x=>(bF x).1) rfl (aCz J O rfl) rfl)) fun a hf=>qE hf rfl rfl rfl (Pu.ev (pGt rfl rfl)) fun a hf=>qE hf rfl rfl rfl (Pu.ev (pA rfl)) fun a hf=>?_
 intro w hc
 refine h2 _ _ ?_
 refine wp_ret ?_
 obtain rfl:=sj hF
 exact zO1 Tryz.results49 hf rfl ⟨rfl,hc⟩

def iY (N:Nat) (s_:List Int) (f_:aT) (B:Int) (D:Int) (x:Int):Option (cK (Int) (Int)) :=
 cond (decide (x < ((s_.length:Nat):Int)))
 (Option.bind (bH s_ x) fun H=>
 Option.bind (rO N H f_ B D) fun r=>
 cond r
 (some (.ret x))
 (some (.cont (W (x + 1)))))
 (some (.brk x))
def gR (N:Nat) (s_:List Int) (f_:aT) (B:Int) (D:Int):Option (Int) :=
 Option.bind (bE (fun s4=>iY N s_ f_ B D s4) N 0) fun x4=>
 exK x4 (fun s4=>some (-1)) some
theorem nT {N:Nat} {G:aO} {Lf:List Ent} {w:World} (s_:List Int) (f_:aT) (R:Int) (X:Int) {Z:Option Addr} {b:Nat} {b_:Nat} {Y:Nat} {H:Option Addr} {I:Nat} {D:Option Addr} {B:Nat} {V:Nat} {U:Nat} (k:Rd G 1 Z b (s_.map aD)) (M:RdT aG G 1 H I f_.Roster.People) (J:RdT aL G 2 D B f_.Roster.Stations) (d:PC G Y 0 (sQ [.slice H f_.Roster.People.length I,.slice D f_.Roster.Stations.length B] 144 aD f_.rank [])) (hc:Ctx G (.box b_ [pq Y] 47::.box V [i6 R] 3::.box U [i6 X] 3::Lf) w) {g:Int} (hF:gR N s_ f_ R X=some g):Calls Tryz.prog 63 #[.slice Z s_.length b,.func (.func 49) #[] #[pq b_,pq V,pq U]] w (fun e w=>e=.returned (i6 g)∧Ctx G (.box b_ [pq Y] 47::.box V [i6 R] 3::.box U [i6 X] 3::Lf) w):=by
 unfold gR at hF
 refine bI Tryz.func63 rfl Tryz.ntmps63 rfl fun a hf=>zS fun K h=>sp 1 hf rfl fun a hf=>zT h ?_
 refine wp_seq_k fun K2 h2=>zS fun K h=>sp 1 hf rfl fun a hf=>zP hf rfl (bC Tryz.underlying30 rfl) fun a hf=>sp 1 hf rfl fun a hf=>zT h ?_
 refine wp_block ?_
 obtain ⟨x4,n,hF⟩:=aA hF
 let S4:Int→Act→World→Prop:=(fun (zz:Int) a w=>Has 19 a [(0,.slice Z s_.length b),(1,.func (.func 49) #[] #[pq b_,pq V,pq U]),(7,i6 ((s_.length:Nat):Int)),(8,i6 zz)]∧Ctx G (.box b_ [pq Y] 47::.box V [i6 R] 3::.box U [i6 X] 3::Lf) w)
 have q:∀ (zz:Int) a w,x4=.go zz→S4 zz a w→K2 a w:=by
  rintro x a w rfl ⟨hf,hc⟩
  replace hF:=bP hF
  refine h2 _ _ ?_
  refine zS fun K h=>sp 1 hf rfl fun a hf=>zT h ?_
  refine wp_ret ?_
  obtain rfl:=sj hF
  exact zO1 Tryz.results63 hf rfl ⟨rfl,hc⟩
 have s:∀ r,x4=.out r→r=g:=by
  rintro r rfl
  exact sj hF
 refine cR N (cL (S:=S4) (x:=x4) ?_ N 0 _ _ ⟨hf.kp rfl,hc⟩ n)
 clear hF hf hc
 rintro x t a w KB4 ⟨hf,hc⟩ hF O m
 unfold iY at hF
 refine zS fun K h=>sp 1 hf rfl fun a hf=>zT h ?_
 refine wp_seq_k fun K7 h7=>zI hf rfl hF ?_ ?_ <;> clear hF <;> intro hF
 ·refine wp_skip ?_
  refine h7 _ _ ?_
  refine wp_seq_k fun K8 h8=>wp_block ?_
  refine zS fun K h=>sp 2 hf rfl fun a hf=>zT h ?_
  refine zS fun K h=>sp 3 hf rfl fun a hf=>?_
  obtain ⟨p,i,hF⟩:=aA hF
  obtain ⟨u,o,qa,qp⟩:=k.atm i
  refine zP hf rfl (pIA Tryz.underlying30 eL rfl rfl qa) fun a hf=>zE hf hc rfl (bT bA rfl (bL (j:=0) qp rfl)) fun a w hf hc=>?_
  obtain ⟨r,hr,hF⟩:=aA hF
  refine zQ (v:=.bool r) hf hc en_49 rfl (fun w hc=>(xO p f_ R X M J d (((hc.pick k2).pick k2).pick k2) hr).mono fun e w h=>⟨h.1,(((h.2.unpick k2).unpick k2).unpick k2)⟩) fun a w hf hc=>zT h ?_
  refine zI hf rfl hF ?_ ?_ <;> clear hF <;> intro hF
  ·refine zS fun K h=>sp 2 hf rfl fun a hf=>zT h ?_
   refine wp_ret ?_
   refine bN ?_
   refine aN ?_
   refine aN ?_
   have he:=sj hF
   rw [← he] at O
   replace hF:=s _ O
   refine bN ?_
   refine aN ?_
   obtain rfl:=hF
   exact zO1 Tryz.results63 hf rfl ⟨rfl,hc⟩
  ·refine wp_skip ?_
   refine h8 _ _ ?_
   refine cJ ?_
   refine sp 2 hf rfl fun a hf=>aP ?_
   exact m (W (x + 1)) _ _ (sj hF).symm ⟨hf.kp rfl,hc⟩
 ·refine wp_exit ?_
  refine aW ?_
  refine aW ?_
  have he:=sj hF
  rw [← he] at O
  refine eV ?_
  exact q _ _ _ O ⟨hf.kp rfl,hc⟩

def fQ (N:Nat) (s_:List Int) (f_:aT) (B:Int) (D:Int):Option (Bool) :=
 Option.bind (gR N s_ f_ B D) fun r=>
 some (decide (0≤r))
theorem mR {N:Nat} {G:aO} {Lf:List Ent} {w:World} (s_:List Int) (f_:aT) (O:Int) (R:Int) {Y:Option Addr} {Z:Nat} {b_:Nat} {S:Nat} {H:Option Addr} {I:Nat} {D:Option Addr} {B:Nat} {V:Nat} {U:Nat} (d:Rd G 1 Y Z (s_.map aD)) (M:RdT aG G 1 H I f_.Roster.People) (J:RdT aL G 2 D B f_.Roster.Stations) (X:PC G S 0 (sQ [.slice H f_.Roster.People.length I,.slice D f_.Roster.Stations.length B] 144 aD f_.rank [])) (hc:Ctx G (.box b_ [pq S] 47::.box V [i6 O] 3::.box U [i6 R] 3::Lf) w) {b:Bool} (hF:fQ N s_ f_ O R=some b):Calls Tryz.prog 50 #[.slice Y s_.length Z,.func (.func 49) #[] #[pq b_,pq V,pq U]] w (fun e w=>e=.returned (.bool b)∧Ctx G (.box b_ [pq S] 47::.box V [i6 O] 3::.box U [i6 R] 3::Lf) w):=by
 unfold fQ at hF
 refine bI Tryz.func50 rfl Tryz.ntmps50 rfl fun a hf=>zS fun K h=>sp 1 hf rfl fun a hf=>zT h ?_
 refine zS fun K h=>sp 2 hf rfl fun a hf=>?_
 obtain ⟨r,hr,hF⟩:=aA hF
 refine zQ (v:=i6 r) hf hc aA3 rfl (fun w hc=>(nT s_ f_ O R d M J X (((hc.pick k2).pick k2).pick k2) hr).mono fun e w h=>⟨h.1,(((h.2.unpick k2).unpick k2).unpick k2)⟩) fun a w hf hc=>sp 2 hf rfl fun a hf=>zT h ?_
 refine wp_ret ?_
 obtain rfl:=sj hF
 exact zO1 Tryz.results50 hf rfl ⟨rfl,hc⟩

def tK (N:Nat) (B:List Int):Option (cK (Unit) (aE × Int)) :=
 cond (decide (0 < ((B.length:Nat):Int)))
 (Option.bind (bH B 0) fun D=>
 Option.bind (lY N 0 D) fun H=>
 none)
 (some (.brk ()))
def tJ (N:Nat) (B:List Int):Option (cK (Unit) (aE × Int)) :=
 cond (decide (0 < ((B.length:Nat):Int)))
 (Option.bind (bH B 0) fun D=>
 none)
 (some (.brk ()))
def mJ (N:Nat) (r:aB) (S:(Nat→Int) × Int) (J:(List (List Int))) (B:Int) (M:Int) (O:Int) (R:Int) (xv:Int):Option (Rs (Int × Int × Int)) :=
 Option.bind (Option.bind (inR xv 12) fun U=>
 Option.bind (bH J xv) fun D=>
 Option.bind (bH r.Stations xv) fun H=>
 cond (decide (((D.length:Nat):Int) < H.Places))
 (some true)
 (Option.bind (fQ N D (⟨r,S.1⟩:aT) xv B) fun I=>
 some I)) fun rg=>
 cond rg
 (some (.ret (0,B,xv)))
 (some (.go (M,O,R)))
def tM (N:Nat) (r:aB) (D:List Int) (I:(Nat→Int) × Int) (S:(List (List Int))) (H:Int) (M:Int) (R:Int) (J:Int):Option (cK (Int × Int × Int × Int) (aE × Int)) :=
 cond (decide (H < ((D.length:Nat):Int)))
 (Option.bind (bH D H) fun X=>
 Option.bind (gA N (⟨r,I.1⟩:aT) H X) fun O=>
 Option.bind (dQ N (⟨r,I.1⟩:aT) O.1 O.2 (rY (fun (zz:Int × Int × Int) (V:Int)=>mJ N r I S H zz.1 zz.2.1 zz.2.2 V)) (.go (M,R,J))) fun U=>
 rsK U (fun B=>some (.cont (W (H + 1),B.1,B.2.1,B.2.2))) (fun B=>some (.brk (H,B.1,B.2.1,B.2.2))))
 (some (.brk (H,M,R,J)))
def tN (N:Nat) (r:aB) (B:List Int) (S:(Nat→Int) × Int) (H:(List (List Int))) (x:Int):Option (cK (Int) (aE × Int)) :=
 cond (decide (x < ((B.length:Nat):Int)))
 (Option.bind (bH B x) fun D=>
 Option.bind (cond (D != (-1)) (Option.bind (dP N (⟨r,S.1⟩:aT) x D) fun M=>
 Option.bind (cond (!M) (some true) (Option.bind (inR D 12) fun U=>
 Option.bind (bH H D) fun I=>
 Option.bind (bH r.Stations D) fun R=>
 some (decide (R.Places < ((I.length:Nat):Int))))) fun J=>
 some J) (some false)) fun O=>
 cond O
 (some (.ret ((⟨0,0⟩:aE),7)))
 (some (.cont (W (x + 1)))))
 (some (.brk x))
def uI (N:Nat) (r:aB) (B:List Int):Option (aE × Int) :=
 Option.bind (lH N r) (aEi (fun M=>cond (M != 0)
 (some ((⟨0,0⟩:aE),M))
 (Option.bind (cond (((B.length:Nat):Int) != ((r.People.length:Nat):Int)) (some true) (Option.bind (kW N B r) fun Z=>
 some (!Z))) fun O=>
 cond O
 (some ((⟨0,0⟩:aE),2))
 (Option.bind (rQ N B) fun R=>
 Option.bind (aAt 12 R) fun un=>
 Option.bind (bE (fun (_:Unit)=>tJ N B) N ()) fun X=>
 exK X (fun (_:Unit)=>Option.bind (bE (fun (_:Unit)=>tK N B) N ()) fun b=>
 exK b (fun (_:Unit)=>some ((⟨0,0⟩:aE),5)) some) some)))
 (fun H=>cond (H.2 != 0)
 (some ((⟨0,0⟩:aE),H.2))
 (Option.bind (cond (((B.length:Nat):Int) != ((r.People.length:Nat):Int)) (some true) (Option.bind (kW N B r) fun Y=>
 some (!Y))) fun S=>
 cond S
 (some ((⟨0,0⟩:aE),2))
 (Option.bind (nV N (⟨r,H.1⟩:aT) B) fun I=>
 Option.bind (aAt 12 I) fun d=>
 Option.bind (bE (fun J=>tN N r B H I J) N 0) fun U=>
 exK U (fun J=>Option.bind (bE (fun D=>tM N r B H I D.1 D.2.1 D.2.2.1 D.2.2.2) N (0,5,0,0)) fun V=>
 exK V (fun D=>some ((⟨D.2.2.1,D.2.2.2⟩:aE),D.2.1)) some) some))))
theorem aAh {N:Nat} {G:aO} {Lf:List Ent} {w:World} (r:aB) (B:List Int) {R:Option Addr} {O:Nat} {D:Option Addr} {H:Nat} {M:Option Addr} {I:Nat} (y:RdT aG G 1 R O r.People) (m:RdT aL G 2 D H r.Stations) (t:Rd G 1 M I (B.map aD)) (hc:Ctx G (Lf) w) {a6:aE × Int} (hF:uI N r B=some a6):Calls Tryz.prog 24 #[.agg #[.slice R r.People.length O,.slice D r.Stations.length H],.slice M B.length I] w (fun e w=>e=.returned (.tuple #[.agg #[i6 a6.1.Person,i6 a6.1.Station],i6 a6.2])∧Ctx G (Lf) w):=by
 unfold uI at hF
 refine aH9 Tryz.func24 rfl Tryz.ntmps24 rfl fun a hf=>zS fun K h=>zB hf hc rfl fun Y a w hf hc=>zA hf hc aB4 rfl fun U a w hf hc=>sp 1 hf rfl fun a hf=>zT h ?_
 refine wp_scope_straight ?_
 refine wp_seq_k fun K2 h2=>cJ ?_
 refine zN hf hc mD m1 rfl fun a w hf hc=>?_
 obtain ⟨ay,b5,hF⟩:=aA hF
 cases ay with
 | inl ay=>
  replace hF:=aId hF
  refine zC hf aBv rfl (jL r y m hc b5) ?_
  rintro _ w ⟨rfl,hc⟩
  refine ⟨_,rfl,fun a hf=>?_⟩
  refine sp 3 hf rfl fun a hf=>zA hf hc aJm rfl fun an a w hf hc=>zA hf hc aJh rfl fun aj a w hf hc=>zW hf hc aJ4 u1 rfl fun w hc=>zW hf hc aCx u0 rfl fun w hc=>aP ?_
  refine h2 _ _ ?_
  refine wp_seq_k fun K3 h3=>wp_block ?_
  refine zS fun K h=>zL hf hc aBk m0 rfl fun a w hf hc=>sp 2 hf rfl fun a hf=>zT h ?_
  refine zI hf rfl hF ?_ ?_ <;> clear hF <;> intro hF
  ·refine wp_seq_k fun K5 h5=>gK (fun θ=>[⟨none,none,4,pq U⟩,⟨none,some 3,5,i6 0⟩,⟨none,none,7,pq aj⟩,⟨some 0,none,25,.agg #[i6 0,i6 0]⟩,⟨some 1,none,26,i6 ay⟩,⟨some 3,none,5,i6 ay⟩]) (fun E θ=>.box aj [i6 ay] 31::.box an [.pointer none] 47::.box U [i6 0,i6 0] 59::.box Y [.slice R r.People.length O,.slice D r.Stations.length H] 26::Lf) [] (fun a w=>Has 115 a [(4,pq U),(5,i6 ay)]∧Ctx G (.box aj [i6 ay] 31::.box an [.pointer none] 47::.box U [i6 0,i6 0] 59::.box Y [.slice R r.People.length O,.slice D r.Stations.length H] 26::Lf) w) aU (by kernel_rfl) (by kernel_rfl) (fB.of hf ⟨rfl,rfl,rfl,trivial,trivial,trivial,trivial⟩) hc ⟨?_,?_,?_,?_,trivial⟩ ?_ ?_
   ·intro E θ a w hD hi hp he hc
    have hf:=he.h0
    refine zP hf rfl (cF (cells:=[i6 0,i6 0]) sK rfl rfl) fun a hf=>zD θ he hi hf 3 rfl rfl rfl hc
   ·intro E θ a w hD hi hp he hc
    have hf:=he.h0.mT he 2 rfl
    refine zL hf hc aBk m0 rfl fun a w hf hc=>zD θ he hi hf 4 rfl rfl rfl hc
   ·intro E θ a w hD hi hp he hc
    have e0:=hp.o 0 rfl
    have hf:=(he.h0.mT he 0 rfl).mP he 3 rfl e0
    refine zW hf hc nF u2 rfl fun w hc=>zG θ he hi hf rfl hc
   ·intro E θ a w hD hi hp he hc
    have e1:=hp.o 1 rfl
    have hf:=he.h0.mP he 4 rfl e1
    refine sp 1 hf rfl fun a hf=>zD θ he hi hf 5 rfl rfl rfl hc
   ·intro E θ a w p he hc
    have hf:=he.h0
    have e3:=p 3 rfl
    replace hf:=hf.more he 5 rfl (onP e3)
    replace hf:=hf.more he 0 rfl (onT)
    exact ⟨hf.kp rfl,hc⟩
   rintro a w ⟨hf,hc⟩
   refine h5 _ _ ?_
   refine wp_ret ?_
   refine bN ?_
   refine aN ?_
   refine sV ?_
   obtain rfl:=sj hF
   replace hc:=((hc.drop k3).drop k1).drop k0
   refine zZ hf ?_
   exact aA5 Tryz.results24 hf hc (fK (vs:=[i6 0,i6 0]) mV rfl rfl (bM (n:=2) m0 rfl)) (show gY _ 5=_ from rfl) ⟨rfl,(hc.drop k0)⟩
  ·refine zS fun K h=>sp 1 hf rfl fun a hf=>zP hf rfl (bC Tryz.underlying30 rfl) fun a hf=>zP hf rfl (pFA eZ rfl) fun a hf=>zL hf hc mA m3 rfl fun a w hf hc=>zP hf rfl (bC Tryz.underlying23 rfl) fun a hf=>sp 2 hf rfl fun a hf=>?_
   obtain ⟨gu,b0,hF⟩:=aA hF
   refine gX 5 (fun a=>Has 115 a [(1,.slice M B.length I),(2,pq Y),(4,pq U),(6,pq an),(7,pq aj),(28,.slice M B.length I),(29,i6 ((B.length:Nat):Int)),(30,pq Y),(31,.slice R r.People.length O),(32,i6 ((r.People.length:Nat):Int)),(33,.bool (((B.length:Nat):Int) != ((r.People.length:Nat):Int))),(34,.bool (((B.length:Nat):Int) != ((r.People.length:Nat):Int))),(39,.bool gu)]) hc ?_ ?_
   ·cases hb:(((B.length:Nat):Int) != ((r.People.length:Nat):Int))
    ·rw [hb] at hf
     have hF:=jM hb b0
     refine sp 1 hf rfl fun a hf=>zP hf rfl (pMF (us:=[pq Y]) rfl rfl) fun a hf=>?_
     obtain ⟨d3,di,hF⟩:=aA hF
     refine zQ (v:=.bool d3) hf hc aD0 rfl (fun w hc=>(oP B r t y m (hc.pick k3) di).mono fun e w h=>⟨h.1,(h.2.unpick k3)⟩) fun a w hf hc=>sp 2 hf rfl fun a hf=>?_
     obtain rfl:=sj hF
     exact aP ⟨hf.kp rfl,hc⟩
    ·rw [hb] at hf
     have hF:=iL hb b0
     obtain rfl:=sj hF
     refine stS hf rfl rfl rfl fun a hf=>stS hf rfl rfl rfl fun a hf=>stS hf rfl rfl rfl fun a hf=>stS hf rfl rfl rfl fun a hf=>sp 1 hf rfl fun a hf=>aP ⟨hf.kp rfl,hc⟩
   intro a w ⟨hf,hc⟩
   refine sp 1 hf rfl fun a hf=>zT h ?_
   refine zI hf rfl hF ?_ ?_ <;> clear hF <;> intro hF
   ·refine zS fun K h=>zP hf rfl (cF (cells:=[i6 0,i6 0]) sK rfl rfl) fun a hf=>zW hf hc nF u2 rfl fun w hc=>sp 1 hf rfl fun a hf=>zT h ?_
    refine wp_ret ?_
    refine bN ?_
    refine aN ?_
    refine sV ?_
    obtain rfl:=sj hF
    replace hc:=((hc.drop k3).drop k1).drop k0
    refine zZ hf ?_
    exact aA5 Tryz.results24 hf hc (fK (vs:=[i6 0,i6 0]) mV rfl rfl (bM (n:=2) m0 rfl)) (show gY _ 5=_ from rfl) ⟨rfl,(hc.drop k0)⟩
   ·refine wp_skip ?_
    refine h3 _ _ ?_
    refine wp_seq_k fun K8 h8=>?_
    obtain ⟨ax,c1,hF⟩:=aA hF
    obtain ⟨un,gv,hF⟩:=aA hF
    replace hc:=hc.nilRow 0 0
    replace hc:=hc.nilRow 0 0
    refine gK (fun θ=>[⟨none,none,1,.slice M B.length I⟩,⟨none,none,2,pq Y⟩,⟨none,none,4,pq U⟩,⟨none,none,6,pq an⟩,⟨none,none,7,pq aj⟩,⟨some 0,none,41,.pointer none⟩,⟨some 1,none,42,.slice M B.length I⟩,⟨some 2,none,43,.agg ((aF (θ 16).h ax).map (Kd.v aG)).flatten.toArray⟩,⟨some 3,none,44,.pointer none⟩,⟨some 4,none,45,.func (.func 48) #[.pointer none] #[]⟩,⟨some 5,none,8,.pointer (some ⟨(θ 40).b,0,none⟩)⟩,⟨some 7,none,9,.func (.func 48) #[.pointer none] #[]⟩]) (fun E θ=>(bif E 6 then .box (θ 40).b ((aF (θ 16).h ax).map (Kd.v aG)).flatten 107 else bif E 5 then .box (θ 40).b [.slice none 0 0,.slice none 0 0,.slice none 0 0,.slice none 0 0,.slice none 0 0,.slice none 0 0,.slice none 0 0,.slice none 0 0,.slice none 0 0,.slice none 0 0,.slice none 0 0,.slice none 0 0] 107 else .row none 0 [] 0 0)::(bif E 2 then aQ aG (aF (θ 16).h ax) else .row none 0 [] 0 0)::.box aj [i6 ay] 31::.box an [.pointer none] 47::.box U [i6 0,i6 0] 59::.box Y [.slice R r.People.length O,.slice D r.Stations.length H] 26::Lf) [(6,2),(6,5)] (fun a w=>∃ (a0:Nat) (ap:Hds),Has 115 a [(1,.slice M B.length I),(2,pq Y),(4,pq U),(6,pq an),(7,pq aj),(8,pq a0),(9,.func (.func 48) #[.pointer none] #[])]∧Ctx G (.box a0 ((aF ap ax).map (Kd.v aG)).flatten 107::aQ aG (aF ap ax)::.box aj [i6 ay] 31::.box an [.pointer none] 47::.box U [i6 0,i6 0] 59::.box Y [.slice R r.People.length O,.slice D r.Stations.length H] 26::Lf) w) aU (by kernel_rfl) (by kernel_rfl) (fB.of hf ⟨rfl,rfl,rfl,rfl,rfl,trivial,trivial,trivial,trivial,trivial,trivial,trivial,trivial⟩) hc ⟨?_,?_,?_,?_,?_,?_,?_,?_,trivial⟩ ?_ ?_
    ·intro E θ a w hD hi hp he hc
     have hf:=he.h0.mT he 3 rfl
     refine zL hf hc nI m3 rfl fun a w hf hc=>zD θ he hi hf 5 rfl rfl rfl hc
    ·intro E θ a w hD hi hp he hc
     have hf:=he.h0.mT he 0 rfl
     refine sp 1 hf rfl fun a hf=>zD θ he hi hf 6 rfl rfl rfl hc
    ·intro E θ a w hD hi hp he hc
     have e0:=hp.o 0 rfl
     have e1:=hp.o 1 rfl
     have e6:=hD.f 0 rfl hi
     try dsimp only at hc
     rw [hi,e6] at hc
     have hf:=(he.h0.mP he 5 rfl e0).mP he 6 rfl e1
     refine zC hf aJq rfl (xR B t hc c1) ?_
     rintro _ w ⟨gs,rfl,hc⟩
     refine ⟨_,rfl,fun a hf=>?_⟩
     refine aP ?_
     refine cV ?_
     intro ds u bd
     replace hc:=((hc.drop k2).pick k0).pick k1
     refine ⟨(lA θ 16 ⟨0,none,0,gs⟩),he.put hi bd hf rfl [] trivial ⟨qq,qq,qq,qq,qq,qq,qq,qq,qq,qq,qq,qq,trivial⟩,?_⟩
     try dsimp only
     rw [aR E 2,bB 2 e6 rfl]
     exact hc
    ·intro E θ a w hD hi hp he hc
     have hf:=he.h0.mT he 3 rfl
     refine zL hf hc nI m3 rfl fun a w hf hc=>zD θ he hi hf 8 rfl rfl rfl hc
    ·intro E θ a w hD hi hp he hc
     have e3:=hp.o 3 rfl
     have hf:=he.h0.mP he 8 rfl e3
     refine zP hf rfl (pMF (vs:=[.pointer none]) (us:=[]) rfl rfl) fun a hf=>zD θ he hi hf 9 rfl rfl rfl hc
    ·intro E θ a w hD hi hp he hc
     have e6:=hD.f 1 rfl hi
     try dsimp only at hc
     rw [hi,e6] at hc
     have hf:=he.h0
     refine zA hf hc xY rfl fun dx a w hf hc=>aP ?_
     refine cV ?_
     intro ds u bd
     replace hc:=hc.drop k1
     refine ⟨(lA θ 40 ⟨dx,none,0,(fun _=>(none,0))⟩),he.put hi bd hf rfl [] trivial ⟨qq,qq,qq,qq,qq,qq,qq,qq,qq,qq,qq,qq,trivial⟩,?_⟩
     try dsimp only
     rw [aR E 5,bB 5 e6 rfl]
     exact hc
    ·intro E θ a w hD hi hp he hc
     have e2:=hp.o 2 rfl
     have e5:=hp.o 5 rfl
     try dsimp only at hc
     rw [e5,hi] at hc
     have hf:=(he.h0.mP he 7 rfl e2).mP he 10 rfl e5
     refine aFs (n:=12) (vs:=((aF (θ 16).h ax).map (Kd.v aG)).flatten) hf hc rfl rfl rfl rfl aCu (mF cD gv) (xM cD) rfl u0 fun w hc=>zG θ he hi hf rfl ?_
     try dsimp only
     rw [dK 6 e5,aR E 6]
     exact hc
    ·intro E θ a w hD hi hp he hc
     have e4:=hp.o 4 rfl
     have hf:=he.h0.mP he 9 rfl e4
     refine sp 1 hf rfl fun a hf=>zD θ he hi hf 11 rfl rfl rfl hc
    ·intro E θ a w p he hc
     have hf:=he.h0
     have e2:=p 2 rfl
     have e5:=p 5 rfl
     have e6:=p 6 rfl
     have e7:=p 7 rfl
     replace hf:=hf.more he 11 rfl (onP e7)
     replace hf:=hf.more he 10 rfl (onP e5)
     replace hf:=hf.more he 4 rfl (onT)
     replace hf:=hf.more he 3 rfl (onT)
     replace hf:=hf.more he 2 rfl (onT)
     replace hf:=hf.more he 1 rfl (onT)
     replace hf:=hf.more he 0 rfl (onT)
     try dsimp only at hc
     rw [e2,e5,e6] at hc
     exact ⟨(θ 40).b,(θ 16).h,hf.kp rfl,hc⟩
    rintro a w ⟨a0,ap,hf,hc⟩
    obtain ⟨G,bf,gx,hc,-⟩:=aKb lX hc k1
    refine h8 _ _ ?_
    refine wp_seq_k fun K9 h9=>zS fun K h=>sp 1 hf rfl fun a hf=>zP hf rfl (bC Tryz.underlying30 rfl) fun a hf=>sp 1 hf rfl fun a hf=>zT h ?_
    refine wp_block ?_
    obtain ⟨bu,c3,hF⟩:=aA hF
    let S11:Unit→Act→World→Prop:=(fun (zz:Unit) a w=>Has 115 a [(1,.slice M B.length I),(2,pq Y),(4,pq U),(6,pq an),(7,pq aj),(8,pq a0),(9,.func (.func 48) #[.pointer none] #[]),(46,.slice M B.length I),(47,i6 ((B.length:Nat):Int)),(48,i6 0)]∧Ctx G (.box a0 ((aF ap ax).map (Kd.v aG)).flatten 107::.box aj [i6 ay] 31::.box an [.pointer none] 47::.box U [i6 0,i6 0] 59::.box Y [.slice R r.People.length O,.slice D r.Stations.length H] 26::Lf) w)
    have c0:∀ (zz:Unit) a w,bu=.go zz→S11 zz a w→K9 a w:=by
     rintro ⟨⟩ a w rfl ⟨hf,hc⟩
     replace hF:=bP hF
     refine h9 _ _ ?_
     refine zS fun K h=>zP hf rfl (cF (cells:=[i6 0,i6 0]) sK rfl rfl) fun a hf=>zA hf hc aB4 rfl fun bm a w hf hc=>zW hf hc nF u0 rfl fun w hc=>zW hf hc aCx u2 rfl fun w hc=>zT h ?_
     refine wp_seq_k fun K13 gj=>wp_label ?_
     refine gj _ _ ?_
     refine wp_seq_k fun K14 d0=>zS fun K h=>sp 1 hf rfl fun a hf=>zP hf rfl (bC Tryz.underlying30 rfl) fun a hf=>sp 1 hf rfl fun a hf=>zT h ?_
     refine wp_block ?_
     obtain ⟨b9,cr,hF⟩:=aA hF
     let S16:Unit→Act→World→Prop:=(fun (zz:Unit) a w=>Has 115 a [(2,pq Y),(4,pq U),(6,pq an),(7,pq aj),(8,pq a0),(12,pq bm),(78,.slice M B.length I),(79,i6 ((B.length:Nat):Int)),(80,i6 0)]∧Ctx G (.box bm [i6 0,i6 0] 59::.box a0 ((aF ap ax).map (Kd.v aG)).flatten 107::.box aj [i6 5] 31::.box an [.pointer none] 47::.box U [i6 0,i6 0] 59::.box Y [.slice R r.People.length O,.slice D r.Stations.length H] 26::Lf) w)
     have c7:∀ (zz:Unit) a w,b9=.go zz→S16 zz a w→K14 a w:=by
      rintro ⟨⟩ a w rfl ⟨hf,hc⟩
      replace hF:=bP hF
      refine d0 _ _ ?_
      refine wp_seq_k fun K17 gn=>gK (fun θ=>[⟨none,none,4,pq U⟩,⟨none,none,7,pq aj⟩,⟨none,none,12,pq bm⟩,⟨some 0,none,113,.agg #[i6 0,i6 0]⟩,⟨some 1,none,114,i6 5⟩,⟨some 3,none,5,i6 5⟩]) (fun E θ=>.box bm [i6 0,i6 0] 59::.box a0 ((aF ap ax).map (Kd.v aG)).flatten 107::.box aj [i6 5] 31::.box an [.pointer none] 47::.box U [i6 0,i6 0] 59::.box Y [.slice R r.People.length O,.slice D r.Stations.length H] 26::Lf) [] (fun a w=>Has 115 a [(4,pq U),(5,i6 5)]∧Ctx G (.box bm [i6 0,i6 0] 59::.box a0 ((aF ap ax).map (Kd.v aG)).flatten 107::.box aj [i6 5] 31::.box an [.pointer none] 47::.box U [i6 0,i6 0] 59::.box Y [.slice R r.People.length O,.slice D r.Stations.length H] 26::Lf) w) aU (by kernel_rfl) (by kernel_rfl) (fB.of hf ⟨rfl,rfl,rfl,trivial,trivial,trivial,trivial⟩) hc ⟨?_,?_,?_,?_,trivial⟩ ?_ ?_
      ·intro E θ a w hD hi hp he hc
       have hf:=he.h0.mT he 2 rfl
       refine zN hf hc mV m0 rfl fun a w hf hc=>zD θ he hi hf 3 rfl rfl rfl hc
      ·intro E θ a w hD hi hp he hc
       have hf:=he.h0.mT he 1 rfl
       refine zL hf hc aBk m2 rfl fun a w hf hc=>zD θ he hi hf 4 rfl rfl rfl hc
      ·intro E θ a w hD hi hp he hc
       have e0:=hp.o 0 rfl
       have hf:=(he.h0.mT he 0 rfl).mP he 3 rfl e0
       refine zW hf hc nF u4 rfl fun w hc=>zG θ he hi hf rfl hc
      ·intro E θ a w hD hi hp he hc
       have e1:=hp.o 1 rfl
       have hf:=he.h0.mP he 4 rfl e1
       refine sp 1 hf rfl fun a hf=>zD θ he hi hf 5 rfl rfl rfl hc
      ·intro E θ a w p he hc
       have hf:=he.h0
       have e3:=p 3 rfl
       replace hf:=hf.more he 5 rfl (onP e3)
       replace hf:=hf.more he 0 rfl (onT)
       exact ⟨hf.kp rfl,hc⟩
      rintro a w ⟨hf,hc⟩
      refine gn _ _ ?_
      refine wp_ret ?_
      refine sV ?_
      obtain rfl:=sj hF
      replace hc:=hc.down bf
      replace hc:=((((hc.drop k5).drop k3).drop k2).drop k1).drop k0
      refine zZ hf ?_
      exact aA5 Tryz.results24 hf hc (fK (vs:=[i6 0,i6 0]) mV rfl rfl (bM (n:=2) m0 rfl)) (show gY _ 5=_ from rfl) ⟨rfl,(hc.drop k0)⟩
     have ia:∀ r,b9=.out r→r=a6:=by
      rintro r rfl
      exact sj hF
     refine cR N (cL (S:=S16) (x:=b9) ?_ N () _ _ ⟨hf.kp rfl,hc⟩ cr)
     clear hF hf hc
     rintro ⟨⟩ gz a w KB16 ⟨hf,hc⟩ hF bk g2
     unfold tK at hF
     refine zS fun K h=>sp 1 hf rfl fun a hf=>zT h ?_
     refine wp_seq_k fun K19 d8=>zI hf rfl hF ?_ ?_ <;> clear hF <;> intro hF
     ·refine wp_skip ?_
      refine d8 _ _ ?_
      refine wp_seq_k fun K20 i1=>wp_block ?_
      refine zS fun K h=>sp 1 hf rfl fun a hf=>?_
      obtain ⟨dt,c5,hF⟩:=aA hF
      obtain ⟨iz,o,qa,qp⟩:=(t.mono bf).atm c5
      refine zP hf rfl (pIA Tryz.underlying30 eL rfl rfl qa) fun a hf=>zE hf hc rfl (bT bA rfl (bL (j:=0) qp rfl)) fun a w hf hc=>zA hf hc aG3 rfl fun i4 a w hf hc=>zW hf hc eL u0 rfl fun w hc=>sp 1 hf rfl fun a hf=>zT h ?_
      refine zS fun K h=>zL hf hc nI m4 rfl fun a w hf hc=>zL hf hc bA m0 rfl fun a w hf hc=>sp 1 hf rfl fun a hf=>?_
      obtain ⟨i0,dc,hF⟩:=aA hF
      refine zC hf aE2 rfl (sU 0 dt hc dc) ?_
      rintro _ w ⟨ip,g0,g7,rfl,hc⟩
      refine ⟨_,rfl,fun a hf=>?_⟩
      refine zT h ?_
      exact aAb hF
     ·refine wp_exit ?_
      refine aW ?_
      refine aW ?_
      have he:=sj hF
      rw [← he] at bk
      refine eV ?_
      exact c7 _ _ _ bk ⟨hf.kp rfl,hc⟩
    have ii:∀ r,bu=.out r→r=a6:=by
     rintro r rfl
     exact sj hF
    refine cR N (cL (S:=S11) (x:=bu) ?_ N () _ _ ⟨hf.kp rfl,hc⟩ c3)
    clear hF hf hc
    rintro ⟨⟩ g6 a w KB11 ⟨hf,hc⟩ hF bn ik
    unfold tJ at hF
    refine zS fun K h=>sp 1 hf rfl fun a hf=>zT h ?_
    refine wp_seq_k fun K24 dy=>zI hf rfl hF ?_ ?_ <;> clear hF <;> intro hF
    ·refine wp_skip ?_
     refine dy _ _ ?_
     refine wp_seq_k fun K25 iv=>wp_block ?_
     refine zS fun K h=>sp 1 hf rfl fun a hf=>?_
     obtain ⟨ir,cp,hF⟩:=aA hF
     obtain ⟨g5,i5,cs,c4⟩:=(t.mono bf).atm cp
     refine zP hf rfl (pIA Tryz.underlying30 eL rfl rfl cs) fun a hf=>zE hf hc rfl (bT bA rfl (bL (j:=0) c4 rfl)) fun a w hf hc=>sp 2 hf rfl fun a hf=>zT h ?_
     refine wp_seq_k fun K27 i2=>aAb hF
    ·refine wp_exit ?_
     refine aW ?_
     refine aW ?_
     have he:=sj hF
     rw [← he] at bn
     refine eV ?_
     exact c0 _ _ _ bn ⟨hf.kp rfl,hc⟩
 | inr ak=>
  replace hF:=aIl hF
  have c2:=b5
  refine zC hf aBv rfl (jL r y m hc c2) ?_
  rintro _ w ⟨d,rfl,hc⟩
  refine ⟨_,rfl,fun a hf=>?_⟩
  refine sp 3 hf rfl fun a hf=>zA hf hc aJm rfl fun X a w hf hc=>zA hf hc aJh rfl fun Z a w hf hc=>zW hf hc aJ4 u1 rfl fun w hc=>zW hf hc aCx u0 rfl fun w hc=>aP ?_
  obtain ⟨G,V,ai,hc,-⟩:=aGu hc k2
  replace ai:=aG8 ai
  refine h2 _ _ ?_
  refine wp_seq_k fun K28 gd=>wp_block ?_
  refine zS fun K h=>zL hf hc aBk m0 rfl fun a w hf hc=>sp 2 hf rfl fun a hf=>zT h ?_
  refine zI hf rfl hF ?_ ?_ <;> clear hF <;> intro hF
  ·refine wp_seq_k fun K30 gf=>gK (fun θ=>[⟨none,none,4,pq U⟩,⟨none,some 3,5,i6 0⟩,⟨none,none,7,pq Z⟩,⟨some 0,none,25,.agg #[i6 0,i6 0]⟩,⟨some 1,none,26,i6 ak.2⟩,⟨some 3,none,5,i6 ak.2⟩]) (fun E θ=>.box Z [i6 ak.2] 31::.box X [pq d] 47::.box U [i6 0,i6 0] 59::.box Y [.slice R r.People.length O,.slice D r.Stations.length H] 26::Lf) [] (fun a w=>Has 115 a [(4,pq U),(5,i6 ak.2)]∧Ctx G (.box Z [i6 ak.2] 31::.box X [pq d] 47::.box U [i6 0,i6 0] 59::.box Y [.slice R r.People.length O,.slice D r.Stations.length H] 26::Lf) w) aU (by kernel_rfl) (by kernel_rfl) (fB.of hf ⟨rfl,rfl,rfl,trivial,trivial,trivial,trivial⟩) hc ⟨?_,?_,?_,?_,trivial⟩ ?_ ?_
   ·intro E θ a w hD hi hp he hc
    have hf:=he.h0
    refine zP hf rfl (cF (cells:=[i6 0,i6 0]) sK rfl rfl) fun a hf=>zD θ he hi hf 3 rfl rfl rfl hc
   ·intro E θ a w hD hi hp he hc
    have hf:=he.h0.mT he 2 rfl
    refine zL hf hc aBk m0 rfl fun a w hf hc=>zD θ he hi hf 4 rfl rfl rfl hc
   ·intro E θ a w hD hi hp he hc
    have e0:=hp.o 0 rfl
    have hf:=(he.h0.mT he 0 rfl).mP he 3 rfl e0
    refine zW hf hc nF u2 rfl fun w hc=>zG θ he hi hf rfl hc
   ·intro E θ a w hD hi hp he hc
    have e1:=hp.o 1 rfl
    have hf:=he.h0.mP he 4 rfl e1
    refine sp 1 hf rfl fun a hf=>zD θ he hi hf 5 rfl rfl rfl hc
   ·intro E θ a w p he hc
    have hf:=he.h0
    have e3:=p 3 rfl
    replace hf:=hf.more he 5 rfl (onP e3)
    replace hf:=hf.more he 0 rfl (onT)
    exact ⟨hf.kp rfl,hc⟩
   rintro a w ⟨hf,hc⟩
   refine gf _ _ ?_
   refine wp_ret ?_
   refine bN ?_
   refine aN ?_
   refine sV ?_
   obtain rfl:=sj hF
   replace hc:=hc.down V
   replace hc:=((hc.drop k3).drop k1).drop k0
   refine zZ hf ?_
   exact aA5 Tryz.results24 hf hc (fK (vs:=[i6 0,i6 0]) mV rfl rfl (bM (n:=2) m0 rfl)) (show gY _ 5=_ from rfl) ⟨rfl,(hc.drop k0)⟩
  ·refine zS fun K h=>sp 1 hf rfl fun a hf=>zP hf rfl (bC Tryz.underlying30 rfl) fun a hf=>zP hf rfl (pFA eZ rfl) fun a hf=>zL hf hc mA m3 rfl fun a w hf hc=>zP hf rfl (bC Tryz.underlying23 rfl) fun a hf=>sp 2 hf rfl fun a hf=>?_
   obtain ⟨dq,b4,hF⟩:=aA hF
   refine gX 5 (fun a=>Has 115 a [(1,.slice M B.length I),(2,pq Y),(4,pq U),(6,pq X),(7,pq Z),(28,.slice M B.length I),(29,i6 ((B.length:Nat):Int)),(30,pq Y),(31,.slice R r.People.length O),(32,i6 ((r.People.length:Nat):Int)),(33,.bool (((B.length:Nat):Int) != ((r.People.length:Nat):Int))),(34,.bool (((B.length:Nat):Int) != ((r.People.length:Nat):Int))),(39,.bool dq)]) hc ?_ ?_
   ·cases hb:(((B.length:Nat):Int) != ((r.People.length:Nat):Int))
    ·rw [hb] at hf
     have hF:=jM hb b4
     refine sp 1 hf rfl fun a hf=>zP hf rfl (pMF (us:=[pq Y]) rfl rfl) fun a hf=>?_
     obtain ⟨d1,c9,hF⟩:=aA hF
     refine zQ (v:=.bool d1) hf hc aD0 rfl (fun w hc=>(oP B r (t.mono V) (y.mono V) (m.mono V) (hc.pick k3) c9).mono fun e w h=>⟨h.1,(h.2.unpick k3)⟩) fun a w hf hc=>sp 2 hf rfl fun a hf=>?_
     obtain rfl:=sj hF
     exact aP ⟨hf.kp rfl,hc⟩
    ·rw [hb] at hf
     have hF:=iL hb b4
     obtain rfl:=sj hF
     refine stS hf rfl rfl rfl fun a hf=>stS hf rfl rfl rfl fun a hf=>stS hf rfl rfl rfl fun a hf=>stS hf rfl rfl rfl fun a hf=>sp 1 hf rfl fun a hf=>aP ⟨hf.kp rfl,hc⟩
   intro a w ⟨hf,hc⟩
   refine sp 1 hf rfl fun a hf=>zT h ?_
   refine zI hf rfl hF ?_ ?_ <;> clear hF <;> intro hF
   ·refine zS fun K h=>zP hf rfl (cF (cells:=[i6 0,i6 0]) sK rfl rfl) fun a hf=>zW hf hc nF u2 rfl fun w hc=>sp 1 hf rfl fun a hf=>zT h ?_
    refine wp_ret ?_
    refine bN ?_
    refine aN ?_
    refine sV ?_
    obtain rfl:=sj hF
    replace hc:=hc.down V
    replace hc:=((hc.drop k3).drop k1).drop k0
    refine zZ hf ?_
    exact aA5 Tryz.results24 hf hc (fK (vs:=[i6 0,i6 0]) mV rfl rfl (bM (n:=2) m0 rfl)) (show gY _ 5=_ from rfl) ⟨rfl,(hc.drop k0)⟩
   ·refine wp_skip ?_
    refine gd _ _ ?_
    refine wp_seq_k fun K33 d4=>?_
    obtain ⟨aa,ct,hF⟩:=aA hF
    obtain ⟨gy,cf,hF⟩:=aA hF
    replace hc:=hc.nilRow 0 0
    replace hc:=hc.nilRow 0 0
    refine gK (fun θ=>[⟨none,none,1,.slice M B.length I⟩,⟨none,none,2,pq Y⟩,⟨none,none,4,pq U⟩,⟨none,none,6,pq X⟩,⟨none,none,7,pq Z⟩,⟨some 0,none,41,pq d⟩,⟨some 1,none,42,.slice M B.length I⟩,⟨some 2,none,43,.agg ((aF (θ 16).h aa).map (Kd.v aG)).flatten.toArray⟩,⟨some 3,none,44,pq d⟩,⟨some 4,none,45,.func (.func 48) #[pq d] #[]⟩,⟨some 5,none,8,.pointer (some ⟨(θ 40).b,0,none⟩)⟩,⟨some 7,none,9,.func (.func 48) #[pq d] #[]⟩]) (fun E θ=>(bif E 6 then .box (θ 40).b ((aF (θ 16).h aa).map (Kd.v aG)).flatten 107 else bif E 5 then .box (θ 40).b [.slice none 0 0,.slice none 0 0,.slice none 0 0,.slice none 0 0,.slice none 0 0,.slice none 0 0,.slice none 0 0,.slice none 0 0,.slice none 0 0,.slice none 0 0,.slice none 0 0,.slice none 0 0] 107 else .row none 0 [] 0 0)::(bif E 2 then aQ aG (aF (θ 16).h aa) else .row none 0 [] 0 0)::.box Z [i6 ak.2] 31::.box X [pq d] 47::.box U [i6 0,i6 0] 59::.box Y [.slice R r.People.length O,.slice D r.Stations.length H] 26::Lf) [(6,2),(6,5)] (fun a w=>∃ (g:Nat) (i:Hds),Has 115 a [(1,.slice M B.length I),(2,pq Y),(4,pq U),(6,pq X),(7,pq Z),(8,pq g),(9,.func (.func 48) #[pq d] #[])]∧Ctx G (.box g ((aF i aa).map (Kd.v aG)).flatten 107::aQ aG (aF i aa)::.box Z [i6 ak.2] 31::.box X [pq d] 47::.box U [i6 0,i6 0] 59::.box Y [.slice R r.People.length O,.slice D r.Stations.length H] 26::Lf) w) aU (by kernel_rfl) (by kernel_rfl) (fB.of hf ⟨rfl,rfl,rfl,rfl,rfl,trivial,trivial,trivial,trivial,trivial,trivial,trivial,trivial⟩) hc ⟨?_,?_,?_,?_,?_,?_,?_,?_,trivial⟩ ?_ ?_
    ·intro E θ a w hD hi hp he hc
     have hf:=he.h0.mT he 3 rfl
     refine zL hf hc nI m3 rfl fun a w hf hc=>zD θ he hi hf 5 rfl rfl rfl hc
    ·intro E θ a w hD hi hp he hc
     have hf:=he.h0.mT he 0 rfl
     refine sp 1 hf rfl fun a hf=>zD θ he hi hf 6 rfl rfl rfl hc
    ·intro E θ a w hD hi hp he hc
     have e0:=hp.o 0 rfl
     have e1:=hp.o 1 rfl
     have e6:=hD.f 0 rfl hi
     try dsimp only at hc
     rw [hi,e6] at hc
     have hf:=(he.h0.mP he 5 rfl e0).mP he 6 rfl e1
     refine zC hf aJq rfl (vM (⟨r,ak.1⟩:aT) B (y.mono V) (m.mono V) ai (t.mono V) hc ct) ?_
     rintro _ w ⟨cg,rfl,hc⟩
     refine ⟨_,rfl,fun a hf=>?_⟩
     refine aP ?_
     refine cV ?_
     intro ds u bd
     replace hc:=((hc.drop k2).pick k0).pick k1
     refine ⟨(lA θ 16 ⟨0,none,0,cg⟩),he.put hi bd hf rfl [] trivial ⟨qq,qq,qq,qq,qq,qq,qq,qq,qq,qq,qq,qq,trivial⟩,?_⟩
     try dsimp only
     rw [aR E 2,bB 2 e6 rfl]
     exact hc
    ·intro E θ a w hD hi hp he hc
     have hf:=he.h0.mT he 3 rfl
     refine zL hf hc nI m3 rfl fun a w hf hc=>zD θ he hi hf 8 rfl rfl rfl hc
    ·intro E θ a w hD hi hp he hc
     have e3:=hp.o 3 rfl
     have hf:=he.h0.mP he 8 rfl e3
     refine zP hf rfl (pMF (vs:=[pq d]) (us:=[]) rfl rfl) fun a hf=>zD θ he hi hf 9 rfl rfl rfl hc
    ·intro E θ a w hD hi hp he hc
     have e6:=hD.f 1 rfl hi
     try dsimp only at hc
     rw [hi,e6] at hc
     have hf:=he.h0
     refine zA hf hc xY rfl fun db a w hf hc=>aP ?_
     refine cV ?_
     intro ds u bd
     replace hc:=hc.drop k1
     refine ⟨(lA θ 40 ⟨db,none,0,(fun _=>(none,0))⟩),he.put hi bd hf rfl [] trivial ⟨qq,qq,qq,qq,qq,qq,qq,qq,qq,qq,qq,qq,trivial⟩,?_⟩
     try dsimp only
     rw [aR E 5,bB 5 e6 rfl]
     exact hc
    ·intro E θ a w hD hi hp he hc
     have e2:=hp.o 2 rfl
     have e5:=hp.o 5 rfl
     try dsimp only at hc
     rw [e5,hi] at hc
     have hf:=(he.h0.mP he 7 rfl e2).mP he 10 rfl e5
     refine aFs (n:=12) (vs:=((aF (θ 16).h aa).map (Kd.v aG)).flatten) hf hc rfl rfl rfl rfl aCu (mF cD cf) (xM cD) rfl u0 fun w hc=>zG θ he hi hf rfl ?_
     try dsimp only
     rw [dK 6 e5,aR E 6]
     exact hc
    ·intro E θ a w hD hi hp he hc
     have e4:=hp.o 4 rfl
     have hf:=he.h0.mP he 9 rfl e4
     refine sp 1 hf rfl fun a hf=>zD θ he hi hf 11 rfl rfl rfl hc
    ·intro E θ a w p he hc
     have hf:=he.h0
     have e2:=p 2 rfl
     have e5:=p 5 rfl
     have e6:=p 6 rfl
     have e7:=p 7 rfl
     replace hf:=hf.more he 11 rfl (onP e7)
     replace hf:=hf.more he 10 rfl (onP e5)
     replace hf:=hf.more he 4 rfl (onT)
     replace hf:=hf.more he 3 rfl (onT)
     replace hf:=hf.more he 2 rfl (onT)
     replace hf:=hf.more he 1 rfl (onT)
     replace hf:=hf.more he 0 rfl (onT)
     try dsimp only at hc
     rw [e2,e5,e6] at hc
     exact ⟨(θ 40).b,(θ 16).h,hf.kp rfl,hc⟩
    rintro a w ⟨g,i,hf,hc⟩
    obtain ⟨G,k,bt,hc,-⟩:=aKb lX hc k1
    refine d4 _ _ ?_
    refine wp_seq_k fun K34 dv=>zS fun K h=>sp 1 hf rfl fun a hf=>zP hf rfl (bC Tryz.underlying30 rfl) fun a hf=>sp 1 hf rfl fun a hf=>zT h ?_
    refine wp_block ?_
    obtain ⟨ca,cj,hF⟩:=aA hF
    let S36:Int→Act→World→Prop:=(fun (zz:Int) a w=>Has 115 a [(1,.slice M B.length I),(2,pq Y),(4,pq U),(6,pq X),(7,pq Z),(8,pq g),(9,.func (.func 48) #[pq d] #[]),(46,.slice M B.length I),(47,i6 ((B.length:Nat):Int)),(48,i6 zz)]∧Ctx G (.box g ((aF i aa).map (Kd.v aG)).flatten 107::.box Z [i6 ak.2] 31::.box X [pq d] 47::.box U [i6 0,i6 0] 59::.box Y [.slice R r.People.length O,.slice D r.Stations.length H] 26::Lf) w)
    have cv:∀ (zz:Int) a w,ca=.go zz→S36 zz a w→K34 a w:=by
     rintro x a w rfl ⟨hf,hc⟩
     replace hF:=bP hF
     refine dv _ _ ?_
     refine zS fun K h=>zP hf rfl (cF (cells:=[i6 0,i6 0]) sK rfl rfl) fun a hf=>zA hf hc aB4 rfl fun q a w hf hc=>zW hf hc nF u0 rfl fun w hc=>zW hf hc aCx u2 rfl fun w hc=>zT h ?_
     refine wp_seq_k fun K38 gi=>wp_label ?_
     refine gi _ _ ?_
     refine wp_seq_k fun K39 dr=>zS fun K h=>sp 1 hf rfl fun a hf=>zP hf rfl (bC Tryz.underlying30 rfl) fun a hf=>sp 1 hf rfl fun a hf=>zT h ?_
     refine wp_block ?_
     obtain ⟨b7,cm,hF⟩:=aA hF
     let S41:(Int × Int × Int × Int)→Act→World→Prop:=(fun (zz:Int × Int × Int × Int) a w=>∃ (Ds:List Nat),Has ⟨115,rG Ds⟩ a [(2,pq Y),(4,pq U),(6,pq X),(7,pq Z),(8,pq g),(12,pq q),(78,.slice M B.length I),(79,i6 ((B.length:Nat):Int)),(80,i6 zz.1)]∧Ctx G (.box q [i6 zz.2.2.1,i6 zz.2.2.2] 59::.box g ((aF i aa).map (Kd.v aG)).flatten 107::.box Z [i6 zz.2.1] 31::.box X [pq d] 47::.box U [i6 0,i6 0] 59::.box Y [.slice R r.People.length O,.slice D r.Stations.length H] 26::(vN Ds++Lf)) w)
     have cc:∀ (zz:Int × Int × Int × Int) a w,b7=.go zz→S41 zz a w→K39 a w:=by
      rintro ⟨z,a7,aq,ar⟩ a w rfl ⟨Ds,hf,hc⟩
      replace hF:=bP hF
      refine dr _ _ ?_
      refine wp_seq_k fun K42 gc=>gK (fun θ=>[⟨none,none,4,pq U⟩,⟨none,none,7,pq Z⟩,⟨none,none,12,pq q⟩,⟨some 0,none,113,.agg #[i6 aq,i6 ar]⟩,⟨some 1,none,114,i6 a7⟩,⟨some 3,none,5,i6 a7⟩]) (fun E θ=>.box q [i6 aq,i6 ar] 59::.box g ((aF i aa).map (Kd.v aG)).flatten 107::.box Z [i6 a7] 31::.box X [pq d] 47::(bif E 2 then .box U [i6 aq,i6 ar] 59 else .box U [i6 0,i6 0] 59)::.box Y [.slice R r.People.length O,.slice D r.Stations.length H] 26::(vN Ds++Lf)) [] (fun a w=>Has ⟨115,rG Ds⟩ a [(4,pq U),(5,i6 a7)]∧Ctx G (.box q [i6 aq,i6 ar] 59::.box g ((aF i aa).map (Kd.v aG)).flatten 107::.box Z [i6 a7] 31::.box X [pq d] 47::.box U [i6 aq,i6 ar] 59::.box Y [.slice R r.People.length O,.slice D r.Stations.length H] 26::(vN Ds++Lf)) w) aU (by kernel_rfl) (by kernel_rfl) (fB.of hf ⟨rfl,rfl,rfl,trivial,trivial,trivial,trivial⟩) hc ⟨?_,?_,?_,?_,trivial⟩ ?_ ?_
      ·intro E θ a w hD hi hp he hc
       have hf:=he.h0.mT he 2 rfl
       refine zN hf hc mV m0 rfl fun a w hf hc=>zD θ he hi hf 3 rfl rfl rfl hc
      ·intro E θ a w hD hi hp he hc
       have hf:=he.h0.mT he 1 rfl
       refine zL hf hc aBk m2 rfl fun a w hf hc=>zD θ he hi hf 4 rfl rfl rfl hc
      ·intro E θ a w hD hi hp he hc
       have e0:=hp.o 0 rfl
       try dsimp only at hc
       rw [hi] at hc
       have hf:=(he.h0.mT he 0 rfl).mP he 3 rfl e0
       refine zW hf hc nF u4 rfl fun w hc=>zG θ he hi hf rfl ?_
       try dsimp only
       rw [aR E 2]
       exact hc
      ·intro E θ a w hD hi hp he hc
       have e1:=hp.o 1 rfl
       have hf:=he.h0.mP he 4 rfl e1
       refine sp 1 hf rfl fun a hf=>zD θ he hi hf 5 rfl rfl rfl hc
      ·intro E θ a w p he hc
       have hf:=he.h0
       have e2:=p 2 rfl
       have e3:=p 3 rfl
       replace hf:=hf.more he 5 rfl (onP e3)
       replace hf:=hf.more he 0 rfl (onT)
       try dsimp only at hc
       rw [e2] at hc
       exact ⟨hf.kp rfl,hc⟩
      rintro a w ⟨hf,hc⟩
      refine gc _ _ ?_
      refine wp_ret ?_
      refine sV ?_
      obtain rfl:=sj hF
      replace hc:=hc.down k
      replace hc:=hc.down V
      replace hc:=((((hc.drop k5).drop k3).drop k2).drop k1).drop k0
      refine zZ hf ?_
      refine aDs [.box U [i6 aq,i6 ar] 59] Ds hc fun w hc=>?_
      replace hc:Ctx _ (.box U [i6 aq,i6 ar] 59::Lf) w:=hc
      exact aA5 Tryz.results24 hf hc (fK (vs:=[i6 aq,i6 ar]) mV rfl rfl (bM (n:=2) m0 rfl)) (show gY _ 5=_ from rfl) ⟨rfl,(hc.drop k0)⟩
     have g9:∀ r,b7=.out r→r=a6:=by
      rintro r rfl
      exact sj hF
     replace hf:=aJ1 hf
     replace hc:Ctx G (.box q [i6 0,i6 0] 59::.box g ((aF i aa).map (Kd.v aG)).flatten 107::.box Z [i6 5] 31::.box X [pq d] 47::.box U [i6 0,i6 0] 59::.box Y [.slice R r.People.length O,.slice D r.Stations.length H] 26::(vN []++Lf)) w:=hc
     refine cR N (cL (S:=S41) (x:=b7) ?_ N (0,5,0,0) _ _ ⟨[],hf.kp rfl,hc⟩ cm)
     clear hF hf hc
     rintro ⟨z,a7,aq,ar⟩ b1 a w KB41 ⟨Ds,hf,hc⟩ hF az cu
     unfold tM at hF
     refine zS fun K h=>sp 1 hf rfl fun a hf=>zT h ?_
     refine wp_seq_k fun K44 gk=>zI hf rfl hF ?_ ?_ <;> clear hF <;> intro hF
     ·refine wp_skip ?_
      refine gk _ _ ?_
      refine wp_seq_k fun K45 d2=>wp_block ?_
      refine zS fun K h=>sp 1 hf rfl fun a hf=>?_
      obtain ⟨gg,da,hF⟩:=aA hF
      obtain ⟨g3,iu,cy,dj⟩:=((t.mono V).mono k).atm da
      refine zP hf rfl (pIA Tryz.underlying30 eL rfl rfl cy) fun a hf=>zE hf hc rfl (bT bA rfl (bL (j:=0) dj rfl)) fun a w hf hc=>zA hf hc aG3 rfl fun s a w hf hc=>zW hf hc eL u0 rfl fun w hc=>sp 1 hf rfl fun a hf=>zT h ?_
      refine zS fun K h=>zL hf hc nI m4 rfl fun a w hf hc=>zL hf hc bA m0 rfl fun a w hf hc=>sp 1 hf rfl fun a hf=>?_
      obtain ⟨am,cx,hF⟩:=aA hF
      refine zC hf aE2 rfl (lV (⟨r,ak.1⟩:aT) z gg ((y.mono V).mono k) ((m.mono V).mono k) (ai.mono k) hc cx) ?_
      rintro _ w ⟨a4,a2,a3,rfl,hc⟩
      refine ⟨_,rfl,fun a hf=>?_⟩
      refine zT h ?_
      obtain ⟨gq,ck,hF⟩:=aA hF
      refine aI8 (C:=[.box a4 [pq d] 47,.box a2 [i6 am.1] 3,.box a3 [i6 am.2] 3]) (C2:=[.box a4 [pq d] 47,.box a2 [i6 am.1] 3,.box a3 [i6 am.2] 3]) (L0:=[.box s [i6 z] 3,.box q [i6 aq,i6 ar] 59,.box g ((aF i aa).map (Kd.v aG)).flatten 107,.box Z [i6 a7] 31,.box X [pq d] 47,.box U [i6 0,i6 0] 59,.box Y [.slice R r.People.length O,.slice D r.Stations.length H] 26]) (Lf:=(vN Ds++Lf)) (encs:=fun x:Int=>[i6 x]) 3 (by decide) (fun (zz:Int × Int × Int) L=>L=[.box s [i6 z] 3,.box q [i6 zz.2.1,i6 zz.2.2] 59,.box g ((aF i aa).map (Kd.v aG)).flatten 107,.box Z [i6 zz.1] 31,.box X [pq d] 47,.box U [i6 0,i6 0] 59,.box Y [.slice R r.People.length O,.slice D r.Stations.length H] 26]) (fun (zz:Int × Int × Int) (gp:Int)=>mJ N r ak aa z zz.1 zz.2.1 zz.2.2 gp) (a7,aq,ar) gq hf hc rfl aIs (fun _=>rfl) rfl rfl ?_ ?_ ?_ ?_
      ·intro lq mq J L Lx w hy hJ hc
       exact kT (⟨r,ak.1⟩:aT) am.1 am.2 ((y.mono V).mono k) ((m.mono V).mono k) (ai.mono k) J _ hy _ hJ hc ck
      ·clear hF hf hc
       rintro lq mq ⟨ad,af,ag⟩ xv oq _ Lr Lb a w it rfl hF hf hc hK
       replace hf:Has 115 a [(2,pq Y),(4,pq U),(6,pq X),(7,pq Z),(8,pq g),(12,pq q),(13,pq s),(78,.slice M B.length I),(79,i6 ((B.length:Nat):Int)),(80,i6 z),(89,i6 xv)]:=hf.kp rfl
       replace hc:Ctx G (.box s [i6 z] 3::.box q [i6 af,i6 ag] 59::.box g ((aF i aa).map (Kd.v aG)).flatten 107::.box Z [i6 ad] 31::.box X [pq d] 47::.box U [i6 0,i6 0] 59::.box Y [.slice R r.People.length O,.slice D r.Stations.length H] 26::Lr) w:=hc
       replace hF:mJ N r ak aa z ad af ag xv=some oq:=hF
       unfold mJ at hF
       refine tS (fun _ _ h=>h) rfl ?_
       refine zA hf hc aG3 rfl fun ac a w hf hc=>zW hf hc eL u0 rfl fun w hc=>aP ?_
       refine hK _ _ [.box ac [i6 xv] 3,.box s [i6 z] 3,.box q [i6 af,i6 ag] 59,.box g ((aF i aa).map (Kd.v aG)).flatten 107,.box Z [i6 ad] 31,.box X [pq d] 47,.box U [i6 0,i6 0] 59,.box Y [.slice R r.People.length O,.slice D r.Stations.length H] 26] hc fun w hc=>?_
       replace hc:Ctx G (.box ac [i6 xv] 3::.box s [i6 z] 3::.box q [i6 af,i6 ag] 59::.box g ((aF i aa).map (Kd.v aG)).flatten 107::.box Z [i6 ad] 31::.box X [pq d] 47::.box U [i6 0,i6 0] 59::.box Y [.slice R r.People.length O,.slice D r.Stations.length H] 26::Lb) w:=hc
       refine aEk fun K49 d5=>aAj ?_
       refine rH fun K50 dz=>tS (fun _ _ h=>h) rfl ?_
       refine zP hf rfl (pMF (us:=[pq X,pq ac,pq s]) rfl rfl) fun a hf=>sp 1 hf rfl fun a hf=>aP ?_
       refine dz _ _ ?_
       refine rH fun K51 d6=>?_
       obtain ⟨rg,ci,hF⟩:=aA hF
       refine rCut (fun a w=>Has 115 a [(2,pq Y),(4,pq U),(6,pq X),(7,pq Z),(8,pq g),(12,pq q),(13,pq s),(15,pq ac),(78,.slice M B.length I),(79,i6 ((B.length:Nat):Int)),(80,i6 z),(108,.bool rg)]∧Ctx G (.box ac [i6 xv] 3::.box s [i6 z] 3::.box q [i6 af,i6 ag] 59::.box g ((aF i aa).map (Kd.v aG)).flatten 107::.box Z [i6 ad] 31::.box X [pq d] 47::.box U [i6 0,i6 0] 59::.box Y [.slice R r.People.length O,.slice D r.Stations.length H] 26::Lb) w) ?_ ?_
       ·clear hF
        have hF:=ci
        clear ci
        obtain ⟨ig,au,hF⟩:=aA hF
        obtain ⟨a5,bi,hF⟩:=aA hF
        obtain ⟨b8,dd,hF⟩:=aA hF
        obtain ⟨bg,bq,hd,bz,cd,qr⟩:=((m.mono V).mono k).atm dd
        cases hb:(decide (((a5.length:Nat):Int) < b8.Places))
        ·replace hF:=jM hb hF
         try rw [hb] at hf
         try rw [hb] at hc
         have b3:=hb
         clear hb
         obtain ⟨bj,dn,hF⟩:=aA hF
         refine aBm (fun _ _ h=>h) rfl (fun θ=>(⟨none,none,2,pq Y⟩::⟨none,none,4,pq U⟩::⟨none,none,6,pq X⟩::⟨none,none,7,pq Z⟩::⟨none,none,8,pq g⟩::⟨none,none,12,pq q⟩::⟨none,none,13,pq s⟩::⟨none,none,15,pq ac⟩::⟨none,none,16,.func (.func 49) #[] #[pq X,pq ac,pq s]⟩::⟨none,none,78,.slice M B.length I⟩::⟨none,none,79,i6 ((B.length:Nat):Int)⟩::⟨none,none,80,i6 z⟩::⟨some 0,none,91,i6 xv⟩::⟨some 1,none,92,.pointer (some ⟨g,0 + xv.toNat * 1,none⟩)⟩::⟨some 2,none,93,.slice ((i xv.toNat).1) a5.length ((i xv.toNat).2)⟩::⟨some 3,none,94,i6 ((a5.length:Nat):Int)⟩::⟨some 4,none,95,.pointer (some ⟨Y,1,none⟩)⟩::⟨some 5,none,96,.slice D r.Stations.length H⟩::⟨some 6,none,97,i6 xv⟩::⟨some 7,none,98,.pointer (some ⟨bg,bq,none⟩)⟩::⟨some 8,none,99,.pointer (some ⟨bg,bq + 0,none⟩)⟩::⟨some 9,none,100,i6 b8.Places⟩::⟨some 10,none,101,.bool false⟩::⟨some 11,none,102,.bool false⟩::⟨some 12,none,103,i6 xv⟩::⟨some 13,none,104,.pointer (some ⟨g,0 + xv.toNat * 1,none⟩)⟩::⟨some 14,none,105,.slice ((i xv.toNat).1) a5.length ((i xv.toNat).2)⟩::⟨some 15,none,106,.func (.func 49) #[] #[pq X,pq ac,pq s]⟩::⟨some 16,none,107,.bool bj⟩::⟨some 17,none,108,.bool bj⟩::[])) (fun E θ=>.box ac [i6 xv] 3::.box s [i6 z] 3::.box q [i6 af,i6 ag] 59::.box g ((aF i aa).map (Kd.v aG)).flatten 107::.box Z [i6 ad] 31::.box X [pq d] 47::.box U [i6 0,i6 0] 59::.box Y [.slice R r.People.length O,.slice D r.Stations.length H] 26::Lb) [] (fun a w=>Has 115 a [(2,pq Y),(4,pq U),(6,pq X),(7,pq Z),(8,pq g),(12,pq q),(13,pq s),(15,pq ac),(78,.slice M B.length I),(79,i6 ((B.length:Nat):Int)),(80,i6 z),(103,i6 xv),(104,.pointer (some ⟨g,0 + xv.toNat * 1,none⟩)),(105,.slice ((i xv.toNat).1) a5.length ((i xv.toNat).2)),(106,.func (.func 49) #[] #[pq X,pq ac,pq s]),(107,.bool bj),(108,.bool bj)]∧Ctx G (.box ac [i6 xv] 3::.box s [i6 z] 3::.box q [i6 af,i6 ag] 59::.box g ((aF i aa).map (Kd.v aG)).flatten 107::.box Z [i6 ad] 31::.box X [pq d] 47::.box U [i6 0,i6 0] 59::.box Y [.slice R r.People.length O,.slice D r.Stations.length H] 26::Lb) w) aU (by kernel_rfl) (by kernel_rfl) (fB.of hf ⟨rfl,rfl,rfl,rfl,rfl,rfl,rfl,rfl,rfl,rfl,rfl,rfl,trivial,trivial,trivial,trivial,trivial,trivial,trivial,trivial,trivial,trivial,trivial,trivial,trivial,trivial,trivial,trivial,trivial,trivial,trivial⟩) hc ⟨?_,?_,?_,?_,?_,?_,?_,?_,?_,?_,?_,?_,?_,?_,?_,?_,?_,?_,trivial⟩ ?_ ?_
         ·intro E θ a w hD hi hp he hc
          have hf:=he.h0.mT he 7 rfl
          refine zL hf hc bA m0 rfl fun a w hf hc=>zD θ he hi hf 12 rfl rfl rfl hc
         ·intro E θ a w hD hi hp he hc
          have e0:=hp.o 0 rfl
          have hf:=(he.h0.mT he 4 rfl).mP he 12 rfl e0
          refine zP hf rfl (pS Tryz.underlying107 nB rfl rfl (aZ au).1 (aZ au).2) fun a hf=>zD θ he hi hf 13 rfl rfl rfl hc
         ·intro E θ a w hD hi hp he hc
          have e1:=hp.o 1 rfl
          have hf:=he.h0.mP he 13 rfl e1
          refine zE hf hc rfl (bT kJ rfl (bU m3 (sO cD bi rfl))) fun a w hf hc=>zD θ he hi hf 14 rfl rfl rfl hc
         ·intro E θ a w hD hi hp he hc
          have e2:=hp.o 2 rfl
          have hf:=he.h0.mP he 14 rfl e2
          refine zP hf rfl (bC Tryz.underlying30 rfl) fun a hf=>zD θ he hi hf 15 rfl rfl rfl hc
         ·intro E θ a w hD hi hp he hc
          have hf:=he.h0.mT he 0 rfl
          refine zP hf rfl (pFA eG rfl) fun a hf=>zD θ he hi hf 16 rfl rfl rfl hc
         ·intro E θ a w hD hi hp he hc
          have e4:=hp.o 4 rfl
          have hf:=he.h0.mP he 16 rfl e4
          refine zL hf hc lN m7 rfl fun a w hf hc=>zD θ he hi hf 17 rfl rfl rfl hc
         ·intro E θ a w hD hi hp he hc
          have hf:=he.h0.mT he 7 rfl
          refine zL hf hc bA m0 rfl fun a w hf hc=>zD θ he hi hf 18 rfl rfl rfl hc
         ·intro E θ a w hD hi hp he hc
          have e5:=hp.o 5 rfl
          have e6:=hp.o 6 rfl
          have hf:=(he.h0.mP he 17 rfl e5).mP he 18 rfl e6
          refine zP hf rfl (pIA Tryz.underlying24 pF rfl rfl bz) fun a hf=>zD θ he hi hf 19 rfl rfl rfl hc
         ·intro E θ a w hD hi hp he hc
          have e7:=hp.o 7 rfl
          have hf:=he.h0.mP he 19 rfl e7
          refine zP hf rfl (pFA pW rfl) fun a hf=>zD θ he hi hf 20 rfl rfl rfl hc
         ·intro E θ a w hD hi hp he hc
          have e8:=hp.o 8 rfl
          have hf:=he.h0.mP he 20 rfl e8
          refine zE hf hc rfl (bT bA rfl (bL (j:=0) cd rfl)) fun a w hf hc=>zD θ he hi hf 21 rfl rfl rfl hc
         ·intro E θ a w hD hi hp he hc
          have e3:=hp.o 3 rfl
          have e9:=hp.o 9 rfl
          have hf:=(he.h0.mP he 15 rfl e3).mP he 21 rfl e9
          refine sp 1 hf rfl fun a hf=>?_
          rw [b3] at hf
          exact zD θ he hi hf 22 rfl rfl rfl hc
         ·intro E θ a w hD hi hp he hc
          have b2:=hp.o 10 rfl
          have hf:=he.h0.mP he 22 rfl b2
          refine sp 1 hf rfl fun a hf=>zD θ he hi hf 23 rfl rfl rfl hc
         ·intro E θ a w hD hi hp he hc
          have ab:=hp.o 11 rfl
          have hf:=(he.h0.mT he 7 rfl).mP he 23 rfl ab
          refine zL hf hc bA m0 rfl fun a w hf hc=>zD θ he hi hf 24 rfl rfl rfl hc
         ·intro E θ a w hD hi hp he hc
          have ab:=hp.o 11 rfl
          have a8:=hp.o 12 rfl
          have hf:=((he.h0.mT he 4 rfl).mP he 23 rfl ab).mP he 24 rfl a8
          refine zP hf rfl (pS Tryz.underlying107 nB rfl rfl (aZ au).1 (aZ au).2) fun a hf=>zD θ he hi hf 25 rfl rfl rfl hc
         ·intro E θ a w hD hi hp he hc
          have ab:=hp.o 11 rfl
          have a9:=hp.o 13 rfl
          have hf:=(he.h0.mP he 23 rfl ab).mP he 25 rfl a9
          refine zE hf hc rfl (bT kJ rfl (bU m3 (sO cD bi rfl))) fun a w hf hc=>zD θ he hi hf 26 rfl rfl rfl hc
         ·intro E θ a w hD hi hp he hc
          have ab:=hp.o 11 rfl
          have hf:=(he.h0.mT he 8 rfl).mP he 23 rfl ab
          refine sp 1 hf rfl fun a hf=>zD θ he hi hf 27 rfl rfl rfl hc
         ·intro E θ a w hD hi hp he hc
          have ab:=hp.o 11 rfl
          have bc:=hp.o 14 rfl
          have bb:=hp.o 15 rfl
          have hf:=((he.h0.mP he 23 rfl ab).mP he 26 rfl bc).mP he 27 rfl bb
          refine zQ (v:=.bool bj) hf hc aC0 rfl (fun w hc=>(mR a5 (⟨r,ak.1⟩:aT) xv z (bt _ _ bi) ((y.mono V).mono k) ((m.mono V).mono k) (ai.mono k) (((hc.pick k1).pick k1).pick k5) dn).mono fun e w h=>⟨h.1,(((h.2.unpick k5).unpick k1).unpick k1)⟩) fun a w hf hc=>zD θ he hi hf 28 rfl rfl rfl hc
         ·intro E θ a w hD hi hp he hc
          have ab:=hp.o 11 rfl
          have ba:=hp.o 16 rfl
          have hf:=(he.h0.mP he 23 rfl ab).mP he 28 rfl ba
          refine sp 1 hf rfl fun a hf=>zD θ he hi hf 29 rfl rfl rfl hc
         ·intro E θ a w p he hc
          have hf:=he.h0
          have a8:=p 12 rfl
          have a9:=p 13 rfl
          have bc:=p 14 rfl
          have bb:=p 15 rfl
          have ba:=p 16 rfl
          have b6:=p 17 rfl
          replace hf:=hf.more he 29 rfl (onP b6)
          replace hf:=hf.more he 28 rfl (onP ba)
          replace hf:=hf.more he 27 rfl (onP bb)
          replace hf:=hf.more he 26 rfl (onP bc)
          replace hf:=hf.more he 25 rfl (onP a9)
          replace hf:=hf.more he 24 rfl (onP a8)
          replace hf:=hf.more he 11 rfl (onT)
          replace hf:=hf.more he 10 rfl (onT)
          replace hf:=hf.more he 9 rfl (onT)
          replace hf:=hf.more he 7 rfl (onT)
          replace hf:=hf.more he 6 rfl (onT)
          replace hf:=hf.more he 5 rfl (onT)
          replace hf:=hf.more he 4 rfl (onT)
          replace hf:=hf.more he 3 rfl (onT)
          replace hf:=hf.more he 2 rfl (onT)
          replace hf:=hf.more he 1 rfl (onT)
          replace hf:=hf.more he 0 rfl (onT)
          exact ⟨hf.kp rfl,hc⟩
         rintro a w ⟨hf,hc⟩
         refine cV ?_
         obtain rfl:=sj hF
         exact ⟨hf.kp rfl,hc⟩
        ·replace hF:=iL hb hF
         try rw [hb] at hf
         try rw [hb] at hc
         have b3:=hb
         clear hb
         refine aBm (fun _ _ h=>h) rfl (fun θ=>(⟨none,none,2,pq Y⟩::⟨none,none,4,pq U⟩::⟨none,none,6,pq X⟩::⟨none,none,7,pq Z⟩::⟨none,none,8,pq g⟩::⟨none,none,12,pq q⟩::⟨none,none,13,pq s⟩::⟨none,none,15,pq ac⟩::⟨none,none,16,.func (.func 49) #[] #[pq X,pq ac,pq s]⟩::⟨none,none,78,.slice M B.length I⟩::⟨none,none,79,i6 ((B.length:Nat):Int)⟩::⟨none,none,80,i6 z⟩::⟨some 0,none,91,i6 xv⟩::⟨some 1,none,92,.pointer (some ⟨g,0 + xv.toNat * 1,none⟩)⟩::⟨some 2,none,93,.slice ((i xv.toNat).1) a5.length ((i xv.toNat).2)⟩::⟨some 3,none,94,i6 ((a5.length:Nat):Int)⟩::⟨some 4,none,95,.pointer (some ⟨Y,1,none⟩)⟩::⟨some 5,none,96,.slice D r.Stations.length H⟩::⟨some 6,none,97,i6 xv⟩::⟨some 7,none,98,.pointer (some ⟨bg,bq,none⟩)⟩::⟨some 8,none,99,.pointer (some ⟨bg,bq + 0,none⟩)⟩::⟨some 9,none,100,i6 b8.Places⟩::⟨some 10,none,101,.bool true⟩::⟨some 11,none,102,.bool true⟩::⟨some 12,none,103,undef⟩::⟨some 13,none,104,undef⟩::⟨some 14,none,105,undef⟩::⟨some 15,none,106,undef⟩::⟨some 16,none,107,undef⟩::⟨some 17,none,108,.bool true⟩::[])) (fun E θ=>.box ac [i6 xv] 3::.box s [i6 z] 3::.box q [i6 af,i6 ag] 59::.box g ((aF i aa).map (Kd.v aG)).flatten 107::.box Z [i6 ad] 31::.box X [pq d] 47::.box U [i6 0,i6 0] 59::.box Y [.slice R r.People.length O,.slice D r.Stations.length H] 26::Lb) [] (fun a w=>Has 115 a [(2,pq Y),(4,pq U),(6,pq X),(7,pq Z),(8,pq g),(12,pq q),(13,pq s),(15,pq ac),(78,.slice M B.length I),(79,i6 ((B.length:Nat):Int)),(80,i6 z),(103,undef),(104,undef),(105,undef),(106,undef),(107,undef),(108,.bool true)]∧Ctx G (.box ac [i6 xv] 3::.box s [i6 z] 3::.box q [i6 af,i6 ag] 59::.box g ((aF i aa).map (Kd.v aG)).flatten 107::.box Z [i6 ad] 31::.box X [pq d] 47::.box U [i6 0,i6 0] 59::.box Y [.slice R r.People.length O,.slice D r.Stations.length H] 26::Lb) w) aU (by kernel_rfl) (by kernel_rfl) (fB.of hf ⟨rfl,rfl,rfl,rfl,rfl,rfl,rfl,rfl,rfl,rfl,rfl,rfl,trivial,trivial,trivial,trivial,trivial,trivial,trivial,trivial,trivial,trivial,trivial,trivial,trivial,trivial,trivial,trivial,trivial,trivial,trivial⟩) hc ⟨?_,?_,?_,?_,?_,?_,?_,?_,?_,?_,?_,?_,?_,?_,?_,?_,?_,?_,trivial⟩ ?_ ?_
         ·intro E θ a w hD hi hp he hc
          have hf:=he.h0.mT he 7 rfl
          refine zL hf hc bA m0 rfl fun a w hf hc=>zD θ he hi hf 12 rfl rfl rfl hc
         ·intro E θ a w hD hi hp he hc
          have e0:=hp.o 0 rfl
          have hf:=(he.h0.mT he 4 rfl).mP he 12 rfl e0
          refine zP hf rfl (pS Tryz.underlying107 nB rfl rfl (aZ au).1 (aZ au).2) fun a hf=>zD θ he hi hf 13 rfl rfl rfl hc
         ·intro E θ a w hD hi hp he hc
          have e1:=hp.o 1 rfl
          have hf:=he.h0.mP he 13 rfl e1
          refine zE hf hc rfl (bT kJ rfl (bU m3 (sO cD bi rfl))) fun a w hf hc=>zD θ he hi hf 14 rfl rfl rfl hc
         ·intro E θ a w hD hi hp he hc
          have e2:=hp.o 2 rfl
          have hf:=he.h0.mP he 14 rfl e2
          refine zP hf rfl (bC Tryz.underlying30 rfl) fun a hf=>zD θ he hi hf 15 rfl rfl rfl hc
         ·intro E θ a w hD hi hp he hc
          have hf:=he.h0.mT he 0 rfl
          refine zP hf rfl (pFA eG rfl) fun a hf=>zD θ he hi hf 16 rfl rfl rfl hc
         ·intro E θ a w hD hi hp he hc
          have e4:=hp.o 4 rfl
          have hf:=he.h0.mP he 16 rfl e4
          refine zL hf hc lN m7 rfl fun a w hf hc=>zD θ he hi hf 17 rfl rfl rfl hc
         ·intro E θ a w hD hi hp he hc
          have hf:=he.h0.mT he 7 rfl
          refine zL hf hc bA m0 rfl fun a w hf hc=>zD θ he hi hf 18 rfl rfl rfl hc
         ·intro E θ a w hD hi hp he hc
          have e5:=hp.o 5 rfl
          have e6:=hp.o 6 rfl
          have hf:=(he.h0.mP he 17 rfl e5).mP he 18 rfl e6
          refine zP hf rfl (pIA Tryz.underlying24 pF rfl rfl bz) fun a hf=>zD θ he hi hf 19 rfl rfl rfl hc
         ·intro E θ a w hD hi hp he hc
          have e7:=hp.o 7 rfl
          have hf:=he.h0.mP he 19 rfl e7
          refine zP hf rfl (pFA pW rfl) fun a hf=>zD θ he hi hf 20 rfl rfl rfl hc
         ·intro E θ a w hD hi hp he hc
          have e8:=hp.o 8 rfl
          have hf:=he.h0.mP he 20 rfl e8
          refine zE hf hc rfl (bT bA rfl (bL (j:=0) cd rfl)) fun a w hf hc=>zD θ he hi hf 21 rfl rfl rfl hc
         ·intro E θ a w hD hi hp he hc
          have e3:=hp.o 3 rfl
          have e9:=hp.o 9 rfl
          have hf:=(he.h0.mP he 15 rfl e3).mP he 21 rfl e9
          refine sp 1 hf rfl fun a hf=>?_
          rw [b3] at hf
          exact zD θ he hi hf 22 rfl rfl rfl hc
         ·intro E θ a w hD hi hp he hc
          have b2:=hp.o 10 rfl
          have hf:=he.h0.mP he 22 rfl b2
          refine sp 1 hf rfl fun a hf=>zD θ he hi hf 23 rfl rfl rfl hc
         ·intro E θ a w hD hi hp he hc
          have ab:=hp.o 11 rfl
          have hf:=(he.h0.mT he 7 rfl).mP he 23 rfl ab
          refine stS hf rfl rfl rfl fun a hf=>zD θ he hi hf 24 rfl rfl rfl hc
         ·intro E θ a w hD hi hp he hc
          have ab:=hp.o 11 rfl
          have a8:=hp.o 12 rfl
          have hf:=((he.h0.mT he 4 rfl).mP he 23 rfl ab).mP he 24 rfl a8
          refine stS hf rfl rfl rfl fun a hf=>zD θ he hi hf 25 rfl rfl rfl hc
         ·intro E θ a w hD hi hp he hc
          have ab:=hp.o 11 rfl
          have a9:=hp.o 13 rfl
          have hf:=(he.h0.mP he 23 rfl ab).mP he 25 rfl a9
          refine stS hf rfl rfl rfl fun a hf=>zD θ he hi hf 26 rfl rfl rfl hc
         ·intro E θ a w hD hi hp he hc
          have ab:=hp.o 11 rfl
          have hf:=(he.h0.mT he 8 rfl).mP he 23 rfl ab
          refine stS hf rfl rfl rfl fun a hf=>zD θ he hi hf 27 rfl rfl rfl hc
         ·intro E θ a w hD hi hp he hc
          have ab:=hp.o 11 rfl
          have bc:=hp.o 14 rfl
          have bb:=hp.o 15 rfl
          have hf:=((he.h0.mP he 23 rfl ab).mP he 26 rfl bc).mP he 27 rfl bb
          refine stS hf rfl rfl rfl fun a hf=>zD θ he hi hf 28 rfl rfl rfl hc
         ·intro E θ a w hD hi hp he hc
          have ab:=hp.o 11 rfl
          have ba:=hp.o 16 rfl
          have hf:=(he.h0.mP he 23 rfl ab).mP he 28 rfl ba
          refine sp 1 hf rfl fun a hf=>zD θ he hi hf 29 rfl rfl rfl hc
         ·intro E θ a w p he hc
          have hf:=he.h0
          have a8:=p 12 rfl
          have a9:=p 13 rfl
          have bc:=p 14 rfl
          have bb:=p 15 rfl
          have ba:=p 16 rfl
          have b6:=p 17 rfl
          replace hf:=hf.more he 29 rfl (onP b6)
          replace hf:=hf.more he 28 rfl (onP ba)
          replace hf:=hf.more he 27 rfl (onP bb)
          replace hf:=hf.more he 26 rfl (onP bc)
          replace hf:=hf.more he 25 rfl (onP a9)
          replace hf:=hf.more he 24 rfl (onP a8)
          replace hf:=hf.more he 11 rfl (onT)
          replace hf:=hf.more he 10 rfl (onT)
          replace hf:=hf.more he 9 rfl (onT)
          replace hf:=hf.more he 7 rfl (onT)
          replace hf:=hf.more he 6 rfl (onT)
          replace hf:=hf.more he 5 rfl (onT)
          replace hf:=hf.more he 4 rfl (onT)
          replace hf:=hf.more he 3 rfl (onT)
          replace hf:=hf.more he 2 rfl (onT)
          replace hf:=hf.more he 1 rfl (onT)
          replace hf:=hf.more he 0 rfl (onT)
          exact ⟨hf.kp rfl,hc⟩
         rintro a w ⟨hf,hc⟩
         refine cV ?_
         obtain rfl:=sj hF
         exact ⟨hf.kp rfl,hc⟩
       rintro a w ⟨hf,hc⟩
       refine d6 _ _ ?_
       refine aC1 (b:=rg) hf rfl (fun hb=>?_) (fun hb=>?_)
       ·replace hF:=iL hb hF
        clear hb
        refine rH fun K52 ga=>tS (fun _ _ h=>h) rfl ?_
        refine zL hf hc bA m1 rfl fun a w hf hc=>zL hf hc bA m0 rfl fun a w hf hc=>zP hf rfl (cF (cells:=[i6 z,i6 xv]) sK rfl rfl) fun a hf=>zW hf hc nF u2 rfl fun w hc=>zW hf hc aCx u4 rfl fun w hc=>aP ?_
        refine ga _ _ ?_
        refine aIr ?_
        refine aHp rfl ?_
        refine aW ?_
        replace hc:=hc.drop k0
        exact (.inr ⟨rfl,(0,z,xv),_,(sj hF).symm,rfl,hc⟩)
       ·replace hF:=jM hb hF
        clear hb
        refine aC7 ?_
        refine d5 _ _ ?_
        replace hc:=hc.drop k0
        exact ⟨(ad,af,ag),_,(sj hF).symm,rfl,hc⟩
      ·rintro D_1 ⟨ad,af,ag⟩ _ a w bx rfl hf hc
       replace hf:Has ⟨115,rG (D_1::Ds)⟩ a [(2,pq Y),(4,pq U),(6,pq X),(7,pq Z),(8,pq g),(12,pq q),(13,pq s),(78,.slice M B.length I),(79,i6 ((B.length:Nat):Int)),(80,i6 z)]:=hf.kp rfl
       replace hc:Ctx G (.box a4 [pq d] 47::.box a2 [i6 am.1] 3::.box a3 [i6 am.2] 3::.box s [i6 z] 3::.box q [i6 af,i6 ag] 59::.box g ((aF i aa).map (Kd.v aG)).flatten 107::.box Z [i6 ad] 31::.box X [pq d] 47::.box U [i6 0,i6 0] 59::.box Y [.slice R r.People.length O,.slice D r.Stations.length H] 26::(vN (D_1::Ds)++Lf)) w:=xV (C:=[.box a4 [pq d] 47,.box a2 [i6 am.1] 3,.box a3 [i6 am.2] 3]) (L:=[.box s [i6 z] 3,.box q [i6 af,i6 ag] 59,.box g ((aF i aa).map (Kd.v aG)).flatten 107,.box Z [i6 ad] 31,.box X [pq d] 47,.box U [i6 0,i6 0] 59,.box Y [.slice R r.People.length O,.slice D r.Stations.length H] 26]) hc
       replace hF:(some (.cont (W (z + 1),ad,af,ag)))=some b1:=by rcases bx with rfl | rfl <;> exact hF
       refine d2 _ _ ?_
       refine cJ ?_
       refine sp 2 hf rfl fun a hf=>aP ?_
       replace hc:=(((hc.drop k3).drop k2).drop k1).drop k0
       exact cu (W (z + 1),ad,af,ag) _ _ (sj hF).symm ⟨(D_1::Ds),hf.kp rfl,hc⟩
      ·rintro D_1 ⟨ad,af,ag⟩ _ a w bx rfl hf hc
       replace hf:Has ⟨115,rG (D_1::Ds)⟩ a [(2,pq Y),(4,pq U),(6,pq X),(7,pq Z),(8,pq g),(12,pq q),(13,pq s),(78,.slice M B.length I),(79,i6 ((B.length:Nat):Int)),(80,i6 z)]:=hf.kp rfl
       replace hc:Ctx G (.box a4 [pq d] 47::.box a2 [i6 am.1] 3::.box a3 [i6 am.2] 3::.box s [i6 z] 3::.box q [i6 af,i6 ag] 59::.box g ((aF i aa).map (Kd.v aG)).flatten 107::.box Z [i6 ad] 31::.box X [pq d] 47::.box U [i6 0,i6 0] 59::.box Y [.slice R r.People.length O,.slice D r.Stations.length H] 26::(vN (D_1::Ds)++Lf)) w:=xV (C:=[.box a4 [pq d] 47,.box a2 [i6 am.1] 3,.box a3 [i6 am.2] 3]) (L:=[.box s [i6 z] 3,.box q [i6 af,i6 ag] 59,.box g ((aF i aa).map (Kd.v aG)).flatten 107,.box Z [i6 ad] 31,.box X [pq d] 47,.box U [i6 0,i6 0] 59,.box Y [.slice R r.People.length O,.slice D r.Stations.length H] 26]) hc
       replace hF:(some (.brk (z,ad,af,ag)))=some b1:=by subst bx; exact hF
       refine aHp rfl ?_
       refine aW ?_
       refine aW ?_
       replace hc:=(((hc.drop k3).drop k2).drop k1).drop k0
       have he:=sj hF
       rw [← he] at az
       refine eV ?_
       exact cc _ _ _ az ⟨(D_1::Ds),hf.kp rfl,hc⟩
     ·refine wp_exit ?_
      refine aW ?_
      refine aW ?_
      have he:=sj hF
      rw [← he] at az
      refine eV ?_
      exact cc _ _ _ az ⟨Ds,hf.kp rfl,hc⟩
    have c8:∀ r,ca=.out r→r=a6:=by
     rintro r rfl
     exact sj hF
    refine cR N (cL (S:=S36) (x:=ca) ?_ N 0 _ _ ⟨hf.kp rfl,hc⟩ cj)
    clear hF hf hc
    rintro x ij a w KB36 ⟨hf,hc⟩ hF a1 cn
    unfold tN at hF
    refine zS fun K h=>sp 1 hf rfl fun a hf=>zT h ?_
    refine wp_seq_k fun K54 d7=>zI hf rfl hF ?_ ?_ <;> clear hF <;> intro hF
    ·refine wp_skip ?_
     refine d7 _ _ ?_
     refine wp_seq_k fun K55 du=>wp_block ?_
     refine zS fun K h=>sp 1 hf rfl fun a hf=>?_
     obtain ⟨av,cq,hF⟩:=aA hF
     obtain ⟨g4,ix,c6,cz⟩:=((t.mono V).mono k).atm cq
     refine zP hf rfl (pIA Tryz.underlying30 eL rfl rfl c6) fun a hf=>zE hf hc rfl (bT bA rfl (bL (j:=0) cz rfl)) fun a w hf hc=>sp 2 hf rfl fun a hf=>zT h ?_
     refine wp_seq_k fun K57 gr=>?_
     obtain ⟨d9,bv,hF⟩:=aA hF
     refine cQ hc aU (by kernel_rfl) ?_
     refine qE hf rfl rfl rfl (Pu.ev (pM rfl)) fun a hf=>qE hf rfl rfl rfl (Pu.ev (pNe rfl rfl)) fun a hf=>qE hf rfl rfl rfl (Pu.ev (pM rfl)) fun a hf=>qCut 19 (fun a=>Has 115 a [(1,.slice M B.length I),(2,pq Y),(4,pq U),(6,pq X),(7,pq Z),(8,pq g),(9,.func (.func 48) #[pq d] #[]),(46,.slice M B.length I),(47,i6 ((B.length:Nat):Int)),(48,i6 x),(10,i6 x),(11,i6 av),(53,i6 av),(54,.bool (av != (-1))),(55,.bool (av != (-1))),(74,.bool d9)]) ?_ ?_
     ·cases hb:(av != (-1))
      ·rw [hb] at hf
       have hF:=jM hb bv
       obtain rfl:=sj hF
       refine qS hf rfl rfl rfl fun a hf=>qS hf rfl rfl rfl fun a hf=>qS hf rfl rfl rfl fun a hf=>qS hf rfl rfl rfl fun a hf=>qS hf rfl rfl rfl fun a hf=>qS hf rfl rfl rfl fun a hf=>qS hf rfl rfl rfl fun a hf=>qS hf rfl rfl rfl fun a hf=>qS hf rfl rfl rfl fun a hf=>qS hf rfl rfl rfl fun a hf=>qS hf rfl rfl rfl fun a hf=>qS hf rfl rfl rfl fun a hf=>qS hf rfl rfl rfl fun a hf=>?_
       refine qS hf rfl rfl rfl fun a hf=>qS hf rfl rfl rfl fun a hf=>qS hf rfl rfl rfl fun a hf=>qS hf rfl rfl rfl fun a hf=>qS hf rfl rfl rfl fun a hf=>qE hf rfl rfl rfl (Pu.ev (pPf rfl rfl)) fun a hf=>aDi (hf.kp rfl)
      ·rw [hb] at hf
       have hF:=iL hb bv
       obtain ⟨bp,dg,hF⟩:=aA hF
       obtain ⟨gb,cb,hF⟩:=aA hF
       refine qE hf rfl rfl rfl (Pu.ev (pM rfl)) fun a hf=>qE hf rfl rfl rfl (Pu.ev (pM rfl)) fun a hf=>qE hf rfl rfl rfl (Pu.ev (pM rfl)) fun a hf=>qE hf rfl rfl rfl (eCB (v:=.bool bp) (bs:=[pq d]) (vs:=[i6 x,i6 av]) (caps:=[]) aDf rfl rfl rfl rfl (fun w hc=>fV (⟨r,ak.1⟩:aT) x av ((y.mono V).mono k) ((m.mono V).mono k) (ai.mono k) hc dg)) fun a hf=>qE hf rfl rfl rfl (Pu.ev (pNot rfl)) fun a hf=>qE hf rfl rfl rfl (Pu.ev (pM rfl)) fun a hf=>qCut 12 (fun a=>Has 115 a [(1,.slice M B.length I),(2,pq Y),(4,pq U),(6,pq X),(7,pq Z),(8,pq g),(9,.func (.func 48) #[pq d] #[]),(46,.slice M B.length I),(47,i6 ((B.length:Nat):Int)),(48,i6 x),(10,i6 x),(11,i6 av),(53,i6 av),(54,.bool true),(55,.bool true),(56,.func (.func 48) #[pq d] #[]),(57,i6 x),(58,i6 av),(59,.bool bp),(60,.bool (!bp)),(61,.bool (!bp)),(73,.bool gb)]) ?_ ?_
       ·cases hb:(!bp)
        ·rw [hb] at hf
         have hF:=jM hb cb
         obtain ⟨g1,br,hF⟩:=aA hF
         obtain ⟨i3,dk,hF⟩:=aA hF
         obtain ⟨iy,dm,hF⟩:=aA hF
         obtain ⟨ic,iq,ib,df,dp,g8⟩:=((m.mono V).mono k).atm dm
         refine qE hf rfl rfl rfl (Pu.ev (pM rfl)) fun a hf=>qE hf rfl rfl rfl (Pu.ev (pS Tryz.underlying107 nB rfl rfl (aZ br).1 (aZ br).2)) fun a hf=>qE hf rfl rfl rfl (bT kJ rfl (bU m0 (sO cD dk rfl))) fun a hf=>qE hf rfl rfl rfl (Pu.ev (bC Tryz.underlying30 rfl)) fun a hf=>qE hf rfl rfl rfl (Pu.ev (pFA eG rfl)) fun a hf=>qE hf rfl rfl rfl (bT lN rfl (bU m4 rfl)) fun a hf=>qE hf rfl rfl rfl (Pu.ev (pM rfl)) fun a hf=>qE hf rfl rfl rfl (Pu.ev (pIA Tryz.underlying24 pF rfl rfl df)) fun a hf=>qE hf rfl rfl rfl (Pu.ev (pFA pW rfl)) fun a hf=>qE hf rfl rfl rfl (bT bA rfl (bL (j:=0) dp rfl)) fun a hf=>qE hf rfl rfl rfl (Pu.ev (pGt rfl rfl)) fun a hf=>qE hf rfl rfl rfl (Pu.ev (pPf rfl rfl)) fun a hf=>?_
         obtain rfl:=sj hF
         exact aDi (hf.kp rfl)
        ·rw [hb] at hf
         have hF:=iL hb cb
         obtain rfl:=sj hF
         refine qS hf rfl rfl rfl fun a hf=>qS hf rfl rfl rfl fun a hf=>qS hf rfl rfl rfl fun a hf=>qS hf rfl rfl rfl fun a hf=>qS hf rfl rfl rfl fun a hf=>qS hf rfl rfl rfl fun a hf=>qS hf rfl rfl rfl fun a hf=>qS hf rfl rfl rfl fun a hf=>qS hf rfl rfl rfl fun a hf=>qS hf rfl rfl rfl fun a hf=>qS hf rfl rfl rfl fun a hf=>qE hf rfl rfl rfl (Pu.ev (pPt rfl rfl)) fun a hf=>aDi (hf.kp rfl)
       intro a hf
       refine qE hf rfl rfl rfl (Pu.ev (pPt rfl rfl)) fun a hf=>?_
       obtain rfl:=sj hF
       exact aDi (hf.kp rfl)
     intro a hf
     intro w hc
     refine gr _ _ ?_
     refine zI hf rfl hF ?_ ?_ <;> clear hF <;> intro hF
     ·refine zS fun K h=>zP hf rfl (cF (cells:=[i6 0,i6 0]) sK rfl rfl) fun a hf=>zW hf hc nF u3 rfl fun w hc=>sp 1 hf rfl fun a hf=>zT h ?_
      refine wp_ret ?_
      refine bN ?_
      refine aN ?_
      refine aN ?_
      have he:=sj hF
      rw [← he] at a1
      replace hF:=c8 _ a1
      refine bN ?_
      refine aN ?_
      refine sV ?_
      obtain rfl:=hF
      replace hc:=hc.down k
      replace hc:=hc.down V
      replace hc:=(((hc.drop k4).drop k2).drop k1).drop k0
      refine zZ hf ?_
      exact aA5 Tryz.results24 hf hc (fK (vs:=[i6 0,i6 0]) mV rfl rfl (bM (n:=2) m0 rfl)) (show gY _ 5=_ from rfl) ⟨rfl,(hc.drop k0)⟩
     ·refine wp_skip ?_
      refine du _ _ ?_
      refine cJ ?_
      refine sp 2 hf rfl fun a hf=>aP ?_
      exact cn (W (x + 1)) _ _ (sj hF).symm ⟨hf.kp rfl,hc⟩
    ·refine wp_exit ?_
     refine aW ?_
     refine aW ?_
     have he:=sj hF
     rw [← he] at a1
     refine eV ?_
     exact cv _ _ _ a1 ⟨hf.kp rfl,hc⟩

def pU (x:aE) (B:aB):Bool :=
 ((aH x.Person 0 (W (((B.People.length:Nat):Int) - 1))) && (aH x.Station 0 (W (((B.Stations.length:Nat):Int) - 1))))
theorem yW {G:aO} {Lf:List Ent} {w:World} (x:aE) (B:aB) {b_:Nat} {D:Option Addr} {H:Nat} {I:Option Addr} {J:Nat} (O:RdT aG G 1 D H B.People) (M:RdT aL G 2 I J B.Stations) (hc:Ctx G (.box b_ [.slice D B.People.length H,.slice I B.Stations.length J] 26::Lf) w) {R:Bool} (hF:pU x B=R):Calls Tryz.prog 52 #[.agg #[i6 x.Person,i6 x.Station],pq b_] w (fun e w=>e=.returned (.bool R)∧Ctx G (.box b_ [.slice D B.People.length H,.slice I B.Stations.length J] 26::Lf) w):=by
 unfold pU at hF
 refine bI Tryz.func52 rfl Tryz.ntmps52 rfl fun a hf=>zS fun K h=>zB hf hc rfl fun S a w hf hc=>sp 1 hf rfl fun a hf=>zT h ?_
 refine zS fun K h=>zP hf rfl (pFA aCh rfl) fun a hf=>zL hf hc bA m0 rfl fun a w hf hc=>zP hf rfl (pFA eZ rfl) fun a hf=>zL hf hc mA m1 rfl fun a w hf hc=>zP hf rfl (bC Tryz.underlying23 rfl) fun a hf=>sp 1 hf rfl fun a hf=>zQ (v:=.bool (aH x.Person 0 (W (((B.People.length:Nat):Int) - 1)))) hf hc lJ rfl (fun w hc=>cG x.Person 0 (W (((B.People.length:Nat):Int) - 1)) hc rfl) fun a w hf hc=>sp 1 hf rfl fun a hf=>gX 8 (fun a=>Has 20 a [(1,pq b_),(2,pq S),(3,.bool false),(4,pq S),(5,i6 x.Person),(6,pq b_),(7,.slice D B.People.length H),(8,i6 ((B.People.length:Nat):Int)),(9,i6 (W (((B.People.length:Nat):Int) - 1))),(10,.bool (aH x.Person 0 (W (((B.People.length:Nat):Int) - 1)))),(11,.bool (aH x.Person 0 (W (((B.People.length:Nat):Int) - 1)))),(19,.bool ((aH x.Person 0 (W (((B.People.length:Nat):Int) - 1))) && (aH x.Station 0 (W (((B.Stations.length:Nat):Int) - 1)))))]) hc ?_ ?_
 ·cases hb:(aH x.Person 0 (W (((B.People.length:Nat):Int) - 1)))
  ·rw [hb] at hf
   refine stS hf rfl rfl rfl fun a hf=>stS hf rfl rfl rfl fun a hf=>stS hf rfl rfl rfl fun a hf=>stS hf rfl rfl rfl fun a hf=>stS hf rfl rfl rfl fun a hf=>stS hf rfl rfl rfl fun a hf=>stS hf rfl rfl rfl fun a hf=>sp 1 hf rfl fun a hf=>aP ⟨hf.kp rfl,hc⟩
  ·rw [hb] at hf
   refine zP hf rfl (pFA sY rfl) fun a hf=>zL hf hc bA m0 rfl fun a w hf hc=>zP hf rfl (pFA eG rfl) fun a hf=>zL hf hc lN m1 rfl fun a w hf hc=>zP hf rfl (bC Tryz.underlying24 rfl) fun a hf=>sp 1 hf rfl fun a hf=>zQ (v:=.bool (aH x.Station 0 (W (((B.Stations.length:Nat):Int) - 1)))) hf hc lJ rfl (fun w hc=>cG x.Station 0 (W (((B.Stations.length:Nat):Int) - 1)) hc rfl) fun a w hf hc=>sp 1 hf rfl fun a hf=>aP ⟨hf.kp rfl,hc⟩
 intro a w ⟨hf,hc⟩
 refine sp 1 hf rfl fun a hf=>zT h ?_
 refine wp_ret ?_
 obtain rfl:=hF
 replace hc:=hc.drop k0
 exact zO1 Tryz.results52 hf rfl ⟨rfl,hc⟩

def fU (x:aE) (B:aB):Bool :=
 (!(pU x B))
theorem oV {G:aO} {Lf:List Ent} {w:World} (x:aE) (J:aB) {b_:Nat} {R:Nat} {H:Option Addr} {I:Nat} {B:Option Addr} {D:Nat} (O:RdT aG G 1 H I J.People) (M:RdT aL G 2 B D J.Stations) (hc:Ctx G (.box b_ [.func (.func 52) #[] #[pq R]] 103::.box R [.slice H J.People.length I,.slice B J.Stations.length D] 26::Lf) w) {S:Bool} (hF:fU x J=S):Calls Tryz.prog 86 #[.agg #[i6 x.Person,i6 x.Station],pq b_] w (fun e w=>e=.returned (.bool S)∧Ctx G (.box b_ [.func (.func 52) #[] #[pq R]] 103::.box R [.slice H J.People.length I,.slice B J.Stations.length D] 26::Lf) w):=by
 unfold fU at hF
 refine bI Tryz.func86 rfl Tryz.ntmps86 rfl fun a hf=>zS fun K h=>zB hf hc rfl fun U a w hf hc=>sp 1 hf rfl fun a hf=>zT h ?_
 refine zS fun K h=>zL hf hc aKq m1 rfl fun a w hf hc=>zN hf hc mV m0 rfl fun a w hf hc=>zQ (v:=.bool (pU x J)) hf hc en_52 rfl (fun w hc=>(yW x J O M (hc.pick k2) rfl).mono fun e w h=>⟨h.1,(h.2.unpick k2)⟩) fun a w hf hc=>sp 2 hf rfl fun a hf=>zT h ?_
 refine wp_ret ?_
 obtain rfl:=hF
 replace hc:=hc.drop k0
 exact zO1 Tryz.results86 hf rfl ⟨rfl,hc⟩

def dW (N:Nat) (s_:List aE) (f_:aB) (x:Int):Option (cK (Int) (Int)) :=
 cond (decide (x < ((s_.length:Nat):Int)))
 (Option.bind (bH s_ x) fun B=>
 cond (fU B f_)
 (some (.ret x))
 (some (.cont (W (x + 1)))))
 (some (.brk x))
def cO (N:Nat) (s_:List aE) (f_:aB):Option (Int) :=
 Option.bind (bE (fun s4=>dW N s_ f_ s4) N 0) fun x4=>
 exK x4 (fun s4=>some (-1)) some
theorem hZ {N:Nat} {G:aO} {Lf:List Ent} {w:World} (s_:List aE) (f_:aB) {U:Option Addr} {V:Nat} {b_:Nat} {J:Nat} {I:Option Addr} {H:Nat} {D:Option Addr} {B:Nat} (b:Rd G 2 U V (s_.map aJ)) (R:RdT aG G 1 I H f_.People) (M:RdT aL G 2 D B f_.Stations) (hc:Ctx G (.box b_ [.func (.func 52) #[] #[pq J]] 103::.box J [.slice I f_.People.length H,.slice D f_.Stations.length B] 26::Lf) w) {Y:Int} (hF:cO N s_ f_=some Y):Calls Tryz.prog 82 #[.slice U s_.length V,.func (.func 86) #[] #[pq b_]] w (fun e w=>e=.returned (i6 Y)∧Ctx G (.box b_ [.func (.func 52) #[] #[pq J]] 103::.box J [.slice I f_.People.length H,.slice D f_.Stations.length B] 26::Lf) w):=by
 unfold cO at hF
 refine bI Tryz.func82 rfl Tryz.ntmps82 rfl fun a hf=>zS fun K h=>sp 1 hf rfl fun a hf=>zT h ?_
 refine wp_seq_k fun K2 h2=>zS fun K h=>sp 1 hf rfl fun a hf=>zP hf rfl (bC Tryz.underlying50 rfl) fun a hf=>sp 1 hf rfl fun a hf=>zT h ?_
 refine wp_block ?_
 obtain ⟨x4,g,hF⟩:=aA hF
 let S4:Int→Act→World→Prop:=(fun (zz:Int) a w=>Has 19 a [(0,.slice U s_.length V),(1,.func (.func 86) #[] #[pq b_]),(7,i6 ((s_.length:Nat):Int)),(8,i6 zz)]∧Ctx G (.box b_ [.func (.func 52) #[] #[pq J]] 103::.box J [.slice I f_.People.length H,.slice D f_.Stations.length B] 26::Lf) w)
 have i:∀ (zz:Int) a w,x4=.go zz→S4 zz a w→K2 a w:=by
  rintro x a w rfl ⟨hf,hc⟩
  replace hF:=bP hF
  refine h2 _ _ ?_
  refine zS fun K h=>sp 1 hf rfl fun a hf=>zT h ?_
  refine wp_ret ?_
  obtain rfl:=sj hF
  exact zO1 Tryz.results82 hf rfl ⟨rfl,hc⟩
 have j:∀ r,x4=.out r→r=Y:=by
  rintro r rfl
  exact sj hF
 refine cR N (cL (S:=S4) (x:=x4) ?_ N 0 _ _ ⟨hf.kp rfl,hc⟩ g)
 clear hF hf hc
 rintro x k a w KB4 ⟨hf,hc⟩ hF O d
 unfold dW at hF
 refine zS fun K h=>sp 1 hf rfl fun a hf=>zT h ?_
 refine wp_seq_k fun K7 h7=>zI hf rfl hF ?_ ?_ <;> clear hF <;> intro hF
 ·refine wp_skip ?_
  refine h7 _ _ ?_
  refine wp_seq_k fun K8 h8=>wp_block ?_
  refine zS fun K h=>sp 2 hf rfl fun a hf=>zT h ?_
  refine zS fun K h=>sp 3 hf rfl fun a hf=>?_
  obtain ⟨X,Z,hF⟩:=aA hF
  obtain ⟨m,o,qa,qp⟩:=b.atm Z
  refine zP hf rfl (pIA Tryz.underlying50 nF rfl rfl qa) fun a hf=>zE hf hc rfl (jN (vs:=[i6 X.Person,i6 X.Station]) mV rfl rfl (eX qp (n:=2) (o':=0) rfl)) fun a w hf hc=>zQ (v:=.bool (fU X f_)) hf hc en_86 rfl (fun w hc=>(oV X f_ R M ((hc.pick k1).pick k1) rfl).mono fun e w h=>⟨h.1,((h.2.unpick k1).unpick k1)⟩) fun a w hf hc=>zT h ?_
  refine zI hf rfl hF ?_ ?_ <;> clear hF <;> intro hF
  ·refine zS fun K h=>sp 2 hf rfl fun a hf=>zT h ?_
   refine wp_ret ?_
   refine bN ?_
   refine aN ?_
   refine aN ?_
   have he:=sj hF
   rw [← he] at O
   replace hF:=j _ O
   refine bN ?_
   refine aN ?_
   obtain rfl:=hF
   exact zO1 Tryz.results82 hf rfl ⟨rfl,hc⟩
  ·refine wp_skip ?_
   refine h8 _ _ ?_
   refine cJ ?_
   refine sp 2 hf rfl fun a hf=>aP ?_
   exact d (W (x + 1)) _ _ (sj hF).symm ⟨hf.kp rfl,hc⟩
 ·refine wp_exit ?_
  refine aW ?_
  refine aW ?_
  have he:=sj hF
  rw [← he] at O
  refine eV ?_
  exact i _ _ _ O ⟨hf.kp rfl,hc⟩

end Go.Nilo
