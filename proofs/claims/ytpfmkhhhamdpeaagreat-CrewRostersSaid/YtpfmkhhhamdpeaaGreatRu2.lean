/-
 What functions of the Go text compute, as plain functions, and that they do, part 2 of 4. Conditions: what each theorem names.
-/
import Derived.Test.YtpfmkhhhamdpeaaGreatRu1
import Derived.Test.YtpfmkhhhamdpeaaGreatProg
set_option linter.unusedVariables false
set_option linter.unusedSimpArgs false
set_option maxRecDepth 100000
set_option maxHeartbeats 4000000
namespace Go.Nilo
open Go.Proofs


def oI (N:Nat) (x:Int) (B:List (List Int)):Option (bK (Int × (List (List Int))) ((List (List Int)))) :=
 some (.cont (W (x + 1),B))
def vD (N:Nat) (B:List Int) (x:Int) (H:List (List Int)):Option (bK (Int × (List (List Int))) ((List (List Int)))) :=
 cond (decide (x < ((B.length:Nat):Int)))
 (Option.bind (aU B x) fun D=>
 cond (D != (-1))
 (Option.bind (inR D 12) fun J=>
 Option.bind (aU H D) fun I=>
 Option.bind (room ((I++[x])).length) fun M=>
 Option.bind (inR D 12) fun O=>
 Option.bind (aU H D) fun R=>
 oI N x (H.set D.toNat (I++[x])))
 (oI N x H))
 (some (.brk (x,H)))
def uM (N:Nat) (B:List Int):Option ((List (List Int))) :=
 Option.bind (aS (fun s5=>vD N B s5.1 s5.2) N (0,(List.replicate 12 ([]:List Int)))) fun x5=>
 exK x5 (fun s5=>Option.bind (wS 12 s5.2) fun un=>
 some s5.2) some
theorem aA0 {N:Nat} {G:aQ} {Lf:List Ent} {w:World} (B:List Int) {H:Option Addr} {I:Nat} (U:Rd G 1 H I (B.map aD)) (hc:Ctx G (Lf) w) {p:(List (List Int))} (hF:uM N B=some p):Calls Tryz.prog 109 #[.pointer none,.slice H B.length I] w (fun e w=>∃ (g:Hds),e=.returned (.agg ((aK g p).map (Kd.v aM)).flatten.toArray)∧Ctx G (bZ aM (aK g p)::Lf) w):=by
 unfold uM at hF
 refine bN Tryz.func109 rfl Tryz.ntmps109 rfl fun a hf=>zS fun K h=>zA hf hc aBk rfl fun X a w hf hc=>zT h ?_
 refine zS fun K h=>zA hf hc aBk rfl fun M a w hf hc=>?_
 obtain ⟨u,hc⟩:=aHs (K:=aM) (x:=([]:List Int)) (n:=12) (fun _ h=>h.nilRow _ _) dA rfl rfl hc
 replace hc:Ctx G (.row (some ⟨M,0,none⟩) 12 ((aK u (List.replicate 12 ([]:List Int))).map (Kd.v aM)) 172 1::bZ aM (aK u (List.replicate 12 ([]:List Int)))::.box X [.slice none 0 0,.slice none 0 0,.slice none 0 0,.slice none 0 0,.slice none 0 0,.slice none 0 0,.slice none 0 0,.slice none 0 0,.slice none 0 0,.slice none 0 0,.slice none 0 0,.slice none 0 0] 172::Lf) w:=hc
 refine zT h ?_
 refine wp_seq_k fun K3 h3=>zS fun K h=>sp 1 hf rfl fun a hf=>zP hf rfl (aW Tryz.underlying25 rfl) fun a hf=>sp 1 hf rfl fun a hf=>zT h ?_
 refine wp_block ?_
 obtain ⟨x5,ai,hF⟩:=aA hF
 let S5:(Int × (List (List Int)))→Act→World→Prop:=(fun (zz:Int × (List (List Int))) a w=>∃ (D:vP),Has 27 a [(4,pq X),(5,pq M),(8,.slice H B.length I),(9,i6 ((B.length:Nat):Int)),(10,i6 zz.1)]∧Ctx G (.row (some ⟨M,0,none⟩) D.1 ((aK D.2 zz.2).map (Kd.v aM)) 172 1::bZ aM (aK D.2 zz.2)::.box X [.slice none 0 0,.slice none 0 0,.slice none 0 0,.slice none 0 0,.slice none 0 0,.slice none 0 0,.slice none 0 0,.slice none 0 0,.slice none 0 0,.slice none 0 0,.slice none 0 0,.slice none 0 0] 172::Lf) w)
 have am:∀ (zz:Int × (List (List Int))) a w,x5=.go zz→S5 zz a w→K3 a w:=by
  rintro ⟨x,J⟩ a w rfl ⟨D,hf,hc⟩
  replace hF:=bH hF
  refine h3 _ _ ?_
  refine zS fun K h=>?_
  obtain ⟨un,q,hF⟩:=aA hF
  refine zE hf hc rfl (kG (vs:=((aK D.2 J).map (Kd.v aM)).flatten) aE5 rfl (oR dA q) (zV m0)) fun a w hf hc=>aH1 (n:=12) (vs:=((aK D.2 J).map (Kd.v aM)).flatten) hf hc rfl rfl rfl rfl aEq (oR dA q) (aAj dA) rfl u2 fun w hc=>zT h ?_
  refine wp_ret ?_
  obtain rfl:=sj hF
  replace hc:=hc.drop k0
  exact vQ (by simp) rfl Tryz.results109 hf hc (eG (vs:=((aK D.2 J).map (Kd.v aM)).flatten) aE5 rfl (oR dA q) (bM (n:=12) m1 (aNd (oR dA q)))) ⟨D.2,rfl,(hc.drop k1)⟩
 have az:∀ r,x5=.out r→r=p:=by
  rintro r rfl
  exact sj hF
 refine bY N (bX (S:=S5) (x:=x5) ?_ N (0,(List.replicate 12 ([]:List Int))) _ _ ⟨(12,u),hf.kp rfl,hc⟩ ai)
 clear hF hf hc
 rintro ⟨x,J⟩ ak a w KB5 ⟨D,hf,hc⟩ hF d aj
 unfold vD at hF
 refine zS fun K h=>sp 1 hf rfl fun a hf=>zT h ?_
 refine wp_seq_k fun K8 h8=>zI hf rfl hF ?_ ?_ <;> clear hF <;> intro hF
 ·refine wp_skip ?_
  refine h8 _ _ ?_
  refine wp_seq_k fun K9 h9=>?_
  have af:∀ (Z:List (List Int)) (O:vP) a w,Has 27 a [(4,pq X),(5,pq M),(8,.slice H B.length I),(9,i6 ((B.length:Nat):Int)),(10,i6 x)]→Ctx G (.row (some ⟨M,0,none⟩) O.1 ((aK O.2 Z).map (Kd.v aM)) 172 1::bZ aM (aK O.2 Z)::.box X [.slice none 0 0,.slice none 0 0,.slice none 0 0,.slice none 0 0,.slice none 0 0,.slice none 0 0,.slice none 0 0,.slice none 0 0,.slice none 0 0,.slice none 0 0,.slice none 0 0,.slice none 0 0] 172::Lf) w→oI N x Z=some ak→K9 a w:=by
   repeat (clear hF)
   repeat (clear hc)
   repeat (clear hf)
   intro Z O a w hf hc hF
   unfold oI at hF
   refine h9 _ _ ?_
   refine bW ?_
   refine sp 2 hf rfl fun a hf=>aL ?_
   exact aj (W (x + 1),Z) _ _ (sj hF).symm ⟨O,hf.kp rfl,hc⟩
  refine wp_block ?_
  refine zS fun K h=>sp 1 hf rfl fun a hf=>?_
  obtain ⟨V,ag,hF⟩:=aA hF
  obtain ⟨ay,o,qa,qp⟩:=U.atm ag
  refine zP hf rfl (pIA Tryz.underlying25 eH rfl rfl qa) fun a hf=>zE hf hc rfl (bF bG rfl (aR (j:=0) qp rfl)) fun a w hf hc=>sp 2 hf rfl fun a hf=>zT h ?_
  refine zS fun K h=>sp 2 hf rfl fun a hf=>zT h ?_
  refine zI hf rfl hF ?_ ?_ <;> clear hF <;> intro hF
  ·refine bW ?_
   refine sp 2 hf rfl fun a hf=>?_
   obtain ⟨av,s,hF⟩:=aA hF
   obtain ⟨R,aa,hF⟩:=aA hF
   obtain ⟨an,qr⟩:=nA hc m0 (iU aa)
   refine zP hf rfl (Pu.cast (sV Tryz.underlying172 kX rfl rfl (bJ s).1 (bJ s).2) (congrArg (fun k=>Value.pointer (some ⟨M,k,none⟩)) (Nat.zero_add _))) fun a hf=>zE hf hc rfl (bF fB rfl (jA (sz:=1) (i:=V.toNat) (j:=0) m0 qr rfl)) fun a w hf hc=>sp 1 hf rfl fun a hf=>nU (rows:=([x]:List Int).map aD) (vs:=[(0,i6 x)]) hf hc rfl rfl jO rfl ⟨rfl,rfl,rfl,trivial⟩ rfl rfl fun ad a w hf hc=>?_
   replace hc:=aAe (hc.pick k2) aa
   replace hc:Ctx G (.row ((D.2 V.toNat).1) ((D.2 V.toNat).2) (R.map aD) 3 1::bZ aM ((aK D.2 J).eraseIdx V.toNat)::.row (some ⟨ad,0,none⟩) 1 (([x]:List Int).map aD) 3 1::.row (some ⟨M,0,none⟩) D.1 ((aK D.2 J).map (Kd.v aM)) 172 1::.box X [.slice none 0 0,.slice none 0 0,.slice none 0 0,.slice none 0 0,.slice none 0 0,.slice none 0 0,.slice none 0 0,.slice none 0 0,.slice none 0 0,.slice none 0 0,.slice none 0 0,.slice none 0 0] 172::Lf) w:=hc
   obtain ⟨aq,ac,hF⟩:=aA hF
   refine pG (xs:=R) (ys:=([x]:List Int)) hf hc rfl rfl jO rfl rfl rfl rfl rfl bP (lL hc m2) (fun _ _=>u0) (by simpa using fA ac) fun ab t a w hf hc=>?_
   obtain ⟨au,m,hF⟩:=aA hF
   obtain ⟨ax,b,hF⟩:=aA hF
   obtain ⟨ap,ar⟩:=nA hc m3 (iU b)
   refine zP hf rfl (Pu.cast (sV Tryz.underlying172 kX rfl rfl (bJ m).1 (bJ m).2) (congrArg (fun k=>Value.pointer (some ⟨M,k,none⟩)) (Nat.zero_add _))) fun a hf=>aDu (vs:=[.slice ab ((R++[x]).length) t]) (o':=0) (z:=((ab,t),(R++[x]))) (xs:=(aK D.2 J)) hf hc rfl rfl rfl rfl kX rfl (fun x=>(dA x).1) (rH (iU b)) (fun e _=>splW (dA e).1) rfl u3 fun w hc=>?_
   replace hc:=(((hc.pick k2).pick k2).pick k3).pick k3
   obtain ⟨Y,hc⟩:=aA1 (K:=aM) (h':=(ab,t)) (y:=(R++[x])) b hc
   replace hc:Ctx G (.row (some ⟨M,0,none⟩) D.1 ((aK Y (J.set V.toNat (R++[x]))).map (Kd.v aM)) 172 1::bZ aM (aK Y (J.set V.toNat (R++[x])))::.row (some ⟨ad,0,none⟩) 1 (([x]:List Int).map aD) 3 1::.box X [.slice none 0 0,.slice none 0 0,.slice none 0 0,.slice none 0 0,.slice none 0 0,.slice none 0 0,.slice none 0 0,.slice none 0 0,.slice none 0 0,.slice none 0 0,.slice none 0 0,.slice none 0 0] 172::Lf) w:=hc
   refine aL ?_
   replace hc:=hc.drop k2
   exact af (J.set V.toNat (R++[x])) (D.1,Y) _ _  (hf.kp rfl) hc hF
  ·refine wp_skip ?_
   exact af J D _ _  (hf.kp rfl) hc hF
 ·refine wp_exit ?_
  refine aN ?_
  refine aN ?_
  have he:=sj hF
  rw [← he] at d
  refine cT ?_
  exact am _ _ _ d ⟨D,hf.kp rfl,hc⟩

def oM (N:Nat) (p_:Int) (than:Int):Option (Int × Int) :=
 some (p_,than)
theorem vK {N:Nat} {G:aQ} {Lf:List Ent} {w:World} (p_:Int) (than:Int)   (hc:Ctx G (Lf) w) {B:Int × Int} (hF:oM N p_ than=some B):Calls Tryz.prog 111 #[.pointer none,i6 p_,i6 than] w (fun e w=>∃ (J:Nat) (D:Nat) (O:Nat),e=.returned (.func (.func 167) #[] #[pq J,pq D,pq O])∧Ctx G (.box J [.pointer none] 166::.box D [i6 B.1] 3::.box O [i6 B.2] 3::Lf) w):=by
 unfold oM at hF
 refine bN Tryz.func111 rfl Tryz.ntmps111 rfl fun a hf=>zS fun K h=>zB hf hc rfl fun H a w hf hc=>zB hf hc rfl fun I a w hf hc=>zB hf hc rfl fun M a w hf hc=>sp 1 hf rfl fun a hf=>zT h ?_
 refine zS fun K h=>zP hf rfl (pMF (us:=[pq H,pq I,pq M]) rfl rfl) fun a hf=>sp 1 hf rfl fun a hf=>zT h ?_
 refine wp_ret ?_
 obtain rfl:=sj hF
 replace hc:=((hc.pick k0).pick k1).pick k2
 exact zO1 Tryz.results111 hf rfl ⟨H,I,M,rfl,hc⟩

def jW (N:Nat) (x:Int) (B:List (List Int)):Option (bK (Int × (List (List Int))) ((List (List Int)))) :=
 some (.cont (W (x + 1),B))
def fR (N:Nat) (B:List Int) (x:Int) (H:List (List Int)):Option (bK (Int × (List (List Int))) ((List (List Int)))) :=
 cond (decide (x < ((B.length:Nat):Int)))
 (Option.bind (aU B x) fun D=>
 cond (D != (-1))
 (Option.bind (inR D 12) fun J=>
 Option.bind (aU H D) fun I=>
 Option.bind (room ((I++[x])).length) fun M=>
 Option.bind (inR D 12) fun O=>
 Option.bind (aU H D) fun R=>
 jW N x (H.set D.toNat (I++[x])))
 (jW N x H))
 (some (.brk (x,H)))
def mF (N:Nat) (w_:aV) (B:List Int):Option ((List (List Int))) :=
 Option.bind (aS (fun s5=>fR N B s5.1 s5.2) N (0,(List.replicate 12 ([]:List Int)))) fun x5=>
 exK x5 (fun s5=>Option.bind (wS 12 s5.2) fun un=>
 some s5.2) some
theorem xZ {N:Nat} {G:aQ} {Lf:List Ent} {w:World} (w_:aV) (B:List Int) {b_:Nat} {O:Option Addr} {R:Nat} {I:Option Addr} {H:Nat} {J:Option Addr} {M:Nat} (q:RdT aM G 1 O R w_.Roster.People) (g:RdT bA G 2 I H w_.Roster.Stations) (aq:PC G b_ 0 (vT [.slice O w_.Roster.People.length R,.slice I w_.Roster.Stations.length H] 144 aD w_.rank [])) (Z:Rd G 1 J M (B.map aD)) (hc:Ctx G (Lf) w) {ac:(List (List Int))} (hF:mF N w_ B=some ac):Calls Tryz.prog 109 #[pq b_,.slice J B.length M] w (fun e w=>∃ (t:Hds),e=.returned (.agg ((aK t ac).map (Kd.v aM)).flatten.toArray)∧Ctx G (bZ aM (aK t ac)::Lf) w):=by
 unfold mF at hF
 refine bN Tryz.func109 rfl Tryz.ntmps109 rfl fun a hf=>zS fun K h=>zA hf hc aBk rfl fun b a w hf hc=>zT h ?_
 refine zS fun K h=>zA hf hc aBk rfl fun V a w hf hc=>?_
 obtain ⟨af,hc⟩:=aHs (K:=aM) (x:=([]:List Int)) (n:=12) (fun _ h=>h.nilRow _ _) dA rfl rfl hc
 replace hc:Ctx G (.row (some ⟨V,0,none⟩) 12 ((aK af (List.replicate 12 ([]:List Int))).map (Kd.v aM)) 172 1::bZ aM (aK af (List.replicate 12 ([]:List Int)))::.box b [.slice none 0 0,.slice none 0 0,.slice none 0 0,.slice none 0 0,.slice none 0 0,.slice none 0 0,.slice none 0 0,.slice none 0 0,.slice none 0 0,.slice none 0 0,.slice none 0 0,.slice none 0 0] 172::Lf) w:=hc
 refine zT h ?_
 refine wp_seq_k fun K3 h3=>zS fun K h=>sp 1 hf rfl fun a hf=>zP hf rfl (aW Tryz.underlying25 rfl) fun a hf=>sp 1 hf rfl fun a hf=>zT h ?_
 refine wp_block ?_
 obtain ⟨x5,av,hF⟩:=aA hF
 let S5:(Int × (List (List Int)))→Act→World→Prop:=(fun (zz:Int × (List (List Int))) a w=>∃ (D:vP),Has 27 a [(4,pq b),(5,pq V),(8,.slice J B.length M),(9,i6 ((B.length:Nat):Int)),(10,i6 zz.1)]∧Ctx G (.row (some ⟨V,0,none⟩) D.1 ((aK D.2 zz.2).map (Kd.v aM)) 172 1::bZ aM (aK D.2 zz.2)::.box b [.slice none 0 0,.slice none 0 0,.slice none 0 0,.slice none 0 0,.slice none 0 0,.slice none 0 0,.slice none 0 0,.slice none 0 0,.slice none 0 0,.slice none 0 0,.slice none 0 0,.slice none 0 0] 172::Lf) w)
 have au:∀ (zz:Int × (List (List Int))) a w,x5=.go zz→S5 zz a w→K3 a w:=by
  rintro ⟨x,U⟩ a w rfl ⟨D,hf,hc⟩
  replace hF:=bH hF
  refine h3 _ _ ?_
  refine zS fun K h=>?_
  obtain ⟨un,aa,hF⟩:=aA hF
  refine zE hf hc rfl (kG (vs:=((aK D.2 U).map (Kd.v aM)).flatten) aE5 rfl (oR dA aa) (zV m0)) fun a w hf hc=>aH1 (n:=12) (vs:=((aK D.2 U).map (Kd.v aM)).flatten) hf hc rfl rfl rfl rfl aEq (oR dA aa) (aAj dA) rfl u2 fun w hc=>zT h ?_
  refine wp_ret ?_
  obtain rfl:=sj hF
  replace hc:=hc.drop k0
  exact vQ (by simp) rfl Tryz.results109 hf hc (eG (vs:=((aK D.2 U).map (Kd.v aM)).flatten) aE5 rfl (oR dA aa) (bM (n:=12) m1 (aNd (oR dA aa)))) ⟨D.2,rfl,(hc.drop k1)⟩
 have a5:∀ r,x5=.out r→r=ac:=by
  rintro r rfl
  exact sj hF
 refine bY N (bX (S:=S5) (x:=x5) ?_ N (0,(List.replicate 12 ([]:List Int))) _ _ ⟨(12,af),hf.kp rfl,hc⟩ av)
 clear hF hf hc
 rintro ⟨x,U⟩ ar a w KB5 ⟨D,hf,hc⟩ hF ab ax
 unfold fR at hF
 refine zS fun K h=>sp 1 hf rfl fun a hf=>zT h ?_
 refine wp_seq_k fun K8 h8=>zI hf rfl hF ?_ ?_ <;> clear hF <;> intro hF
 ·refine wp_skip ?_
  refine h8 _ _ ?_
  refine wp_seq_k fun K9 h9=>?_
  have am:∀ (p:List (List Int)) (X:vP) a w,Has 27 a [(4,pq b),(5,pq V),(8,.slice J B.length M),(9,i6 ((B.length:Nat):Int)),(10,i6 x)]→Ctx G (.row (some ⟨V,0,none⟩) X.1 ((aK X.2 p).map (Kd.v aM)) 172 1::bZ aM (aK X.2 p)::.box b [.slice none 0 0,.slice none 0 0,.slice none 0 0,.slice none 0 0,.slice none 0 0,.slice none 0 0,.slice none 0 0,.slice none 0 0,.slice none 0 0,.slice none 0 0,.slice none 0 0,.slice none 0 0] 172::Lf) w→jW N x p=some ar→K9 a w:=by
   repeat (clear hF)
   repeat (clear hc)
   repeat (clear hf)
   intro p X a w hf hc hF
   unfold jW at hF
   refine h9 _ _ ?_
   refine bW ?_
   refine sp 2 hf rfl fun a hf=>aL ?_
   exact ax (W (x + 1),p) _ _ (sj hF).symm ⟨X,hf.kp rfl,hc⟩
  refine wp_block ?_
  refine zS fun K h=>sp 1 hf rfl fun a hf=>?_
  obtain ⟨d,ap,hF⟩:=aA hF
  obtain ⟨a4,o,qa,qp⟩:=Z.atm ap
  refine zP hf rfl (pIA Tryz.underlying25 eH rfl rfl qa) fun a hf=>zE hf hc rfl (bF bG rfl (aR (j:=0) qp rfl)) fun a w hf hc=>sp 2 hf rfl fun a hf=>zT h ?_
  refine zS fun K h=>sp 2 hf rfl fun a hf=>zT h ?_
  refine zI hf rfl hF ?_ ?_ <;> clear hF <;> intro hF
  ·refine bW ?_
   refine sp 2 hf rfl fun a hf=>?_
   obtain ⟨a0,ad,hF⟩:=aA hF
   obtain ⟨Y,ai,hF⟩:=aA hF
   obtain ⟨a1,qr⟩:=nA hc m0 (iU ai)
   refine zP hf rfl (Pu.cast (sV Tryz.underlying172 kX rfl rfl (bJ ad).1 (bJ ad).2) (congrArg (fun k=>Value.pointer (some ⟨V,k,none⟩)) (Nat.zero_add _))) fun a hf=>zE hf hc rfl (bF fB rfl (jA (sz:=1) (i:=d.toNat) (j:=0) m0 qr rfl)) fun a w hf hc=>sp 1 hf rfl fun a hf=>nU (rows:=([x]:List Int).map aD) (vs:=[(0,i6 x)]) hf hc rfl rfl jO rfl ⟨rfl,rfl,rfl,trivial⟩ rfl rfl fun an a w hf hc=>?_
   replace hc:=aAe (hc.pick k2) ai
   replace hc:Ctx G (.row ((D.2 d.toNat).1) ((D.2 d.toNat).2) (Y.map aD) 3 1::bZ aM ((aK D.2 U).eraseIdx d.toNat)::.row (some ⟨an,0,none⟩) 1 (([x]:List Int).map aD) 3 1::.row (some ⟨V,0,none⟩) D.1 ((aK D.2 U).map (Kd.v aM)) 172 1::.box b [.slice none 0 0,.slice none 0 0,.slice none 0 0,.slice none 0 0,.slice none 0 0,.slice none 0 0,.slice none 0 0,.slice none 0 0,.slice none 0 0,.slice none 0 0,.slice none 0 0,.slice none 0 0] 172::Lf) w:=hc
   obtain ⟨a2,ak,hF⟩:=aA hF
   refine pG (xs:=Y) (ys:=([x]:List Int)) hf hc rfl rfl jO rfl rfl rfl rfl rfl bP (lL hc m2) (fun _ _=>u0) (by simpa using fA ak) fun aj ag a w hf hc=>?_
   obtain ⟨a3,u,hF⟩:=aA hF
   obtain ⟨a6,s,hF⟩:=aA hF
   obtain ⟨ay,az⟩:=nA hc m3 (iU s)
   refine zP hf rfl (Pu.cast (sV Tryz.underlying172 kX rfl rfl (bJ u).1 (bJ u).2) (congrArg (fun k=>Value.pointer (some ⟨V,k,none⟩)) (Nat.zero_add _))) fun a hf=>aDu (vs:=[.slice aj ((Y++[x]).length) ag]) (o':=0) (z:=((aj,ag),(Y++[x]))) (xs:=(aK D.2 U)) hf hc rfl rfl rfl rfl kX rfl (fun x=>(dA x).1) (rH (iU s)) (fun e _=>splW (dA e).1) rfl u3 fun w hc=>?_
   replace hc:=(((hc.pick k2).pick k2).pick k3).pick k3
   obtain ⟨m,hc⟩:=aA1 (K:=aM) (h':=(aj,ag)) (y:=(Y++[x])) s hc
   replace hc:Ctx G (.row (some ⟨V,0,none⟩) D.1 ((aK m (U.set d.toNat (Y++[x]))).map (Kd.v aM)) 172 1::bZ aM (aK m (U.set d.toNat (Y++[x])))::.row (some ⟨an,0,none⟩) 1 (([x]:List Int).map aD) 3 1::.box b [.slice none 0 0,.slice none 0 0,.slice none 0 0,.slice none 0 0,.slice none 0 0,.slice none 0 0,.slice none 0 0,.slice none 0 0,.slice none 0 0,.slice none 0 0,.slice none 0 0,.slice none 0 0] 172::Lf) w:=hc
   refine aL ?_
   replace hc:=hc.drop k2
   exact am (U.set d.toNat (Y++[x])) (D.1,m) _ _  (hf.kp rfl) hc hF
  ·refine wp_skip ?_
   exact am U D _ _  (hf.kp rfl) hc hF
 ·refine wp_exit ?_
  refine aN ?_
  refine aN ?_
  have he:=sj hF
  rw [← he] at ab
  refine cT ?_
  exact au _ _ _ ab ⟨D,hf.kp rfl,hc⟩

def rK (N:Nat) (q:Int) (x:aV) (B:Int) (D:Int):Option (Bool) :=
 Option.bind (inR B 12) fun un=>
 Option.bind (inR q 12) fun H=>
 Option.bind (inR B 12) fun I=>
 Option.bind (inR D 12) fun J=>
 some (decide ((x.rank (B * 12 + D).toNat) < (x.rank (B * 12 + q).toNat)))
theorem aA8 {N:Nat} {G:aQ} {Lf:List Ent} {w:World} (q:Int) (x:aV) (g:Int) (d:Int) {b_:Nat} {S:Nat} {H:Option Addr} {I:Nat} {B:Option Addr} {D:Nat} {Z:Nat} {Y:Nat} (X:RdT aM G 1 H I x.Roster.People) (U:RdT bA G 2 B D x.Roster.Stations) (V:PC G S 0 (vT [.slice H x.Roster.People.length I,.slice B x.Roster.Stations.length D] 144 aD x.rank [])) (hc:Ctx G (.box b_ [pq S] 166::.box Z [i6 g] 3::.box Y [i6 d] 3::Lf) w) {i:Bool} (hF:rK N q x g d=some i):Calls Tryz.prog 112 #[i6 q,pq b_,pq Z,pq Y] w (fun e w=>e=.returned (.bool i)∧Ctx G (.box b_ [pq S] 166::.box Z [i6 g] 3::.box Y [i6 d] 3::Lf) w):=by
 unfold rK at hF
 refine bN Tryz.func112 rfl Tryz.ntmps112 rfl fun a hf=>zS fun K h=>sp 1 hf rfl fun a hf=>zT h ?_
 refine wp_seq_k fun K2 h2=>?_
 obtain ⟨un,b,hF⟩:=aA hF
 obtain ⟨o,R,hF⟩:=aA hF
 obtain ⟨m,J,hF⟩:=aA hF
 obtain ⟨n,O,hF⟩:=aA hF
 refine cQ hc aT (by kernel_rfl) ?_
 refine qE hf rfl rfl rfl (bF mZ rfl (bL m0 rfl)) fun a hf=>qE hf rfl rfl rfl (bF bG rfl (bL m1 rfl)) fun a hf=>qE hf rfl rfl rfl (Pu.ev (pM rfl)) fun a hf=>qE hf rfl rfl rfl (Pu.ev (pNC rfl)) fun a hf=>qE hf rfl rfl rfl (Pu.ev (pFA rO rfl)) fun a hf=>qE hf rfl rfl rfl (Pu.ev (sV Tryz.underlying179 xO rfl rfl (bJ b).1 (bJ b).2)) fun a hf=>qE hf rfl rfl rfl (Pu.ev (Pu.cast (sV Tryz.underlying178 eH rfl rfl (bJ R).1 (bJ R).2) (congrArg (fun k=>Value.pointer (some ⟨S,k,none⟩)) (rX (M:=12) (0 + 2) b R rfl)))) fun a hf=>qE hf rfl rfl rfl (bF bG rfl (tI (j:=0) V (fun x=>(bP x).1) rfl (aGe b R rfl) rfl)) fun a hf=>qE hf rfl rfl rfl (bF mZ rfl (bL m0 rfl)) fun a hf=>qE hf rfl rfl rfl (bF bG rfl (bL m1 rfl)) fun a hf=>qE hf rfl rfl rfl (bF bG rfl (bL m2 rfl)) fun a hf=>qE hf rfl rfl rfl (Pu.ev (pNC rfl)) fun a hf=>qE hf rfl rfl rfl (Pu.ev (pFA rO rfl)) fun a hf=>?_
 refine qE hf rfl rfl rfl (Pu.ev (sV Tryz.underlying179 xO rfl rfl (bJ J).1 (bJ J).2)) fun a hf=>qE hf rfl rfl rfl (Pu.ev (Pu.cast (sV Tryz.underlying178 eH rfl rfl (bJ O).1 (bJ O).2) (congrArg (fun k=>Value.pointer (some ⟨S,k,none⟩)) (rX (M:=12) (0 + 2) J O rfl)))) fun a hf=>qE hf rfl rfl rfl (bF bG rfl (tI (j:=0) V (fun x=>(bP x).1) rfl (aGe J O rfl) rfl)) fun a hf=>qE hf rfl rfl rfl (Pu.ev (pGt rfl rfl)) fun a hf=>qE hf rfl rfl rfl (Pu.ev (pA rfl)) fun a hf=>?_
 intro w hc
 refine h2 _ _ ?_
 refine wp_ret ?_
 obtain rfl:=sj hF
 exact zO1 Tryz.results112 hf rfl ⟨rfl,hc⟩

def cG (N:Nat) (s_:List Int) (f_:aV) (D:Int) (B:Int) (x:Int):Option (bK (Int) (Int)) :=
 cond (decide (x < ((s_.length:Nat):Int)))
 (Option.bind (aU s_ x) fun H=>
 Option.bind (rK N H f_ D B) fun r=>
 cond r
 (some (.ret x))
 (some (.cont (W (x + 1)))))
 (some (.brk x))
def gJ (N:Nat) (s_:List Int) (f_:aV) (D:Int) (B:Int):Option (Int) :=
 Option.bind (aS (fun s4=>cG N s_ f_ D B s4) N 0) fun x4=>
 exK x4 (fun s4=>some (-1)) some
theorem qP {N:Nat} {G:aQ} {Lf:List Ent} {w:World} (s_:List Int) (f_:aV) (X:Int) (R:Int) {b:Option Addr} {Z:Nat} {b_:Nat} {Y:Nat} {H:Option Addr} {I:Nat} {B:Option Addr} {D:Nat} {V:Nat} {U:Nat} (i:Rd G 1 b Z (s_.map aD)) (M:RdT aM G 1 H I f_.Roster.People) (J:RdT bA G 2 B D f_.Roster.Stations) (d:PC G Y 0 (vT [.slice H f_.Roster.People.length I,.slice B f_.Roster.Stations.length D] 144 aD f_.rank [])) (hc:Ctx G (.box b_ [pq Y] 166::.box V [i6 X] 3::.box U [i6 R] 3::Lf) w) {g:Int} (hF:gJ N s_ f_ X R=some g):Calls Tryz.prog 97 #[.slice b s_.length Z,.func (.func 112) #[] #[pq b_,pq V,pq U]] w (fun e w=>e=.returned (i6 g)∧Ctx G (.box b_ [pq Y] 166::.box V [i6 X] 3::.box U [i6 R] 3::Lf) w):=by
 unfold gJ at hF
 refine bN Tryz.func97 rfl Tryz.ntmps97 rfl fun a hf=>zS fun K h=>sp 1 hf rfl fun a hf=>zT h ?_
 refine wp_seq_k fun K2 h2=>zS fun K h=>sp 1 hf rfl fun a hf=>zP hf rfl (aW Tryz.underlying25 rfl) fun a hf=>sp 1 hf rfl fun a hf=>zT h ?_
 refine wp_block ?_
 obtain ⟨x4,s,hF⟩:=aA hF
 let S4:Int→Act→World→Prop:=(fun (zz:Int) a w=>Has 19 a [(0,.slice b s_.length Z),(1,.func (.func 112) #[] #[pq b_,pq V,pq U]),(7,i6 ((s_.length:Nat):Int)),(8,i6 zz)]∧Ctx G (.box b_ [pq Y] 166::.box V [i6 X] 3::.box U [i6 R] 3::Lf) w)
 have q:∀ (zz:Int) a w,x4=.go zz→S4 zz a w→K2 a w:=by
  rintro x a w rfl ⟨hf,hc⟩
  replace hF:=bH hF
  refine h2 _ _ ?_
  refine zS fun K h=>sp 1 hf rfl fun a hf=>zT h ?_
  refine wp_ret ?_
  obtain rfl:=sj hF
  exact zO1 Tryz.results97 hf rfl ⟨rfl,hc⟩
 have m:∀ r,x4=.out r→r=g:=by
  rintro r rfl
  exact sj hF
 refine bY N (bX (S:=S4) (x:=x4) ?_ N 0 _ _ ⟨hf.kp rfl,hc⟩ s)
 clear hF hf hc
 rintro x u a w KB4 ⟨hf,hc⟩ hF O n
 unfold cG at hF
 refine zS fun K h=>sp 1 hf rfl fun a hf=>zT h ?_
 refine wp_seq_k fun K7 h7=>zI hf rfl hF ?_ ?_ <;> clear hF <;> intro hF
 ·refine wp_skip ?_
  refine h7 _ _ ?_
  refine wp_seq_k fun K8 h8=>wp_block ?_
  refine zS fun K h=>sp 2 hf rfl fun a hf=>zT h ?_
  refine zS fun K h=>sp 3 hf rfl fun a hf=>?_
  obtain ⟨p,k,hF⟩:=aA hF
  obtain ⟨t,o,qa,qp⟩:=i.atm k
  refine zP hf rfl (pIA Tryz.underlying25 eH rfl rfl qa) fun a hf=>zE hf hc rfl (bF bG rfl (aR (j:=0) qp rfl)) fun a w hf hc=>?_
  obtain ⟨r,hr,hF⟩:=aA hF
  refine zQ (v:=.bool r) hf hc aN4 rfl (fun w hc=>(aA8 p f_ X R M J d (((hc.pick k2).pick k2).pick k2) hr).mono fun e w h=>⟨h.1,(((h.2.unpick k2).unpick k2).unpick k2)⟩) fun a w hf hc=>zT h ?_
  refine zI hf rfl hF ?_ ?_ <;> clear hF <;> intro hF
  ·refine zS fun K h=>sp 2 hf rfl fun a hf=>zT h ?_
   refine wp_ret ?_
   refine bB ?_
   refine aH ?_
   refine aH ?_
   have he:=sj hF
   rw [← he] at O
   replace hF:=m _ O
   refine bB ?_
   refine aH ?_
   obtain rfl:=hF
   exact zO1 Tryz.results97 hf rfl ⟨rfl,hc⟩
  ·refine wp_skip ?_
   refine h8 _ _ ?_
   refine bW ?_
   refine sp 2 hf rfl fun a hf=>aL ?_
   exact n (W (x + 1)) _ _ (sj hF).symm ⟨hf.kp rfl,hc⟩
 ·refine wp_exit ?_
  refine aN ?_
  refine aN ?_
  have he:=sj hF
  rw [← he] at O
  refine cT ?_
  exact q _ _ _ O ⟨hf.kp rfl,hc⟩

def dG (N:Nat) (s_:List Int) (f_:aV) (D:Int) (B:Int):Option (Bool) :=
 Option.bind (gJ N s_ f_ D B) fun r=>
 some (decide (0≤r))
theorem pD {N:Nat} {G:aQ} {Lf:List Ent} {w:World} (s_:List Int) (f_:aV) (R:Int) (O:Int) {Z:Option Addr} {Y:Nat} {b_:Nat} {V:Nat} {H:Option Addr} {I:Nat} {B:Option Addr} {D:Nat} {U:Nat} {S:Nat} (d:Rd G 1 Z Y (s_.map aD)) (M:RdT aM G 1 H I f_.Roster.People) (J:RdT bA G 2 B D f_.Roster.Stations) (X:PC G V 0 (vT [.slice H f_.Roster.People.length I,.slice B f_.Roster.Stations.length D] 144 aD f_.rank [])) (hc:Ctx G (.box b_ [pq V] 166::.box U [i6 R] 3::.box S [i6 O] 3::Lf) w) {b:Bool} (hF:dG N s_ f_ R O=some b):Calls Tryz.prog 113 #[.slice Z s_.length Y,.func (.func 112) #[] #[pq b_,pq U,pq S]] w (fun e w=>e=.returned (.bool b)∧Ctx G (.box b_ [pq V] 166::.box U [i6 R] 3::.box S [i6 O] 3::Lf) w):=by
 unfold dG at hF
 refine bN Tryz.func113 rfl Tryz.ntmps113 rfl fun a hf=>zS fun K h=>sp 1 hf rfl fun a hf=>zT h ?_
 refine zS fun K h=>sp 2 hf rfl fun a hf=>?_
 obtain ⟨r,hr,hF⟩:=aA hF
 refine zQ (v:=i6 r) hf hc aDn rfl (fun w hc=>(qP s_ f_ R O d M J X (((hc.pick k2).pick k2).pick k2) hr).mono fun e w h=>⟨h.1,(((h.2.unpick k2).unpick k2).unpick k2)⟩) fun a w hf hc=>sp 2 hf rfl fun a hf=>zT h ?_
 refine wp_ret ?_
 obtain rfl:=sj hF
 exact zO1 Tryz.results113 hf rfl ⟨rfl,hc⟩

def vX (N:Nat) (B:List Int):Option (bK (Unit) (aC × Int)) :=
 cond (decide (0 < ((B.length:Nat):Int)))
 (Option.bind (aU B 0) fun D=>
 Option.bind (oM N 0 D) fun H=>
 none)
 (some (.brk ()))
def vZ (N:Nat) (B:List Int):Option (bK (Unit) (aC × Int)) :=
 cond (decide (0 < ((B.length:Nat):Int)))
 (Option.bind (aU B 0) fun D=>
 none)
 (some (.brk ()))
def lD (N:Nat) (r:aB) (M:(Nat→Int) × Int) (O:(List (List Int))) (B:Int) (I:Int) (J:Int) (R:Int) (xv:Int):Option (Rs (Int × Int × Int)) :=
 Option.bind (Option.bind (inR xv 12) fun U=>
 Option.bind (aU O xv) fun D=>
 Option.bind (aU r.Stations xv) fun S=>
 cond (decide (((D.length:Nat):Int) < S.Places))
 (some true)
 (Option.bind (dG N D (⟨r,M.1⟩:aV) xv B) fun H=>
 some H)) fun rg=>
 cond rg
 (some (.ret (0,B,xv)))
 (some (.go (I,J,R)))
def iI (N:Nat) (r:aB) (D:List Int) (I:(Nat→Int) × Int) (X:(List (List Int))) (H:Int) (J:Int) (O:Int) (R:Int):Option (bK (Int × Int × Int × Int) (aC × Int)) :=
 cond (decide (H < ((D.length:Nat):Int)))
 (Option.bind (aU D H) fun U=>
 Option.bind (fK N (⟨r,I.1⟩:aV) H U) fun M=>
 Option.bind (dC N (⟨r,I.1⟩:aV) M.1 M.2 (rY (fun (zz:Int × Int × Int) (V:Int)=>lD N r I X H zz.1 zz.2.1 zz.2.2 V)) (.go (J,O,R))) fun S=>
 rsK S (fun B=>some (.cont (W (H + 1),B.1,B.2.1,B.2.2))) (fun B=>some (.brk (H,B.1,B.2.1,B.2.2))))
 (some (.brk (H,J,O,R)))
def iD (N:Nat) (r:aB) (B:List Int) (J:(Nat→Int) × Int) (O:(List (List Int))) (x:Int):Option (bK (Int) (aC × Int)) :=
 cond (decide (x < ((B.length:Nat):Int)))
 (Option.bind (aU B x) fun D=>
 Option.bind (cond (D != (-1)) (Option.bind (fE N (⟨r,J.1⟩:aV) x D) fun S=>
 Option.bind (cond (!S) (some true) (Option.bind (inR D 12) fun U=>
 Option.bind (aU O D) fun M=>
 Option.bind (aU r.Stations D) fun R=>
 some (decide (R.Places < ((M.length:Nat):Int))))) fun H=>
 some H) (some false)) fun I=>
 cond I
 (some (.ret ((⟨0,0⟩:aC),7)))
 (some (.cont (W (x + 1)))))
 (some (.brk x))
def kD (N:Nat) (r:aB) (B:List Int):Option (aC × Int) :=
 Option.bind (kB N r) (aB0 (fun M=>cond (M != 0)
 (some ((⟨0,0⟩:aC),M))
 (Option.bind (cond (((B.length:Nat):Int) != ((r.People.length:Nat):Int)) (some true) (Option.bind (fS N B r) fun S=>
 some (!S))) fun O=>
 cond O
 (some ((⟨0,0⟩:aC),2))
 (Option.bind (uM N B) fun X=>
 Option.bind (wS 12 X) fun un=>
 Option.bind (aS (fun (_:Unit)=>vZ N B) N ()) fun Z=>
 exK Z (fun (_:Unit)=>Option.bind (aS (fun (_:Unit)=>vX N B) N ()) fun R=>
 exK R (fun (_:Unit)=>some ((⟨0,0⟩:aC),5)) some) some)))
 (fun H=>cond (H.2 != 0)
 (some ((⟨0,0⟩:aC),H.2))
 (Option.bind (cond (((B.length:Nat):Int) != ((r.People.length:Nat):Int)) (some true) (Option.bind (fS N B r) fun U=>
 some (!U))) fun Y=>
 cond Y
 (some ((⟨0,0⟩:aC),2))
 (Option.bind (mF N (⟨r,H.1⟩:aV) B) fun I=>
 Option.bind (wS 12 I) fun d=>
 Option.bind (aS (fun J=>iD N r B H I J) N 0) fun b=>
 exK b (fun J=>Option.bind (aS (fun D=>iI N r B H I D.1 D.2.1 D.2.2.1 D.2.2.2) N (0,5,0,0)) fun V=>
 exK V (fun D=>some ((⟨D.2.2.1,D.2.2.2⟩:aC),D.2.1)) some) some))))
theorem xH {N:Nat} {G:aQ} {Lf:List Ent} {w:World} (r:aB) (B:List Int) {O:Option Addr} {R:Nat} {D:Option Addr} {H:Nat} {I:Option Addr} {M:Nat} (y:RdT aM G 1 O R r.People) (m:RdT bA G 2 D H r.Stations) (t:Rd G 1 I M (B.map aD)) (hc:Ctx G (Lf) w) {a6:aC × Int} (hF:kD N r B=some a6):Calls Tryz.prog 46 #[.agg #[.slice O r.People.length R,.slice D r.Stations.length H],.slice I B.length M] w (fun e w=>e=.returned (.tuple #[.agg #[i6 a6.1.Person,i6 a6.1.Station],i6 a6.2])∧Ctx G (Lf) w):=by
 unfold kD at hF
 refine aKq Tryz.func46 rfl Tryz.ntmps46 rfl fun a hf=>zS fun K h=>zB hf hc rfl fun Y a w hf hc=>zA hf hc yL rfl fun U a w hf hc=>sp 1 hf rfl fun a hf=>zT h ?_
 refine wp_scope_straight ?_
 refine wp_seq_k fun K2 h2=>bW ?_
 refine zN hf hc nY m1 rfl fun a w hf hc=>?_
 obtain ⟨ax,b0,hF⟩:=aA hF
 cases ax with
 | inl ax=>
  replace hF:=aG9 hF
  refine zC hf wY rfl (iY r y m hc b0) ?_
  rintro _ w ⟨rfl,hc⟩
  refine ⟨_,rfl,fun a hf=>?_⟩
  refine sp 3 hf rfl fun a hf=>zA hf hc aJf rfl fun an a w hf hc=>zA hf hc aNc rfl fun ak a w hf hc=>zW hf hc aLz u1 rfl fun w hc=>zW hf hc aGd u0 rfl fun w hc=>aL ?_
  refine h2 _ _ ?_
  refine wp_seq_k fun K3 h3=>wp_block ?_
  refine zS fun K h=>zL hf hc aD7 m0 rfl fun a w hf hc=>sp 2 hf rfl fun a hf=>zT h ?_
  refine zI hf rfl hF ?_ ?_ <;> clear hF <;> intro hF
  ·refine wp_seq_k fun K5 h5=>mB (fun θ=>[⟨none,none,4,pq U⟩,⟨none,some 3,5,i6 0⟩,⟨none,none,7,pq ak⟩,⟨some 0,none,25,.agg #[i6 0,i6 0]⟩,⟨some 1,none,26,i6 ax⟩,⟨some 3,none,5,i6 ax⟩]) (fun E θ=>.box ak [i6 ax] 34::.box an [.pointer none] 166::.box U [i6 0,i6 0] 86::.box Y [.slice O r.People.length R,.slice D r.Stations.length H] 78::Lf) [] (fun a w=>Has 115 a [(4,pq U),(5,i6 ax)]∧Ctx G (.box ak [i6 ax] 34::.box an [.pointer none] 166::.box U [i6 0,i6 0] 86::.box Y [.slice O r.People.length R,.slice D r.Stations.length H] 78::Lf) w) aT (by kernel_rfl) (by kernel_rfl) (iT.of hf ⟨rfl,rfl,rfl,trivial,trivial,trivial,trivial⟩) hc ⟨?_,?_,?_,?_,trivial⟩ ?_ ?_
   ·intro E θ a w hD hi hp he hc
    have hf:=he.h0
    refine zP hf rfl (cK (cells:=[i6 0,i6 0]) uW rfl rfl) fun a hf=>zD θ he hi hf 3 rfl rfl rfl hc
   ·intro E θ a w hD hi hp he hc
    have hf:=he.h0.mT he 2 rfl
    refine zL hf hc aD7 m0 rfl fun a w hf hc=>zD θ he hi hf 4 rfl rfl rfl hc
   ·intro E θ a w hD hi hp he hc
    have e0:=hp.o 0 rfl
    have hf:=(he.h0.mT he 0 rfl).mP he 3 rfl e0
    refine zW hf hc lJ u2 rfl fun w hc=>zG θ he hi hf rfl hc
   ·intro E θ a w hD hi hp he hc
    have e1:=hp.o 1 rfl
    have hf:=he.h0.mP he 4 rfl e1
    refine sp 1 hf rfl fun a hf=>zD θ he hi hf 5 rfl rfl rfl hc
   ·intro E θ a w p he hc
    have hf:=he.h0
    have e3:=p 3 rfl
    replace hf:=hf.more he 5 rfl (onP e3)
    replace hf:=hf.more he 0 rfl (onT)
    exact ⟨hf.kp rfl,hc⟩
   rintro a w ⟨hf,hc⟩
   refine h5 _ _ ?_
   refine wp_ret ?_
   refine bB ?_
   refine aH ?_
   refine vH ?_
   obtain rfl:=sj hF
   replace hc:=((hc.drop k3).drop k1).drop k0
   refine aC3 hf ?_
   exact aCo Tryz.results46 hf hc (eG (vs:=[i6 0,i6 0]) lM rfl rfl (bM (n:=2) m0 rfl)) (show iX _ 5=_ from rfl) ⟨rfl,(hc.drop k0)⟩
  ·refine zS fun K h=>sp 1 hf rfl fun a hf=>zP hf rfl (aW Tryz.underlying25 rfl) fun a hf=>zP hf rfl (pFA iK rfl) fun a hf=>zL hf hc gB m3 rfl fun a w hf hc=>zP hf rfl (aW Tryz.underlying75 rfl) fun a hf=>sp 2 hf rfl fun a hf=>?_
   obtain ⟨d8,b9,hF⟩:=aA hF
   refine fV 5 (fun a=>Has 115 a [(1,.slice I B.length M),(2,pq Y),(4,pq U),(6,pq an),(7,pq ak),(28,.slice I B.length M),(29,i6 ((B.length:Nat):Int)),(30,pq Y),(31,.slice O r.People.length R),(32,i6 ((r.People.length:Nat):Int)),(33,.bool (((B.length:Nat):Int) != ((r.People.length:Nat):Int))),(34,.bool (((B.length:Nat):Int) != ((r.People.length:Nat):Int))),(39,.bool d8)]) hc ?_ ?_
   ·cases hb:(((B.length:Nat):Int) != ((r.People.length:Nat):Int))
    ·rw [hb] at hf
     have hF:=gN hb b9
     refine sp 1 hf rfl fun a hf=>zP hf rfl (pMF (us:=[pq Y]) rfl rfl) fun a hf=>?_
     obtain ⟨d1,cq,hF⟩:=aA hF
     refine zQ (v:=.bool d1) hf hc aFi rfl (fun w hc=>(rU B r t y m (hc.pick k3) cq).mono fun e w h=>⟨h.1,(h.2.unpick k3)⟩) fun a w hf hc=>sp 2 hf rfl fun a hf=>?_
     obtain rfl:=sj hF
     exact aL ⟨hf.kp rfl,hc⟩
    ·rw [hb] at hf
     have hF:=fU hb b9
     obtain rfl:=sj hF
     refine stS hf rfl rfl rfl fun a hf=>stS hf rfl rfl rfl fun a hf=>stS hf rfl rfl rfl fun a hf=>stS hf rfl rfl rfl fun a hf=>sp 1 hf rfl fun a hf=>aL ⟨hf.kp rfl,hc⟩
   intro a w ⟨hf,hc⟩
   refine sp 1 hf rfl fun a hf=>zT h ?_
   refine zI hf rfl hF ?_ ?_ <;> clear hF <;> intro hF
   ·refine zS fun K h=>zP hf rfl (cK (cells:=[i6 0,i6 0]) uW rfl rfl) fun a hf=>zW hf hc lJ u2 rfl fun w hc=>sp 1 hf rfl fun a hf=>zT h ?_
    refine wp_ret ?_
    refine bB ?_
    refine aH ?_
    refine vH ?_
    obtain rfl:=sj hF
    replace hc:=((hc.drop k3).drop k1).drop k0
    refine aC3 hf ?_
    exact aCo Tryz.results46 hf hc (eG (vs:=[i6 0,i6 0]) lM rfl rfl (bM (n:=2) m0 rfl)) (show iX _ 5=_ from rfl) ⟨rfl,(hc.drop k0)⟩
   ·refine wp_skip ?_
    refine h3 _ _ ?_
    refine wp_seq_k fun K8 h8=>?_
    obtain ⟨ay,cs,hF⟩:=aA hF
    obtain ⟨un,dz,hF⟩:=aA hF
    replace hc:=hc.nilRow 0 0
    replace hc:=hc.nilRow 0 0
    refine mB (fun θ=>[⟨none,none,1,.slice I B.length M⟩,⟨none,none,2,pq Y⟩,⟨none,none,4,pq U⟩,⟨none,none,6,pq an⟩,⟨none,none,7,pq ak⟩,⟨some 0,none,41,.pointer none⟩,⟨some 1,none,42,.slice I B.length M⟩,⟨some 2,none,43,.agg ((aK (θ 16).h ay).map (Kd.v aM)).flatten.toArray⟩,⟨some 3,none,44,.pointer none⟩,⟨some 4,none,45,.func (.func 110) #[.pointer none] #[]⟩,⟨some 5,none,8,.pointer (some ⟨(θ 40).b,0,none⟩)⟩,⟨some 7,none,9,.func (.func 110) #[.pointer none] #[]⟩]) (fun E θ=>(bif E 6 then .box (θ 40).b ((aK (θ 16).h ay).map (Kd.v aM)).flatten 172 else bif E 5 then .box (θ 40).b [.slice none 0 0,.slice none 0 0,.slice none 0 0,.slice none 0 0,.slice none 0 0,.slice none 0 0,.slice none 0 0,.slice none 0 0,.slice none 0 0,.slice none 0 0,.slice none 0 0,.slice none 0 0] 172 else .row none 0 [] 0 0)::(bif E 2 then bZ aM (aK (θ 16).h ay) else .row none 0 [] 0 0)::.box ak [i6 ax] 34::.box an [.pointer none] 166::.box U [i6 0,i6 0] 86::.box Y [.slice O r.People.length R,.slice D r.Stations.length H] 78::Lf) [(6,2),(6,5)] (fun a w=>∃ (a1:Nat) (ap:Hds),Has 115 a [(1,.slice I B.length M),(2,pq Y),(4,pq U),(6,pq an),(7,pq ak),(8,pq a1),(9,.func (.func 110) #[.pointer none] #[])]∧Ctx G (.box a1 ((aK ap ay).map (Kd.v aM)).flatten 172::bZ aM (aK ap ay)::.box ak [i6 ax] 34::.box an [.pointer none] 166::.box U [i6 0,i6 0] 86::.box Y [.slice O r.People.length R,.slice D r.Stations.length H] 78::Lf) w) aT (by kernel_rfl) (by kernel_rfl) (iT.of hf ⟨rfl,rfl,rfl,rfl,rfl,trivial,trivial,trivial,trivial,trivial,trivial,trivial,trivial⟩) hc ⟨?_,?_,?_,?_,?_,?_,?_,?_,trivial⟩ ?_ ?_
    ·intro E θ a w hD hi hp he hc
     have hf:=he.h0.mT he 3 rfl
     refine zL hf hc mZ m3 rfl fun a w hf hc=>zD θ he hi hf 5 rfl rfl rfl hc
    ·intro E θ a w hD hi hp he hc
     have hf:=he.h0.mT he 0 rfl
     refine sp 1 hf rfl fun a hf=>zD θ he hi hf 6 rfl rfl rfl hc
    ·intro E θ a w hD hi hp he hc
     have e0:=hp.o 0 rfl
     have e1:=hp.o 1 rfl
     have e6:=hD.f 0 rfl hi
     try dsimp only at hc
     rw [hi,e6] at hc
     have hf:=(he.h0.mP he 5 rfl e0).mP he 6 rfl e1
     refine zC hf aK0 rfl (aA0 B t hc cs) ?_
     rintro _ w ⟨d0,rfl,hc⟩
     refine ⟨_,rfl,fun a hf=>?_⟩
     refine aL ?_
     refine jV ?_
     intro ds u bb
     replace hc:=((hc.drop k2).pick k0).pick k1
     refine ⟨(uQ θ 16 ⟨0,none,0,d0⟩),he.put hi bb hf rfl [] trivial ⟨qq,qq,qq,qq,qq,qq,qq,qq,qq,qq,qq,qq,trivial⟩,?_⟩
     try dsimp only
     rw [bV E 2,gU 2 e6 rfl]
     exact hc
    ·intro E θ a w hD hi hp he hc
     have hf:=he.h0.mT he 3 rfl
     refine zL hf hc mZ m3 rfl fun a w hf hc=>zD θ he hi hf 8 rfl rfl rfl hc
    ·intro E θ a w hD hi hp he hc
     have e3:=hp.o 3 rfl
     have hf:=he.h0.mP he 8 rfl e3
     refine zP hf rfl (pMF (vs:=[.pointer none]) (us:=[]) rfl rfl) fun a hf=>zD θ he hi hf 9 rfl rfl rfl hc
    ·intro E θ a w hD hi hp he hc
     have e6:=hD.f 1 rfl hi
     try dsimp only at hc
     rw [hi,e6] at hc
     have hf:=he.h0
     refine zA hf hc aBk rfl fun gv a w hf hc=>aL ?_
     refine jV ?_
     intro ds u bb
     replace hc:=hc.drop k1
     refine ⟨(uQ θ 40 ⟨gv,none,0,(fun _=>(none,0))⟩),he.put hi bb hf rfl [] trivial ⟨qq,qq,qq,qq,qq,qq,qq,qq,qq,qq,qq,qq,trivial⟩,?_⟩
     try dsimp only
     rw [bV E 5,gU 5 e6 rfl]
     exact hc
    ·intro E θ a w hD hi hp he hc
     have e2:=hp.o 2 rfl
     have e5:=hp.o 5 rfl
     try dsimp only at hc
     rw [e5,hi] at hc
     have hf:=(he.h0.mP he 7 rfl e2).mP he 10 rfl e5
     refine aH1 (n:=12) (vs:=((aK (θ 16).h ay).map (Kd.v aM)).flatten) hf hc rfl rfl rfl rfl aEq (oR dA dz) (aAj dA) rfl u0 fun w hc=>zG θ he hi hf rfl ?_
     try dsimp only
     rw [mG 6 e5,bV E 6]
     exact hc
    ·intro E θ a w hD hi hp he hc
     have e4:=hp.o 4 rfl
     have hf:=he.h0.mP he 9 rfl e4
     refine sp 1 hf rfl fun a hf=>zD θ he hi hf 11 rfl rfl rfl hc
    ·intro E θ a w p he hc
     have hf:=he.h0
     have e2:=p 2 rfl
     have e5:=p 5 rfl
     have e6:=p 6 rfl
     have e7:=p 7 rfl
     replace hf:=hf.more he 11 rfl (onP e7)
     replace hf:=hf.more he 10 rfl (onP e5)
     replace hf:=hf.more he 4 rfl (onT)
     replace hf:=hf.more he 3 rfl (onT)
     replace hf:=hf.more he 2 rfl (onT)
     replace hf:=hf.more he 1 rfl (onT)
     replace hf:=hf.more he 0 rfl (onT)
     try dsimp only at hc
     rw [e2,e5,e6] at hc
     exact ⟨(θ 40).b,(θ 16).h,hf.kp rfl,hc⟩
    rintro a w ⟨a1,ap,hf,hc⟩
    obtain ⟨G,bf,gx,hc,-⟩:=aNb oC hc k1
    refine h8 _ _ ?_
    refine wp_seq_k fun K9 h9=>zS fun K h=>sp 1 hf rfl fun a hf=>zP hf rfl (aW Tryz.underlying25 rfl) fun a hf=>sp 1 hf rfl fun a hf=>zT h ?_
    refine wp_block ?_
    obtain ⟨b8,cz,hF⟩:=aA hF
    let S11:Unit→Act→World→Prop:=(fun (zz:Unit) a w=>Has 115 a [(1,.slice I B.length M),(2,pq Y),(4,pq U),(6,pq an),(7,pq ak),(8,pq a1),(9,.func (.func 110) #[.pointer none] #[]),(46,.slice I B.length M),(47,i6 ((B.length:Nat):Int)),(48,i6 0)]∧Ctx G (.box a1 ((aK ap ay).map (Kd.v aM)).flatten 172::.box ak [i6 ax] 34::.box an [.pointer none] 166::.box U [i6 0,i6 0] 86::.box Y [.slice O r.People.length R,.slice D r.Stations.length H] 78::Lf) w)
    have dc:∀ (zz:Unit) a w,b8=.go zz→S11 zz a w→K9 a w:=by
     rintro ⟨⟩ a w rfl ⟨hf,hc⟩
     replace hF:=bH hF
     refine h9 _ _ ?_
     refine zS fun K h=>zP hf rfl (cK (cells:=[i6 0,i6 0]) uW rfl rfl) fun a hf=>zA hf hc yL rfl fun bn a w hf hc=>zW hf hc lJ u0 rfl fun w hc=>zW hf hc aGd u2 rfl fun w hc=>zT h ?_
     refine wp_seq_k fun K13 gr=>wp_label ?_
     refine gr _ _ ?_
     refine wp_seq_k fun K14 gn=>zS fun K h=>sp 1 hf rfl fun a hf=>zP hf rfl (aW Tryz.underlying25 rfl) fun a hf=>sp 1 hf rfl fun a hf=>zT h ?_
     refine wp_block ?_
     obtain ⟨cb,dk,hF⟩:=aA hF
     let S16:Unit→Act→World→Prop:=(fun (zz:Unit) a w=>Has 115 a [(2,pq Y),(4,pq U),(6,pq an),(7,pq ak),(8,pq a1),(12,pq bn),(78,.slice I B.length M),(79,i6 ((B.length:Nat):Int)),(80,i6 0)]∧Ctx G (.box bn [i6 0,i6 0] 86::.box a1 ((aK ap ay).map (Kd.v aM)).flatten 172::.box ak [i6 5] 34::.box an [.pointer none] 166::.box U [i6 0,i6 0] 86::.box Y [.slice O r.People.length R,.slice D r.Stations.length H] 78::Lf) w)
     have c7:∀ (zz:Unit) a w,cb=.go zz→S16 zz a w→K14 a w:=by
      rintro ⟨⟩ a w rfl ⟨hf,hc⟩
      replace hF:=bH hF
      refine gn _ _ ?_
      refine wp_seq_k fun K17 d9=>mB (fun θ=>[⟨none,none,4,pq U⟩,⟨none,none,7,pq ak⟩,⟨none,none,12,pq bn⟩,⟨some 0,none,113,.agg #[i6 0,i6 0]⟩,⟨some 1,none,114,i6 5⟩,⟨some 3,none,5,i6 5⟩]) (fun E θ=>.box bn [i6 0,i6 0] 86::.box a1 ((aK ap ay).map (Kd.v aM)).flatten 172::.box ak [i6 5] 34::.box an [.pointer none] 166::.box U [i6 0,i6 0] 86::.box Y [.slice O r.People.length R,.slice D r.Stations.length H] 78::Lf) [] (fun a w=>Has 115 a [(4,pq U),(5,i6 5)]∧Ctx G (.box bn [i6 0,i6 0] 86::.box a1 ((aK ap ay).map (Kd.v aM)).flatten 172::.box ak [i6 5] 34::.box an [.pointer none] 166::.box U [i6 0,i6 0] 86::.box Y [.slice O r.People.length R,.slice D r.Stations.length H] 78::Lf) w) aT (by kernel_rfl) (by kernel_rfl) (iT.of hf ⟨rfl,rfl,rfl,trivial,trivial,trivial,trivial⟩) hc ⟨?_,?_,?_,?_,trivial⟩ ?_ ?_
      ·intro E θ a w hD hi hp he hc
       have hf:=he.h0.mT he 2 rfl
       refine zN hf hc lM m0 rfl fun a w hf hc=>zD θ he hi hf 3 rfl rfl rfl hc
      ·intro E θ a w hD hi hp he hc
       have hf:=he.h0.mT he 1 rfl
       refine zL hf hc aD7 m2 rfl fun a w hf hc=>zD θ he hi hf 4 rfl rfl rfl hc
      ·intro E θ a w hD hi hp he hc
       have e0:=hp.o 0 rfl
       have hf:=(he.h0.mT he 0 rfl).mP he 3 rfl e0
       refine zW hf hc lJ u4 rfl fun w hc=>zG θ he hi hf rfl hc
      ·intro E θ a w hD hi hp he hc
       have e1:=hp.o 1 rfl
       have hf:=he.h0.mP he 4 rfl e1
       refine sp 1 hf rfl fun a hf=>zD θ he hi hf 5 rfl rfl rfl hc
      ·intro E θ a w p he hc
       have hf:=he.h0
       have e3:=p 3 rfl
       replace hf:=hf.more he 5 rfl (onP e3)
       replace hf:=hf.more he 0 rfl (onT)
       exact ⟨hf.kp rfl,hc⟩
      rintro a w ⟨hf,hc⟩
      refine d9 _ _ ?_
      refine wp_ret ?_
      refine vH ?_
      obtain rfl:=sj hF
      replace hc:=hc.down bf
      replace hc:=((((hc.drop k5).drop k3).drop k2).drop k1).drop k0
      refine aC3 hf ?_
      exact aCo Tryz.results46 hf hc (eG (vs:=[i6 0,i6 0]) lM rfl rfl (bM (n:=2) m0 rfl)) (show iX _ 5=_ from rfl) ⟨rfl,(hc.drop k0)⟩
     have g9:∀ r,cb=.out r→r=a6:=by
      rintro r rfl
      exact sj hF
     refine bY N (bX (S:=S16) (x:=cb) ?_ N () _ _ ⟨hf.kp rfl,hc⟩ dk)
     clear hF hf hc
     rintro ⟨⟩ ii a w KB16 ⟨hf,hc⟩ hF bp g7
     unfold vX at hF
     refine zS fun K h=>sp 1 hf rfl fun a hf=>zT h ?_
     refine wp_seq_k fun K19 dy=>zI hf rfl hF ?_ ?_ <;> clear hF <;> intro hF
     ·refine wp_skip ?_
      refine dy _ _ ?_
      refine wp_seq_k fun K20 i2=>wp_block ?_
      refine zS fun K h=>sp 1 hf rfl fun a hf=>?_
      obtain ⟨d5,ct,hF⟩:=aA hF
      obtain ⟨iq,o,qa,qp⟩:=(t.mono bf).atm ct
      refine zP hf rfl (pIA Tryz.underlying25 eH rfl rfl qa) fun a hf=>zE hf hc rfl (bF bG rfl (aR (j:=0) qp rfl)) fun a w hf hc=>zA hf hc aJ9 rfl fun iy a w hf hc=>zW hf hc eH u0 rfl fun w hc=>sp 1 hf rfl fun a hf=>zT h ?_
      refine zS fun K h=>zL hf hc mZ m4 rfl fun a w hf hc=>zL hf hc bG m0 rfl fun a w hf hc=>sp 1 hf rfl fun a hf=>?_
      obtain ⟨i4,c6,hF⟩:=aA hF
      refine zC hf aE6 rfl (vK 0 d5 hc c6) ?_
      rintro _ w ⟨g8,g3,g2,rfl,hc⟩
      refine ⟨_,rfl,fun a hf=>?_⟩
      refine zT h ?_
      exact aBs hF
     ·refine wp_exit ?_
      refine aN ?_
      refine aN ?_
      have he:=sj hF
      rw [← he] at bp
      refine cT ?_
      exact c7 _ _ _ bp ⟨hf.kp rfl,hc⟩
    have gy:∀ r,b8=.out r→r=a6:=by
     rintro r rfl
     exact sj hF
    refine bY N (bX (S:=S11) (x:=b8) ?_ N () _ _ ⟨hf.kp rfl,hc⟩ cz)
    clear hF hf hc
    rintro ⟨⟩ ic a w KB11 ⟨hf,hc⟩ hF bk ip
    unfold vZ at hF
    refine zS fun K h=>sp 1 hf rfl fun a hf=>zT h ?_
    refine wp_seq_k fun K24 dr=>zI hf rfl hF ?_ ?_ <;> clear hF <;> intro hF
    ·refine wp_skip ?_
     refine dr _ _ ?_
     refine wp_seq_k fun K25 i0=>wp_block ?_
     refine zS fun K h=>sp 1 hf rfl fun a hf=>?_
     obtain ⟨iz,dm,hF⟩:=aA hF
     obtain ⟨ig,i5,c1,c9⟩:=(t.mono bf).atm dm
     refine zP hf rfl (pIA Tryz.underlying25 eH rfl rfl c1) fun a hf=>zE hf hc rfl (bF bG rfl (aR (j:=0) c9 rfl)) fun a w hf hc=>sp 2 hf rfl fun a hf=>zT h ?_
     refine wp_seq_k fun K27 ir=>aBs hF
    ·refine wp_exit ?_
     refine aN ?_
     refine aN ?_
     have he:=sj hF
     rw [← he] at bk
     refine cT ?_
     exact dc _ _ _ bk ⟨hf.kp rfl,hc⟩
 | inr aj=>
  replace hF:=aHk hF
  have dd:=b0
  refine zC hf wY rfl (iY r y m hc dd) ?_
  rintro _ w ⟨d,rfl,hc⟩
  refine ⟨_,rfl,fun a hf=>?_⟩
  refine sp 3 hf rfl fun a hf=>zA hf hc aJf rfl fun X a w hf hc=>zA hf hc aNc rfl fun Z a w hf hc=>zW hf hc aLz u1 rfl fun w hc=>zW hf hc aGd u0 rfl fun w hc=>aL ?_
  obtain ⟨G,V,ai,hc,-⟩:=aHz hc k2
  replace ai:=aIh ai
  refine h2 _ _ ?_
  refine wp_seq_k fun K28 d3=>wp_block ?_
  refine zS fun K h=>zL hf hc aD7 m0 rfl fun a w hf hc=>sp 2 hf rfl fun a hf=>zT h ?_
  refine zI hf rfl hF ?_ ?_ <;> clear hF <;> intro hF
  ·refine wp_seq_k fun K30 dt=>mB (fun θ=>[⟨none,none,4,pq U⟩,⟨none,some 3,5,i6 0⟩,⟨none,none,7,pq Z⟩,⟨some 0,none,25,.agg #[i6 0,i6 0]⟩,⟨some 1,none,26,i6 aj.2⟩,⟨some 3,none,5,i6 aj.2⟩]) (fun E θ=>.box Z [i6 aj.2] 34::.box X [pq d] 166::.box U [i6 0,i6 0] 86::.box Y [.slice O r.People.length R,.slice D r.Stations.length H] 78::Lf) [] (fun a w=>Has 115 a [(4,pq U),(5,i6 aj.2)]∧Ctx G (.box Z [i6 aj.2] 34::.box X [pq d] 166::.box U [i6 0,i6 0] 86::.box Y [.slice O r.People.length R,.slice D r.Stations.length H] 78::Lf) w) aT (by kernel_rfl) (by kernel_rfl) (iT.of hf ⟨rfl,rfl,rfl,trivial,trivial,trivial,trivial⟩) hc ⟨?_,?_,?_,?_,trivial⟩ ?_ ?_
   ·intro E θ a w hD hi hp he hc
    have hf:=he.h0
    refine zP hf rfl (cK (cells:=[i6 0,i6 0]) uW rfl rfl) fun a hf=>zD θ he hi hf 3 rfl rfl rfl hc
   ·intro E θ a w hD hi hp he hc
    have hf:=he.h0.mT he 2 rfl
    refine zL hf hc aD7 m0 rfl fun a w hf hc=>zD θ he hi hf 4 rfl rfl rfl hc
   ·intro E θ a w hD hi hp he hc
    have e0:=hp.o 0 rfl
    have hf:=(he.h0.mT he 0 rfl).mP he 3 rfl e0
    refine zW hf hc lJ u2 rfl fun w hc=>zG θ he hi hf rfl hc
   ·intro E θ a w hD hi hp he hc
    have e1:=hp.o 1 rfl
    have hf:=he.h0.mP he 4 rfl e1
    refine sp 1 hf rfl fun a hf=>zD θ he hi hf 5 rfl rfl rfl hc
   ·intro E θ a w p he hc
    have hf:=he.h0
    have e3:=p 3 rfl
    replace hf:=hf.more he 5 rfl (onP e3)
    replace hf:=hf.more he 0 rfl (onT)
    exact ⟨hf.kp rfl,hc⟩
   rintro a w ⟨hf,hc⟩
   refine dt _ _ ?_
   refine wp_ret ?_
   refine bB ?_
   refine aH ?_
   refine vH ?_
   obtain rfl:=sj hF
   replace hc:=hc.down V
   replace hc:=((hc.drop k3).drop k1).drop k0
   refine aC3 hf ?_
   exact aCo Tryz.results46 hf hc (eG (vs:=[i6 0,i6 0]) lM rfl rfl (bM (n:=2) m0 rfl)) (show iX _ 5=_ from rfl) ⟨rfl,(hc.drop k0)⟩
  ·refine zS fun K h=>sp 1 hf rfl fun a hf=>zP hf rfl (aW Tryz.underlying25 rfl) fun a hf=>zP hf rfl (pFA iK rfl) fun a hf=>zL hf hc gB m3 rfl fun a w hf hc=>zP hf rfl (aW Tryz.underlying75 rfl) fun a hf=>sp 2 hf rfl fun a hf=>?_
   obtain ⟨d4,bz,hF⟩:=aA hF
   refine fV 5 (fun a=>Has 115 a [(1,.slice I B.length M),(2,pq Y),(4,pq U),(6,pq X),(7,pq Z),(28,.slice I B.length M),(29,i6 ((B.length:Nat):Int)),(30,pq Y),(31,.slice O r.People.length R),(32,i6 ((r.People.length:Nat):Int)),(33,.bool (((B.length:Nat):Int) != ((r.People.length:Nat):Int))),(34,.bool (((B.length:Nat):Int) != ((r.People.length:Nat):Int))),(39,.bool d4)]) hc ?_ ?_
   ·cases hb:(((B.length:Nat):Int) != ((r.People.length:Nat):Int))
    ·rw [hb] at hf
     have hF:=gN hb bz
     refine sp 1 hf rfl fun a hf=>zP hf rfl (pMF (us:=[pq Y]) rfl rfl) fun a hf=>?_
     obtain ⟨d2,cr,hF⟩:=aA hF
     refine zQ (v:=.bool d2) hf hc aFi rfl (fun w hc=>(rU B r (t.mono V) (y.mono V) (m.mono V) (hc.pick k3) cr).mono fun e w h=>⟨h.1,(h.2.unpick k3)⟩) fun a w hf hc=>sp 2 hf rfl fun a hf=>?_
     obtain rfl:=sj hF
     exact aL ⟨hf.kp rfl,hc⟩
    ·rw [hb] at hf
     have hF:=fU hb bz
     obtain rfl:=sj hF
     refine stS hf rfl rfl rfl fun a hf=>stS hf rfl rfl rfl fun a hf=>stS hf rfl rfl rfl fun a hf=>stS hf rfl rfl rfl fun a hf=>sp 1 hf rfl fun a hf=>aL ⟨hf.kp rfl,hc⟩
   intro a w ⟨hf,hc⟩
   refine sp 1 hf rfl fun a hf=>zT h ?_
   refine zI hf rfl hF ?_ ?_ <;> clear hF <;> intro hF
   ·refine zS fun K h=>zP hf rfl (cK (cells:=[i6 0,i6 0]) uW rfl rfl) fun a hf=>zW hf hc lJ u2 rfl fun w hc=>sp 1 hf rfl fun a hf=>zT h ?_
    refine wp_ret ?_
    refine bB ?_
    refine aH ?_
    refine vH ?_
    obtain rfl:=sj hF
    replace hc:=hc.down V
    replace hc:=((hc.drop k3).drop k1).drop k0
    refine aC3 hf ?_
    exact aCo Tryz.results46 hf hc (eG (vs:=[i6 0,i6 0]) lM rfl rfl (bM (n:=2) m0 rfl)) (show iX _ 5=_ from rfl) ⟨rfl,(hc.drop k0)⟩
   ·refine wp_skip ?_
    refine d3 _ _ ?_
    refine wp_seq_k fun K33 ga=>?_
    obtain ⟨aa,dp,hF⟩:=aA hF
    obtain ⟨g4,cg,hF⟩:=aA hF
    replace hc:=hc.nilRow 0 0
    replace hc:=hc.nilRow 0 0
    refine mB (fun θ=>[⟨none,none,1,.slice I B.length M⟩,⟨none,none,2,pq Y⟩,⟨none,none,4,pq U⟩,⟨none,none,6,pq X⟩,⟨none,none,7,pq Z⟩,⟨some 0,none,41,pq d⟩,⟨some 1,none,42,.slice I B.length M⟩,⟨some 2,none,43,.agg ((aK (θ 16).h aa).map (Kd.v aM)).flatten.toArray⟩,⟨some 3,none,44,pq d⟩,⟨some 4,none,45,.func (.func 110) #[pq d] #[]⟩,⟨some 5,none,8,.pointer (some ⟨(θ 40).b,0,none⟩)⟩,⟨some 7,none,9,.func (.func 110) #[pq d] #[]⟩]) (fun E θ=>(bif E 6 then .box (θ 40).b ((aK (θ 16).h aa).map (Kd.v aM)).flatten 172 else bif E 5 then .box (θ 40).b [.slice none 0 0,.slice none 0 0,.slice none 0 0,.slice none 0 0,.slice none 0 0,.slice none 0 0,.slice none 0 0,.slice none 0 0,.slice none 0 0,.slice none 0 0,.slice none 0 0,.slice none 0 0] 172 else .row none 0 [] 0 0)::(bif E 2 then bZ aM (aK (θ 16).h aa) else .row none 0 [] 0 0)::.box Z [i6 aj.2] 34::.box X [pq d] 166::.box U [i6 0,i6 0] 86::.box Y [.slice O r.People.length R,.slice D r.Stations.length H] 78::Lf) [(6,2),(6,5)] (fun a w=>∃ (g:Nat) (i:Hds),Has 115 a [(1,.slice I B.length M),(2,pq Y),(4,pq U),(6,pq X),(7,pq Z),(8,pq g),(9,.func (.func 110) #[pq d] #[])]∧Ctx G (.box g ((aK i aa).map (Kd.v aM)).flatten 172::bZ aM (aK i aa)::.box Z [i6 aj.2] 34::.box X [pq d] 166::.box U [i6 0,i6 0] 86::.box Y [.slice O r.People.length R,.slice D r.Stations.length H] 78::Lf) w) aT (by kernel_rfl) (by kernel_rfl) (iT.of hf ⟨rfl,rfl,rfl,rfl,rfl,trivial,trivial,trivial,trivial,trivial,trivial,trivial,trivial⟩) hc ⟨?_,?_,?_,?_,?_,?_,?_,?_,trivial⟩ ?_ ?_
    ·intro E θ a w hD hi hp he hc
     have hf:=he.h0.mT he 3 rfl
     refine zL hf hc mZ m3 rfl fun a w hf hc=>zD θ he hi hf 5 rfl rfl rfl hc
    ·intro E θ a w hD hi hp he hc
     have hf:=he.h0.mT he 0 rfl
     refine sp 1 hf rfl fun a hf=>zD θ he hi hf 6 rfl rfl rfl hc
    ·intro E θ a w hD hi hp he hc
     have e0:=hp.o 0 rfl
     have e1:=hp.o 1 rfl
     have e6:=hD.f 0 rfl hi
     try dsimp only at hc
     rw [hi,e6] at hc
     have hf:=(he.h0.mP he 5 rfl e0).mP he 6 rfl e1
     refine zC hf aK0 rfl (xZ (⟨r,aj.1⟩:aV) B (y.mono V) (m.mono V) ai (t.mono V) hc dp) ?_
     rintro _ w ⟨cf,rfl,hc⟩
     refine ⟨_,rfl,fun a hf=>?_⟩
     refine aL ?_
     refine jV ?_
     intro ds u bb
     replace hc:=((hc.drop k2).pick k0).pick k1
     refine ⟨(uQ θ 16 ⟨0,none,0,cf⟩),he.put hi bb hf rfl [] trivial ⟨qq,qq,qq,qq,qq,qq,qq,qq,qq,qq,qq,qq,trivial⟩,?_⟩
     try dsimp only
     rw [bV E 2,gU 2 e6 rfl]
     exact hc
    ·intro E θ a w hD hi hp he hc
     have hf:=he.h0.mT he 3 rfl
     refine zL hf hc mZ m3 rfl fun a w hf hc=>zD θ he hi hf 8 rfl rfl rfl hc
    ·intro E θ a w hD hi hp he hc
     have e3:=hp.o 3 rfl
     have hf:=he.h0.mP he 8 rfl e3
     refine zP hf rfl (pMF (vs:=[pq d]) (us:=[]) rfl rfl) fun a hf=>zD θ he hi hf 9 rfl rfl rfl hc
    ·intro E θ a w hD hi hp he hc
     have e6:=hD.f 1 rfl hi
     try dsimp only at hc
     rw [hi,e6] at hc
     have hf:=he.h0
     refine zA hf hc aBk rfl fun di a w hf hc=>aL ?_
     refine jV ?_
     intro ds u bb
     replace hc:=hc.drop k1
     refine ⟨(uQ θ 40 ⟨di,none,0,(fun _=>(none,0))⟩),he.put hi bb hf rfl [] trivial ⟨qq,qq,qq,qq,qq,qq,qq,qq,qq,qq,qq,qq,trivial⟩,?_⟩
     try dsimp only
     rw [bV E 5,gU 5 e6 rfl]
     exact hc
    ·intro E θ a w hD hi hp he hc
     have e2:=hp.o 2 rfl
     have e5:=hp.o 5 rfl
     try dsimp only at hc
     rw [e5,hi] at hc
     have hf:=(he.h0.mP he 7 rfl e2).mP he 10 rfl e5
     refine aH1 (n:=12) (vs:=((aK (θ 16).h aa).map (Kd.v aM)).flatten) hf hc rfl rfl rfl rfl aEq (oR dA cg) (aAj dA) rfl u0 fun w hc=>zG θ he hi hf rfl ?_
     try dsimp only
     rw [mG 6 e5,bV E 6]
     exact hc
    ·intro E θ a w hD hi hp he hc
     have e4:=hp.o 4 rfl
     have hf:=he.h0.mP he 9 rfl e4
     refine sp 1 hf rfl fun a hf=>zD θ he hi hf 11 rfl rfl rfl hc
    ·intro E θ a w p he hc
     have hf:=he.h0
     have e2:=p 2 rfl
     have e5:=p 5 rfl
     have e6:=p 6 rfl
     have e7:=p 7 rfl
     replace hf:=hf.more he 11 rfl (onP e7)
     replace hf:=hf.more he 10 rfl (onP e5)
     replace hf:=hf.more he 4 rfl (onT)
     replace hf:=hf.more he 3 rfl (onT)
     replace hf:=hf.more he 2 rfl (onT)
     replace hf:=hf.more he 1 rfl (onT)
     replace hf:=hf.more he 0 rfl (onT)
     try dsimp only at hc
     rw [e2,e5,e6] at hc
     exact ⟨(θ 40).b,(θ 16).h,hf.kp rfl,hc⟩
    rintro a w ⟨g,i,hf,hc⟩
    obtain ⟨G,k,bt,hc,-⟩:=aNb oC hc k1
    refine ga _ _ ?_
    refine wp_seq_k fun K34 gp=>zS fun K h=>sp 1 hf rfl fun a hf=>zP hf rfl (aW Tryz.underlying25 rfl) fun a hf=>sp 1 hf rfl fun a hf=>zT h ?_
    refine wp_block ?_
    obtain ⟨b1,c0,hF⟩:=aA hF
    let S36:Int→Act→World→Prop:=(fun (zz:Int) a w=>Has 115 a [(1,.slice I B.length M),(2,pq Y),(4,pq U),(6,pq X),(7,pq Z),(8,pq g),(9,.func (.func 110) #[pq d] #[]),(46,.slice I B.length M),(47,i6 ((B.length:Nat):Int)),(48,i6 zz)]∧Ctx G (.box g ((aK i aa).map (Kd.v aM)).flatten 172::.box Z [i6 aj.2] 34::.box X [pq d] 166::.box U [i6 0,i6 0] 86::.box Y [.slice O r.People.length R,.slice D r.Stations.length H] 78::Lf) w)
    have cu:∀ (zz:Int) a w,b1=.go zz→S36 zz a w→K34 a w:=by
     rintro x a w rfl ⟨hf,hc⟩
     replace hF:=bH hF
     refine gp _ _ ?_
     refine zS fun K h=>zP hf rfl (cK (cells:=[i6 0,i6 0]) uW rfl rfl) fun a hf=>zA hf hc yL rfl fun q a w hf hc=>zW hf hc lJ u0 rfl fun w hc=>zW hf hc aGd u2 rfl fun w hc=>zT h ?_
     refine wp_seq_k fun K38 dv=>wp_label ?_
     refine dv _ _ ?_
     refine wp_seq_k fun K39 gj=>zS fun K h=>sp 1 hf rfl fun a hf=>zP hf rfl (aW Tryz.underlying25 rfl) fun a hf=>sp 1 hf rfl fun a hf=>zT h ?_
     refine wp_block ?_
     obtain ⟨bx,cv,hF⟩:=aA hF
     let S41:(Int × Int × Int × Int)→Act→World→Prop:=(fun (zz:Int × Int × Int × Int) a w=>∃ (Ds:List Nat),Has ⟨115,tR Ds⟩ a [(2,pq Y),(4,pq U),(6,pq X),(7,pq Z),(8,pq g),(12,pq q),(78,.slice I B.length M),(79,i6 ((B.length:Nat):Int)),(80,i6 zz.1)]∧Ctx G (.box q [i6 zz.2.2.1,i6 zz.2.2.2] 86::.box g ((aK i aa).map (Kd.v aM)).flatten 172::.box Z [i6 zz.2.1] 34::.box X [pq d] 166::.box U [i6 0,i6 0] 86::.box Y [.slice O r.People.length R,.slice D r.Stations.length H] 78::(yC Ds++Lf)) w)
     have b4:∀ (zz:Int × Int × Int × Int) a w,bx=.go zz→S41 zz a w→K39 a w:=by
      rintro ⟨z,a5,aq,ar⟩ a w rfl ⟨Ds,hf,hc⟩
      replace hF:=bH hF
      refine gj _ _ ?_
      refine wp_seq_k fun K42 d7=>mB (fun θ=>[⟨none,none,4,pq U⟩,⟨none,none,7,pq Z⟩,⟨none,none,12,pq q⟩,⟨some 0,none,113,.agg #[i6 aq,i6 ar]⟩,⟨some 1,none,114,i6 a5⟩,⟨some 3,none,5,i6 a5⟩]) (fun E θ=>.box q [i6 aq,i6 ar] 86::.box g ((aK i aa).map (Kd.v aM)).flatten 172::.box Z [i6 a5] 34::.box X [pq d] 166::(bif E 2 then .box U [i6 aq,i6 ar] 86 else .box U [i6 0,i6 0] 86)::.box Y [.slice O r.People.length R,.slice D r.Stations.length H] 78::(yC Ds++Lf)) [] (fun a w=>Has ⟨115,tR Ds⟩ a [(4,pq U),(5,i6 a5)]∧Ctx G (.box q [i6 aq,i6 ar] 86::.box g ((aK i aa).map (Kd.v aM)).flatten 172::.box Z [i6 a5] 34::.box X [pq d] 166::.box U [i6 aq,i6 ar] 86::.box Y [.slice O r.People.length R,.slice D r.Stations.length H] 78::(yC Ds++Lf)) w) aT (by kernel_rfl) (by kernel_rfl) (iT.of hf ⟨rfl,rfl,rfl,trivial,trivial,trivial,trivial⟩) hc ⟨?_,?_,?_,?_,trivial⟩ ?_ ?_
      ·intro E θ a w hD hi hp he hc
       have hf:=he.h0.mT he 2 rfl
       refine zN hf hc lM m0 rfl fun a w hf hc=>zD θ he hi hf 3 rfl rfl rfl hc
      ·intro E θ a w hD hi hp he hc
       have hf:=he.h0.mT he 1 rfl
       refine zL hf hc aD7 m2 rfl fun a w hf hc=>zD θ he hi hf 4 rfl rfl rfl hc
      ·intro E θ a w hD hi hp he hc
       have e0:=hp.o 0 rfl
       try dsimp only at hc
       rw [hi] at hc
       have hf:=(he.h0.mT he 0 rfl).mP he 3 rfl e0
       refine zW hf hc lJ u4 rfl fun w hc=>zG θ he hi hf rfl ?_
       try dsimp only
       rw [bV E 2]
       exact hc
      ·intro E θ a w hD hi hp he hc
       have e1:=hp.o 1 rfl
       have hf:=he.h0.mP he 4 rfl e1
       refine sp 1 hf rfl fun a hf=>zD θ he hi hf 5 rfl rfl rfl hc
      ·intro E θ a w p he hc
       have hf:=he.h0
       have e2:=p 2 rfl
       have e3:=p 3 rfl
       replace hf:=hf.more he 5 rfl (onP e3)
       replace hf:=hf.more he 0 rfl (onT)
       try dsimp only at hc
       rw [e2] at hc
       exact ⟨hf.kp rfl,hc⟩
      rintro a w ⟨hf,hc⟩
      refine d7 _ _ ?_
      refine wp_ret ?_
      refine vH ?_
      obtain rfl:=sj hF
      replace hc:=hc.down k
      replace hc:=hc.down V
      replace hc:=((((hc.drop k5).drop k3).drop k2).drop k1).drop k0
      refine aC3 hf ?_
      refine aGb [.box U [i6 aq,i6 ar] 86] Ds hc fun w hc=>?_
      replace hc:Ctx _ (.box U [i6 aq,i6 ar] 86::Lf) w:=hc
      exact aCo Tryz.results46 hf hc (eG (vs:=[i6 aq,i6 ar]) lM rfl rfl (bM (n:=2) m0 rfl)) (show iX _ 5=_ from rfl) ⟨rfl,(hc.drop k0)⟩
     have ik:∀ r,bx=.out r→r=a6:=by
      rintro r rfl
      exact sj hF
     replace hf:=aMm hf
     replace hc:Ctx G (.box q [i6 0,i6 0] 86::.box g ((aK i aa).map (Kd.v aM)).flatten 172::.box Z [i6 5] 34::.box X [pq d] 166::.box U [i6 0,i6 0] 86::.box Y [.slice O r.People.length R,.slice D r.Stations.length H] 78::(yC []++Lf)) w:=hc
     refine bY N (bX (S:=S41) (x:=bx) ?_ N (0,5,0,0) _ _ ⟨[],hf.kp rfl,hc⟩ cv)
     clear hF hf hc
     rintro ⟨z,a5,aq,ar⟩ cd a w KB41 ⟨Ds,hf,hc⟩ hF az df
     unfold iI at hF
     refine zS fun K h=>sp 1 hf rfl fun a hf=>zT h ?_
     refine wp_seq_k fun K44 gq=>zI hf rfl hF ?_ ?_ <;> clear hF <;> intro hF
     ·refine wp_skip ?_
      refine gq _ _ ?_
      refine wp_seq_k fun K45 gs=>wp_block ?_
      refine zS fun K h=>sp 1 hf rfl fun a hf=>?_
      obtain ⟨d6,c4,hF⟩:=aA hF
      obtain ⟨g1,i1,da,cj⟩:=((t.mono V).mono k).atm c4
      refine zP hf rfl (pIA Tryz.underlying25 eH rfl rfl da) fun a hf=>zE hf hc rfl (bF bG rfl (aR (j:=0) cj rfl)) fun a w hf hc=>zA hf hc aJ9 rfl fun s a w hf hc=>zW hf hc eH u0 rfl fun w hc=>sp 1 hf rfl fun a hf=>zT h ?_
      refine zS fun K h=>zL hf hc mZ m4 rfl fun a w hf hc=>zL hf hc bG m0 rfl fun a w hf hc=>sp 1 hf rfl fun a hf=>?_
      obtain ⟨am,cn,hF⟩:=aA hF
      refine zC hf aE6 rfl (oO (⟨r,aj.1⟩:aV) z d6 ((y.mono V).mono k) ((m.mono V).mono k) (ai.mono k) hc cn) ?_
      rintro _ w ⟨a3,a2,a4,rfl,hc⟩
      refine ⟨_,rfl,fun a hf=>?_⟩
      refine zT h ?_
      obtain ⟨dq,dn,hF⟩:=aA hF
      refine aL5 (C:=[.box a3 [pq d] 166,.box a2 [i6 am.1] 3,.box a4 [i6 am.2] 3]) (C2:=[.box a3 [pq d] 166,.box a2 [i6 am.1] 3,.box a4 [i6 am.2] 3]) (L0:=[.box s [i6 z] 3,.box q [i6 aq,i6 ar] 86,.box g ((aK i aa).map (Kd.v aM)).flatten 172,.box Z [i6 a5] 34,.box X [pq d] 166,.box U [i6 0,i6 0] 86,.box Y [.slice O r.People.length R,.slice D r.Stations.length H] 78]) (Lf:=(yC Ds++Lf)) (encs:=fun x:Int=>[i6 x]) 3 (by decide) (fun (zz:Int × Int × Int) L=>L=[.box s [i6 z] 3,.box q [i6 zz.2.1,i6 zz.2.2] 86,.box g ((aK i aa).map (Kd.v aM)).flatten 172,.box Z [i6 zz.1] 34,.box X [pq d] 166,.box U [i6 0,i6 0] 86,.box Y [.slice O r.People.length R,.slice D r.Stations.length H] 78]) (fun (zz:Int × Int × Int) (gd:Int)=>lD N r aj aa z zz.1 zz.2.1 zz.2.2 gd) (a5,aq,ar) dq hf hc rfl aG4 (fun _=>rfl) rfl rfl ?_ ?_ ?_ ?_
      ·intro lq mq J L Lx w hy hJ hc
       exact nO (⟨r,aj.1⟩:aV) am.1 am.2 ((y.mono V).mono k) ((m.mono V).mono k) (ai.mono k) J _ hy _ hJ hc dn
      ·clear hF hf hc
       rintro lq mq ⟨af,ag,ad⟩ xv oq _ Lr Lb a w iv rfl hF hf hc hK
       replace hf:Has 115 a [(2,pq Y),(4,pq U),(6,pq X),(7,pq Z),(8,pq g),(12,pq q),(13,pq s),(78,.slice I B.length M),(79,i6 ((B.length:Nat):Int)),(80,i6 z),(89,i6 xv)]:=hf.kp rfl
       replace hc:Ctx G (.box s [i6 z] 3::.box q [i6 ag,i6 ad] 86::.box g ((aK i aa).map (Kd.v aM)).flatten 172::.box Z [i6 af] 34::.box X [pq d] 166::.box U [i6 0,i6 0] 86::.box Y [.slice O r.People.length R,.slice D r.Stations.length H] 78::Lr) w:=hc
       replace hF:lD N r aj aa z af ag ad xv=some oq:=hF
       unfold lD at hF
       refine wF (fun _ _ h=>h) rfl ?_
       refine zA hf hc aJ9 rfl fun ac a w hf hc=>zW hf hc eH u0 rfl fun w hc=>aL ?_
       refine hK _ _ [.box ac [i6 xv] 3,.box s [i6 z] 3,.box q [i6 ag,i6 ad] 86,.box g ((aK i aa).map (Kd.v aM)).flatten 172,.box Z [i6 af] 34,.box X [pq d] 166,.box U [i6 0,i6 0] 86,.box Y [.slice O r.People.length R,.slice D r.Stations.length H] 78] hc fun w hc=>?_
       replace hc:Ctx G (.box ac [i6 xv] 3::.box s [i6 z] 3::.box q [i6 ag,i6 ad] 86::.box g ((aK i aa).map (Kd.v aM)).flatten 172::.box Z [i6 af] 34::.box X [pq d] 166::.box U [i6 0,i6 0] 86::.box Y [.slice O r.People.length R,.slice D r.Stations.length H] 78::Lb) w:=hc
       refine aG2 fun K49 gf=>aDq ?_
       refine uK fun K50 gu=>wF (fun _ _ h=>h) rfl ?_
       refine zP hf rfl (pMF (us:=[pq X,pq ac,pq s]) rfl rfl) fun a hf=>sp 1 hf rfl fun a hf=>aL ?_
       refine gu _ _ ?_
       refine uK fun K51 gc=>?_
       obtain ⟨rg,ci,hF⟩:=aA hF
       refine rCut (fun a w=>Has 115 a [(2,pq Y),(4,pq U),(6,pq X),(7,pq Z),(8,pq g),(12,pq q),(13,pq s),(15,pq ac),(78,.slice I B.length M),(79,i6 ((B.length:Nat):Int)),(80,i6 z),(108,.bool rg)]∧Ctx G (.box ac [i6 xv] 3::.box s [i6 z] 3::.box q [i6 ag,i6 ad] 86::.box g ((aK i aa).map (Kd.v aM)).flatten 172::.box Z [i6 af] 34::.box X [pq d] 166::.box U [i6 0,i6 0] 86::.box Y [.slice O r.People.length R,.slice D r.Stations.length H] 78::Lb) w) ?_ ?_
       ·clear hF
        have hF:=ci
        clear ci
        obtain ⟨g5,au,hF⟩:=aA hF
        obtain ⟨a7,bg,hF⟩:=aA hF
        obtain ⟨bv,c2,hF⟩:=aA hF
        obtain ⟨bi,br,hd,b5,b7,qr⟩:=((m.mono V).mono k).atm c2
        cases hb:(decide (((a7.length:Nat):Int) < bv.Places))
        ·replace hF:=gN hb hF
         try rw [hb] at hf
         try rw [hb] at hc
         have bu:=hb
         clear hb
         obtain ⟨bj,dg,hF⟩:=aA hF
         refine aEi (fun _ _ h=>h) rfl (fun θ=>(⟨none,none,2,pq Y⟩::⟨none,none,4,pq U⟩::⟨none,none,6,pq X⟩::⟨none,none,7,pq Z⟩::⟨none,none,8,pq g⟩::⟨none,none,12,pq q⟩::⟨none,none,13,pq s⟩::⟨none,none,15,pq ac⟩::⟨none,none,16,.func (.func 112) #[] #[pq X,pq ac,pq s]⟩::⟨none,none,78,.slice I B.length M⟩::⟨none,none,79,i6 ((B.length:Nat):Int)⟩::⟨none,none,80,i6 z⟩::⟨some 0,none,91,i6 xv⟩::⟨some 1,none,92,.pointer (some ⟨g,0 + xv.toNat * 1,none⟩)⟩::⟨some 2,none,93,.slice ((i xv.toNat).1) a7.length ((i xv.toNat).2)⟩::⟨some 3,none,94,i6 ((a7.length:Nat):Int)⟩::⟨some 4,none,95,.pointer (some ⟨Y,1,none⟩)⟩::⟨some 5,none,96,.slice D r.Stations.length H⟩::⟨some 6,none,97,i6 xv⟩::⟨some 7,none,98,.pointer (some ⟨bi,br,none⟩)⟩::⟨some 8,none,99,.pointer (some ⟨bi,br + 0,none⟩)⟩::⟨some 9,none,100,i6 bv.Places⟩::⟨some 10,none,101,.bool false⟩::⟨some 11,none,102,.bool false⟩::⟨some 12,none,103,i6 xv⟩::⟨some 13,none,104,.pointer (some ⟨g,0 + xv.toNat * 1,none⟩)⟩::⟨some 14,none,105,.slice ((i xv.toNat).1) a7.length ((i xv.toNat).2)⟩::⟨some 15,none,106,.func (.func 112) #[] #[pq X,pq ac,pq s]⟩::⟨some 16,none,107,.bool bj⟩::⟨some 17,none,108,.bool bj⟩::[])) (fun E θ=>.box ac [i6 xv] 3::.box s [i6 z] 3::.box q [i6 ag,i6 ad] 86::.box g ((aK i aa).map (Kd.v aM)).flatten 172::.box Z [i6 af] 34::.box X [pq d] 166::.box U [i6 0,i6 0] 86::.box Y [.slice O r.People.length R,.slice D r.Stations.length H] 78::Lb) [] (fun a w=>Has 115 a [(2,pq Y),(4,pq U),(6,pq X),(7,pq Z),(8,pq g),(12,pq q),(13,pq s),(15,pq ac),(78,.slice I B.length M),(79,i6 ((B.length:Nat):Int)),(80,i6 z),(103,i6 xv),(104,.pointer (some ⟨g,0 + xv.toNat * 1,none⟩)),(105,.slice ((i xv.toNat).1) a7.length ((i xv.toNat).2)),(106,.func (.func 112) #[] #[pq X,pq ac,pq s]),(107,.bool bj),(108,.bool bj)]∧Ctx G (.box ac [i6 xv] 3::.box s [i6 z] 3::.box q [i6 ag,i6 ad] 86::.box g ((aK i aa).map (Kd.v aM)).flatten 172::.box Z [i6 af] 34::.box X [pq d] 166::.box U [i6 0,i6 0] 86::.box Y [.slice O r.People.length R,.slice D r.Stations.length H] 78::Lb) w) aT (by kernel_rfl) (by kernel_rfl) (iT.of hf ⟨rfl,rfl,rfl,rfl,rfl,rfl,rfl,rfl,rfl,rfl,rfl,rfl,trivial,trivial,trivial,trivial,trivial,trivial,trivial,trivial,trivial,trivial,trivial,trivial,trivial,trivial,trivial,trivial,trivial,trivial,trivial⟩) hc ⟨?_,?_,?_,?_,?_,?_,?_,?_,?_,?_,?_,?_,?_,?_,?_,?_,?_,?_,trivial⟩ ?_ ?_
         ·intro E θ a w hD hi hp he hc
          have hf:=he.h0.mT he 7 rfl
          refine zL hf hc bG m0 rfl fun a w hf hc=>zD θ he hi hf 12 rfl rfl rfl hc
         ·intro E θ a w hD hi hp he hc
          have e0:=hp.o 0 rfl
          have hf:=(he.h0.mT he 4 rfl).mP he 12 rfl e0
          refine zP hf rfl (sV Tryz.underlying172 kX rfl rfl (bJ au).1 (bJ au).2) fun a hf=>zD θ he hi hf 13 rfl rfl rfl hc
         ·intro E θ a w hD hi hp he hc
          have e1:=hp.o 1 rfl
          have hf:=he.h0.mP he 13 rfl e1
          refine zE hf hc rfl (bF fB rfl (bL m3 (vG dA bg rfl))) fun a w hf hc=>zD θ he hi hf 14 rfl rfl rfl hc
         ·intro E θ a w hD hi hp he hc
          have e2:=hp.o 2 rfl
          have hf:=he.h0.mP he 14 rfl e2
          refine zP hf rfl (aW Tryz.underlying25 rfl) fun a hf=>zD θ he hi hf 15 rfl rfl rfl hc
         ·intro E θ a w hD hi hp he hc
          have hf:=he.h0.mT he 0 rfl
          refine zP hf rfl (pFA fJ rfl) fun a hf=>zD θ he hi hf 16 rfl rfl rfl hc
         ·intro E θ a w hD hi hp he hc
          have e4:=hp.o 4 rfl
          have hf:=he.h0.mP he 16 rfl e4
          refine zL hf hc mR m7 rfl fun a w hf hc=>zD θ he hi hf 17 rfl rfl rfl hc
         ·intro E θ a w hD hi hp he hc
          have hf:=he.h0.mT he 7 rfl
          refine zL hf hc bG m0 rfl fun a w hf hc=>zD θ he hi hf 18 rfl rfl rfl hc
         ·intro E θ a w hD hi hp he hc
          have e5:=hp.o 5 rfl
          have e6:=hp.o 6 rfl
          have hf:=(he.h0.mP he 17 rfl e5).mP he 18 rfl e6
          refine zP hf rfl (pIA Tryz.underlying76 mK rfl rfl b5) fun a hf=>zD θ he hi hf 19 rfl rfl rfl hc
         ·intro E θ a w hD hi hp he hc
          have e7:=hp.o 7 rfl
          have hf:=he.h0.mP he 19 rfl e7
          refine zP hf rfl (pFA oU rfl) fun a hf=>zD θ he hi hf 20 rfl rfl rfl hc
         ·intro E θ a w hD hi hp he hc
          have e8:=hp.o 8 rfl
          have hf:=he.h0.mP he 20 rfl e8
          refine zE hf hc rfl (bF bG rfl (aR (j:=0) b7 rfl)) fun a w hf hc=>zD θ he hi hf 21 rfl rfl rfl hc
         ·intro E θ a w hD hi hp he hc
          have e3:=hp.o 3 rfl
          have e9:=hp.o 9 rfl
          have hf:=(he.h0.mP he 15 rfl e3).mP he 21 rfl e9
          refine sp 1 hf rfl fun a hf=>?_
          rw [bu] at hf
          exact zD θ he hi hf 22 rfl rfl rfl hc
         ·intro E θ a w hD hi hp he hc
          have ca:=hp.o 10 rfl
          have hf:=he.h0.mP he 22 rfl ca
          refine sp 1 hf rfl fun a hf=>zD θ he hi hf 23 rfl rfl rfl hc
         ·intro E θ a w hD hi hp he hc
          have ab:=hp.o 11 rfl
          have hf:=(he.h0.mT he 7 rfl).mP he 23 rfl ab
          refine zL hf hc bG m0 rfl fun a w hf hc=>zD θ he hi hf 24 rfl rfl rfl hc
         ·intro E θ a w hD hi hp he hc
          have ab:=hp.o 11 rfl
          have a9:=hp.o 12 rfl
          have hf:=((he.h0.mT he 4 rfl).mP he 23 rfl ab).mP he 24 rfl a9
          refine zP hf rfl (sV Tryz.underlying172 kX rfl rfl (bJ au).1 (bJ au).2) fun a hf=>zD θ he hi hf 25 rfl rfl rfl hc
         ·intro E θ a w hD hi hp he hc
          have ab:=hp.o 11 rfl
          have bd:=hp.o 13 rfl
          have hf:=(he.h0.mP he 23 rfl ab).mP he 25 rfl bd
          refine zE hf hc rfl (bF fB rfl (bL m3 (vG dA bg rfl))) fun a w hf hc=>zD θ he hi hf 26 rfl rfl rfl hc
         ·intro E θ a w hD hi hp he hc
          have ab:=hp.o 11 rfl
          have hf:=(he.h0.mT he 8 rfl).mP he 23 rfl ab
          refine sp 1 hf rfl fun a hf=>zD θ he hi hf 27 rfl rfl rfl hc
         ·intro E θ a w hD hi hp he hc
          have ab:=hp.o 11 rfl
          have a8:=hp.o 14 rfl
          have ba:=hp.o 15 rfl
          have hf:=((he.h0.mP he 23 rfl ab).mP he 26 rfl a8).mP he 27 rfl ba
          refine zQ (v:=.bool bj) hf hc aCr rfl (fun w hc=>(pD a7 (⟨r,aj.1⟩:aV) xv z (bt _ _ bg) ((y.mono V).mono k) ((m.mono V).mono k) (ai.mono k) (((hc.pick k1).pick k1).pick k5) dg).mono fun e w h=>⟨h.1,(((h.2.unpick k5).unpick k1).unpick k1)⟩) fun a w hf hc=>zD θ he hi hf 28 rfl rfl rfl hc
         ·intro E θ a w hD hi hp he hc
          have ab:=hp.o 11 rfl
          have bc:=hp.o 16 rfl
          have hf:=(he.h0.mP he 23 rfl ab).mP he 28 rfl bc
          refine sp 1 hf rfl fun a hf=>zD θ he hi hf 29 rfl rfl rfl hc
         ·intro E θ a w p he hc
          have hf:=he.h0
          have a9:=p 12 rfl
          have bd:=p 13 rfl
          have a8:=p 14 rfl
          have ba:=p 15 rfl
          have bc:=p 16 rfl
          have b2:=p 17 rfl
          replace hf:=hf.more he 29 rfl (onP b2)
          replace hf:=hf.more he 28 rfl (onP bc)
          replace hf:=hf.more he 27 rfl (onP ba)
          replace hf:=hf.more he 26 rfl (onP a8)
          replace hf:=hf.more he 25 rfl (onP bd)
          replace hf:=hf.more he 24 rfl (onP a9)
          replace hf:=hf.more he 11 rfl (onT)
          replace hf:=hf.more he 10 rfl (onT)
          replace hf:=hf.more he 9 rfl (onT)
          replace hf:=hf.more he 7 rfl (onT)
          replace hf:=hf.more he 6 rfl (onT)
          replace hf:=hf.more he 5 rfl (onT)
          replace hf:=hf.more he 4 rfl (onT)
          replace hf:=hf.more he 3 rfl (onT)
          replace hf:=hf.more he 2 rfl (onT)
          replace hf:=hf.more he 1 rfl (onT)
          replace hf:=hf.more he 0 rfl (onT)
          exact ⟨hf.kp rfl,hc⟩
         rintro a w ⟨hf,hc⟩
         refine jV ?_
         obtain rfl:=sj hF
         exact ⟨hf.kp rfl,hc⟩
        ·replace hF:=fU hb hF
         try rw [hb] at hf
         try rw [hb] at hc
         have bu:=hb
         clear hb
         refine aEi (fun _ _ h=>h) rfl (fun θ=>(⟨none,none,2,pq Y⟩::⟨none,none,4,pq U⟩::⟨none,none,6,pq X⟩::⟨none,none,7,pq Z⟩::⟨none,none,8,pq g⟩::⟨none,none,12,pq q⟩::⟨none,none,13,pq s⟩::⟨none,none,15,pq ac⟩::⟨none,none,16,.func (.func 112) #[] #[pq X,pq ac,pq s]⟩::⟨none,none,78,.slice I B.length M⟩::⟨none,none,79,i6 ((B.length:Nat):Int)⟩::⟨none,none,80,i6 z⟩::⟨some 0,none,91,i6 xv⟩::⟨some 1,none,92,.pointer (some ⟨g,0 + xv.toNat * 1,none⟩)⟩::⟨some 2,none,93,.slice ((i xv.toNat).1) a7.length ((i xv.toNat).2)⟩::⟨some 3,none,94,i6 ((a7.length:Nat):Int)⟩::⟨some 4,none,95,.pointer (some ⟨Y,1,none⟩)⟩::⟨some 5,none,96,.slice D r.Stations.length H⟩::⟨some 6,none,97,i6 xv⟩::⟨some 7,none,98,.pointer (some ⟨bi,br,none⟩)⟩::⟨some 8,none,99,.pointer (some ⟨bi,br + 0,none⟩)⟩::⟨some 9,none,100,i6 bv.Places⟩::⟨some 10,none,101,.bool true⟩::⟨some 11,none,102,.bool true⟩::⟨some 12,none,103,undef⟩::⟨some 13,none,104,undef⟩::⟨some 14,none,105,undef⟩::⟨some 15,none,106,undef⟩::⟨some 16,none,107,undef⟩::⟨some 17,none,108,.bool true⟩::[])) (fun E θ=>.box ac [i6 xv] 3::.box s [i6 z] 3::.box q [i6 ag,i6 ad] 86::.box g ((aK i aa).map (Kd.v aM)).flatten 172::.box Z [i6 af] 34::.box X [pq d] 166::.box U [i6 0,i6 0] 86::.box Y [.slice O r.People.length R,.slice D r.Stations.length H] 78::Lb) [] (fun a w=>Has 115 a [(2,pq Y),(4,pq U),(6,pq X),(7,pq Z),(8,pq g),(12,pq q),(13,pq s),(15,pq ac),(78,.slice I B.length M),(79,i6 ((B.length:Nat):Int)),(80,i6 z),(103,undef),(104,undef),(105,undef),(106,undef),(107,undef),(108,.bool true)]∧Ctx G (.box ac [i6 xv] 3::.box s [i6 z] 3::.box q [i6 ag,i6 ad] 86::.box g ((aK i aa).map (Kd.v aM)).flatten 172::.box Z [i6 af] 34::.box X [pq d] 166::.box U [i6 0,i6 0] 86::.box Y [.slice O r.People.length R,.slice D r.Stations.length H] 78::Lb) w) aT (by kernel_rfl) (by kernel_rfl) (iT.of hf ⟨rfl,rfl,rfl,rfl,rfl,rfl,rfl,rfl,rfl,rfl,rfl,rfl,trivial,trivial,trivial,trivial,trivial,trivial,trivial,trivial,trivial,trivial,trivial,trivial,trivial,trivial,trivial,trivial,trivial,trivial,trivial⟩) hc ⟨?_,?_,?_,?_,?_,?_,?_,?_,?_,?_,?_,?_,?_,?_,?_,?_,?_,?_,trivial⟩ ?_ ?_
         ·intro E θ a w hD hi hp he hc
          have hf:=he.h0.mT he 7 rfl
          refine zL hf hc bG m0 rfl fun a w hf hc=>zD θ he hi hf 12 rfl rfl rfl hc
         ·intro E θ a w hD hi hp he hc
          have e0:=hp.o 0 rfl
          have hf:=(he.h0.mT he 4 rfl).mP he 12 rfl e0
          refine zP hf rfl (sV Tryz.underlying172 kX rfl rfl (bJ au).1 (bJ au).2) fun a hf=>zD θ he hi hf 13 rfl rfl rfl hc
         ·intro E θ a w hD hi hp he hc
          have e1:=hp.o 1 rfl
          have hf:=he.h0.mP he 13 rfl e1
          refine zE hf hc rfl (bF fB rfl (bL m3 (vG dA bg rfl))) fun a w hf hc=>zD θ he hi hf 14 rfl rfl rfl hc
         ·intro E θ a w hD hi hp he hc
          have e2:=hp.o 2 rfl
          have hf:=he.h0.mP he 14 rfl e2
          refine zP hf rfl (aW Tryz.underlying25 rfl) fun a hf=>zD θ he hi hf 15 rfl rfl rfl hc
         ·intro E θ a w hD hi hp he hc
          have hf:=he.h0.mT he 0 rfl
          refine zP hf rfl (pFA fJ rfl) fun a hf=>zD θ he hi hf 16 rfl rfl rfl hc
         ·intro E θ a w hD hi hp he hc
          have e4:=hp.o 4 rfl
          have hf:=he.h0.mP he 16 rfl e4
          refine zL hf hc mR m7 rfl fun a w hf hc=>zD θ he hi hf 17 rfl rfl rfl hc
         ·intro E θ a w hD hi hp he hc
          have hf:=he.h0.mT he 7 rfl
          refine zL hf hc bG m0 rfl fun a w hf hc=>zD θ he hi hf 18 rfl rfl rfl hc
         ·intro E θ a w hD hi hp he hc
          have e5:=hp.o 5 rfl
          have e6:=hp.o 6 rfl
          have hf:=(he.h0.mP he 17 rfl e5).mP he 18 rfl e6
          refine zP hf rfl (pIA Tryz.underlying76 mK rfl rfl b5) fun a hf=>zD θ he hi hf 19 rfl rfl rfl hc
         ·intro E θ a w hD hi hp he hc
          have e7:=hp.o 7 rfl
          have hf:=he.h0.mP he 19 rfl e7
          refine zP hf rfl (pFA oU rfl) fun a hf=>zD θ he hi hf 20 rfl rfl rfl hc
         ·intro E θ a w hD hi hp he hc
          have e8:=hp.o 8 rfl
          have hf:=he.h0.mP he 20 rfl e8
          refine zE hf hc rfl (bF bG rfl (aR (j:=0) b7 rfl)) fun a w hf hc=>zD θ he hi hf 21 rfl rfl rfl hc
         ·intro E θ a w hD hi hp he hc
          have e3:=hp.o 3 rfl
          have e9:=hp.o 9 rfl
          have hf:=(he.h0.mP he 15 rfl e3).mP he 21 rfl e9
          refine sp 1 hf rfl fun a hf=>?_
          rw [bu] at hf
          exact zD θ he hi hf 22 rfl rfl rfl hc
         ·intro E θ a w hD hi hp he hc
          have ca:=hp.o 10 rfl
          have hf:=he.h0.mP he 22 rfl ca
          refine sp 1 hf rfl fun a hf=>zD θ he hi hf 23 rfl rfl rfl hc
         ·intro E θ a w hD hi hp he hc
          have ab:=hp.o 11 rfl
          have hf:=(he.h0.mT he 7 rfl).mP he 23 rfl ab
          refine stS hf rfl rfl rfl fun a hf=>zD θ he hi hf 24 rfl rfl rfl hc
         ·intro E θ a w hD hi hp he hc
          have ab:=hp.o 11 rfl
          have a9:=hp.o 12 rfl
          have hf:=((he.h0.mT he 4 rfl).mP he 23 rfl ab).mP he 24 rfl a9
          refine stS hf rfl rfl rfl fun a hf=>zD θ he hi hf 25 rfl rfl rfl hc
         ·intro E θ a w hD hi hp he hc
          have ab:=hp.o 11 rfl
          have bd:=hp.o 13 rfl
          have hf:=(he.h0.mP he 23 rfl ab).mP he 25 rfl bd
          refine stS hf rfl rfl rfl fun a hf=>zD θ he hi hf 26 rfl rfl rfl hc
         ·intro E θ a w hD hi hp he hc
          have ab:=hp.o 11 rfl
          have hf:=(he.h0.mT he 8 rfl).mP he 23 rfl ab
          refine stS hf rfl rfl rfl fun a hf=>zD θ he hi hf 27 rfl rfl rfl hc
         ·intro E θ a w hD hi hp he hc
          have ab:=hp.o 11 rfl
          have a8:=hp.o 14 rfl
          have ba:=hp.o 15 rfl
          have hf:=((he.h0.mP he 23 rfl ab).mP he 26 rfl a8).mP he 27 rfl ba
          refine stS hf rfl rfl rfl fun a hf=>zD θ he hi hf 28 rfl rfl rfl hc
         ·intro E θ a w hD hi hp he hc
          have ab:=hp.o 11 rfl
          have bc:=hp.o 16 rfl
          have hf:=(he.h0.mP he 23 rfl ab).mP he 28 rfl bc
          refine sp 1 hf rfl fun a hf=>zD θ he hi hf 29 rfl rfl rfl hc
         ·intro E θ a w p he hc
          have hf:=he.h0
          have a9:=p 12 rfl
          have bd:=p 13 rfl
          have a8:=p 14 rfl
          have ba:=p 15 rfl
          have bc:=p 16 rfl
          have b2:=p 17 rfl
          replace hf:=hf.more he 29 rfl (onP b2)
          replace hf:=hf.more he 28 rfl (onP bc)
          replace hf:=hf.more he 27 rfl (onP ba)
          replace hf:=hf.more he 26 rfl (onP a8)
          replace hf:=hf.more he 25 rfl (onP bd)
          replace hf:=hf.more he 24 rfl (onP a9)
          replace hf:=hf.more he 11 rfl (onT)
          replace hf:=hf.more he 10 rfl (onT)
          replace hf:=hf.more he 9 rfl (onT)
          replace hf:=hf.more he 7 rfl (onT)
          replace hf:=hf.more he 6 rfl (onT)
          replace hf:=hf.more he 5 rfl (onT)
          replace hf:=hf.more he 4 rfl (onT)
          replace hf:=hf.more he 3 rfl (onT)
          replace hf:=hf.more he 2 rfl (onT)
          replace hf:=hf.more he 1 rfl (onT)
          replace hf:=hf.more he 0 rfl (onT)
          exact ⟨hf.kp rfl,hc⟩
         rintro a w ⟨hf,hc⟩
         refine jV ?_
         obtain rfl:=sj hF
         exact ⟨hf.kp rfl,hc⟩
       rintro a w ⟨hf,hc⟩
       refine gc _ _ ?_
       refine aFo (b:=rg) hf rfl (fun hb=>?_) (fun hb=>?_)
       ·replace hF:=fU hb hF
        clear hb
        refine uK fun K52 gk=>wF (fun _ _ h=>h) rfl ?_
        refine zL hf hc bG m1 rfl fun a w hf hc=>zL hf hc bG m0 rfl fun a w hf hc=>zP hf rfl (cK (cells:=[i6 z,i6 xv]) uW rfl rfl) fun a hf=>zW hf hc lJ u2 rfl fun w hc=>zW hf hc aGd u4 rfl fun w hc=>aL ?_
        refine gk _ _ ?_
        refine aLi ?_
        refine aGh rfl ?_
        refine aN ?_
        replace hc:=hc.drop k0
        exact (.inr ⟨rfl,(0,z,xv),_,(sj hF).symm,rfl,hc⟩)
       ·replace hF:=gN hb hF
        clear hb
        refine aFn ?_
        refine gf _ _ ?_
        replace hc:=hc.drop k0
        exact ⟨(af,ag,ad),_,(sj hF).symm,rfl,hc⟩
      ·rintro D_1 ⟨af,ag,ad⟩ _ a w b3 rfl hf hc
       replace hf:Has ⟨115,tR (D_1::Ds)⟩ a [(2,pq Y),(4,pq U),(6,pq X),(7,pq Z),(8,pq g),(12,pq q),(13,pq s),(78,.slice I B.length M),(79,i6 ((B.length:Nat):Int)),(80,i6 z)]:=hf.kp rfl
       replace hc:Ctx G (.box a3 [pq d] 166::.box a2 [i6 am.1] 3::.box a4 [i6 am.2] 3::.box s [i6 z] 3::.box q [i6 ag,i6 ad] 86::.box g ((aK i aa).map (Kd.v aM)).flatten 172::.box Z [i6 af] 34::.box X [pq d] 166::.box U [i6 0,i6 0] 86::.box Y [.slice O r.People.length R,.slice D r.Stations.length H] 78::(yC (D_1::Ds)++Lf)) w:=aA4 (C:=[.box a3 [pq d] 166,.box a2 [i6 am.1] 3,.box a4 [i6 am.2] 3]) (L:=[.box s [i6 z] 3,.box q [i6 ag,i6 ad] 86,.box g ((aK i aa).map (Kd.v aM)).flatten 172,.box Z [i6 af] 34,.box X [pq d] 166,.box U [i6 0,i6 0] 86,.box Y [.slice O r.People.length R,.slice D r.Stations.length H] 78]) hc
       replace hF:(some (.cont (W (z + 1),af,ag,ad)))=some cd:=by rcases b3 with rfl | rfl <;> exact hF
       refine gs _ _ ?_
       refine bW ?_
       refine sp 2 hf rfl fun a hf=>aL ?_
       replace hc:=(((hc.drop k3).drop k2).drop k1).drop k0
       exact df (W (z + 1),af,ag,ad) _ _ (sj hF).symm ⟨(D_1::Ds),hf.kp rfl,hc⟩
      ·rintro D_1 ⟨af,ag,ad⟩ _ a w b3 rfl hf hc
       replace hf:Has ⟨115,tR (D_1::Ds)⟩ a [(2,pq Y),(4,pq U),(6,pq X),(7,pq Z),(8,pq g),(12,pq q),(13,pq s),(78,.slice I B.length M),(79,i6 ((B.length:Nat):Int)),(80,i6 z)]:=hf.kp rfl
       replace hc:Ctx G (.box a3 [pq d] 166::.box a2 [i6 am.1] 3::.box a4 [i6 am.2] 3::.box s [i6 z] 3::.box q [i6 ag,i6 ad] 86::.box g ((aK i aa).map (Kd.v aM)).flatten 172::.box Z [i6 af] 34::.box X [pq d] 166::.box U [i6 0,i6 0] 86::.box Y [.slice O r.People.length R,.slice D r.Stations.length H] 78::(yC (D_1::Ds)++Lf)) w:=aA4 (C:=[.box a3 [pq d] 166,.box a2 [i6 am.1] 3,.box a4 [i6 am.2] 3]) (L:=[.box s [i6 z] 3,.box q [i6 ag,i6 ad] 86,.box g ((aK i aa).map (Kd.v aM)).flatten 172,.box Z [i6 af] 34,.box X [pq d] 166,.box U [i6 0,i6 0] 86,.box Y [.slice O r.People.length R,.slice D r.Stations.length H] 78]) hc
       replace hF:(some (.brk (z,af,ag,ad)))=some cd:=by subst b3; exact hF
       refine aGh rfl ?_
       refine aN ?_
       refine aN ?_
       replace hc:=(((hc.drop k3).drop k2).drop k1).drop k0
       have he:=sj hF
       rw [← he] at az
       refine cT ?_
       exact b4 _ _ _ az ⟨(D_1::Ds),hf.kp rfl,hc⟩
     ·refine wp_exit ?_
      refine aN ?_
      refine aN ?_
      have he:=sj hF
      rw [← he] at az
      refine cT ?_
      exact b4 _ _ _ az ⟨Ds,hf.kp rfl,hc⟩
    have ck:∀ r,b1=.out r→r=a6:=by
     rintro r rfl
     exact sj hF
    refine bY N (bX (S:=S36) (x:=b1) ?_ N 0 _ _ ⟨hf.kp rfl,hc⟩ c0)
    clear hF hf hc
    rintro x ia a w KB36 ⟨hf,hc⟩ hF a0 c3
    unfold iD at hF
    refine zS fun K h=>sp 1 hf rfl fun a hf=>zT h ?_
    refine wp_seq_k fun K54 gg=>zI hf rfl hF ?_ ?_ <;> clear hF <;> intro hF
    ·refine wp_skip ?_
     refine gg _ _ ?_
     refine wp_seq_k fun K55 gb=>wp_block ?_
     refine zS fun K h=>sp 1 hf rfl fun a hf=>?_
     obtain ⟨av,db,hF⟩:=aA hF
     obtain ⟨g0,iu,c8,c5⟩:=((t.mono V).mono k).atm db
     refine zP hf rfl (pIA Tryz.underlying25 eH rfl rfl c8) fun a hf=>zE hf hc rfl (bF bG rfl (aR (j:=0) c5 rfl)) fun a w hf hc=>sp 2 hf rfl fun a hf=>zT h ?_
     refine wp_seq_k fun K57 gi=>?_
     obtain ⟨du,b6,hF⟩:=aA hF
     refine cQ hc aT (by kernel_rfl) ?_
     refine qE hf rfl rfl rfl (Pu.ev (pM rfl)) fun a hf=>qE hf rfl rfl rfl (Pu.ev (pNe rfl rfl)) fun a hf=>qE hf rfl rfl rfl (Pu.ev (pM rfl)) fun a hf=>aBc 19 (fun a=>Has 115 a [(1,.slice I B.length M),(2,pq Y),(4,pq U),(6,pq X),(7,pq Z),(8,pq g),(9,.func (.func 110) #[pq d] #[]),(46,.slice I B.length M),(47,i6 ((B.length:Nat):Int)),(48,i6 x),(10,i6 x),(11,i6 av),(53,i6 av),(54,.bool (av != (-1))),(55,.bool (av != (-1))),(74,.bool du)]) ?_ ?_
     ·cases hb:(av != (-1))
      ·rw [hb] at hf
       have hF:=gN hb b6
       obtain rfl:=sj hF
       refine qS hf rfl rfl rfl fun a hf=>qS hf rfl rfl rfl fun a hf=>qS hf rfl rfl rfl fun a hf=>qS hf rfl rfl rfl fun a hf=>qS hf rfl rfl rfl fun a hf=>qS hf rfl rfl rfl fun a hf=>qS hf rfl rfl rfl fun a hf=>qS hf rfl rfl rfl fun a hf=>qS hf rfl rfl rfl fun a hf=>qS hf rfl rfl rfl fun a hf=>qS hf rfl rfl rfl fun a hf=>qS hf rfl rfl rfl fun a hf=>qS hf rfl rfl rfl fun a hf=>?_
       refine qS hf rfl rfl rfl fun a hf=>qS hf rfl rfl rfl fun a hf=>qS hf rfl rfl rfl fun a hf=>qS hf rfl rfl rfl fun a hf=>qS hf rfl rfl rfl fun a hf=>qE hf rfl rfl rfl (Pu.ev (pPf rfl rfl)) fun a hf=>rV (hf.kp rfl)
      ·rw [hb] at hf
       have hF:=fU hb b6
       obtain ⟨bm,cy,hF⟩:=aA hF
       obtain ⟨dx,cc,hF⟩:=aA hF
       refine qE hf rfl rfl rfl (Pu.ev (pM rfl)) fun a hf=>qE hf rfl rfl rfl (Pu.ev (pM rfl)) fun a hf=>qE hf rfl rfl rfl (Pu.ev (pM rfl)) fun a hf=>qE hf rfl rfl rfl (eCB (v:=.bool bm) (bs:=[pq d]) (vs:=[i6 x,i6 av]) (caps:=[]) aCs rfl rfl rfl rfl (fun w hc=>iP (⟨r,aj.1⟩:aV) x av ((y.mono V).mono k) ((m.mono V).mono k) (ai.mono k) hc cy)) fun a hf=>qE hf rfl rfl rfl (Pu.ev (aEy rfl)) fun a hf=>qE hf rfl rfl rfl (Pu.ev (pM rfl)) fun a hf=>aBc 12 (fun a=>Has 115 a [(1,.slice I B.length M),(2,pq Y),(4,pq U),(6,pq X),(7,pq Z),(8,pq g),(9,.func (.func 110) #[pq d] #[]),(46,.slice I B.length M),(47,i6 ((B.length:Nat):Int)),(48,i6 x),(10,i6 x),(11,i6 av),(53,i6 av),(54,.bool true),(55,.bool true),(56,.func (.func 110) #[pq d] #[]),(57,i6 x),(58,i6 av),(59,.bool bm),(60,.bool (!bm)),(61,.bool (!bm)),(73,.bool dx)]) ?_ ?_
       ·cases hb:(!bm)
        ·rw [hb] at hf
         have hF:=gN hb cc
         obtain ⟨g6,bq,hF⟩:=aA hF
         obtain ⟨i3,cx,hF⟩:=aA hF
         obtain ⟨ix,dj,hF⟩:=aA hF
         obtain ⟨ib,it,ij,cp,cm,gz⟩:=((m.mono V).mono k).atm dj
         refine qE hf rfl rfl rfl (Pu.ev (pM rfl)) fun a hf=>qE hf rfl rfl rfl (Pu.ev (sV Tryz.underlying172 kX rfl rfl (bJ bq).1 (bJ bq).2)) fun a hf=>qE hf rfl rfl rfl (bF fB rfl (bL m0 (vG dA cx rfl))) fun a hf=>qE hf rfl rfl rfl (Pu.ev (aW Tryz.underlying25 rfl)) fun a hf=>qE hf rfl rfl rfl (Pu.ev (pFA fJ rfl)) fun a hf=>qE hf rfl rfl rfl (bF mR rfl (bL m4 rfl)) fun a hf=>qE hf rfl rfl rfl (Pu.ev (pM rfl)) fun a hf=>qE hf rfl rfl rfl (Pu.ev (pIA Tryz.underlying76 mK rfl rfl cp)) fun a hf=>qE hf rfl rfl rfl (Pu.ev (pFA oU rfl)) fun a hf=>qE hf rfl rfl rfl (bF bG rfl (aR (j:=0) cm rfl)) fun a hf=>qE hf rfl rfl rfl (Pu.ev (pGt rfl rfl)) fun a hf=>qE hf rfl rfl rfl (Pu.ev (pPf rfl rfl)) fun a hf=>?_
         obtain rfl:=sj hF
         exact rV (hf.kp rfl)
        ·rw [hb] at hf
         have hF:=fU hb cc
         obtain rfl:=sj hF
         refine qS hf rfl rfl rfl fun a hf=>qS hf rfl rfl rfl fun a hf=>qS hf rfl rfl rfl fun a hf=>qS hf rfl rfl rfl fun a hf=>qS hf rfl rfl rfl fun a hf=>qS hf rfl rfl rfl fun a hf=>qS hf rfl rfl rfl fun a hf=>qS hf rfl rfl rfl fun a hf=>qS hf rfl rfl rfl fun a hf=>qS hf rfl rfl rfl fun a hf=>qS hf rfl rfl rfl fun a hf=>qE hf rfl rfl rfl (Pu.ev (pPt rfl rfl)) fun a hf=>rV (hf.kp rfl)
       intro a hf
       refine qE hf rfl rfl rfl (Pu.ev (pPt rfl rfl)) fun a hf=>?_
       obtain rfl:=sj hF
       exact rV (hf.kp rfl)
     intro a hf
     intro w hc
     refine gi _ _ ?_
     refine zI hf rfl hF ?_ ?_ <;> clear hF <;> intro hF
     ·refine zS fun K h=>zP hf rfl (cK (cells:=[i6 0,i6 0]) uW rfl rfl) fun a hf=>zW hf hc lJ u3 rfl fun w hc=>sp 1 hf rfl fun a hf=>zT h ?_
      refine wp_ret ?_
      refine bB ?_
      refine aH ?_
      refine aH ?_
      have he:=sj hF
      rw [← he] at a0
      replace hF:=ck _ a0
      refine bB ?_
      refine aH ?_
      refine vH ?_
      obtain rfl:=hF
      replace hc:=hc.down k
      replace hc:=hc.down V
      replace hc:=(((hc.drop k4).drop k2).drop k1).drop k0
      refine aC3 hf ?_
      exact aCo Tryz.results46 hf hc (eG (vs:=[i6 0,i6 0]) lM rfl rfl (bM (n:=2) m0 rfl)) (show iX _ 5=_ from rfl) ⟨rfl,(hc.drop k0)⟩
     ·refine wp_skip ?_
      refine gb _ _ ?_
      refine bW ?_
      refine sp 2 hf rfl fun a hf=>aL ?_
      exact c3 (W (x + 1)) _ _ (sj hF).symm ⟨hf.kp rfl,hc⟩
    ·refine wp_exit ?_
     refine aN ?_
     refine aN ?_
     have he:=sj hF
     rw [← he] at a0
     refine cT ?_
     exact cu _ _ _ a0 ⟨hf.kp rfl,hc⟩

def qH (x:aC) (B:aB):Bool :=
 ((aE x.Person 0 (W (((B.People.length:Nat):Int) - 1))) && (aE x.Station 0 (W (((B.Stations.length:Nat):Int) - 1))))
theorem aBy {G:aQ} {Lf:List Ent} {w:World} (x:aC) (B:aB) {b_:Nat} {D:Option Addr} {H:Nat} {I:Option Addr} {J:Nat} (O:RdT aM G 1 D H B.People) (M:RdT bA G 2 I J B.Stations) (hc:Ctx G (.box b_ [.slice D B.People.length H,.slice I B.Stations.length J] 78::Lf) w) {S:Bool} (hF:qH x B=S):Calls Tryz.prog 129 #[.agg #[i6 x.Person,i6 x.Station],pq b_] w (fun e w=>e=.returned (.bool S)∧Ctx G (.box b_ [.slice D B.People.length H,.slice I B.Stations.length J] 78::Lf) w):=by
 unfold qH at hF
 refine bN Tryz.func129 rfl Tryz.ntmps129 rfl fun a hf=>zS fun K h=>zB hf hc rfl fun R a w hf hc=>sp 1 hf rfl fun a hf=>zT h ?_
 refine zS fun K h=>zP hf rfl (pFA aCe rfl) fun a hf=>zL hf hc bG m0 rfl fun a w hf hc=>zP hf rfl (pFA iK rfl) fun a hf=>zL hf hc gB m1 rfl fun a w hf hc=>zP hf rfl (aW Tryz.underlying75 rfl) fun a hf=>sp 1 hf rfl fun a hf=>zQ (v:=.bool (aE x.Person 0 (W (((B.People.length:Nat):Int) - 1)))) hf hc nZ rfl (fun w hc=>cU x.Person 0 (W (((B.People.length:Nat):Int) - 1)) hc rfl) fun a w hf hc=>sp 1 hf rfl fun a hf=>fV 8 (fun a=>Has 20 a [(1,pq b_),(2,pq R),(3,.bool false),(4,pq R),(5,i6 x.Person),(6,pq b_),(7,.slice D B.People.length H),(8,i6 ((B.People.length:Nat):Int)),(9,i6 (W (((B.People.length:Nat):Int) - 1))),(10,.bool (aE x.Person 0 (W (((B.People.length:Nat):Int) - 1)))),(11,.bool (aE x.Person 0 (W (((B.People.length:Nat):Int) - 1)))),(19,.bool ((aE x.Person 0 (W (((B.People.length:Nat):Int) - 1))) && (aE x.Station 0 (W (((B.Stations.length:Nat):Int) - 1)))))]) hc ?_ ?_
 ·cases hb:(aE x.Person 0 (W (((B.People.length:Nat):Int) - 1)))
  ·rw [hb] at hf
   refine stS hf rfl rfl rfl fun a hf=>stS hf rfl rfl rfl fun a hf=>stS hf rfl rfl rfl fun a hf=>stS hf rfl rfl rfl fun a hf=>stS hf rfl rfl rfl fun a hf=>stS hf rfl rfl rfl fun a hf=>stS hf rfl rfl rfl fun a hf=>sp 1 hf rfl fun a hf=>aL ⟨hf.kp rfl,hc⟩
  ·rw [hb] at hf
   refine zP hf rfl (pFA tZ rfl) fun a hf=>zL hf hc bG m0 rfl fun a w hf hc=>zP hf rfl (pFA fJ rfl) fun a hf=>zL hf hc mR m1 rfl fun a w hf hc=>zP hf rfl (aW Tryz.underlying76 rfl) fun a hf=>sp 1 hf rfl fun a hf=>zQ (v:=.bool (aE x.Station 0 (W (((B.Stations.length:Nat):Int) - 1)))) hf hc nZ rfl (fun w hc=>cU x.Station 0 (W (((B.Stations.length:Nat):Int) - 1)) hc rfl) fun a w hf hc=>sp 1 hf rfl fun a hf=>aL ⟨hf.kp rfl,hc⟩
 intro a w ⟨hf,hc⟩
 refine sp 1 hf rfl fun a hf=>zT h ?_
 refine wp_ret ?_
 obtain rfl:=hF
 replace hc:=hc.drop k0
 exact zO1 Tryz.results129 hf rfl ⟨rfl,hc⟩

def dX (x:aC) (B:aB):Bool :=
 (!(qH x B))
theorem sK {G:aQ} {Lf:List Ent} {w:World} (x:aC) (J:aB) {b_:Nat} {R:Nat} {H:Option Addr} {I:Nat} {B:Option Addr} {D:Nat} (O:RdT aM G 1 H I J.People) (M:RdT bA G 2 B D J.Stations) (hc:Ctx G (.box b_ [.func (.func 129) #[] #[pq R]] 192::.box R [.slice H J.People.length I,.slice B J.Stations.length D] 78::Lf) w) {S:Bool} (hF:dX x J=S):Calls Tryz.prog 172 #[.agg #[i6 x.Person,i6 x.Station],pq b_] w (fun e w=>e=.returned (.bool S)∧Ctx G (.box b_ [.func (.func 129) #[] #[pq R]] 192::.box R [.slice H J.People.length I,.slice B J.Stations.length D] 78::Lf) w):=by
 unfold dX at hF
 refine bN Tryz.func172 rfl Tryz.ntmps172 rfl fun a hf=>zS fun K h=>zB hf hc rfl fun U a w hf hc=>sp 1 hf rfl fun a hf=>zT h ?_
 refine zS fun K h=>zL hf hc aNk m1 rfl fun a w hf hc=>zN hf hc lM m0 rfl fun a w hf hc=>zQ (v:=.bool (qH x J)) hf hc aN9 rfl (fun w hc=>(aBy x J O M (hc.pick k2) rfl).mono fun e w h=>⟨h.1,(h.2.unpick k2)⟩) fun a w hf hc=>sp 2 hf rfl fun a hf=>zT h ?_
 refine wp_ret ?_
 obtain rfl:=hF
 replace hc:=hc.drop k0
 exact zO1 Tryz.results172 hf rfl ⟨rfl,hc⟩

def fI (N:Nat) (s_:List aC) (f_:aB) (x:Int):Option (bK (Int) (Int)) :=
 cond (decide (x < ((s_.length:Nat):Int)))
 (Option.bind (aU s_ x) fun B=>
 cond (dX B f_)
 (some (.ret x))
 (some (.cont (W (x + 1)))))
 (some (.brk x))
def cL (N:Nat) (s_:List aC) (f_:aB):Option (Int) :=
 Option.bind (aS (fun s4=>fI N s_ f_ s4) N 0) fun x4=>
 exK x4 (fun s4=>some (-1)) some
theorem kU {N:Nat} {G:aQ} {Lf:List Ent} {w:World} (s_:List aC) (f_:aB) {V:Option Addr} {U:Nat} {b_:Nat} {J:Nat} {H:Option Addr} {I:Nat} {D:Option Addr} {B:Nat} (Z:Rd G 2 V U (s_.map aF)) (R:RdT aM G 1 H I f_.People) (M:RdT bA G 2 D B f_.Stations) (hc:Ctx G (.box b_ [.func (.func 129) #[] #[pq J]] 192::.box J [.slice H f_.People.length I,.slice D f_.Stations.length B] 78::Lf) w) {Y:Int} (hF:cL N s_ f_=some Y):Calls Tryz.prog 188 #[.slice V s_.length U,.func (.func 172) #[] #[pq b_]] w (fun e w=>e=.returned (i6 Y)∧Ctx G (.box b_ [.func (.func 129) #[] #[pq J]] 192::.box J [.slice H f_.People.length I,.slice D f_.Stations.length B] 78::Lf) w):=by
 unfold cL at hF
 refine bN Tryz.func188 rfl Tryz.ntmps188 rfl fun a hf=>zS fun K h=>sp 1 hf rfl fun a hf=>zT h ?_
 refine wp_seq_k fun K2 h2=>zS fun K h=>sp 1 hf rfl fun a hf=>zP hf rfl (aW Tryz.underlying99 rfl) fun a hf=>sp 1 hf rfl fun a hf=>zT h ?_
 refine wp_block ?_
 obtain ⟨x4,j,hF⟩:=aA hF
 let S4:Int→Act→World→Prop:=(fun (zz:Int) a w=>Has 19 a [(0,.slice V s_.length U),(1,.func (.func 172) #[] #[pq b_]),(7,i6 ((s_.length:Nat):Int)),(8,i6 zz)]∧Ctx G (.box b_ [.func (.func 129) #[] #[pq J]] 192::.box J [.slice H f_.People.length I,.slice D f_.Stations.length B] 78::Lf) w)
 have i:∀ (zz:Int) a w,x4=.go zz→S4 zz a w→K2 a w:=by
  rintro x a w rfl ⟨hf,hc⟩
  replace hF:=bH hF
  refine h2 _ _ ?_
  refine zS fun K h=>sp 1 hf rfl fun a hf=>zT h ?_
  refine wp_ret ?_
  obtain rfl:=sj hF
  exact zO1 Tryz.results188 hf rfl ⟨rfl,hc⟩
 have d:∀ r,x4=.out r→r=Y:=by
  rintro r rfl
  exact sj hF
 refine bY N (bX (S:=S4) (x:=x4) ?_ N 0 _ _ ⟨hf.kp rfl,hc⟩ j)
 clear hF hf hc
 rintro x m a w KB4 ⟨hf,hc⟩ hF O g
 unfold fI at hF
 refine zS fun K h=>sp 1 hf rfl fun a hf=>zT h ?_
 refine wp_seq_k fun K7 h7=>zI hf rfl hF ?_ ?_ <;> clear hF <;> intro hF
 ·refine wp_skip ?_
  refine h7 _ _ ?_
  refine wp_seq_k fun K8 h8=>wp_block ?_
  refine zS fun K h=>sp 2 hf rfl fun a hf=>zT h ?_
  refine zS fun K h=>sp 3 hf rfl fun a hf=>?_
  obtain ⟨X,b,hF⟩:=aA hF
  obtain ⟨k,o,qa,qp⟩:=Z.atm b
  refine zP hf rfl (pIA Tryz.underlying99 lJ rfl rfl qa) fun a hf=>zE hf hc rfl (kG (vs:=[i6 X.Person,i6 X.Station]) lM rfl rfl (dF qp (n:=2) (o':=0) rfl)) fun a w hf hc=>zQ (v:=.bool (dX X f_)) hf hc aNp rfl (fun w hc=>(sK X f_ R M ((hc.pick k1).pick k1) rfl).mono fun e w h=>⟨h.1,((h.2.unpick k1).unpick k1)⟩) fun a w hf hc=>zT h ?_
  refine zI hf rfl hF ?_ ?_ <;> clear hF <;> intro hF
  ·refine zS fun K h=>sp 2 hf rfl fun a hf=>zT h ?_
   refine wp_ret ?_
   refine bB ?_
   refine aH ?_
   refine aH ?_
   have he:=sj hF
   rw [← he] at O
   replace hF:=d _ O
   refine bB ?_
   refine aH ?_
   obtain rfl:=hF
   exact zO1 Tryz.results188 hf rfl ⟨rfl,hc⟩
  ·refine wp_skip ?_
   refine h8 _ _ ?_
   refine bW ?_
   refine sp 2 hf rfl fun a hf=>aL ?_
   exact g (W (x + 1)) _ _ (sj hF).symm ⟨hf.kp rfl,hc⟩
 ·refine wp_exit ?_
  refine aN ?_
  refine aN ?_
  have he:=sj hF
  rw [← he] at O
  refine cT ?_
  exact i _ _ _ O ⟨hf.kp rfl,hc⟩

def cE (N:Nat) (s_:List aC) (f_:aB):Option (Bool) :=
 Option.bind (cL N s_ f_) fun r=>
 some (decide (0≤r))
theorem jX {N:Nat} {G:aQ} {Lf:List Ent} {w:World} (s_:List aC) (f_:aB) {S:Option Addr} {R:Nat} {b_:Nat} {O:Nat} {H:Option Addr} {I:Nat} {D:Option Addr} {B:Nat} (V:Rd G 2 S R (s_.map aF)) (M:RdT aM G 1 H I f_.People) (J:RdT bA G 2 D B f_.Stations) (hc:Ctx G (.box b_ [.func (.func 129) #[] #[pq O]] 192::.box O [.slice H f_.People.length I,.slice D f_.Stations.length B] 78::Lf) w) {U:Bool} (hF:cE N s_ f_=some U):Calls Tryz.prog 164 #[.slice S s_.length R,.func (.func 172) #[] #[pq b_]] w (fun e w=>e=.returned (.bool U)∧Ctx G (.box b_ [.func (.func 129) #[] #[pq O]] 192::.box O [.slice H f_.People.length I,.slice D f_.Stations.length B] 78::Lf) w):=by
 unfold cE at hF
 refine bN Tryz.func164 rfl Tryz.ntmps164 rfl fun a hf=>zS fun K h=>sp 1 hf rfl fun a hf=>zT h ?_
 refine zS fun K h=>sp 2 hf rfl fun a hf=>?_
 obtain ⟨r,hr,hF⟩:=aA hF
 refine zQ (v:=i6 r) hf hc aKg rfl (fun w hc=>(kU s_ f_ V M J ((hc.pick k1).pick k1) hr).mono fun e w h=>⟨h.1,((h.2.unpick k1).unpick k1)⟩) fun a w hf hc=>sp 2 hf rfl fun a hf=>zT h ?_
 refine wp_ret ?_
 obtain rfl:=sj hF
 exact zO1 Tryz.results164 hf rfl ⟨rfl,hc⟩

def eZ (N:Nat) (l:List aC) (so:aB):Option (Bool) :=
 Option.bind (cE N l so) fun r=>
 some (!r)
theorem oF {N:Nat} {G:aQ} {Lf:List Ent} {w:World} (l:List aC) (so:aB) {S:Option Addr} {R:Nat} {b_:Nat} {I:Option Addr} {H:Nat} {B:Option Addr} {D:Nat} (V:Rd G 2 S R (l.map aF)) (M:RdT aM G 1 I H so.People) (J:RdT bA G 2 B D so.Stations) (hc:Ctx G (.box b_ [.slice I so.People.length H,.slice B so.Stations.length D] 78::Lf) w) {O:Bool} (hF:eZ N l so=some O):Calls Tryz.prog 128 #[.slice S l.length R,.func (.func 129) #[] #[pq b_]] w (fun e w=>e=.returned (.bool O)∧Ctx G (.box b_ [.slice I so.People.length H,.slice B so.Stations.length D] 78::Lf) w):=by
 unfold eZ at hF
 refine bN Tryz.func128 rfl Tryz.ntmps128 rfl fun a hf=>zS fun K h=>zB hf hc rfl fun U a w hf hc=>sp 1 hf rfl fun a hf=>zT h ?_
 refine zS fun K h=>sp 1 hf rfl fun a hf=>zP hf rfl (pMF (us:=[pq U]) rfl rfl) fun a hf=>?_
 obtain ⟨r,hr,hF⟩:=aA hF
 refine zQ (v:=.bool r) hf hc aKf rfl (fun w hc=>(jX l so V M J ((hc.pick k1).pick k1) hr).mono fun e w h=>⟨h.1,((h.2.unpick k1).unpick k1)⟩) fun a w hf hc=>sp 2 hf rfl fun a hf=>zT h ?_
 refine wp_ret ?_
 obtain rfl:=sj hF
 replace hc:=hc.drop k0
 exact zO1 Tryz.results128 hf rfl ⟨rfl,hc⟩

def dZ (N:Nat) (s_:List aC) (v:aC) (x:Int):Option (bK (Int) (Int)) :=
 cond (decide (x < ((s_.length:Nat):Int)))
 (Option.bind (aU s_ x) fun B=>
 cond (v.Person == B.Person && v.Station == B.Station)
 (some (.ret x))
 (some (.cont (W (x + 1)))))
 (some (.brk x))
def cX (N:Nat) (s_:List aC) (v:aC):Option (Int) :=
 Option.bind (aS (fun s4=>dZ N s_ v s4) N 0) fun x4=>
 exK x4 (fun s4=>some (-1)) some
theorem mY {N:Nat} {G:aQ} {Lf:List Ent} {w:World} (s_:List aC) (v:aC) {H:Option Addr} {D:Nat} (O:Rd G 2 H D (s_.map aF)) (hc:Ctx G (Lf) w) {I:Int} (hF:cX N s_ v=some I):Calls Tryz.prog 193 #[.slice H s_.length D,.agg #[i6 v.Person,i6 v.Station]] w (fun e w=>e=.returned (i6 I)∧Ctx G (Lf) w):=by
 unfold cX at hF
 refine bN Tryz.func193 rfl Tryz.ntmps193 rfl fun a hf=>zS fun K h=>zB hf hc rfl fun M a w hf hc=>sp 1 hf rfl fun a hf=>zT h ?_
 refine wp_seq_k fun K2 h2=>zS fun K h=>sp 1 hf rfl fun a hf=>zP hf rfl (aW Tryz.underlying99 rfl) fun a hf=>sp 1 hf rfl fun a hf=>zT h ?_
 refine wp_block ?_
 obtain ⟨x4,Y,hF⟩:=aA hF
 let S4:Int→Act→World→Prop:=(fun (zz:Int) a w=>Has 19 a [(0,.slice H s_.length D),(3,pq M),(7,i6 ((s_.length:Nat):Int)),(8,i6 zz)]∧Ctx G (.box M [i6 v.Person,i6 v.Station] 86::Lf) w)
 have Z:∀ (zz:Int) a w,x4=.go zz→S4 zz a w→K2 a w:=by
  rintro x a w rfl ⟨hf,hc⟩
  replace hF:=bH hF
  refine h2 _ _ ?_
  refine zS fun K h=>sp 1 hf rfl fun a hf=>zT h ?_
  refine wp_ret ?_
  obtain rfl:=sj hF
  replace hc:=hc.drop k0
  exact zO1 Tryz.results193 hf rfl ⟨rfl,hc⟩
 have U:∀ r,x4=.out r→r=I:=by
  rintro r rfl
  exact sj hF
 refine bY N (bX (S:=S4) (x:=x4) ?_ N 0 _ _ ⟨hf.kp rfl,hc⟩ Y)
 clear hF hf hc
 rintro x d a w KB4 ⟨hf,hc⟩ hF B V
 unfold dZ at hF
 refine zS fun K h=>sp 1 hf rfl fun a hf=>zT h ?_
 refine wp_seq_k fun K7 h7=>zI hf rfl hF ?_ ?_ <;> clear hF <;> intro hF
 ·refine wp_skip ?_
  refine h7 _ _ ?_
  refine wp_seq_k fun K8 h8=>wp_block ?_
  refine zS fun K h=>sp 2 hf rfl fun a hf=>zT h ?_
  refine wp_seq_k fun K10 X=>?_
  obtain ⟨J,R,hF⟩:=aA hF
  obtain ⟨b,o,qa,qp⟩:=O.atm R
  refine cQ hc aT (by kernel_rfl) ?_
  refine qE hf rfl rfl rfl (kG (vs:=[i6 v.Person,i6 v.Station]) lM rfl rfl (bM (n:=2) m0 rfl)) fun a hf=>qE hf rfl rfl rfl (Pu.ev (pM rfl)) fun a hf=>qE hf rfl rfl rfl (Pu.ev (pM rfl)) fun a hf=>qE hf rfl rfl rfl (Pu.ev (pIA Tryz.underlying99 lJ rfl rfl qa)) fun a hf=>qE hf rfl rfl rfl (kG (vs:=[i6 J.Person,i6 J.Station]) lM rfl rfl (dF qp (n:=2) (o':=0) rfl)) fun a hf=>qE hf rfl rfl rfl (Pu.ev (pEqA aFm rfl rfl (aCz _ _ _ _))) fun a hf=>?_
  intro w hc
  refine X _ _ ?_
  refine zI hf rfl hF ?_ ?_ <;> clear hF <;> intro hF
  ·refine zS fun K h=>sp 2 hf rfl fun a hf=>zT h ?_
   refine wp_ret ?_
   refine bB ?_
   refine aH ?_
   refine aH ?_
   have he:=sj hF
   rw [← he] at B
   replace hF:=U _ B
   refine bB ?_
   refine aH ?_
   obtain rfl:=hF
   replace hc:=hc.drop k0
   exact zO1 Tryz.results193 hf rfl ⟨rfl,hc⟩
  ·refine wp_skip ?_
   refine h8 _ _ ?_
   refine bW ?_
   refine sp 2 hf rfl fun a hf=>aL ?_
   exact V (W (x + 1)) _ _ (sj hF).symm ⟨hf.kp rfl,hc⟩
 ·refine wp_exit ?_
  refine aN ?_
  refine aN ?_
  have he:=sj hF
  rw [← he] at B
  refine cT ?_
  exact Z _ _ _ B ⟨hf.kp rfl,hc⟩

def cD (N:Nat) (s_:List aC) (v:aC):Option (Bool) :=
 Option.bind (cX N s_ v) fun r=>
 some (decide (0≤r))
theorem mA {N:Nat} {G:aQ} {Lf:List Ent} {w:World} (s_:List aC) (v:aC) {B:Option Addr} {D:Nat} (I:Rd G 2 B D (s_.map aF)) (hc:Ctx G (Lf) w) {H:Bool} (hF:cD N s_ v=some H):Calls Tryz.prog 173 #[.slice B s_.length D,.agg #[i6 v.Person,i6 v.Station]] w (fun e w=>e=.returned (.bool H)∧Ctx G (Lf) w):=by
 unfold cD at hF
 refine bN Tryz.func173 rfl Tryz.ntmps173 rfl fun a hf=>zS fun K h=>zB hf hc rfl fun J a w hf hc=>sp 1 hf rfl fun a hf=>zT h ?_
 refine zS fun K h=>sp 1 hf rfl fun a hf=>zN hf hc lM m0 rfl fun a w hf hc=>?_
 obtain ⟨r,hr,hF⟩:=aA hF
 refine zQ (v:=i6 r) hf hc aOa rfl (fun w hc=>mY s_ v I hc hr) fun a w hf hc=>sp 2 hf rfl fun a hf=>zT h ?_
 refine wp_ret ?_
 obtain rfl:=sj hF
 replace hc:=hc.drop k0
 exact zO1 Tryz.results173 hf rfl ⟨rfl,hc⟩

def eQ (N:Nat) (D:Int) (B:Int):Option (bK (Int × Int) (Bool)) :=
 some (.cont (B,W (D + 1)))
def eR (N:Nat) (ahead:List aC) (B:Int) (D:Bool) (xv:Int):Option (Rs (Bool)) :=
 Option.bind (cond D (Option.bind (cD N ahead (⟨B,xv⟩:aC)) fun H=>
 some H) (some false)) fun I=>
 some (.go I)
def fG (N:Nat) (w_:aV) (x:aC) (ahead:List aC) (D:Int) (B:Int):Option (bK (Int × Int) (Bool)) :=
 cond (decide (B < ((w_.Roster.People.length:Nat):Int)))
 (Option.bind (fE N w_ B x.Station) fun R=>
 Option.bind (cond (!R) (some true) (Option.bind (inR x.Station 12) fun un=>
 Option.bind (inR B 12) fun S=>
 Option.bind (inR x.Station 12) fun U=>
 Option.bind (inR x.Person 12) fun V=>
 some (decide ((w_.rank (x.Station * 12 + x.Person).toNat)≤(w_.rank (x.Station * 12 + B).toNat))))) fun O=>
 cond O
 (eQ N B D)
 (Option.bind (fK N w_ B x.Station) fun I=>
 Option.bind (dC N w_ I.1 I.2 (rY (fun (zz:Bool) (M:Int)=>eR N ahead B zz M)) (.go true)) fun J=>
 rsK J (fun H=>cond H
 (eQ N B (W (D + 1)))
 (eQ N B D)) (fun H=>none)))
 (some (.brk (D,B)))
def nG (N:Nat) (w_:aV) (x:aC) (ahead:List aC):Option (Bool) :=
 Option.bind (fE N w_ x.Person x.Station) fun r=>
 cond (!r)
 (some true)
 (Option.bind (aS (fun s8=>fG N w_ x ahead s8.1 s8.2) N (0,0)) fun x8=>
 exK x8 (fun s8=>Option.bind (aU w_.Roster.Stations x.Station) fun B=>
 some (decide (B.Places≤s8.1))) some)
theorem yY {N:Nat} {G:aQ} {Lf:List Ent} {w:World} (w_:aV) (x:aC) (ahead:List aC) {b_:Nat} {Z:Option Addr} {b:Nat} {Y:Option Addr} {X:Nat} {D:Option Addr} {H:Nat} (I:RdT aM G 1 Z b w_.Roster.People) (B:RdT bA G 2 Y X w_.Roster.Stations) (U:PC G b_ 0 (vT [.slice Z w_.Roster.People.length b,.slice Y w_.Roster.Stations.length X] 144 aD w_.rank [])) (af:Rd G 2 D H (ahead.map aF)) (hc:Ctx G (Lf) w) {ak:Bool} (hF:nG N w_ x ahead=some ak):Calls Tryz.prog 130 #[pq b_,.agg #[i6 x.Person,i6 x.Station],.slice D ahead.length H] w (fun e w=>e=.returned (.bool ak)∧Ctx G (Lf) w):=by
 unfold nG at hF
 refine aKq Tryz.func130 rfl Tryz.ntmps130 rfl fun a hf=>zS fun K h=>zB hf hc rfl fun R a w hf hc=>zB hf hc rfl fun V a w hf hc=>sp 1 hf rfl fun a hf=>zT h ?_
 refine wp_seq_k fun K2 h2=>zS fun K h=>sp 1 hf rfl fun a hf=>zP hf rfl (pFA aCe rfl) fun a hf=>zL hf hc bG m1 rfl fun a w hf hc=>zP hf rfl (pFA tZ rfl) fun a hf=>zL hf hc bG m1 rfl fun a w hf hc=>?_
 obtain ⟨r,hr,hF⟩:=aA hF
 refine zQ (v:=.bool r) hf hc aCs rfl (fun w hc=>iP w_ x.Person x.Station I B U hc hr) fun a w hf hc=>sp 1 hf rfl fun a hf=>zT h ?_
 refine zI hf rfl hF ?_ ?_ <;> clear hF <;> intro hF
 ·refine zS fun K h=>sp 1 hf rfl fun a hf=>zT h ?_
  refine wp_ret ?_
  refine aH ?_
  obtain rfl:=sj hF
  replace hc:=(hc.drop k1).drop k0
  refine aC3 hf ?_
  exact aM7 Tryz.results130 hf hc (show iX _ 6=_ from rfl) ⟨rfl,hc⟩
 ·refine wp_skip ?_
  refine h2 _ _ ?_
  refine zS fun K h=>sp 1 hf rfl fun a hf=>zT h ?_
  refine wp_seq_k fun K6 h6=>zS fun K h=>sp 2 hf rfl fun a hf=>zP hf rfl (pFA pS rfl) fun a hf=>zP hf rfl (pFA iK rfl) fun a hf=>zE hf hc rfl (bF gB rfl (aR (j:=0) U rfl)) fun a w hf hc=>zP hf rfl (aW Tryz.underlying75 rfl) fun a hf=>sp 1 hf rfl fun a hf=>zT h ?_
  refine wp_block ?_
  obtain ⟨x8,a7,hF⟩:=aA hF
  let S8:(Int × Int)→Act→World→Prop:=(fun (zz:Int × Int) a w=>∃ (Ds:List Nat),Has ⟨85,tR Ds⟩ a [(0,pq b_),(4,pq R),(5,pq V),(7,i6 zz.1),(23,i6 ((w_.Roster.People.length:Nat):Int)),(24,i6 zz.2)]∧Ctx G (.box V [.slice D ahead.length H] 99::.box R [i6 x.Person,i6 x.Station] 86::(yC Ds++Lf)) w)
  have a3:∀ (zz:Int × Int) a w,x8=.go zz→S8 zz a w→K6 a w:=by
   rintro ⟨d,O⟩ a w rfl ⟨Ds,hf,hc⟩
   replace hF:=bH hF
   refine h6 _ _ ?_
   refine wp_seq_k fun K9 h9=>?_
   obtain ⟨bg,au,hF⟩:=aA hF
   obtain ⟨bd,o,hd,qa,qp,qr⟩:=B.atm au
   refine cQ hc aT (by kernel_rfl) ?_
   refine qE hf rfl rfl rfl (Pu.ev (pM rfl)) fun a hf=>qE hf rfl rfl rfl (Pu.ev (pM rfl)) fun a hf=>qE hf rfl rfl rfl (Pu.ev (pNC rfl)) fun a hf=>qE hf rfl rfl rfl (Pu.ev (pFA pS rfl)) fun a hf=>qE hf rfl rfl rfl (Pu.ev (pFA fJ rfl)) fun a hf=>qE hf rfl rfl rfl (bF mR rfl (aR (j:=1) U rfl)) fun a hf=>qE hf rfl rfl rfl (Pu.ev (pFA tZ rfl)) fun a hf=>qE hf rfl rfl rfl (bF bG rfl (bL m1 rfl)) fun a hf=>qE hf rfl rfl rfl (Pu.ev (pIA Tryz.underlying76 mK rfl rfl qa)) fun a hf=>qE hf rfl rfl rfl (Pu.ev (pFA oU rfl)) fun a hf=>qE hf rfl rfl rfl (bF bG rfl (aR (j:=0) qp rfl)) fun a hf=>qE hf rfl rfl rfl (Pu.ev (pGe rfl rfl)) fun a hf=>qE hf rfl rfl rfl (Pu.ev (pA rfl)) fun a hf=>?_
   intro w hc
   refine h9 _ _ ?_
   refine wp_ret ?_
   obtain rfl:=sj hF
   replace hc:=(hc.drop k1).drop k0
   refine aC3 hf ?_
   refine aGb [] Ds hc fun w hc=>?_
   replace hc:Ctx G (Lf) w:=hc
   exact aM7 Tryz.results130 hf hc (show iX _ 6=_ from rfl) ⟨rfl,hc⟩
  have bi:∀ r,x8=.out r→r=ak:=by
   rintro r rfl
   exact sj hF
  replace hf:=aMm hf
  replace hc:Ctx G (.box V [.slice D ahead.length H] 99::.box R [i6 x.Person,i6 x.Station] 86::(yC []++Lf)) w:=hc
  refine bY N (bX (S:=S8) (x:=x8) ?_ N (0,0) _ _ ⟨[],hf.kp rfl,hc⟩ a7)
  clear hF hf hc
  rintro ⟨d,O⟩ ag a w KB8 ⟨Ds,hf,hc⟩ hF ad ay
  unfold fG at hF
  refine zS fun K h=>sp 1 hf rfl fun a hf=>zT h ?_
  refine wp_seq_k fun K11 a9=>zI hf rfl hF ?_ ?_ <;> clear hF <;> intro hF
  ·refine wp_skip ?_
   refine a9 _ _ ?_
   refine wp_seq_k fun K12 a0=>?_
   have ab:∀ (p:Int) (Ds_1:List Nat) a w,Has ⟨85,tR Ds_1⟩ a [(0,pq b_),(4,pq R),(5,pq V),(7,i6 p),(23,i6 ((w_.Roster.People.length:Nat):Int)),(24,i6 O)]→Ctx G (.box V [.slice D ahead.length H] 99::.box R [i6 x.Person,i6 x.Station] 86::(yC Ds_1++Lf)) w→eQ N O p=some ag→K12 a w:=by
    repeat (clear hF)
    repeat (clear hc)
    repeat (clear hf)
    intro p Ds_1 a w hf hc hF
    unfold eQ at hF
    refine a0 _ _ ?_
    refine bW ?_
    refine sp 2 hf rfl fun a hf=>aL ?_
    exact ay (p,W (O + 1)) _ _ (sj hF).symm ⟨Ds_1,hf.kp rfl,hc⟩
   refine wp_block ?_
   refine zS fun K h=>sp 1 hf rfl fun a hf=>zA hf hc aJ9 rfl fun i a w hf hc=>zW hf hc eH u0 rfl fun w hc=>zT h ?_
   refine wp_seq_k fun K14 a1=>wp_seq_k fun K15 ax=>?_
   obtain ⟨aa,aq,hF⟩:=aA hF
   obtain ⟨a5,am,hF⟩:=aA hF
   refine cQ hc aT (by kernel_rfl) ?_
   refine qE hf rfl rfl rfl (Pu.ev (pM rfl)) fun a hf=>qE hf rfl rfl rfl (bF bG rfl (bL m0 rfl)) fun a hf=>qE hf rfl rfl rfl (Pu.ev (pFA tZ rfl)) fun a hf=>qE hf rfl rfl rfl (bF bG rfl (bL m2 rfl)) fun a hf=>qE hf rfl rfl rfl (eC (v:=.bool aa) (vs:=[pq b_,i6 O,i6 x.Station]) (caps:=[]) aCs rfl rfl rfl rfl (fun w hc=>iP w_ O x.Station I B U hc aq)) fun a hf=>qE hf rfl rfl rfl (Pu.ev (aEy rfl)) fun a hf=>qE hf rfl rfl rfl (Pu.ev (pM rfl)) fun a hf=>aBc 21 (fun a=>Has ⟨85,tR Ds⟩ a [(0,pq b_),(4,pq R),(5,pq V),(7,i6 d),(23,i6 ((w_.Roster.People.length:Nat):Int)),(24,i6 O),(8,pq i),(27,pq b_),(28,i6 O),(29,.pointer (some ⟨R,1,none⟩)),(30,i6 x.Station),(31,.bool aa),(32,.bool (!aa)),(33,.bool (!aa)),(54,.bool a5)]) ?_ ?_
   ·cases hb:(!aa)
    ·rw [hb] at hf
     have hF:=gN hb am
     obtain ⟨un,ac,hF⟩:=aA hF
     obtain ⟨ba,t,hF⟩:=aA hF
     obtain ⟨bb,q,hF⟩:=aA hF
     obtain ⟨bc,s,hF⟩:=aA hF
     refine qE hf rfl rfl rfl (Pu.ev (pM rfl)) fun a hf=>qE hf rfl rfl rfl (Pu.ev (pFA tZ rfl)) fun a hf=>qE hf rfl rfl rfl (bF bG rfl (bL m2 rfl)) fun a hf=>qE hf rfl rfl rfl (bF bG rfl (bL m0 rfl)) fun a hf=>qE hf rfl rfl rfl (Pu.ev (pNC rfl)) fun a hf=>qE hf rfl rfl rfl (Pu.ev (pFA rO rfl)) fun a hf=>qE hf rfl rfl rfl (Pu.ev (sV Tryz.underlying179 xO rfl rfl (bJ ac).1 (bJ ac).2)) fun a hf=>qE hf rfl rfl rfl (Pu.ev (Pu.cast (sV Tryz.underlying178 eH rfl rfl (bJ t).1 (bJ t).2) (congrArg (fun k=>Value.pointer (some ⟨b_,k,none⟩)) (rX (M:=12) (0 + 2) ac t rfl)))) fun a hf=>qE hf rfl rfl rfl (bF bG rfl (tI (j:=0) U (fun x=>(bP x).1) rfl (aGe ac t rfl) rfl)) fun a hf=>qE hf rfl rfl rfl (Pu.ev (pM rfl)) fun a hf=>qE hf rfl rfl rfl (Pu.ev (pFA tZ rfl)) fun a hf=>qE hf rfl rfl rfl (bF bG rfl (bL m2 rfl)) fun a hf=>qE hf rfl rfl rfl (Pu.ev (pFA aCe rfl)) fun a hf=>?_
     refine qE hf rfl rfl rfl (bF bG rfl (bL m2 rfl)) fun a hf=>qE hf rfl rfl rfl (Pu.ev (pNC rfl)) fun a hf=>qE hf rfl rfl rfl (Pu.ev (pFA rO rfl)) fun a hf=>qE hf rfl rfl rfl (Pu.ev (sV Tryz.underlying179 xO rfl rfl (bJ q).1 (bJ q).2)) fun a hf=>qE hf rfl rfl rfl (Pu.ev (Pu.cast (sV Tryz.underlying178 eH rfl rfl (bJ s).1 (bJ s).2) (congrArg (fun k=>Value.pointer (some ⟨b_,k,none⟩)) (rX (M:=12) (0 + 2) q s rfl)))) fun a hf=>qE hf rfl rfl rfl (bF bG rfl (tI (j:=0) U (fun x=>(bP x).1) rfl (aGe q s rfl) rfl)) fun a hf=>qE hf rfl rfl rfl (Pu.ev (pGe rfl rfl)) fun a hf=>qE hf rfl rfl rfl (Pu.ev (pPf rfl rfl)) fun a hf=>?_
     obtain rfl:=sj hF
     exact rV (hf.kp rfl)
    ·rw [hb] at hf
     have hF:=fU hb am
     obtain rfl:=sj hF
     refine qS hf rfl rfl rfl fun a hf=>qS hf rfl rfl rfl fun a hf=>qS hf rfl rfl rfl fun a hf=>qS hf rfl rfl rfl fun a hf=>qS hf rfl rfl rfl fun a hf=>qS hf rfl rfl rfl fun a hf=>qS hf rfl rfl rfl fun a hf=>qS hf rfl rfl rfl fun a hf=>qS hf rfl rfl rfl fun a hf=>qS hf rfl rfl rfl fun a hf=>qS hf rfl rfl rfl fun a hf=>qS hf rfl rfl rfl fun a hf=>qS hf rfl rfl rfl fun a hf=>?_
     refine qS hf rfl rfl rfl fun a hf=>qS hf rfl rfl rfl fun a hf=>qS hf rfl rfl rfl fun a hf=>qS hf rfl rfl rfl fun a hf=>qS hf rfl rfl rfl fun a hf=>qS hf rfl rfl rfl fun a hf=>qS hf rfl rfl rfl fun a hf=>qE hf rfl rfl rfl (Pu.ev (pPt rfl rfl)) fun a hf=>rV (hf.kp rfl)
   intro a hf
   intro w hc
   refine ax _ _ ?_
   refine zI hf rfl hF ?_ ?_ <;> clear hF <;> intro hF
   ·refine wp_exit ?_
    refine aN ?_
    refine cT ?_
    replace hc:=hc.drop k0
    exact ab d Ds _ _  (hf.kp rfl) hc hF
   ·refine wp_skip ?_
    refine a1 _ _ ?_
    refine zS fun K h=>zA hf hc zr_4 rfl fun n a w hf hc=>zW hf hc sz_4 u0 rfl fun w hc=>zT h ?_
    refine wp_seq_k fun K17 a6=>zS fun K h=>sp 1 hf rfl fun a hf=>zL hf hc bG m1 rfl fun a w hf hc=>zP hf rfl (pFA tZ rfl) fun a hf=>zL hf hc bG m3 rfl fun a w hf hc=>?_
    obtain ⟨m,ar,hF⟩:=aA hF
    refine zC hf aE6 rfl (oO w_ O x.Station I B U hc ar) ?_
    rintro _ w ⟨z,y,u,rfl,hc⟩
    refine ⟨_,rfl,fun a hf=>?_⟩
    refine zT h ?_
    obtain ⟨a8,ap,hF⟩:=aA hF
    refine aKc (C:=[.box z [pq b_] 166,.box y [i6 m.1] 3,.box u [i6 m.2] 3]) (C2:=[.box z [pq b_] 166,.box y [i6 m.1] 3,.box u [i6 m.2] 3]) (L0:=[.box n [.bool true] 4,.box i [i6 O] 3,.box V [.slice D ahead.length H] 99,.box R [i6 x.Person,i6 x.Station] 86]) (Lf:=(yC Ds++Lf)) (encs:=fun x:Int=>[i6 x]) (fun (zz:Bool) L=>L=[.box n [.bool zz] 4,.box i [i6 O] 3,.box V [.slice D ahead.length H] 99,.box R [i6 x.Person,i6 x.Station] 86]) (fun (zz:Bool) (az:Int)=>eR N ahead O zz az) true a8 hf hc rfl aG4 (fun _=>rfl) rfl rfl ?_ ?_ ?_ ?_
    ·intro lq mq J L Lx w hy hJ hc
     exact nO w_ m.1 m.2 I B U J _ hy _ hJ hc ap
    ·clear hF hf hc
     rintro lq mq g xv oq _ Lr Lb a w bf rfl hF hf hc hK
     replace hf:Has 85 a [(0,pq b_),(4,pq R),(5,pq V),(7,i6 d),(8,pq i),(9,pq n),(23,i6 ((w_.Roster.People.length:Nat):Int)),(24,i6 O),(60,i6 xv)]:=hf.kp rfl
     replace hc:Ctx G (.box n [.bool g] 4::.box i [i6 O] 3::.box V [.slice D ahead.length H] 99::.box R [i6 x.Person,i6 x.Station] 86::Lr) w:=hc
     replace hF:eR N ahead O g xv=some oq:=hF
     unfold eR at hF
     refine wF (fun _ _ h=>h) rfl ?_
     refine sp 1 hf rfl fun a hf=>aL ?_
     refine hK _ _ [.box n [.bool g] 4,.box i [i6 O] 3,.box V [.slice D ahead.length H] 99,.box R [i6 x.Person,i6 x.Station] 86] hc fun w hc=>?_
     replace hc:Ctx G (.box n [.bool g] 4::.box i [i6 O] 3::.box V [.slice D ahead.length H] 99::.box R [i6 x.Person,i6 x.Station] 86::Lb) w:=hc
     refine aG2 fun K20 a2=>aDq ?_
     refine wF (fun _ _ h=>h) rfl ?_
     refine zL hf hc sc_4 m0 rfl fun a w hf hc=>sp 1 hf rfl fun a hf=>?_
     obtain ⟨an,ai,hF⟩:=aA hF
     refine fV 6 (fun a=>Has 85 a [(0,pq b_),(4,pq R),(5,pq V),(7,i6 d),(8,pq i),(9,pq n),(23,i6 ((w_.Roster.People.length:Nat):Int)),(24,i6 O),(10,i6 xv),(61,.bool g),(62,.bool g),(68,.bool an)]) hc ?_ ?_
     ·cases hb:g
      ·rw [hb] at hf
       try rw [hb] at hc
       have hF:=gN hb ai
       obtain rfl:=sj hF
       refine stS hf rfl rfl rfl fun a hf=>stS hf rfl rfl rfl fun a hf=>stS hf rfl rfl rfl fun a hf=>stS hf rfl rfl rfl fun a hf=>stS hf rfl rfl rfl fun a hf=>sp 1 hf rfl fun a hf=>aL ⟨hf.kp rfl,hc⟩
      ·rw [hb] at hf
       try rw [hb] at hc
       have hF:=fU hb ai
       refine zL hf hc aHh m2 rfl fun a w hf hc=>zL hf hc bG m1 rfl fun a w hf hc=>sp 1 hf rfl fun a hf=>zP hf rfl (cK (cells:=[i6 O,i6 xv]) uW rfl rfl) fun a hf=>?_
       obtain ⟨a4,av,hF⟩:=aA hF
       refine zQ (v:=.bool a4) hf hc aOi rfl (fun w hc=>mA ahead (⟨O,xv⟩:aC) af hc av) fun a w hf hc=>sp 1 hf rfl fun a hf=>?_
       obtain rfl:=sj hF
       exact aL ⟨hf.kp rfl,hc⟩
     intro a w ⟨hf,hc⟩
     refine zW hf hc sz_4 u0 rfl fun w hc=>aL ?_
     refine a2 _ _ ?_
     exact ⟨an,_,(sj hF).symm,rfl,hc⟩
    ·rintro D_1 g _ a w aj rfl hf hc
     replace hf:Has ⟨85,tR (D_1::Ds)⟩ a [(0,pq b_),(4,pq R),(5,pq V),(7,i6 d),(8,pq i),(9,pq n),(23,i6 ((w_.Roster.People.length:Nat):Int)),(24,i6 O)]:=hf.kp rfl
     replace hc:Ctx G (.box z [pq b_] 166::.box y [i6 m.1] 3::.box u [i6 m.2] 3::.box n [.bool g] 4::.box i [i6 O] 3::.box V [.slice D ahead.length H] 99::.box R [i6 x.Person,i6 x.Station] 86::(yC (D_1::Ds)++Lf)) w:=aA4 (C:=[.box z [pq b_] 166,.box y [i6 m.1] 3,.box u [i6 m.2] 3]) (L:=[.box n [.bool g] 4,.box i [i6 O] 3,.box V [.slice D ahead.length H] 99,.box R [i6 x.Person,i6 x.Station] 86]) hc
     replace hF:(cond g (eQ N O (W (d + 1))) (eQ N O d))=some ag:=by rcases aj with rfl | rfl <;> exact hF
     refine a6 _ _ ?_
     refine zS fun K h=>zL hf hc sc_4 m3 rfl fun a w hf hc=>zT h ?_
     refine zI hf rfl hF ?_ ?_ <;> clear hF <;> intro hF
     ·refine bW ?_
      refine sp 3 hf rfl fun a hf=>aL ?_
      replace hc:=((((hc.drop k4).drop k3).drop k2).drop k1).drop k0
      exact ab (W (d + 1)) (D_1::Ds) _ _  (hf.kp rfl) hc hF
     ·refine wp_skip ?_
      replace hc:=((((hc.drop k4).drop k3).drop k2).drop k1).drop k0
      exact ab d (D_1::Ds) _ _  (hf.kp rfl) hc hF
    ·rintro D_1 g _ a w aj rfl hf hc
     replace hf:Has ⟨85,tR (D_1::Ds)⟩ a [(0,pq b_),(4,pq R),(5,pq V),(7,i6 d),(8,pq i),(9,pq n),(23,i6 ((w_.Roster.People.length:Nat):Int)),(24,i6 O)]:=hf.kp rfl
     replace hc:Ctx G (.box z [pq b_] 166::.box y [i6 m.1] 3::.box u [i6 m.2] 3::.box n [.bool g] 4::.box i [i6 O] 3::.box V [.slice D ahead.length H] 99::.box R [i6 x.Person,i6 x.Station] 86::(yC (D_1::Ds)++Lf)) w:=aA4 (C:=[.box z [pq b_] 166,.box y [i6 m.1] 3,.box u [i6 m.2] 3]) (L:=[.box n [.bool g] 4,.box i [i6 O] 3,.box V [.slice D ahead.length H] 99,.box R [i6 x.Person,i6 x.Station] 86]) hc
     replace hF:(none)=some ag:=by subst aj; exact hF
     cases hF
  ·refine wp_exit ?_
   refine aN ?_
   refine aN ?_
   have he:=sj hF
   rw [← he] at ad
   refine cT ?_
   exact a3 _ _ _ ad ⟨Ds,hf.kp rfl,hc⟩

def wH (N:Nat) (l:List aC):Option (bK (Unit) (Bool × Int)) :=
 cond (decide (0 < ((l.length:Nat):Int)))
 (Option.bind (aU l 0) fun B=>
 none)
 (some (.brk ()))
def jH (N:Nat) (r:aB) (l:List aC) (B:(Nat→Int) × Int) (x:Int):Option (bK (Int) (Bool × Int)) :=
 cond (decide (x < ((l.length:Nat):Int)))
 (Option.bind (aU l x) fun D=>
 Option.bind (yP l 0 x) fun sub=>
 Option.bind (nG N (⟨r,B.1⟩:aV) D sub) fun H=>
 cond (!H)
 (some (.ret (false,0)))
 (some (.cont (W (x + 1)))))
 (some (.brk x))
def mS (N:Nat) (r:aB) (l:List aC):Option (Bool × Int) :=
 Option.bind (kB N r) (aB0 (fun D=>cond (D != 0)
 (some (false,D))
 (cond (decide (144 < ((l.length:Nat):Int)))
 (some (false,3))
 (Option.bind (eZ N l r) fun O=>
 cond (!O)
 (some (false,2))
 (Option.bind (aS (fun (_:Unit)=>wH N l) N ()) fun I=>
 exK I (fun (_:Unit)=>some (true,0)) some))))
 (fun B=>cond (B.2 != 0)
 (some (false,B.2))
 (cond (decide (144 < ((l.length:Nat):Int)))
 (some (false,3))
 (Option.bind (eZ N l r) fun J=>
 cond (!J)
 (some (false,2))
 (Option.bind (aS (fun H=>jH N r l B H) N 0) fun M=>
 exK M (fun H=>some (true,0)) some)))))
theorem yI {N:Nat} {G:aQ} {Lf:List Ent} {w:World} (r:aB) (l:List aC) {M:Option Addr} {O:Nat} {I:Option Addr} {J:Nat} {X:Option Addr} {U:Nat} (H:RdT aM G 1 M O r.People) (D:RdT bA G 2 I J r.Stations) (Y:Rd G 2 X U (l.map aF)) (hc:Ctx G (Lf) w) {d:Bool × Int} (hF:mS N r l=some d):Calls Tryz.prog 59 #[.agg #[.slice M r.People.length O,.slice I r.Stations.length J],.slice X l.length U] w (fun e w=>e=.returned (.tuple #[.bool d.1,i6 d.2])∧Ctx G (Lf) w):=by
 unfold mS at hF
 refine bN Tryz.func59 rfl Tryz.ntmps59 rfl fun a hf=>zS fun K h=>zB hf hc rfl fun m a w hf hc=>sp 2 hf rfl fun a hf=>zT h ?_
 refine wp_seq_k fun K2 h2=>bW ?_
 refine zN hf hc nY m0 rfl fun a w hf hc=>?_
 obtain ⟨q,i,hF⟩:=aA hF
 cases q with
 | inl q=>
  replace hF:=aG9 hF
  refine zC hf wY rfl (iY r H D hc i) ?_
  rintro _ w ⟨rfl,hc⟩
  refine ⟨_,rfl,fun a hf=>?_⟩
  refine sp 5 hf rfl fun a hf=>aL ?_
  refine h2 _ _ ?_
  refine wp_seq_k fun K3 h3=>wp_block ?_
  refine zS fun K h=>sp 3 hf rfl fun a hf=>zT h ?_
  refine zI hf rfl hF ?_ ?_ <;> clear hF <;> intro hF
  ·refine zS fun K h=>sp 3 hf rfl fun a hf=>zT h ?_
   refine wp_ret ?_
   refine bB ?_
   refine aH ?_
   obtain rfl:=sj hF
   replace hc:=hc.drop k0
   exact zO2 Tryz.results59 hf rfl rfl ⟨rfl,hc⟩
  ·refine zS fun K h=>sp 1 hf rfl fun a hf=>zP hf rfl (aW Tryz.underlying99 rfl) fun a hf=>sp 2 hf rfl fun a hf=>zT h ?_
   refine zI hf rfl hF ?_ ?_ <;> clear hF <;> intro hF
   ·refine zS fun K h=>sp 2 hf rfl fun a hf=>zT h ?_
    refine wp_ret ?_
    refine bB ?_
    refine aH ?_
    obtain rfl:=sj hF
    replace hc:=hc.drop k0
    exact zO2 Tryz.results59 hf rfl rfl ⟨rfl,hc⟩
   ·refine zS fun K h=>sp 1 hf rfl fun a hf=>zP hf rfl (pMF (us:=[pq m]) rfl rfl) fun a hf=>?_
    obtain ⟨ar,aa,hF⟩:=aA hF
    refine zQ (v:=.bool ar) hf hc aJb rfl (fun w hc=>(oF l r Y H D (hc.pick k0) aa).mono fun e w h=>⟨h.1,(h.2.unpick k0)⟩) fun a w hf hc=>sp 2 hf rfl fun a hf=>zT h ?_
    refine zI hf rfl hF ?_ ?_ <;> clear hF <;> intro hF
    ·refine zS fun K h=>sp 2 hf rfl fun a hf=>zT h ?_
     refine wp_ret ?_
     refine bB ?_
     refine aH ?_
     obtain rfl:=sj hF
     replace hc:=hc.drop k0
     exact zO2 Tryz.results59 hf rfl rfl ⟨rfl,hc⟩
    ·refine wp_skip ?_
     refine h3 _ _ ?_
     refine wp_seq_k fun K10 az=>zS fun K h=>sp 1 hf rfl fun a hf=>zP hf rfl (aW Tryz.underlying99 rfl) fun a hf=>sp 1 hf rfl fun a hf=>zT h ?_
     refine wp_block ?_
     obtain ⟨g,t,hF⟩:=aA hF
     let S12:Unit→Act→World→Prop:=(fun (zz:Unit) a w=>Has 43 a [(1,.slice X l.length U),(6,.pointer none),(28,.slice X l.length U),(29,i6 ((l.length:Nat):Int)),(30,i6 0)]∧Ctx G (Lf) w)
     have aj:∀ (zz:Unit) a w,g=.go zz→S12 zz a w→K10 a w:=by
      rintro ⟨⟩ a w rfl ⟨hf,hc⟩
      replace hF:=bH hF
      refine az _ _ ?_
      refine zS fun K h=>sp 2 hf rfl fun a hf=>zT h ?_
      refine wp_ret ?_
      obtain rfl:=sj hF
      exact zO2 Tryz.results59 hf rfl rfl ⟨rfl,hc⟩
     have a2:∀ r,g=.out r→r=d:=by
      rintro r rfl
      exact sj hF
     replace hc:=hc.drop k0
     refine bY N (bX (S:=S12) (x:=g) ?_ N () _ _ ⟨hf.kp rfl,hc⟩ t)
     clear hF hf hc
     rintro ⟨⟩ a5 a w KB12 ⟨hf,hc⟩ hF b a4
     unfold wH at hF
     refine zS fun K h=>sp 1 hf rfl fun a hf=>zT h ?_
     refine wp_seq_k fun K15 an=>zI hf rfl hF ?_ ?_ <;> clear hF <;> intro hF
     ·refine wp_skip ?_
      refine an _ _ ?_
      refine wp_seq_k fun K16 a9=>wp_block ?_
      refine zS fun K h=>sp 1 hf rfl fun a hf=>?_
      obtain ⟨s,ac,hF⟩:=aA hF
      obtain ⟨a6,o,qa,qp⟩:=Y.atm ac
      refine zP hf rfl (pIA Tryz.underlying99 lJ rfl rfl qa) fun a hf=>zE hf hc rfl (kG (vs:=[i6 s.Person,i6 s.Station]) lM rfl rfl (dF qp (n:=2) (o':=0) rfl)) fun a w hf hc=>zA hf hc yL rfl fun a7 a w hf hc=>sp 1 hf rfl fun a hf=>zW hf hc lJ u0 rfl fun w hc=>zT h ?_
      refine wp_seq_k fun K18 ba=>aBs hF
     ·refine wp_exit ?_
      refine aN ?_
      refine aN ?_
      have he:=sj hF
      rw [← he] at b
      refine cT ?_
      exact aj _ _ _ b ⟨hf.kp rfl,hc⟩
 | inr a1=>
  replace hF:=aHk hF
  have ab:=i
  refine zC hf wY rfl (iY r H D hc ab) ?_
  rintro _ w ⟨p,rfl,hc⟩
  refine ⟨_,rfl,fun a hf=>?_⟩
  refine sp 5 hf rfl fun a hf=>aL ?_
  obtain ⟨G,B,Z,hc,-⟩:=aHz hc k0
  replace Z:=aIh Z
  refine h2 _ _ ?_
  refine wp_seq_k fun K19 aq=>wp_block ?_
  refine zS fun K h=>sp 3 hf rfl fun a hf=>zT h ?_
  refine zI hf rfl hF ?_ ?_ <;> clear hF <;> intro hF
  ·refine zS fun K h=>sp 3 hf rfl fun a hf=>zT h ?_
   refine wp_ret ?_
   refine bB ?_
   refine aH ?_
   obtain rfl:=sj hF
   replace hc:=hc.down B
   replace hc:=hc.drop k0
   exact zO2 Tryz.results59 hf rfl rfl ⟨rfl,hc⟩
  ·refine zS fun K h=>sp 1 hf rfl fun a hf=>zP hf rfl (aW Tryz.underlying99 rfl) fun a hf=>sp 2 hf rfl fun a hf=>zT h ?_
   refine zI hf rfl hF ?_ ?_ <;> clear hF <;> intro hF
   ·refine zS fun K h=>sp 2 hf rfl fun a hf=>zT h ?_
    refine wp_ret ?_
    refine bB ?_
    refine aH ?_
    obtain rfl:=sj hF
    replace hc:=hc.down B
    replace hc:=hc.drop k0
    exact zO2 Tryz.results59 hf rfl rfl ⟨rfl,hc⟩
   ·refine zS fun K h=>sp 1 hf rfl fun a hf=>zP hf rfl (pMF (us:=[pq m]) rfl rfl) fun a hf=>?_
    obtain ⟨ay,ak,hF⟩:=aA hF
    refine zQ (v:=.bool ay) hf hc aJb rfl (fun w hc=>(oF l r (Y.mono B) (H.mono B) (D.mono B) (hc.pick k0) ak).mono fun e w h=>⟨h.1,(h.2.unpick k0)⟩) fun a w hf hc=>sp 2 hf rfl fun a hf=>zT h ?_
    refine zI hf rfl hF ?_ ?_ <;> clear hF <;> intro hF
    ·refine zS fun K h=>sp 2 hf rfl fun a hf=>zT h ?_
     refine wp_ret ?_
     refine bB ?_
     refine aH ?_
     obtain rfl:=sj hF
     replace hc:=hc.down B
     replace hc:=hc.drop k0
     exact zO2 Tryz.results59 hf rfl rfl ⟨rfl,hc⟩
    ·refine wp_skip ?_
     refine aq _ _ ?_
     refine wp_seq_k fun K26 ax=>zS fun K h=>sp 1 hf rfl fun a hf=>zP hf rfl (aW Tryz.underlying99 rfl) fun a hf=>sp 1 hf rfl fun a hf=>zT h ?_
     refine wp_block ?_
     obtain ⟨k,u,hF⟩:=aA hF
     let S28:Int→Act→World→Prop:=(fun (zz:Int) a w=>Has 43 a [(1,.slice X l.length U),(6,pq p),(28,.slice X l.length U),(29,i6 ((l.length:Nat):Int)),(30,i6 zz)]∧Ctx G (Lf) w)
     have ai:∀ (zz:Int) a w,k=.go zz→S28 zz a w→K26 a w:=by
      rintro x a w rfl ⟨hf,hc⟩
      replace hF:=bH hF
      refine ax _ _ ?_
      refine zS fun K h=>sp 2 hf rfl fun a hf=>zT h ?_
      refine wp_ret ?_
      obtain rfl:=sj hF
      replace hc:=hc.down B
      exact zO2 Tryz.results59 hf rfl rfl ⟨rfl,hc⟩
     have ad:∀ r,k=.out r→r=d:=by
      rintro r rfl
      exact sj hF
     replace hc:=hc.drop k0
     refine bY N (bX (S:=S28) (x:=k) ?_ N 0 _ _ ⟨hf.kp rfl,hc⟩ u)
     clear hF hf hc
     rintro x a3 a w KB28 ⟨hf,hc⟩ hF R z
     unfold jH at hF
     refine zS fun K h=>sp 1 hf rfl fun a hf=>zT h ?_
     refine wp_seq_k fun K31 a0=>zI hf rfl hF ?_ ?_ <;> clear hF <;> intro hF
     ·refine wp_skip ?_
      refine a0 _ _ ?_
      refine wp_seq_k fun K32 au=>wp_block ?_
      refine zS fun K h=>sp 1 hf rfl fun a hf=>?_
      obtain ⟨V,am,hF⟩:=aA hF
      obtain ⟨bc,bb,ag,y⟩:=(Y.mono B).atm am
      refine zP hf rfl (pIA Tryz.underlying99 lJ rfl rfl ag) fun a hf=>zE hf hc rfl (kG (vs:=[i6 V.Person,i6 V.Station]) lM rfl rfl (dF y (n:=2) (o':=0) rfl)) fun a w hf hc=>zA hf hc yL rfl fun a8 a w hf hc=>sp 1 hf rfl fun a hf=>zW hf hc lJ u0 rfl fun w hc=>zT h ?_
      refine wp_seq_k fun K34 av=>?_
      obtain ⟨sub,j,hF⟩:=aA hF
      have qs:=Rd.sub (Y.mono B) j
      obtain ⟨ap,af,hF⟩:=aA hF
      refine cQ hc aT (by kernel_rfl) ?_
      refine qE hf rfl rfl rfl (Pu.ev (pM rfl)) fun a hf=>qE hf rfl rfl rfl (kG (vs:=[i6 V.Person,i6 V.Station]) lM rfl rfl (bM (n:=2) m0 rfl)) fun a hf=>qE hf rfl rfl rfl (Pu.ev (pM rfl)) fun a hf=>qE hf rfl rfl rfl (Pu.ev (pM rfl)) fun a hf=>qE hf rfl rfl rfl (Pu.ev (pSl Tryz.underlying99 lJ rfl rfl (by simpa using (Y.mono B).1) rfl rfl j)) fun a hf=>qE hf rfl rfl rfl (eC (v:=.bool ap) (vs:=[pq p,.agg #[i6 V.Person,i6 V.Station],.slice (aB6 X U (0:Int).toNat 2) sub.length (U - (0:Int).toNat)]) (caps:=[]) aNl rfl rfl rfl rfl (fun w hc=>yY (⟨r,a1.1⟩:aV) V sub (H.mono B) (D.mono B) Z qs hc af)) fun a hf=>qE hf rfl rfl rfl (Pu.ev (aEy rfl)) fun a hf=>?_
      intro w hc
      refine av _ _ ?_
      refine zI hf rfl hF ?_ ?_ <;> clear hF <;> intro hF
      ·refine zS fun K h=>sp 2 hf rfl fun a hf=>zT h ?_
       refine wp_ret ?_
       refine bB ?_
       refine aH ?_
       refine aH ?_
       have he:=sj hF
       rw [← he] at R
       replace hF:=ad _ R
       refine bB ?_
       refine aH ?_
       obtain rfl:=hF
       replace hc:=hc.down B
       replace hc:=hc.drop k0
       exact zO2 Tryz.results59 hf rfl rfl ⟨rfl,hc⟩
      ·refine wp_skip ?_
       refine au _ _ ?_
       refine bW ?_
       refine sp 2 hf rfl fun a hf=>aL ?_
       replace hc:=hc.drop k0
       exact z (W (x + 1)) _ _ (sj hF).symm ⟨hf.kp rfl,hc⟩
     ·refine wp_exit ?_
      refine aN ?_
      refine aN ?_
      have he:=sj hF
      rw [← he] at R
      refine cT ?_
      exact ai _ _ _ R ⟨hf.kp rfl,hc⟩

def mX (N:Nat) (lo:Int) (B:Int):Option (aX) :=
 some (⟨lo,B⟩:aX)
theorem lU {N:Nat} {G:aQ} {Lf:List Ent} {w:World} (lo:Int) (B:Int)   (hc:Ctx G (Lf) w) {D:aX} (hF:mX N lo B=some D):Calls Tryz.prog 51 #[i6 lo,i6 B] w (fun e w=>e=.returned (.agg #[i6 D.Lo,i6 D.Hi])∧Ctx G (Lf) w):=by
 unfold mX at hF
 refine bN Tryz.func51 rfl Tryz.ntmps51 rfl fun a hf=>zS fun K h=>zA hf hc aKo rfl fun H a w hf hc=>zT h ?_
 refine zS fun K h=>sp 2 hf rfl fun a hf=>zP hf rfl (cK (cells:=[i6 lo,i6 B]) aDm rfl rfl) fun a hf=>zW hf hc aAi u0 rfl fun w hc=>zT h ?_
 refine wp_ret ?_
 obtain rfl:=sj hF
 exact vQ (by simp) rfl Tryz.results51 hf hc (eG (vs:=[i6 lo,i6 B]) tK rfl rfl (bM (n:=2) m0 rfl)) ⟨rfl,(hc.drop k0)⟩

def tB (N:Nat) (B:Int):Option ((List bI)) :=
 Option.bind (mX N 30 40) fun r=>
 Option.bind (mX N 20 25) fun H=>
 Option.bind (mX N 10 10) fun D=>
 some ([(⟨r,H,35,60⟩:bI),(⟨D,(⟨0,0⟩:aX),0,B⟩:bI)]:List bI)
theorem uL {N:Nat} {G:aQ} {Lf:List Ent} {w:World} (D:Int)   (hc:Ctx G (Lf) w) {I:(List bI)} (hF:tB N D=some I):Calls Tryz.prog 68 #[i6 D] w (fun e w=>∃ (J:Option Addr) (M:Nat),e=.returned (.slice J I.length M)∧Ctx G (.row J M (I.map dQ) 31 6::Lf) w):=by
 unfold tB at hF
 refine bN Tryz.func68 rfl Tryz.ntmps68 rfl fun a hf=>zS fun K h=>sp 1 hf rfl fun a hf=>zT h ?_
 refine zS fun K h=>?_
 obtain ⟨r,hr,hF⟩:=aA hF
 refine zQ (v:=.agg #[i6 r.Lo,i6 r.Hi]) hf hc aDo rfl (fun w hc=>lU 30 40 hc hr) fun a w hf hc=>?_
 obtain ⟨B,R,hF⟩:=aA hF
 refine zQ (v:=.agg #[i6 B.Lo,i6 B.Hi]) hf hc aDo rfl (fun w hc=>lU 20 25 hc R) fun a w hf hc=>zP hf rfl (cK (cells:=[i6 r.Lo,i6 r.Hi,i6 B.Lo,i6 B.Hi,i6 35,i6 60]) aMv rfl rfl) fun a hf=>?_
 obtain ⟨H,O,hF⟩:=aA hF
 refine zQ (v:=.agg #[i6 H.Lo,i6 H.Hi]) hf hc aDo rfl (fun w hc=>lU 10 10 hc O) fun a w hf hc=>sp 1 hf rfl fun a hf=>zP hf rfl (cK (cells:=[i6 H.Lo,i6 H.Hi,i6 0,i6 0,i6 0,i6 D]) aMv rfl rfl) fun a hf=>nU (rows:=([(⟨r,B,35,60⟩:bI),(⟨H,(⟨0,0⟩:aX),0,D⟩:bI)]:List bI).map dQ) (vs:=[(0,.agg #[i6 r.Lo,i6 r.Hi,i6 B.Lo,i6 B.Hi,i6 35,i6 60]),(1,.agg #[i6 H.Lo,i6 H.Hi,i6 0,i6 0,i6 0,i6 D])]) hf hc rfl rfl sl_22 rfl ⟨rfl,rfl,rfl,rfl,rfl,rfl,trivial⟩ rfl rfl fun S a w hf hc=>sp 1 hf rfl fun a hf=>zT h ?_
 refine wp_ret ?_
 obtain rfl:=sj hF
 exact zO1 Tryz.results68 hf rfl ⟨(some ⟨S,0,none⟩),2,rfl,hc⟩

def bQ (n:Int):Bool :=
 (aE n 0 100000)
theorem pU {G:aQ} {Lf:List Ent} {w:World} (n:Int)   (hc:Ctx G (Lf) w) {B:Bool} (hF:bQ n=B):Calls Tryz.prog 80 #[i6 n] w (fun e w=>e=.returned (.bool B)∧Ctx G (Lf) w):=by
 unfold bQ at hF
 refine bN Tryz.func80 rfl Tryz.ntmps80 rfl fun a hf=>zS fun K h=>sp 1 hf rfl fun a hf=>zT h ?_
 refine zS fun K h=>sp 1 hf rfl fun a hf=>zQ (v:=.bool (aE n 0 100000)) hf hc nZ rfl (fun w hc=>cU n 0 100000 hc rfl) fun a w hf hc=>sp 1 hf rfl fun a hf=>zT h ?_
 refine wp_ret ?_
 obtain rfl:=hF
 exact zO1 Tryz.results80 hf rfl ⟨rfl,hc⟩

def bC (s_:aX):Bool :=
 ((aE s_.Lo 0 s_.Hi) && (bQ s_.Hi))
theorem wB {G:aQ} {Lf:List Ent} {w:World} (s_:aX)   (hc:Ctx G (Lf) w) {D:Bool} (hF:bC s_=D):Calls Tryz.prog 154 #[.agg #[i6 s_.Lo,i6 s_.Hi]] w (fun e w=>e=.returned (.bool D)∧Ctx G (Lf) w):=by
 unfold bC at hF
 refine bN Tryz.func154 rfl Tryz.ntmps154 rfl fun a hf=>zS fun K h=>zB hf hc rfl fun B a w hf hc=>sp 1 hf rfl fun a hf=>zT h ?_
 refine zS fun K h=>zP hf rfl (pFA aCf rfl) fun a hf=>zL hf hc bG m0 rfl fun a w hf hc=>zP hf rfl (pFA sU rfl) fun a hf=>zL hf hc bG m0 rfl fun a w hf hc=>zQ (v:=.bool (aE s_.Lo 0 s_.Hi)) hf hc nZ rfl (fun w hc=>cU s_.Lo 0 s_.Hi hc rfl) fun a w hf hc=>sp 1 hf rfl fun a hf=>fV 4 (fun a=>Has 13 a [(1,pq B),(2,.bool false),(3,pq B),(4,i6 s_.Lo),(5,.pointer (some ⟨B,1,none⟩)),(6,i6 s_.Hi),(7,.bool (aE s_.Lo 0 s_.Hi)),(8,.bool (aE s_.Lo 0 s_.Hi)),(12,.bool ((aE s_.Lo 0 s_.Hi) && (bQ s_.Hi)))]) hc ?_ ?_
 ·cases hb:(aE s_.Lo 0 s_.Hi)
  ·rw [hb] at hf
   refine stS hf rfl rfl rfl fun a hf=>stS hf rfl rfl rfl fun a hf=>stS hf rfl rfl rfl fun a hf=>sp 1 hf rfl fun a hf=>aL ⟨hf.kp rfl,hc⟩
  ·rw [hb] at hf
   refine zP hf rfl (pFA sU rfl) fun a hf=>zL hf hc bG m0 rfl fun a w hf hc=>zQ (v:=.bool (bQ s_.Hi)) hf hc aH3 rfl (fun w hc=>pU s_.Hi hc rfl) fun a w hf hc=>sp 1 hf rfl fun a hf=>aL ⟨hf.kp rfl,hc⟩
 intro a w ⟨hf,hc⟩
 refine sp 1 hf rfl fun a hf=>zT h ?_
 refine wp_ret ?_
 obtain rfl:=hF
 replace hc:=hc.drop k0
 exact zO1 Tryz.results154 hf rfl ⟨rfl,hc⟩

def qI (v:bI):Bool :=
 ((((bC v.Way) && (bC v.Work)) && (aE v.Open 0 v.Close)) && (bQ v.Close))
theorem aAv {G:aQ} {Lf:List Ent} {w:World} (v:bI)   (hc:Ctx G (Lf) w) {D:Bool} (hF:qI v=D):Calls Tryz.prog 153 #[.agg #[i6 v.Way.Lo,i6 v.Way.Hi,i6 v.Work.Lo,i6 v.Work.Hi,i6 v.Open,i6 v.Close]] w (fun e w=>e=.returned (.bool D)∧Ctx G (Lf) w):=by
 unfold qI at hF
 refine bN Tryz.func153 rfl Tryz.ntmps153 rfl fun a hf=>zS fun K h=>zB hf hc rfl fun B a w hf hc=>sp 1 hf rfl fun a hf=>zT h ?_
 refine zS fun K h=>zP hf rfl (pFA aCh rfl) fun a hf=>zN hf hc tK m0 rfl fun a w hf hc=>zQ (v:=.bool (bC v.Way)) hf hc aJc rfl (fun w hc=>wB v.Way hc rfl) fun a w hf hc=>sp 1 hf rfl fun a hf=>fV 4 (fun a=>Has 23 a [(1,pq B),(2,.bool false),(3,pq B),(4,.agg #[i6 v.Way.Lo,i6 v.Way.Hi]),(5,.bool (bC v.Way)),(6,.bool (bC v.Way)),(10,.bool ((bC v.Way) && (bC v.Work)))]) hc ?_ ?_
 ·cases hb:(bC v.Way)
  ·rw [hb] at hf
   refine stS hf rfl rfl rfl fun a hf=>stS hf rfl rfl rfl fun a hf=>stS hf rfl rfl rfl fun a hf=>sp 1 hf rfl fun a hf=>aL ⟨hf.kp rfl,hc⟩
  ·rw [hb] at hf
   refine zP hf rfl (pFA aCg rfl) fun a hf=>zN hf hc tK m0 rfl fun a w hf hc=>zQ (v:=.bool (bC v.Work)) hf hc aJc rfl (fun w hc=>wB v.Work hc rfl) fun a w hf hc=>sp 1 hf rfl fun a hf=>aL ⟨hf.kp rfl,hc⟩
 intro a w ⟨hf,hc⟩
 refine sp 1 hf rfl fun a hf=>fV 6 (fun a=>Has 23 a [(1,pq B),(2,.bool false),(3,pq B),(4,.agg #[i6 v.Way.Lo,i6 v.Way.Hi]),(5,.bool (bC v.Way)),(6,.bool (bC v.Way)),(10,.bool ((bC v.Way) && (bC v.Work))),(11,.bool ((bC v.Way) && (bC v.Work))),(17,.bool (((bC v.Way) && (bC v.Work)) && (aE v.Open 0 v.Close)))]) hc ?_ ?_
 ·cases hb:((bC v.Way) && (bC v.Work))
  ·rw [hb] at hf
   refine stS hf rfl rfl rfl fun a hf=>stS hf rfl rfl rfl fun a hf=>stS hf rfl rfl rfl fun a hf=>stS hf rfl rfl rfl fun a hf=>stS hf rfl rfl rfl fun a hf=>sp 1 hf rfl fun a hf=>aL ⟨hf.kp rfl,hc⟩
  ·rw [hb] at hf
   refine zP hf rfl (pFA aCm rfl) fun a hf=>zL hf hc bG m0 rfl fun a w hf hc=>zP hf rfl (pFA aAr rfl) fun a hf=>zL hf hc bG m0 rfl fun a w hf hc=>zQ (v:=.bool (aE v.Open 0 v.Close)) hf hc nZ rfl (fun w hc=>cU v.Open 0 v.Close hc rfl) fun a w hf hc=>sp 1 hf rfl fun a hf=>aL ⟨hf.kp rfl,hc⟩
 intro a w ⟨hf,hc⟩
 refine sp 1 hf rfl fun a hf=>fV 4 (fun a=>Has 23 a [(1,pq B),(2,.bool false),(3,pq B),(4,.agg #[i6 v.Way.Lo,i6 v.Way.Hi]),(5,.bool (bC v.Way)),(6,.bool (bC v.Way)),(10,.bool ((bC v.Way) && (bC v.Work))),(11,.bool ((bC v.Way) && (bC v.Work))),(17,.bool (((bC v.Way) && (bC v.Work)) && (aE v.Open 0 v.Close))),(18,.bool (((bC v.Way) && (bC v.Work)) && (aE v.Open 0 v.Close))),(22,.bool ((((bC v.Way) && (bC v.Work)) && (aE v.Open 0 v.Close)) && (bQ v.Close)))]) hc ?_ ?_
 ·cases hb:(((bC v.Way) && (bC v.Work)) && (aE v.Open 0 v.Close))
  ·rw [hb] at hf
   refine stS hf rfl rfl rfl fun a hf=>stS hf rfl rfl rfl fun a hf=>stS hf rfl rfl rfl fun a hf=>sp 1 hf rfl fun a hf=>aL ⟨hf.kp rfl,hc⟩
  ·rw [hb] at hf
   refine zP hf rfl (pFA aAr rfl) fun a hf=>zL hf hc bG m0 rfl fun a w hf hc=>zQ (v:=.bool (bQ v.Close)) hf hc aH3 rfl (fun w hc=>pU v.Close hc rfl) fun a w hf hc=>sp 1 hf rfl fun a hf=>aL ⟨hf.kp rfl,hc⟩
 intro a w ⟨hf,hc⟩
 refine sp 1 hf rfl fun a hf=>zT h ?_
 refine wp_ret ?_
 obtain rfl:=hF
 replace hc:=hc.drop k0
 exact zO1 Tryz.results153 hf rfl ⟨rfl,hc⟩

def jN (x:bI):Bool :=
 (!(qI (⟨x.Way,x.Work,x.Open,x.Close⟩:bI)))
theorem tL {G:aQ} {Lf:List Ent} {w:World} (x:bI) {b_:Nat}  (hc:Ctx G (.box b_ [.func (.func 153) #[] #[]] 219::Lf) w) {B:Bool} (hF:jN x=B):Calls Tryz.prog 184 #[.agg #[i6 x.Way.Lo,i6 x.Way.Hi,i6 x.Work.Lo,i6 x.Work.Hi,i6 x.Open,i6 x.Close],pq b_] w (fun e w=>e=.returned (.bool B)∧Ctx G (.box b_ [.func (.func 153) #[] #[]] 219::Lf) w):=by
 unfold jN at hF
 refine bN Tryz.func184 rfl Tryz.ntmps184 rfl fun a hf=>zS fun K h=>zB hf hc rfl fun D a w hf hc=>sp 1 hf rfl fun a hf=>zT h ?_
 refine zS fun K h=>zL hf hc aNj m1 rfl fun a w hf hc=>zN hf hc aG8 m0 rfl fun a w hf hc=>zQ (v:=.bool (qI (⟨x.Way,x.Work,x.Open,x.Close⟩:bI))) hf hc aOk rfl (fun w hc=>aAv (⟨x.Way,x.Work,x.Open,x.Close⟩:bI) hc rfl) fun a w hf hc=>sp 2 hf rfl fun a hf=>zT h ?_
 refine wp_ret ?_
 obtain rfl:=hF
 replace hc:=hc.drop k0
 exact zO1 Tryz.results184 hf rfl ⟨rfl,hc⟩

def gZ (N:Nat) (s_:List bI) (x:Int):Option (bK (Int) (Int)) :=
 cond (decide (x < ((s_.length:Nat):Int)))
 (Option.bind (aU s_ x) fun B=>
 cond (jN B)
 (some (.ret x))
 (some (.cont (W (x + 1)))))
 (some (.brk x))
def eY (N:Nat) (s_:List bI):Option (Int) :=
 Option.bind (aS (fun s4=>gZ N s_ s4) N 0) fun x4=>
 exK x4 (fun s4=>some (-1)) some
theorem mW {N:Nat} {G:aQ} {Lf:List Ent} {w:World} (s_:List bI) {I:Option Addr} {H:Nat} {b_:Nat} (M:Rd G 6 I H (s_.map dQ)) (hc:Ctx G (.box b_ [.func (.func 153) #[] #[]] 219::Lf) w) {J:Int} (hF:eY N s_=some J):Calls Tryz.prog 200 #[.slice I s_.length H,.func (.func 184) #[] #[pq b_]] w (fun e w=>e=.returned (i6 J)∧Ctx G (.box b_ [.func (.func 153) #[] #[]] 219::Lf) w):=by
 unfold eY at hF
 refine bN Tryz.func200 rfl Tryz.ntmps200 rfl fun a hf=>zS fun K h=>sp 1 hf rfl fun a hf=>zT h ?_
 refine wp_seq_k fun K2 h2=>zS fun K h=>sp 1 hf rfl fun a hf=>zP hf rfl (aW Tryz.underlying22 rfl) fun a hf=>sp 1 hf rfl fun a hf=>zT h ?_
 refine wp_block ?_
 obtain ⟨x4,V,hF⟩:=aA hF
 let S4:Int→Act→World→Prop:=(fun (zz:Int) a w=>Has 19 a [(0,.slice I s_.length H),(1,.func (.func 184) #[] #[pq b_]),(7,i6 ((s_.length:Nat):Int)),(8,i6 zz)]∧Ctx G (.box b_ [.func (.func 153) #[] #[]] 219::Lf) w)
 have X:∀ (zz:Int) a w,x4=.go zz→S4 zz a w→K2 a w:=by
  rintro x a w rfl ⟨hf,hc⟩
  replace hF:=bH hF
  refine h2 _ _ ?_
  refine zS fun K h=>sp 1 hf rfl fun a hf=>zT h ?_
  refine wp_ret ?_
  obtain rfl:=sj hF
  exact zO1 Tryz.results200 hf rfl ⟨rfl,hc⟩
 have R:∀ r,x4=.out r→r=J:=by
  rintro r rfl
  exact sj hF
 refine bY N (bX (S:=S4) (x:=x4) ?_ N 0 _ _ ⟨hf.kp rfl,hc⟩ V)
 clear hF hf hc
 rintro x Z a w KB4 ⟨hf,hc⟩ hF D U
 unfold gZ at hF
 refine zS fun K h=>sp 1 hf rfl fun a hf=>zT h ?_
 refine wp_seq_k fun K7 h7=>zI hf rfl hF ?_ ?_ <;> clear hF <;> intro hF
 ·refine wp_skip ?_
  refine h7 _ _ ?_
  refine wp_seq_k fun K8 h8=>wp_block ?_
  refine zS fun K h=>sp 2 hf rfl fun a hf=>zT h ?_
  refine zS fun K h=>sp 3 hf rfl fun a hf=>?_
  obtain ⟨B,O,hF⟩:=aA hF
  obtain ⟨Y,o,qa,qp⟩:=M.atm O
  refine zP hf rfl (pIA Tryz.underlying22 wP rfl rfl qa) fun a hf=>zE hf hc rfl (kG (vs:=[i6 B.Way.Lo,i6 B.Way.Hi,i6 B.Work.Lo,i6 B.Work.Hi,i6 B.Open,i6 B.Close]) aG8 rfl rfl (dF qp (n:=6) (o':=0) rfl)) fun a w hf hc=>zQ (v:=.bool (jN B)) hf hc aOm rfl (fun w hc=>(tL B (hc.pick k0) rfl).mono fun e w h=>⟨h.1,(h.2.unpick k0)⟩) fun a w hf hc=>zT h ?_
  refine zI hf rfl hF ?_ ?_ <;> clear hF <;> intro hF
  ·refine zS fun K h=>sp 2 hf rfl fun a hf=>zT h ?_
   refine wp_ret ?_
   refine bB ?_
   refine aH ?_
   refine aH ?_
   have he:=sj hF
   rw [← he] at D
   replace hF:=R _ D
   refine bB ?_
   refine aH ?_
   obtain rfl:=hF
   exact zO1 Tryz.results200 hf rfl ⟨rfl,hc⟩
  ·refine wp_skip ?_
   refine h8 _ _ ?_
   refine bW ?_
   refine sp 2 hf rfl fun a hf=>aL ?_
   exact U (W (x + 1)) _ _ (sj hF).symm ⟨hf.kp rfl,hc⟩
 ·refine wp_exit ?_
  refine aN ?_
  refine aN ?_
  have he:=sj hF
  rw [← he] at D
  refine cT ?_
  exact X _ _ _ D ⟨hf.kp rfl,hc⟩

def dY (N:Nat) (s_:List bI):Option (Bool) :=
 Option.bind (eY N s_) fun r=>
 some (decide (0≤r))
theorem lZ {N:Nat} {G:aQ} {Lf:List Ent} {w:World} (s_:List bI) {B:Option Addr} {D:Nat} {b_:Nat} (I:Rd G 6 B D (s_.map dQ)) (hc:Ctx G (.box b_ [.func (.func 153) #[] #[]] 219::Lf) w) {H:Bool} (hF:dY N s_=some H):Calls Tryz.prog 183 #[.slice B s_.length D,.func (.func 184) #[] #[pq b_]] w (fun e w=>e=.returned (.bool H)∧Ctx G (.box b_ [.func (.func 153) #[] #[]] 219::Lf) w):=by
 unfold dY at hF
 refine bN Tryz.func183 rfl Tryz.ntmps183 rfl fun a hf=>zS fun K h=>sp 1 hf rfl fun a hf=>zT h ?_
 refine zS fun K h=>sp 2 hf rfl fun a hf=>?_
 obtain ⟨r,hr,hF⟩:=aA hF
 refine zQ (v:=i6 r) hf hc aOn rfl (fun w hc=>(mW s_ I (hc.pick k0) hr).mono fun e w h=>⟨h.1,(h.2.unpick k0)⟩) fun a w hf hc=>sp 2 hf rfl fun a hf=>zT h ?_
 refine wp_ret ?_
 obtain rfl:=sj hF
 exact zO1 Tryz.results183 hf rfl ⟨rfl,hc⟩

def nN (N:Nat) (l:List bI):Option (Bool) :=
 Option.bind (dY N l) fun r=>
 some (!r)
theorem uI {N:Nat} {G:aQ} {Lf:List Ent} {w:World} (l:List bI) {D:Option Addr} {B:Nat} (J:Rd G 6 D B (l.map dQ)) (hc:Ctx G (Lf) w) {H:Bool} (hF:nN N l=some H):Calls Tryz.prog 152 #[.slice D l.length B,.func (.func 153) #[] #[]] w (fun e w=>e=.returned (.bool H)∧Ctx G (Lf) w):=by
 unfold nN at hF
 refine bN Tryz.func152 rfl Tryz.ntmps152 rfl fun a hf=>zS fun K h=>zB hf hc rfl fun I a w hf hc=>sp 1 hf rfl fun a hf=>zT h ?_
 refine zS fun K h=>sp 1 hf rfl fun a hf=>zP hf rfl (pMF (us:=[pq I]) rfl rfl) fun a hf=>?_
 obtain ⟨r,hr,hF⟩:=aA hF
 refine zQ (v:=.bool r) hf hc aN7 rfl (fun w hc=>(lZ l J (hc.pick k0) hr).mono fun e w h=>⟨h.1,(h.2.unpick k0)⟩) fun a w hf hc=>sp 2 hf rfl fun a hf=>zT h ?_
 refine wp_ret ?_
 obtain rfl:=sj hF
 replace hc:=hc.drop k0
 exact zO1 Tryz.results152 hf rfl ⟨rfl,hc⟩

def sS (N:Nat) (l:List bI):Option (Int) :=
 cond (!(aE ((l.length:Nat):Int) 1 20))
 (some 3)
 (Option.bind (nN N l) fun r=>
 cond (!r)
 (some 120)
 (some 0))
theorem vW {N:Nat} {G:aQ} {Lf:List Ent} {w:World} (l:List bI) {D:Option Addr} {B:Nat} (I:Rd G 6 D B (l.map dQ)) (hc:Ctx G (Lf) w) {H:Int} (hF:sS N l=some H):Calls Tryz.prog 79 #[.slice D l.length B] w (fun e w=>e=.returned (i6 H)∧Ctx G (Lf) w):=by
 unfold sS at hF
 refine bN Tryz.func79 rfl Tryz.ntmps79 rfl fun a hf=>zS fun K h=>sp 1 hf rfl fun a hf=>zT h ?_
 refine wp_seq_k fun K2 h2=>wp_block ?_
 refine zS fun K h=>sp 1 hf rfl fun a hf=>zP hf rfl (aW Tryz.underlying22 rfl) fun a hf=>zQ (v:=.bool (aE ((l.length:Nat):Int) 1 20)) hf hc nZ rfl (fun w hc=>cU ((l.length:Nat):Int) 1 20 hc rfl) fun a w hf hc=>sp 2 hf rfl fun a hf=>zT h ?_
 refine zI hf rfl hF ?_ ?_ <;> clear hF <;> intro hF
 ·refine zS fun K h=>sp 1 hf rfl fun a hf=>zT h ?_
  refine wp_ret ?_
  refine bB ?_
  refine aH ?_
  obtain rfl:=sj hF
  exact zO1 Tryz.results79 hf rfl ⟨rfl,hc⟩
 ·refine zS fun K h=>sp 1 hf rfl fun a hf=>?_
  obtain ⟨r,hr,hF⟩:=aA hF
  refine zQ (v:=.bool r) hf hc aOh rfl (fun w hc=>uI l I hc hr) fun a w hf hc=>sp 2 hf rfl fun a hf=>zT h ?_
  refine zI hf rfl hF ?_ ?_ <;> clear hF <;> intro hF
  ·refine zS fun K h=>sp 1 hf rfl fun a hf=>zT h ?_
   refine wp_ret ?_
   refine bB ?_
   refine aH ?_
   obtain rfl:=sj hF
   exact zO1 Tryz.results79 hf rfl ⟨rfl,hc⟩
  ·refine wp_skip ?_
   refine h2 _ _ ?_
   refine zS fun K h=>sp 1 hf rfl fun a hf=>zT h ?_
   refine wp_ret ?_
   obtain rfl:=sj hF
   exact zO1 Tryz.results79 hf rfl ⟨rfl,hc⟩

def aFs  : Unit :=
 ()
theorem xL {G:aQ} {Lf:List Ent} {w:World}    (hc:Ctx G (Lf) w) {B:Unit} (hF:aFs=B):Calls Tryz.prog 82 #[] w (fun e w=>e=.returned (.agg #[.func (.func 155) #[] #[]])∧Ctx G (Lf) w):=by
 unfold aFs at hF
 refine bN Tryz.func82 rfl Tryz.ntmps82 rfl fun a hf=>zS fun K h=>zA hf hc aJd rfl fun D a w hf hc=>zT h ?_
 refine zS fun K h=>zP hf rfl (cK (cells:=[.func (.func 155) #[] #[]]) aJ6 rfl rfl) fun a hf=>zW hf hc aJn u0 rfl fun w hc=>zT h ?_
 refine wp_ret ?_
 obtain rfl:=hF
 exact vQ (by simp) rfl Tryz.results82 hf hc (eG (vs:=[.func (.func 155) #[] #[]]) aEw rfl rfl (bM (n:=1) m0 rfl)) ⟨rfl,(hc.drop k0)⟩

def dE (s_:aX):Int :=
 s_.Lo
theorem uJ {G:aQ} {Lf:List Ent} {w:World} (s_:aX)   (hc:Ctx G (Lf) w) {B:Int} (hF:dE s_=B):Calls Tryz.prog 155 #[.agg #[i6 s_.Lo,i6 s_.Hi]] w (fun e w=>e=.returned (i6 B)∧Ctx G (Lf) w):=by
 unfold dE at hF
 refine bN Tryz.func155 rfl Tryz.ntmps155 rfl fun a hf=>zS fun K h=>zB hf hc rfl fun D a w hf hc=>sp 1 hf rfl fun a hf=>zT h ?_
 refine zS fun K h=>zP hf rfl (pFA aCf rfl) fun a hf=>zL hf hc bG m0 rfl fun a w hf hc=>sp 1 hf rfl fun a hf=>zT h ?_
 refine wp_ret ?_
 obtain rfl:=hF
 replace hc:=hc.drop k0
 exact zO1 Tryz.results155 hf rfl ⟨rfl,hc⟩

def wO (N:Nat) (l:List bI) (B:Int) (out:List Int) (x:Int):Option (bK (Int × (List Int) × Int) ((List Int))) :=
 cond (decide (x < ((l.length:Nat):Int)))
 (Option.bind (aU l x) fun D=>
 Option.bind (room ((out++[max (W (B + (dE D.Way))) D.Open])).length) fun un=>
 some (.cont (W ((max (W (B + (dE D.Way))) D.Open) + (dE D.Work)),(out++[max (W (B + (dE D.Way))) D.Open]),W (x + 1))))
 (some (.brk (B,out,x)))
def xJ (N:Nat) (B:Int) (l:List bI):Option ((List Int)) :=
 Option.bind (aS (fun s5=>wO N l s5.1 s5.2.1 s5.2.2) N (B,([]:List Int),0)) fun x5=>
 exK x5 (fun s5=>some s5.2.1) some
theorem aDs {N:Nat} {G:aQ} {Lf:List Ent} {w:World} (J:Int) (l:List bI) {U:Option Addr} {R:Nat} (k:Rd G 6 U R (l.map dQ)) (hc:Ctx G (Lf) w) {O:(List Int)} (hF:xJ N J l=some O):Calls Tryz.prog 81 #[i6 J,.slice U l.length R,.agg #[.func (.func 155) #[] #[]]] w (fun e w=>∃ (V:Option Addr) (Y:Nat),e=.returned (.slice V O.length Y)∧Ctx G (.row V Y (O.map aD) 3 1::Lf) w):=by
 unfold xJ at hF
 refine bN Tryz.func81 rfl Tryz.ntmps81 rfl fun a hf=>zS fun K h=>zB hf hc rfl fun X a w hf hc=>sp 1 hf rfl fun a hf=>zT h ?_
 refine zS fun K h=>sp 1 hf rfl fun a hf=>zT h ?_
 refine wp_seq_k fun K3 h3=>zS fun K h=>sp 1 hf rfl fun a hf=>zP hf rfl (aW Tryz.underlying22 rfl) fun a hf=>sp 1 hf rfl fun a hf=>zT h ?_
 refine wp_block ?_
 obtain ⟨x5,b,hF⟩:=aA hF
 let S5:(Int × (List Int) × Int)→Act→World→Prop:=(fun (zz:Int × (List Int) × Int) a w=>∃ (I:Option Addr) (H:Nat),Has 40 a [(0,i6 zz.1),(5,pq X),(7,.slice I zz.2.1.length H),(11,.slice U l.length R),(12,i6 ((l.length:Nat):Int)),(13,i6 zz.2.2)]∧Ctx G (.row I H (zz.2.1.map aD) 3 1::.box X [.func (.func 155) #[] #[]] 147::Lf) w)
 have m:∀ (zz:Int × (List Int) × Int) a w,x5=.go zz→S5 zz a w→K3 a w:=by
  rintro ⟨D,out,x⟩ a w rfl ⟨I,H,hf,hc⟩
  replace hF:=bH hF
  refine h3 _ _ ?_
  refine zS fun K h=>sp 2 hf rfl fun a hf=>zT h ?_
  refine wp_ret ?_
  obtain rfl:=sj hF
  replace hc:=hc.drop k1
  exact zO1 Tryz.results81 hf rfl ⟨I,H,rfl,hc⟩
 have y:∀ r,x5=.out r→r=O:=by
  rintro r rfl
  exact sj hF
 replace hc:=hc.nilRow 3 1
 refine bY N (bX (S:=S5) (x:=x5) ?_ N (J,([]:List Int),0) _ _ ⟨none,0,hf.kp rfl,hc⟩ b)
 clear hF hf hc
 rintro ⟨D,out,x⟩ u a w KB5 ⟨I,H,hf,hc⟩ hF M i
 unfold wO at hF
 refine zS fun K h=>sp 1 hf rfl fun a hf=>zT h ?_
 refine wp_seq_k fun K8 h8=>zI hf rfl hF ?_ ?_ <;> clear hF <;> intro hF
 ·refine wp_skip ?_
  refine h8 _ _ ?_
  refine wp_seq_k fun K9 h9=>wp_block ?_
  refine zS fun K h=>?_
  obtain ⟨B,Z,hF⟩:=aA hF
  obtain ⟨s,o,qa,qp⟩:=k.atm Z
  refine zP hf rfl (pIA Tryz.underlying22 wP rfl rfl qa) fun a hf=>zE hf hc rfl (kG (vs:=[i6 B.Way.Lo,i6 B.Way.Hi,i6 B.Work.Lo,i6 B.Work.Hi,i6 B.Open,i6 B.Close]) aG8 rfl rfl (dF qp (n:=6) (o':=0) rfl)) fun a w hf hc=>zA hf hc aMx rfl fun t a w hf hc=>zW hf hc wP u0 rfl fun w hc=>zT h ?_
  refine wp_seq_k fun K11 p=>cQ hc aT (by kernel_rfl) ?_
  refine qE hf rfl rfl rfl (Pu.ev (pM rfl)) fun a hf=>qE hf rfl rfl rfl (Pu.ev (pFA vA rfl)) fun a hf=>qE hf rfl rfl rfl (bF aBb rfl (bL m2 rfl)) fun a hf=>qE hf rfl rfl rfl (Pu.ev (pFA aCh rfl)) fun a hf=>qE hf rfl rfl rfl (kG (vs:=[i6 B.Way.Lo,i6 B.Way.Hi]) tK rfl rfl (bM (n:=2) m0 rfl)) fun a hf=>qE hf rfl rfl rfl (eC (v:=i6 (dE B.Way)) (vs:=[.agg #[i6 B.Way.Lo,i6 B.Way.Hi]]) (caps:=[]) aGo rfl rfl rfl rfl (fun w hc=>uJ B.Way hc rfl)) fun a hf=>qE hf rfl rfl rfl (Pu.ev (pAdd rfl rfl)) fun a hf=>qE hf rfl rfl rfl (Pu.ev (pFA aCm rfl)) fun a hf=>qE hf rfl rfl rfl (bF bG rfl (bL m0 rfl)) fun a hf=>qE hf rfl rfl rfl (Pu.ev (aH9 rfl rfl)) fun a hf=>qE hf rfl rfl rfl (Pu.ev (pA rfl)) fun a hf=>?_
  intro w hc
  refine p _ _ ?_
  refine zS fun K h=>sp 2 hf rfl fun a hf=>nU (rows:=([max (W (D + (dE B.Way))) B.Open]:List Int).map aD) (vs:=[(0,i6 (max (W (D + (dE B.Way))) B.Open))]) hf hc rfl rfl jO rfl ⟨rfl,rfl,rfl,trivial⟩ rfl rfl fun q a w hf hc=>?_
  obtain ⟨un,j,hF⟩:=aA hF
  refine pG (xs:=out) (ys:=([max (W (D + (dE B.Way))) B.Open]:List Int)) hf hc rfl rfl jO rfl rfl rfl rfl rfl bP (lL hc m0) (fun _ _=>u2) (by simpa using fA j) fun g d a w hf hc=>sp 1 hf rfl fun a hf=>zT h ?_
  refine bW ?_
  refine sp 1 hf rfl fun a hf=>zP hf rfl (pFA vA rfl) fun a hf=>zL hf hc aBb m3 rfl fun a w hf hc=>zP hf rfl (pFA aCg rfl) fun a hf=>zN hf hc tK m1 rfl fun a w hf hc=>zQ (v:=i6 (dE B.Work)) hf hc aGo rfl (fun w hc=>uJ B.Work hc rfl) fun a w hf hc=>sp 2 hf rfl fun a hf=>aL ?_
  refine h9 _ _ ?_
  refine bW ?_
  refine sp 2 hf rfl fun a hf=>aL ?_
  replace hc:=(hc.drop k1).drop k0
  exact i (W ((max (W (D + (dE B.Way))) B.Open) + (dE B.Work)),(out++[max (W (D + (dE B.Way))) B.Open]),W (x + 1)) _ _ (sj hF).symm ⟨g,d,hf.kp rfl,hc⟩
 ·refine wp_exit ?_
  refine aN ?_
  refine aN ?_
  have he:=sj hF
  rw [← he] at M
  refine cT ?_
  exact m _ _ _ M ⟨I,H,hf.kp rfl,hc⟩

def aEg  : Unit :=
 ()
theorem sO {G:aQ} {Lf:List Ent} {w:World}    (hc:Ctx G (Lf) w) {B:Unit} (hF:aEg=B):Calls Tryz.prog 83 #[] w (fun e w=>e=.returned (.agg #[.func (.func 156) #[] #[]])∧Ctx G (Lf) w):=by
 unfold aEg at hF
 refine bN Tryz.func83 rfl Tryz.ntmps83 rfl fun a hf=>zS fun K h=>zA hf hc aJd rfl fun D a w hf hc=>zT h ?_
 refine zS fun K h=>zP hf rfl (cK (cells:=[.func (.func 156) #[] #[]]) aJ6 rfl rfl) fun a hf=>zW hf hc aJn u0 rfl fun w hc=>zT h ?_
 refine wp_ret ?_
 obtain rfl:=hF
 exact vQ (by simp) rfl Tryz.results83 hf hc (eG (vs:=[.func (.func 156) #[] #[]]) aEw rfl rfl (bM (n:=1) m0 rfl)) ⟨rfl,(hc.drop k0)⟩

def cS (s_:aX):Int :=
 s_.Hi
theorem tA {G:aQ} {Lf:List Ent} {w:World} (s_:aX)   (hc:Ctx G (Lf) w) {B:Int} (hF:cS s_=B):Calls Tryz.prog 156 #[.agg #[i6 s_.Lo,i6 s_.Hi]] w (fun e w=>e=.returned (i6 B)∧Ctx G (Lf) w):=by
 unfold cS at hF
 refine bN Tryz.func156 rfl Tryz.ntmps156 rfl fun a hf=>zS fun K h=>zB hf hc rfl fun D a w hf hc=>sp 1 hf rfl fun a hf=>zT h ?_
 refine zS fun K h=>zP hf rfl (pFA sU rfl) fun a hf=>zL hf hc bG m0 rfl fun a w hf hc=>sp 1 hf rfl fun a hf=>zT h ?_
 refine wp_ret ?_
 obtain rfl:=hF
 replace hc:=hc.drop k0
 exact zO1 Tryz.results156 hf rfl ⟨rfl,hc⟩

def tX (N:Nat) (l:List bI) (B:Int) (out:List Int) (x:Int):Option (bK (Int × (List Int) × Int) ((List Int))) :=
 cond (decide (x < ((l.length:Nat):Int)))
 (Option.bind (aU l x) fun D=>
 Option.bind (room ((out++[max (W (B + (cS D.Way))) D.Open])).length) fun un=>
 some (.cont (W ((max (W (B + (cS D.Way))) D.Open) + (cS D.Work)),(out++[max (W (B + (cS D.Way))) D.Open]),W (x + 1))))
 (some (.brk (B,out,x)))
def tJ (N:Nat) (B:Int) (l:List bI):Option ((List Int)) :=
 Option.bind (aS (fun s5=>tX N l s5.1 s5.2.1 s5.2.2) N (B,([]:List Int),0)) fun x5=>
 exK x5 (fun s5=>some s5.2.1) some
theorem aAt {N:Nat} {G:aQ} {Lf:List Ent} {w:World} (J:Int) (l:List bI) {U:Option Addr} {R:Nat} (k:Rd G 6 U R (l.map dQ)) (hc:Ctx G (Lf) w) {O:(List Int)} (hF:tJ N J l=some O):Calls Tryz.prog 81 #[i6 J,.slice U l.length R,.agg #[.func (.func 156) #[] #[]]] w (fun e w=>∃ (V:Option Addr) (Y:Nat),e=.returned (.slice V O.length Y)∧Ctx G (.row V Y (O.map aD) 3 1::Lf) w):=by
 unfold tJ at hF
 refine bN Tryz.func81 rfl Tryz.ntmps81 rfl fun a hf=>zS fun K h=>zB hf hc rfl fun X a w hf hc=>sp 1 hf rfl fun a hf=>zT h ?_
 refine zS fun K h=>sp 1 hf rfl fun a hf=>zT h ?_
 refine wp_seq_k fun K3 h3=>zS fun K h=>sp 1 hf rfl fun a hf=>zP hf rfl (aW Tryz.underlying22 rfl) fun a hf=>sp 1 hf rfl fun a hf=>zT h ?_
 refine wp_block ?_
 obtain ⟨x5,b,hF⟩:=aA hF
 let S5:(Int × (List Int) × Int)→Act→World→Prop:=(fun (zz:Int × (List Int) × Int) a w=>∃ (I:Option Addr) (H:Nat),Has 40 a [(0,i6 zz.1),(5,pq X),(7,.slice I zz.2.1.length H),(11,.slice U l.length R),(12,i6 ((l.length:Nat):Int)),(13,i6 zz.2.2)]∧Ctx G (.row I H (zz.2.1.map aD) 3 1::.box X [.func (.func 156) #[] #[]] 147::Lf) w)
 have m:∀ (zz:Int × (List Int) × Int) a w,x5=.go zz→S5 zz a w→K3 a w:=by
  rintro ⟨D,out,x⟩ a w rfl ⟨I,H,hf,hc⟩
  replace hF:=bH hF
  refine h3 _ _ ?_
  refine zS fun K h=>sp 2 hf rfl fun a hf=>zT h ?_
  refine wp_ret ?_
  obtain rfl:=sj hF
  replace hc:=hc.drop k1
  exact zO1 Tryz.results81 hf rfl ⟨I,H,rfl,hc⟩
 have y:∀ r,x5=.out r→r=O:=by
  rintro r rfl
  exact sj hF
 replace hc:=hc.nilRow 3 1
 refine bY N (bX (S:=S5) (x:=x5) ?_ N (J,([]:List Int),0) _ _ ⟨none,0,hf.kp rfl,hc⟩ b)
 clear hF hf hc
 rintro ⟨D,out,x⟩ u a w KB5 ⟨I,H,hf,hc⟩ hF M i
 unfold tX at hF
 refine zS fun K h=>sp 1 hf rfl fun a hf=>zT h ?_
 refine wp_seq_k fun K8 h8=>zI hf rfl hF ?_ ?_ <;> clear hF <;> intro hF
 ·refine wp_skip ?_
  refine h8 _ _ ?_
  refine wp_seq_k fun K9 h9=>wp_block ?_
  refine zS fun K h=>?_
  obtain ⟨B,Z,hF⟩:=aA hF
  obtain ⟨s,o,qa,qp⟩:=k.atm Z
  refine zP hf rfl (pIA Tryz.underlying22 wP rfl rfl qa) fun a hf=>zE hf hc rfl (kG (vs:=[i6 B.Way.Lo,i6 B.Way.Hi,i6 B.Work.Lo,i6 B.Work.Hi,i6 B.Open,i6 B.Close]) aG8 rfl rfl (dF qp (n:=6) (o':=0) rfl)) fun a w hf hc=>zA hf hc aMx rfl fun t a w hf hc=>zW hf hc wP u0 rfl fun w hc=>zT h ?_
  refine wp_seq_k fun K11 p=>cQ hc aT (by kernel_rfl) ?_
  refine qE hf rfl rfl rfl (Pu.ev (pM rfl)) fun a hf=>qE hf rfl rfl rfl (Pu.ev (pFA vA rfl)) fun a hf=>qE hf rfl rfl rfl (bF aBb rfl (bL m2 rfl)) fun a hf=>qE hf rfl rfl rfl (Pu.ev (pFA aCh rfl)) fun a hf=>qE hf rfl rfl rfl (kG (vs:=[i6 B.Way.Lo,i6 B.Way.Hi]) tK rfl rfl (bM (n:=2) m0 rfl)) fun a hf=>qE hf rfl rfl rfl (eC (v:=i6 (cS B.Way)) (vs:=[.agg #[i6 B.Way.Lo,i6 B.Way.Hi]]) (caps:=[]) aGy rfl rfl rfl rfl (fun w hc=>tA B.Way hc rfl)) fun a hf=>qE hf rfl rfl rfl (Pu.ev (pAdd rfl rfl)) fun a hf=>qE hf rfl rfl rfl (Pu.ev (pFA aCm rfl)) fun a hf=>qE hf rfl rfl rfl (bF bG rfl (bL m0 rfl)) fun a hf=>qE hf rfl rfl rfl (Pu.ev (aH9 rfl rfl)) fun a hf=>qE hf rfl rfl rfl (Pu.ev (pA rfl)) fun a hf=>?_
  intro w hc
  refine p _ _ ?_
  refine zS fun K h=>sp 2 hf rfl fun a hf=>nU (rows:=([max (W (D + (cS B.Way))) B.Open]:List Int).map aD) (vs:=[(0,i6 (max (W (D + (cS B.Way))) B.Open))]) hf hc rfl rfl jO rfl ⟨rfl,rfl,rfl,trivial⟩ rfl rfl fun q a w hf hc=>?_
  obtain ⟨un,j,hF⟩:=aA hF
  refine pG (xs:=out) (ys:=([max (W (D + (cS B.Way))) B.Open]:List Int)) hf hc rfl rfl jO rfl rfl rfl rfl rfl bP (lL hc m0) (fun _ _=>u2) (by simpa using fA j) fun g d a w hf hc=>sp 1 hf rfl fun a hf=>zT h ?_
  refine bW ?_
  refine sp 1 hf rfl fun a hf=>zP hf rfl (pFA vA rfl) fun a hf=>zL hf hc aBb m3 rfl fun a w hf hc=>zP hf rfl (pFA aCg rfl) fun a hf=>zN hf hc tK m1 rfl fun a w hf hc=>zQ (v:=i6 (cS B.Work)) hf hc aGy rfl (fun w hc=>tA B.Work hc rfl) fun a w hf hc=>sp 2 hf rfl fun a hf=>aL ?_
  refine h9 _ _ ?_
  refine bW ?_
  refine sp 2 hf rfl fun a hf=>aL ?_
  replace hc:=(hc.drop k1).drop k0
  exact i (W ((max (W (D + (cS B.Way))) B.Open) + (cS B.Work)),(out++[max (W (D + (cS B.Way))) B.Open]),W (x + 1)) _ _ (sj hF).symm ⟨g,d,hf.kp rfl,hc⟩
 ·refine wp_exit ?_
  refine aN ?_
  refine aN ?_
  have he:=sj hF
  rw [← he] at M
  refine cT ?_
  exact m _ _ _ M ⟨I,H,hf.kp rfl,hc⟩

def xG (N:Nat) (l:List bI) (I:(List Int)) (H:(List Int)) (out:List aX) (x:Int):Option (bK ((List aX) × Int) ((List aX) × Int)) :=
 cond (decide (x < ((l.length:Nat):Int)))
 (Option.bind (aU I x) fun D=>
 Option.bind (aU H x) fun B=>
 Option.bind (room ((out++[(⟨D,B⟩:aX)])).length) fun un=>
 some (.cont ((out++[(⟨D,B⟩:aX)]),W (x + 1))))
 (some (.brk (out,x)))
def vI (N:Nat) (B:Int) (l:List bI):Option ((List aX) × Int) :=
 Option.bind (sS N l) fun r=>
 cond (r != 0)
 (some (([]:List aX),r))
 (cond (!(bQ B))
 (some (([]:List aX),4))
 (Option.bind (xJ N B l) fun J=>
 Option.bind (tJ N B l) fun I=>
 Option.bind (aS (fun D=>xG N l J I D.1 D.2) N (([]:List aX),0)) fun H=>
 exK H (fun D=>some (D.1,0)) some))
theorem yG {N:Nat} {G:aQ} {Lf:List Ent} {w:World} (J:Int) (l:List bI) {ag:Option Addr} {af:Nat} (aa:Rd G 6 ag af (l.map dQ)) (hc:Ctx G (Lf) w) {d:(List aX) × Int} (hF:vI N J l=some d):Calls Tryz.prog 18 #[i6 J,.slice ag l.length af] w (fun e w=>∃ (ac:Option Addr) (ad:Nat),e=.returned (.tuple #[.slice ac d.1.length ad,i6 d.2])∧Ctx G (.row ac ad (d.1.map dK) 29 2::Lf) w):=by
 unfold vI at hF
 refine bN Tryz.func18 rfl Tryz.ntmps18 rfl fun a hf=>zS fun K h=>sp 2 hf rfl fun a hf=>zT h ?_
 refine zS fun K h=>sp 1 hf rfl fun a hf=>?_
 obtain ⟨r,hr,hF⟩:=aA hF
 refine zQ (v:=i6 r) hf hc aM8 rfl (fun w hc=>vW l aa hc hr) fun a w hf hc=>sp 1 hf rfl fun a hf=>zT h ?_
 refine wp_seq_k fun K3 h3=>wp_block ?_
 refine zS fun K h=>sp 3 hf rfl fun a hf=>zT h ?_
 refine zI hf rfl hF ?_ ?_ <;> clear hF <;> intro hF
 ·refine zS fun K h=>sp 3 hf rfl fun a hf=>zT h ?_
  refine wp_ret ?_
  refine bB ?_
  refine aH ?_
  obtain rfl:=sj hF
  replace hc:=hc.nilRow 29 2
  exact zO2 Tryz.results18 hf rfl rfl ⟨none,0,rfl,hc⟩
 ·refine zS fun K h=>sp 1 hf rfl fun a hf=>zQ (v:=.bool (bQ J)) hf hc aH3 rfl (fun w hc=>pU J hc rfl) fun a w hf hc=>sp 2 hf rfl fun a hf=>zT h ?_
  refine zI hf rfl hF ?_ ?_ <;> clear hF <;> intro hF
  ·refine zS fun K h=>sp 2 hf rfl fun a hf=>zT h ?_
   refine wp_ret ?_
   refine bB ?_
   refine aH ?_
   obtain rfl:=sj hF
   replace hc:=hc.nilRow 29 2
   exact zO2 Tryz.results18 hf rfl rfl ⟨none,0,rfl,hc⟩
  ·refine wp_skip ?_
   refine h3 _ _ ?_
   refine zS fun K h=>sp 2 hf rfl fun a hf=>zQ (v:=.agg #[.func (.func 155) #[] #[]]) hf hc aK2 rfl (fun w hc=>xL hc rfl) fun a w hf hc=>?_
   obtain ⟨U,ak,hF⟩:=aA hF
   refine zC hf aNa rfl (aDs J l aa hc ak) ?_
   rintro _ w ⟨a5,a1,rfl,hc⟩
   refine ⟨_,rfl,fun a hf=>?_⟩
   refine sp 2 hf rfl fun a hf=>zQ (v:=.agg #[.func (.func 156) #[] #[]]) hf hc aHv rfl (fun w hc=>sO hc rfl) fun a w hf hc=>?_
   obtain ⟨V,am,hF⟩:=aA hF
   refine zC hf aNa rfl (aAt J l aa hc am) ?_
   rintro _ w ⟨ay,ax,rfl,hc⟩
   refine ⟨_,rfl,fun a hf=>?_⟩
   refine sp 2 hf rfl fun a hf=>zT h ?_
   refine zS fun K h=>sp 1 hf rfl fun a hf=>zT h ?_
   refine wp_seq_k fun K10 a4=>zS fun K h=>sp 1 hf rfl fun a hf=>zP hf rfl (aW Tryz.underlying22 rfl) fun a hf=>sp 1 hf rfl fun a hf=>zT h ?_
   refine wp_block ?_
   obtain ⟨t,ai,hF⟩:=aA hF
   let S12:((List aX) × Int)→Act→World→Prop:=(fun (zz:(List aX) × Int) a w=>∃ (m:Option Addr) (H:Nat) (Y:Option Addr) (I:Nat) (O:Option Addr) (M:Nat),Has 48 a [(7,.slice m U.length H),(8,.slice Y V.length I),(9,.slice O zz.1.length M),(30,i6 ((l.length:Nat):Int)),(31,i6 zz.2)]∧Ctx G (.row O M (zz.1.map dK) 29 2::.row Y I (V.map aD) 3 1::.row m H (U.map aD) 3 1::Lf) w)
   have aq:∀ (zz:(List aX) × Int) a w,t=.go zz→S12 zz a w→K10 a w:=by
    rintro ⟨out,x⟩ a w rfl ⟨m,H,Y,I,O,M,hf,hc⟩
    replace hF:=bH hF
    refine a4 _ _ ?_
    refine zS fun K h=>sp 3 hf rfl fun a hf=>zT h ?_
    refine wp_ret ?_
    obtain rfl:=sj hF
    replace hc:=(hc.drop k2).drop k1
    exact zO2 Tryz.results18 hf rfl rfl ⟨O,M,rfl,hc⟩
   have a7:∀ r,t=.out r→r=d:=by
    rintro r rfl
    exact sj hF
   replace hc:=hc.nilRow 29 2
   refine bY N (bX (S:=S12) (x:=t) ?_ N (([]:List aX),0) _ _ ⟨a5,a1,ay,ax,none,0,hf.kp rfl,hc⟩ ai)
   clear hF hf hc
   rintro ⟨out,x⟩ a8 a w KB12 ⟨m,H,Y,I,O,M,hf,hc⟩ hF X au
   unfold xG at hF
   refine zS fun K h=>sp 1 hf rfl fun a hf=>zT h ?_
   refine wp_seq_k fun K15 av=>zI hf rfl hF ?_ ?_ <;> clear hF <;> intro hF
   ·refine wp_skip ?_
    refine av _ _ ?_
    refine wp_seq_k fun K16 a3=>wp_block ?_
    refine zS fun K h=>sp 2 hf rfl fun a hf=>zT h ?_
    obtain ⟨D,an,hF⟩:=aA hF
    obtain ⟨g,rfl,qa,qr⟩:=nQ hc m2 an
    obtain ⟨B,ar,hF⟩:=aA hF
    obtain ⟨R,rfl,ap,aj⟩:=nQ hc m1 ar
    obtain ⟨un,a0,hF⟩:=aA hF
    replace hc:=hc.nilRow 0 0
    refine mB (fun θ=>[⟨none,none,7,.slice (some ⟨g,0,none⟩) U.length H⟩,⟨none,none,8,.slice (some ⟨R,0,none⟩) V.length I⟩,⟨none,some 12,9,.slice O out.length M⟩,⟨none,none,10,i6 x⟩,⟨none,none,30,i6 ((l.length:Nat):Int)⟩,⟨none,none,31,i6 x⟩,⟨some 0,none,34,.slice O out.length M⟩,⟨some 1,none,35,.slice (some ⟨g,0,none⟩) U.length H⟩,⟨some 2,none,36,i6 x⟩,⟨some 3,none,37,.pointer (some ⟨g,x.toNat * 1,none⟩)⟩,⟨some 4,none,38,i6 D⟩,⟨some 5,none,39,.slice (some ⟨R,0,none⟩) V.length I⟩,⟨some 6,none,40,i6 x⟩,⟨some 7,none,41,.pointer (some ⟨R,x.toNat * 1,none⟩)⟩,⟨some 8,none,42,i6 B⟩,⟨some 9,none,43,.agg #[i6 D,i6 B]⟩,⟨some 10,none,44,.slice (some ⟨(θ 80).b,0,none⟩) 1 1⟩,⟨some 11,none,45,.slice ((θ 88).p) ((out++[(⟨D,B⟩:aX)]).length) ((θ 88).c)⟩,⟨some 12,none,9,.slice ((θ 88).p) ((out++[(⟨D,B⟩:aX)]).length) ((θ 88).c)⟩]) (fun E θ=>(bif E 10 then .row (some ⟨(θ 80).b,0,none⟩) 1 (([(⟨D,B⟩:aX)]:List aX).map dK) 29 2 else .row none 0 [] 0 0)::(bif E 11 then .row ((θ 88).p) ((θ 88).c) ((out++[(⟨D,B⟩:aX)]).map dK) 29 2 else .row O M (out.map dK) 29 2)::.row (some ⟨R,0,none⟩) I (V.map aD) 3 1::.row (some ⟨g,0,none⟩) H (U.map aD) 3 1::Lf) [(12,0),(12,11)] (fun a w=>∃ (q:Option Addr) (s:Nat) (ab:Nat),Has 48 a [(7,.slice (some ⟨g,0,none⟩) U.length H),(8,.slice (some ⟨R,0,none⟩) V.length I),(30,i6 ((l.length:Nat):Int)),(31,i6 x),(9,.slice q ((out++[(⟨D,B⟩:aX)]).length) s)]∧Ctx G (.row (some ⟨ab,0,none⟩) 1 (([(⟨D,B⟩:aX)]:List aX).map dK) 29 2::.row q s ((out++[(⟨D,B⟩:aX)]).map dK) 29 2::.row (some ⟨R,0,none⟩) I (V.map aD) 3 1::.row (some ⟨g,0,none⟩) H (U.map aD) 3 1::Lf) w) aT (by kernel_rfl) (by kernel_rfl) (iT.of hf ⟨rfl,rfl,rfl,rfl,rfl,rfl,trivial,trivial,trivial,trivial,trivial,trivial,trivial,trivial,trivial,trivial,trivial,trivial,trivial,trivial⟩) hc ⟨?_,?_,?_,?_,?_,?_,?_,?_,?_,?_,?_,?_,?_,trivial⟩ ?_ ?_
    ·intro E θ a w hD hi hp he hc
     have Z:=hD.f 0 rfl hi
     have hf:=he.h0.mN he 2 rfl Z
     refine sp 1 hf rfl fun a hf=>zD θ he hi hf 6 rfl rfl rfl hc
    ·intro E θ a w hD hi hp he hc
     have hf:=he.h0.mT he 0 rfl
     refine sp 1 hf rfl fun a hf=>zD θ he hi hf 7 rfl rfl rfl hc
    ·intro E θ a w hD hi hp he hc
     have hf:=he.h0.mT he 3 rfl
     refine sp 1 hf rfl fun a hf=>zD θ he hi hf 8 rfl rfl rfl hc
    ·intro E θ a w hD hi hp he hc
     have e1:=hp.o 1 rfl
     have e2:=hp.o 2 rfl
     have hf:=(he.h0.mP he 7 rfl e1).mP he 8 rfl e2
     refine zP hf rfl (pIA Tryz.underlying25 eH rfl rfl qa) fun a hf=>zD θ he hi hf 9 rfl rfl rfl hc
    ·intro E θ a w hD hi hp he hc
     have e3:=hp.o 3 rfl
     have hf:=he.h0.mP he 9 rfl e3
     refine zE hf hc rfl (bF bG rfl (jA (sz:=1) (i:=x.toNat) (j:=0) m3 qr rfl)) fun a w hf hc=>zD θ he hi hf 10 rfl rfl rfl hc
    ·intro E θ a w hD hi hp he hc
     have hf:=he.h0.mT he 1 rfl
     refine sp 1 hf rfl fun a hf=>zD θ he hi hf 11 rfl rfl rfl hc
    ·intro E θ a w hD hi hp he hc
     have hf:=he.h0.mT he 3 rfl
     refine sp 1 hf rfl fun a hf=>zD θ he hi hf 12 rfl rfl rfl hc
    ·intro E θ a w hD hi hp he hc
     have e5:=hp.o 5 rfl
     have e6:=hp.o 6 rfl
     have hf:=(he.h0.mP he 11 rfl e5).mP he 12 rfl e6
     refine zP hf rfl (pIA Tryz.underlying25 eH rfl rfl ap) fun a hf=>zD θ he hi hf 13 rfl rfl rfl hc
    ·intro E θ a w hD hi hp he hc
     have e7:=hp.o 7 rfl
     have hf:=he.h0.mP he 13 rfl e7
     refine zE hf hc rfl (bF bG rfl (jA (sz:=1) (i:=x.toNat) (j:=0) m2 aj rfl)) fun a w hf hc=>zD θ he hi hf 14 rfl rfl rfl hc
    ·intro E θ a w hD hi hp he hc
     have e4:=hp.o 4 rfl
     have e8:=hp.o 8 rfl
     have hf:=(he.h0.mP he 10 rfl e4).mP he 14 rfl e8
     refine zP hf rfl (cK (cells:=[i6 D,i6 B]) aDm rfl rfl) fun a hf=>zD θ he hi hf 15 rfl rfl rfl hc
    ·intro E θ a w hD hi hp he hc
     have e9:=hp.o 9 rfl
     try dsimp only at hc
     rw [hi] at hc
     have hf:=he.h0.mP he 15 rfl e9
     refine nU (rows:=([(⟨D,B⟩:aX)]:List aX).map dK) (vs:=[(0,.agg #[i6 D,i6 B])]) hf hc rfl rfl aKn rfl ⟨rfl,rfl,rfl,trivial⟩ rfl rfl fun az a w hf hc=>aL ?_
     refine jV ?_
     intro ds u z
     replace hc:=hc.drop k1
     refine ⟨(uQ θ 80 ⟨az,none,0,(fun _=>(none,0))⟩),he.put hi z hf rfl [] trivial ⟨qq,qq,qq,qq,qq,qq,qq,qq,qq,qq,qq,qq,qq,qq,qq,qq,qq,qq,qq,trivial⟩,?_⟩
     try dsimp only
     rw [bV E 10]
     exact hc
    ·intro E θ a w hD hi hp he hc
     have e0:=hp.o 0 rfl
     have k:=hp.o 10 rfl
     have Z:=hD.f 1 rfl hi
     try dsimp only at hc
     rw [k,hi] at hc
     have hf:=(he.h0.mP he 6 rfl e0).mP he 16 rfl k
     refine pG (xs:=out) (ys:=([(⟨D,B⟩:aX)]:List aX)) hf hc rfl rfl aKn rfl rfl rfl rfl rfl aBf (lL hc m0) (fun _ _=>u1) (by simpa using fA a0) fun a6 a2 a w hf hc=>aL ?_
     refine jV ?_
     intro ds u z
     refine ⟨(uQ θ 88 ⟨0,a6,a2,(fun _=>(none,0))⟩),he.put hi z hf rfl [12] ⟨⟨Z,rfl⟩,trivial⟩ ⟨qq,qq,qq,qq,qq,qq,qq,qq,qq,qq,qq,qq,qq,qq,qq,qq,qq,qq,trivial,trivial⟩,?_⟩
     try dsimp only
     rw [mG 11 k,bV E 11]
     exact hc
    ·intro E θ a w hD hi hp he hc
     have y:=hp.o 11 rfl
     have hf:=he.h0.mP he 17 rfl y
     refine sp 1 hf rfl fun a hf=>zD θ he hi hf 18 rfl rfl rfl hc
    ·intro E θ a w n he hc
     have hf:=he.h0
     have k:=n 10 rfl
     have y:=n 11 rfl
     have Z:=n 12 rfl
     replace hf:=hf.more he 18 rfl (onP Z)
     replace hf:=hf.more he 5 rfl (onT)
     replace hf:=hf.more he 4 rfl (onT)
     replace hf:=hf.more he 1 rfl (onT)
     replace hf:=hf.more he 0 rfl (onT)
     try dsimp only at hc
     rw [k,y] at hc
     exact ⟨(θ 88).p,(θ 88).c,(θ 80).b,hf.kp rfl,hc⟩
    rintro a w ⟨q,s,ab,hf,hc⟩
    refine a3 _ _ ?_
    refine bW ?_
    refine sp 2 hf rfl fun a hf=>aL ?_
    replace hc:=hc.drop k0
    exact au ((out++[(⟨D,B⟩:aX)]),W (x + 1)) _ _ (sj hF).symm ⟨(some ⟨g,0,none⟩),H,(some ⟨R,0,none⟩),I,q,s,hf.kp rfl,hc⟩
   ·refine wp_exit ?_
    refine aN ?_
    refine aN ?_
    have he:=sj hF
    rw [← he] at X
    refine cT ?_
    exact aq _ _ _ X ⟨m,H,Y,I,O,M,hf.kp rfl,hc⟩

def rL (N:Nat) (H:Int) (D:Int) (B:Int):Option (bK (Int × Int × Int) (Int × Int × Int)) :=
 some (.cont (D,B,W (H - 1)))
def rG (N:Nat) (l:List bI) (r:(List aX) × Int) (H:Int) (B:Int) (D:Int):Option (bK (Int × Int × Int) (Int × Int × Int)) :=
 Option.bind (aU r.1 B) fun J=>
 Option.bind (aU l B) fun I=>
 cond (decide (I.Close < J.Lo))
 (rL N B D B)
 (rL N B D H)
def aAf (N:Nat) (l:List bI) (r:(List aX) × Int) (H:Int) (B:Int) (D:Int):Option (bK (Int × Int × Int) (Int × Int × Int)) :=
 cond (decide (0≤D))
 (Option.bind (aU r.1 D) fun I=>
 Option.bind (aU l D) fun J=>
 cond (decide (J.Close < I.Hi))
 (rG N l r B D D)
 (rG N l r B D H))
 (some (.brk (H,B,D)))
def aA3 (N:Nat) (B:Int) (l:List bI):Option (Int × Int × Int) :=
 Option.bind (vI N B l) fun r=>
 cond (r.2 != 0)
 (some (0,0,r.2))
 (Option.bind (aS (fun s9=>aAf N l r s9.1 s9.2.1 s9.2.2) N ((-1),(-1),W (((l.length:Nat):Int) - 1))) fun x9=>
 exK x9 (fun s9=>some (s9.1,s9.2.1,0)) some)
theorem aE1 {N:Nat} {G:aQ} {Lf:List Ent} {w:World} (O:Int) (l:List bI) {Y:Option Addr} {X:Nat} (p:Rd G 6 Y X (l.map dQ)) (hc:Ctx G (Lf) w) {V:Int × Int × Int} (hF:aA3 N O l=some V):Calls Tryz.prog 22 #[i6 O,.slice Y l.length X] w (fun e w=>e=.returned (.tuple #[i6 V.1,i6 V.2.1,i6 V.2.2])∧Ctx G (Lf) w):=by
 unfold aA3 at hF
 refine bN Tryz.func22 rfl Tryz.ntmps22 rfl fun a hf=>zS fun K h=>sp 3 hf rfl fun a hf=>zT h ?_
 refine zS fun K h=>sp 2 hf rfl fun a hf=>?_
 obtain ⟨r,hr,hF⟩:=aA hF
 refine zC hf aMt rfl (yG O l p hc hr) ?_
 rintro _ w ⟨ar,ap,rfl,hc⟩
 refine ⟨_,rfl,fun a hf=>?_⟩
 refine sp 5 hf rfl fun a hf=>zT h ?_
 refine wp_seq_k fun K3 h3=>zS fun K h=>sp 2 hf rfl fun a hf=>zT h ?_
 refine zI hf rfl hF ?_ ?_ <;> clear hF <;> intro hF
 ·refine zS fun K h=>sp 4 hf rfl fun a hf=>zT h ?_
  refine wp_ret ?_
  refine aH ?_
  obtain rfl:=sj hF
  replace hc:=hc.drop k0
  exact zO3 Tryz.results22 hf rfl rfl rfl ⟨rfl,hc⟩
 ·refine wp_skip ?_
  refine h3 _ _ ?_
  refine zS fun K h=>sp 2 hf rfl fun a hf=>zT h ?_
  refine wp_seq_k fun K7 h7=>zS fun K h=>sp 1 hf rfl fun a hf=>zP hf rfl (aW Tryz.underlying22 rfl) fun a hf=>sp 2 hf rfl fun a hf=>zT h ?_
  refine wp_block ?_
  obtain ⟨x9,aj,hF⟩:=aA hF
  let S9:(Int × Int × Int)→Act→World→Prop:=(fun (zz:Int × Int × Int) a w=>∃ (R:Option Addr) (M:Nat),Has 51 a [(1,.slice Y l.length X),(4,i6 zz.1),(5,i6 zz.2.1),(7,.slice R r.1.length M),(8,i6 zz.2.2)]∧Ctx G (.row R M (r.1.map dK) 29 2::Lf) w)
  have am:∀ (zz:Int × Int × Int) a w,x9=.go zz→S9 zz a w→K7 a w:=by
   rintro ⟨t,I,D⟩ a w rfl ⟨R,M,hf,hc⟩
   replace hF:=bH hF
   refine h7 _ _ ?_
   refine zS fun K h=>sp 5 hf rfl fun a hf=>zT h ?_
   refine wp_ret ?_
   obtain rfl:=sj hF
   replace hc:=hc.drop k0
   exact zO3 Tryz.results22 hf rfl rfl rfl ⟨rfl,hc⟩
  have az:∀ r,x9=.out r→r=V:=by
   rintro r rfl
   exact sj hF
  refine bY N (bX (S:=S9) (x:=x9) ?_ N ((-1),(-1),W (((l.length:Nat):Int) - 1)) _ _ ⟨ar,ap,hf.kp rfl,hc⟩ aj)
  clear hF hf hc
  rintro ⟨t,I,D⟩ q a w KB9 ⟨R,M,hf,hc⟩ hF d ai
  unfold aAf at hF
  refine wp_seq_k fun K11 au=>zS fun K h=>sp 2 hf rfl fun a hf=>zT h ?_
  refine zI hf rfl hF ?_ ?_ <;> clear hF <;> intro hF
  ·refine wp_skip ?_
   refine au _ _ ?_
   refine wp_seq_k fun K13 an=>?_
   have n:∀ (J:Int) (B:Int) (b:Option Addr) (Z:Nat) a w,Has 51 a [(1,.slice Y l.length X),(4,i6 J),(5,i6 B),(7,.slice b r.1.length Z),(8,i6 D)]→Ctx G (.row b Z (r.1.map dK) 29 2::Lf) w→rL N D J B=some q→K13 a w:=by
    repeat (clear hF)
    repeat (clear hc)
    repeat (clear hf)
    intro J B b Z a w hf hc hF
    unfold rL at hF
    refine an _ _ ?_
    refine bW ?_
    refine sp 3 hf rfl fun a hf=>aL ?_
    exact ai (J,B,W (D - 1)) _ _ (sj hF).symm ⟨b,Z,hf.kp rfl,hc⟩
   refine wp_block ?_
   refine wp_seq_k fun K14 ak=>?_
   have k:∀ (H:Int) (m:Option Addr) (U:Nat) a w,Has 51 a [(1,.slice Y l.length X),(4,i6 H),(5,i6 I),(7,.slice m r.1.length U),(8,i6 D)]→Ctx G (.row m U (r.1.map dK) 29 2::Lf) w→rG N l r I D H=some q→K14 a w:=by
    repeat (clear hF)
    repeat (clear hc)
    repeat (clear hf)
    intro H m U a w hf hc hF
    unfold rG at hF
    refine ak _ _ ?_
    refine wp_seq_k fun K15 ag=>?_
    obtain ⟨a0,aa,hF⟩:=aA hF
    obtain ⟨g,rfl,qa,qr⟩:=nQ hc m0 aa
    obtain ⟨ax,af,hF⟩:=aA hF
    obtain ⟨ay,o,ab,qp⟩:=p.atm af
    refine cQ hc aT (by kernel_rfl) ?_
    refine qE hf rfl rfl rfl (Pu.ev (pM rfl)) fun a hf=>qE hf rfl rfl rfl (Pu.ev (pM rfl)) fun a hf=>qE hf rfl rfl rfl (Pu.ev (pIA Tryz.underlying33 aAi rfl rfl qa)) fun a hf=>qE hf rfl rfl rfl (Pu.ev (pFA aCf rfl)) fun a hf=>qE hf rfl rfl rfl (bF bG rfl (jA (sz:=2) (i:=D.toNat) (j:=0) m0 qr rfl)) fun a hf=>qE hf rfl rfl rfl (Pu.ev (pM rfl)) fun a hf=>qE hf rfl rfl rfl (Pu.ev (pM rfl)) fun a hf=>qE hf rfl rfl rfl (Pu.ev (pIA Tryz.underlying22 wP rfl rfl ab)) fun a hf=>qE hf rfl rfl rfl (Pu.ev (pFA aAr rfl)) fun a hf=>qE hf rfl rfl rfl (bF bG rfl (aR (j:=5) qp rfl)) fun a hf=>qE hf rfl rfl rfl (Pu.ev (pGt rfl rfl)) fun a hf=>?_
    intro w hc
    refine ag _ _ ?_
    refine zI hf rfl hF ?_ ?_ <;> clear hF <;> intro hF
    ·refine bW ?_
     refine sp 2 hf rfl fun a hf=>aL ?_
     exact n H D (some ⟨g,0,none⟩) U _ _  (hf.kp rfl) hc hF
    ·refine wp_skip ?_
     exact n H I (some ⟨g,0,none⟩) U _ _  (hf.kp rfl) hc hF
   refine wp_seq_k fun K16 aq=>?_
   obtain ⟨a1,ac,hF⟩:=aA hF
   obtain ⟨s,rfl,v,z⟩:=nQ hc m0 ac
   obtain ⟨a3,ad,hF⟩:=aA hF
   obtain ⟨av,a2,y,u⟩:=p.atm ad
   refine cQ hc aT (by kernel_rfl) ?_
   refine qE hf rfl rfl rfl (Pu.ev (pM rfl)) fun a hf=>qE hf rfl rfl rfl (Pu.ev (pM rfl)) fun a hf=>qE hf rfl rfl rfl (Pu.ev (pIA Tryz.underlying33 aAi rfl rfl v)) fun a hf=>qE hf rfl rfl rfl (Pu.ev (pFA sU rfl)) fun a hf=>qE hf rfl rfl rfl (bF bG rfl (jA (sz:=2) (i:=D.toNat) (j:=1) m0 z rfl)) fun a hf=>qE hf rfl rfl rfl (Pu.ev (pM rfl)) fun a hf=>qE hf rfl rfl rfl (Pu.ev (pM rfl)) fun a hf=>qE hf rfl rfl rfl (Pu.ev (pIA Tryz.underlying22 wP rfl rfl y)) fun a hf=>qE hf rfl rfl rfl (Pu.ev (pFA aAr rfl)) fun a hf=>qE hf rfl rfl rfl (bF bG rfl (aR (j:=5) u rfl)) fun a hf=>qE hf rfl rfl rfl (Pu.ev (pGt rfl rfl)) fun a hf=>?_
   intro w hc
   refine aq _ _ ?_
   refine zI hf rfl hF ?_ ?_ <;> clear hF <;> intro hF
   ·refine bW ?_
    refine sp 2 hf rfl fun a hf=>aL ?_
    exact k D (some ⟨s,0,none⟩) M _ _  (hf.kp rfl) hc hF
   ·refine wp_skip ?_
    exact k t (some ⟨s,0,none⟩) M _ _  (hf.kp rfl) hc hF
  ·refine wp_exit ?_
   refine aN ?_
   refine aN ?_
   have he:=sj hF
   rw [← he] at d
   refine cT ?_
   exact am _ _ _ d ⟨R,M,hf.kp rfl,hc⟩

def nI (N:Nat) (a_:List Int) (b_:List Int) (B:Int):Option (bK (Int) (Bool)) :=
 cond (decide (B < ((a_.length:Nat):Int)))
 (Option.bind (aU a_ B) fun D=>
 Option.bind (aU b_ B) fun H=>
 cond (D != H)
 (some (.ret false))
 (some (.cont (W (B + 1)))))
 (some (.brk B))
def gG (N:Nat) (a_:List Int) (b_:List Int):Option (Bool) :=
 cond (((a_.length:Nat):Int) != ((b_.length:Nat):Int))
 (some false)
 (Option.bind (aS (fun s7=>nI N a_ b_ s7) N 0) fun x7=>
 exK x7 (fun s7=>some true) some)
theorem lB {N:Nat} {G:aQ} {Lf:List Ent} {w:World} (a_:List Int) (b_:List Int) {I:Option Addr} {J:Nat} {D:Option Addr} {H:Nat} (Z:Rd G 1 I J (a_.map aD)) (U:Rd G 1 D H (b_.map aD)) (hc:Ctx G (Lf) w) {M:Bool} (hF:gG N a_ b_=some M):Calls Tryz.prog 29 #[.slice I a_.length J,.slice D b_.length H] w (fun e w=>e=.returned (.bool M)∧Ctx G (Lf) w):=by
 unfold gG at hF
 refine bN Tryz.func29 rfl Tryz.ntmps29 rfl fun a hf=>zS fun K h=>sp 1 hf rfl fun a hf=>zT h ?_
 refine wp_seq_k fun K2 h2=>zS fun K h=>sp 1 hf rfl fun a hf=>zP hf rfl (aW Tryz.underlying25 rfl) fun a hf=>sp 1 hf rfl fun a hf=>zP hf rfl (aW Tryz.underlying25 rfl) fun a hf=>sp 1 hf rfl fun a hf=>zT h ?_
 refine zI hf rfl hF ?_ ?_ <;> clear hF <;> intro hF
 ·refine zS fun K h=>sp 1 hf rfl fun a hf=>zT h ?_
  refine wp_ret ?_
  refine aH ?_
  obtain rfl:=sj hF
  exact zO1 Tryz.results29 hf rfl ⟨rfl,hc⟩
 ·refine wp_skip ?_
  refine h2 _ _ ?_
  refine wp_seq_k fun K5 h5=>zS fun K h=>sp 1 hf rfl fun a hf=>zT h ?_
  refine wp_block ?_
  obtain ⟨x7,i,hF⟩:=aA hF
  let S7:Int→Act→World→Prop:=(fun (zz:Int) a w=>Has 26 a [(0,.slice I a_.length J),(1,.slice D b_.length H),(5,i6 zz)]∧Ctx G (Lf) w)
  have b:∀ (zz:Int) a w,x7=.go zz→S7 zz a w→K5 a w:=by
   rintro O a w rfl ⟨hf,hc⟩
   replace hF:=bH hF
   refine h5 _ _ ?_
   refine zS fun K h=>sp 1 hf rfl fun a hf=>zT h ?_
   refine wp_ret ?_
   obtain rfl:=sj hF
   exact zO1 Tryz.results29 hf rfl ⟨rfl,hc⟩
  have k:∀ r,x7=.out r→r=M:=by
   rintro r rfl
   exact sj hF
  refine bY N (bX (S:=S7) (x:=x7) ?_ N 0 _ _ ⟨hf.kp rfl,hc⟩ i)
  clear hF hf hc
  rintro O s a w KB7 ⟨hf,hc⟩ hF B d
  unfold nI at hF
  refine wp_seq_k fun K9 h9=>zS fun K h=>sp 2 hf rfl fun a hf=>zP hf rfl (aW Tryz.underlying25 rfl) fun a hf=>sp 1 hf rfl fun a hf=>zT h ?_
  refine zI hf rfl hF ?_ ?_ <;> clear hF <;> intro hF
  ·refine wp_skip ?_
   refine h9 _ _ ?_
   refine wp_seq_k fun K11 m=>wp_block ?_
   refine wp_seq_k fun K12 g=>?_
   obtain ⟨p,X,hF⟩:=aA hF
   obtain ⟨t,o,qa,qp⟩:=Z.atm X
   obtain ⟨q,Y,hF⟩:=aA hF
   obtain ⟨n,u,R,V⟩:=U.atm Y
   refine cQ hc aT (by kernel_rfl) ?_
   refine qE hf rfl rfl rfl (Pu.ev (pM rfl)) fun a hf=>qE hf rfl rfl rfl (Pu.ev (pM rfl)) fun a hf=>qE hf rfl rfl rfl (Pu.ev (pIA Tryz.underlying25 eH rfl rfl qa)) fun a hf=>qE hf rfl rfl rfl (bF bG rfl (aR (j:=0) qp rfl)) fun a hf=>qE hf rfl rfl rfl (Pu.ev (pM rfl)) fun a hf=>qE hf rfl rfl rfl (Pu.ev (pM rfl)) fun a hf=>qE hf rfl rfl rfl (Pu.ev (pIA Tryz.underlying25 eH rfl rfl R)) fun a hf=>qE hf rfl rfl rfl (bF bG rfl (aR (j:=0) V rfl)) fun a hf=>qE hf rfl rfl rfl (Pu.ev (pNe rfl rfl)) fun a hf=>?_
   intro w hc
   refine g _ _ ?_
   refine zI hf rfl hF ?_ ?_ <;> clear hF <;> intro hF
   ·refine zS fun K h=>sp 1 hf rfl fun a hf=>zT h ?_
    refine wp_ret ?_
    refine bB ?_
    refine aH ?_
    refine aH ?_
    have he:=sj hF
    rw [← he] at B
    replace hF:=k _ B
    refine bB ?_
    refine aH ?_
    obtain rfl:=hF
    exact zO1 Tryz.results29 hf rfl ⟨rfl,hc⟩
   ·refine wp_skip ?_
    refine m _ _ ?_
    refine bW ?_
    refine sp 3 hf rfl fun a hf=>aL ?_
    exact d (W (O + 1)) _ _ (sj hF).symm ⟨hf.kp rfl,hc⟩
  ·refine wp_exit ?_
   refine aN ?_
   refine aN ?_
   have he:=sj hF
   rw [← he] at B
   refine cT ?_
   exact b _ _ _ B ⟨hf.kp rfl,hc⟩

def rM (N:Nat) (a_:List aX) (b_:List aX) (B:Int):Option (bK (Int) (Bool)) :=
 cond (decide (B < ((a_.length:Nat):Int)))
 (Option.bind (aU a_ B) fun D=>
 Option.bind (aU b_ B) fun H=>
 cond (!(D.Lo == H.Lo && D.Hi == H.Hi))
 (some (.ret false))
 (some (.cont (W (B + 1)))))
 (some (.brk B))
def pO (N:Nat) (a_:List aX) (b_:List aX):Option (Bool) :=
 cond (((a_.length:Nat):Int) != ((b_.length:Nat):Int))
 (some false)
 (Option.bind (aS (fun s7=>rM N a_ b_ s7) N 0) fun x7=>
 exK x7 (fun s7=>some true) some)
theorem xD {N:Nat} {G:aQ} {Lf:List Ent} {w:World} (a_:List aX) (b_:List aX) {I:Option Addr} {J:Nat} {D:Option Addr} {H:Nat} (d:Rd G 2 I J (a_.map dK)) (X:Rd G 2 D H (b_.map dK)) (hc:Ctx G (Lf) w) {M:Bool} (hF:pO N a_ b_=some M):Calls Tryz.prog 21 #[.slice I a_.length J,.slice D b_.length H] w (fun e w=>e=.returned (.bool M)∧Ctx G (Lf) w):=by
 unfold pO at hF
 refine bN Tryz.func21 rfl Tryz.ntmps21 rfl fun a hf=>zS fun K h=>sp 1 hf rfl fun a hf=>zT h ?_
 refine wp_seq_k fun K2 h2=>zS fun K h=>sp 1 hf rfl fun a hf=>zP hf rfl (aW Tryz.underlying33 rfl) fun a hf=>sp 1 hf rfl fun a hf=>zP hf rfl (aW Tryz.underlying33 rfl) fun a hf=>sp 1 hf rfl fun a hf=>zT h ?_
 refine zI hf rfl hF ?_ ?_ <;> clear hF <;> intro hF
 ·refine zS fun K h=>sp 1 hf rfl fun a hf=>zT h ?_
  refine wp_ret ?_
  refine aH ?_
  obtain rfl:=sj hF
  exact zO1 Tryz.results21 hf rfl ⟨rfl,hc⟩
 ·refine wp_skip ?_
  refine h2 _ _ ?_
  refine wp_seq_k fun K5 h5=>zS fun K h=>sp 1 hf rfl fun a hf=>zT h ?_
  refine wp_block ?_
  obtain ⟨x7,k,hF⟩:=aA hF
  let S7:Int→Act→World→Prop:=(fun (zz:Int) a w=>Has 26 a [(0,.slice I a_.length J),(1,.slice D b_.length H),(5,i6 zz)]∧Ctx G (Lf) w)
  have g:∀ (zz:Int) a w,x7=.go zz→S7 zz a w→K5 a w:=by
   rintro U a w rfl ⟨hf,hc⟩
   replace hF:=bH hF
   refine h5 _ _ ?_
   refine zS fun K h=>sp 1 hf rfl fun a hf=>zT h ?_
   refine wp_ret ?_
   obtain rfl:=sj hF
   exact zO1 Tryz.results21 hf rfl ⟨rfl,hc⟩
  have m:∀ r,x7=.out r→r=M:=by
   rintro r rfl
   exact sj hF
  refine bY N (bX (S:=S7) (x:=x7) ?_ N 0 _ _ ⟨hf.kp rfl,hc⟩ k)
  clear hF hf hc
  rintro U s a w KB7 ⟨hf,hc⟩ hF B i
  unfold rM at hF
  refine wp_seq_k fun K9 h9=>zS fun K h=>sp 2 hf rfl fun a hf=>zP hf rfl (aW Tryz.underlying33 rfl) fun a hf=>sp 1 hf rfl fun a hf=>zT h ?_
  refine zI hf rfl hF ?_ ?_ <;> clear hF <;> intro hF
  ·refine wp_skip ?_
   refine h9 _ _ ?_
   refine wp_seq_k fun K11 p=>wp_block ?_
   refine wp_seq_k fun K12 j=>?_
   obtain ⟨O,Z,hF⟩:=aA hF
   obtain ⟨t,o,qa,qp⟩:=d.atm Z
   obtain ⟨R,b,hF⟩:=aA hF
   obtain ⟨q,u,V,Y⟩:=X.atm b
   refine cQ hc aT (by kernel_rfl) ?_
   refine qE hf rfl rfl rfl (Pu.ev (pM rfl)) fun a hf=>qE hf rfl rfl rfl (Pu.ev (pM rfl)) fun a hf=>qE hf rfl rfl rfl (Pu.ev (pIA Tryz.underlying33 aAi rfl rfl qa)) fun a hf=>qE hf rfl rfl rfl (kG (vs:=[i6 O.Lo,i6 O.Hi]) tK rfl rfl (dF qp (n:=2) (o':=0) rfl)) fun a hf=>qE hf rfl rfl rfl (Pu.ev (pM rfl)) fun a hf=>qE hf rfl rfl rfl (Pu.ev (pM rfl)) fun a hf=>qE hf rfl rfl rfl (Pu.ev (pIA Tryz.underlying33 aAi rfl rfl V)) fun a hf=>qE hf rfl rfl rfl (kG (vs:=[i6 R.Lo,i6 R.Hi]) tK rfl rfl (dF Y (n:=2) (o':=0) rfl)) fun a hf=>qE hf rfl rfl rfl (Pu.ev (pNeA aMy rfl rfl (aK5 _ _ _ _))) fun a hf=>?_
   intro w hc
   refine j _ _ ?_
   refine zI hf rfl hF ?_ ?_ <;> clear hF <;> intro hF
   ·refine zS fun K h=>sp 1 hf rfl fun a hf=>zT h ?_
    refine wp_ret ?_
    refine bB ?_
    refine aH ?_
    refine aH ?_
    have he:=sj hF
    rw [← he] at B
    replace hF:=m _ B
    refine bB ?_
    refine aH ?_
    obtain rfl:=hF
    exact zO1 Tryz.results21 hf rfl ⟨rfl,hc⟩
   ·refine wp_skip ?_
    refine p _ _ ?_
    refine bW ?_
    refine sp 3 hf rfl fun a hf=>aL ?_
    exact i (W (U + 1)) _ _ (sj hF).symm ⟨hf.kp rfl,hc⟩
  ·refine wp_exit ?_
   refine aN ?_
   refine aN ?_
   have he:=sj hF
   rw [← he] at B
   refine cT ?_
   exact g _ _ _ B ⟨hf.kp rfl,hc⟩

def wZ (N:Nat) (l:List bI) (D:Int) (B:Int):Option (bK (Int × Int) (Int × Int)) :=
 cond (decide (0≤B))
 (Option.bind (aU l B) fun I=>
 Option.bind (aU l B) fun H=>
 Option.bind (aU l B) fun J=>
 cond (decide ((min I.Close (W (D - H.Work.Hi))) < J.Open))
 (some (.ret (0,5)))
 (Option.bind (aU l B) fun M=>
 some (.cont (W ((min I.Close (W (D - H.Work.Hi))) - M.Way.Hi),W (B - 1)))))
 (some (.brk (D,B)))
def xA (N:Nat) (l:List bI):Option (Int × Int) :=
 Option.bind (sS N l) fun r=>
 cond (r != 0)
 (some (0,r))
 (Option.bind (aS (fun s9=>wZ N l s9.1 s9.2) N (200000,W (((l.length:Nat):Int) - 1))) fun x9=>
 exK x9 (fun s9=>cond (decide (s9.1 < 0))
 (some (0,5))
 (some (s9.1,0))) some)
theorem aDf {N:Nat} {G:aQ} {Lf:List Ent} {w:World} (l:List bI) {J:Option Addr} {I:Nat} (D:Rd G 6 J I (l.map dQ)) (hc:Ctx G (Lf) w) {H:Int × Int} (hF:xA N l=some H):Calls Tryz.prog 24 #[.slice J l.length I] w (fun e w=>e=.returned (.tuple #[i6 H.1,i6 H.2])∧Ctx G (Lf) w):=by
 unfold xA at hF
 refine bN Tryz.func24 rfl Tryz.ntmps24 rfl fun a hf=>zS fun K h=>sp 2 hf rfl fun a hf=>zT h ?_
 refine wp_seq_k fun K2 h2=>zS fun K h=>sp 1 hf rfl fun a hf=>?_
 obtain ⟨r,hr,hF⟩:=aA hF
 refine zQ (v:=i6 r) hf hc aM8 rfl (fun w hc=>vW l D hc hr) fun a w hf hc=>sp 1 hf rfl fun a hf=>zT h ?_
 refine zS fun K h=>sp 2 hf rfl fun a hf=>zT h ?_
 refine zI hf rfl hF ?_ ?_ <;> clear hF <;> intro hF
 ·refine zS fun K h=>sp 3 hf rfl fun a hf=>zT h ?_
  refine wp_ret ?_
  refine aH ?_
  obtain rfl:=sj hF
  exact zO2 Tryz.results24 hf rfl rfl ⟨rfl,hc⟩
 ·refine wp_skip ?_
  refine h2 _ _ ?_
  refine zS fun K h=>sp 1 hf rfl fun a hf=>zT h ?_
  refine wp_seq_k fun K7 h7=>zS fun K h=>sp 1 hf rfl fun a hf=>zP hf rfl (aW Tryz.underlying22 rfl) fun a hf=>sp 2 hf rfl fun a hf=>zT h ?_
  refine wp_block ?_
  obtain ⟨x9,y,hF⟩:=aA hF
  let S9:(Int × Int)→Act→World→Prop:=(fun (zz:Int × Int) a w=>Has 51 a [(0,.slice J l.length I),(5,i6 zz.1),(6,i6 zz.2)]∧Ctx G (Lf) w)
  have aa:∀ (zz:Int × Int) a w,x9=.go zz→S9 zz a w→K7 a w:=by
   rintro ⟨O,M⟩ a w rfl ⟨hf,hc⟩
   replace hF:=bH hF
   refine h7 _ _ ?_
   refine wp_seq_k fun K10 q=>zS fun K h=>sp 2 hf rfl fun a hf=>zT h ?_
   refine zI hf rfl hF ?_ ?_ <;> clear hF <;> intro hF
   ·refine zS fun K h=>sp 2 hf rfl fun a hf=>zT h ?_
    refine wp_ret ?_
    refine aH ?_
    obtain rfl:=sj hF
    exact zO2 Tryz.results24 hf rfl rfl ⟨rfl,hc⟩
   ·refine wp_skip ?_
    refine q _ _ ?_
    refine zS fun K h=>sp 3 hf rfl fun a hf=>zT h ?_
    refine wp_ret ?_
    obtain rfl:=sj hF
    exact zO2 Tryz.results24 hf rfl rfl ⟨rfl,hc⟩
  have s:∀ r,x9=.out r→r=H:=by
   rintro r rfl
   exact sj hF
  refine bY N (bX (S:=S9) (x:=x9) ?_ N (200000,W (((l.length:Nat):Int) - 1)) _ _ ⟨hf.kp rfl,hc⟩ y)
  clear hF hf hc
  rintro ⟨O,M⟩ ag a w KB9 ⟨hf,hc⟩ hF B t
  unfold wZ at hF
  refine wp_seq_k fun K14 z=>zS fun K h=>sp 2 hf rfl fun a hf=>zT h ?_
  refine zI hf rfl hF ?_ ?_ <;> clear hF <;> intro hF
  ·refine wp_skip ?_
   refine z _ _ ?_
   refine wp_seq_k fun K16 n=>wp_block ?_
   refine wp_seq_k fun K17 u=>?_
   obtain ⟨k,g,hF⟩:=aA hF
   obtain ⟨ak,o,qa,qp⟩:=D.atm g
   obtain ⟨m,i,hF⟩:=aA hF
   obtain ⟨af,am,R,V⟩:=D.atm i
   refine cQ hc aT (by kernel_rfl) ?_
   refine qE hf rfl rfl rfl (Pu.ev (pM rfl)) fun a hf=>qE hf rfl rfl rfl (Pu.ev (pM rfl)) fun a hf=>qE hf rfl rfl rfl (Pu.ev (pIA Tryz.underlying22 wP rfl rfl qa)) fun a hf=>qE hf rfl rfl rfl (Pu.ev (pFA aAr rfl)) fun a hf=>qE hf rfl rfl rfl (bF bG rfl (aR (j:=5) qp rfl)) fun a hf=>qE hf rfl rfl rfl (Pu.ev (pM rfl)) fun a hf=>qE hf rfl rfl rfl (Pu.ev (pM rfl)) fun a hf=>qE hf rfl rfl rfl (Pu.ev (pM rfl)) fun a hf=>qE hf rfl rfl rfl (Pu.ev (pIA Tryz.underlying22 wP rfl rfl R)) fun a hf=>qE hf rfl rfl rfl (Pu.ev (pFA aCg rfl)) fun a hf=>qE hf rfl rfl rfl (Pu.ev (pFA sU rfl)) fun a hf=>qE hf rfl rfl rfl (bF bG rfl (aR (j:=3) V rfl)) fun a hf=>qE hf rfl rfl rfl (Pu.ev (aKl rfl rfl)) fun a hf=>?_
   refine qE hf rfl rfl rfl (Pu.ev (pMin2 rfl rfl)) fun a hf=>qE hf rfl rfl rfl (Pu.ev (pA rfl)) fun a hf=>?_
   intro w hc
   refine u _ _ ?_
   refine wp_seq_k fun K18 p=>zS fun K h=>sp 3 hf rfl fun a hf=>?_
   obtain ⟨ai,b,hF⟩:=aA hF
   obtain ⟨aj,an,Y,U⟩:=D.atm b
   refine zP hf rfl (pIA Tryz.underlying22 wP rfl rfl Y) fun a hf=>zP hf rfl (pFA aCm rfl) fun a hf=>zE hf hc rfl (bF bG rfl (aR (j:=4) U rfl)) fun a w hf hc=>sp 1 hf rfl fun a hf=>zT h ?_
   refine zI hf rfl hF ?_ ?_ <;> clear hF <;> intro hF
   ·refine zS fun K h=>sp 2 hf rfl fun a hf=>zT h ?_
    refine wp_ret ?_
    refine aH ?_
    refine bB ?_
    refine aH ?_
    refine aH ?_
    have he:=sj hF
    rw [← he] at B
    replace hF:=s _ B
    refine bB ?_
    refine aH ?_
    obtain rfl:=hF
    exact zO2 Tryz.results24 hf rfl rfl ⟨rfl,hc⟩
   ·refine wp_skip ?_
    refine p _ _ ?_
    refine bW ?_
    refine sp 3 hf rfl fun a hf=>?_
    obtain ⟨ab,d,hF⟩:=aA hF
    obtain ⟨ac,ad,Z,X⟩:=D.atm d
    refine zP hf rfl (pIA Tryz.underlying22 wP rfl rfl Z) fun a hf=>zP hf rfl (pFA aCh rfl) fun a hf=>zP hf rfl (pFA sU rfl) fun a hf=>zE hf hc rfl (bF bG rfl (aR (j:=1) X rfl)) fun a w hf hc=>sp 2 hf rfl fun a hf=>aL ?_
    refine n _ _ ?_
    refine bW ?_
    refine sp 3 hf rfl fun a hf=>aL ?_
    exact t (W ((min k.Close (W (O - m.Work.Hi))) - ab.Way.Hi),W (M - 1)) _ _ (sj hF).symm ⟨hf.kp rfl,hc⟩
  ·refine wp_exit ?_
   refine aN ?_
   refine aN ?_
   have he:=sj hF
   rw [← he] at B
   refine cT ?_
   exact aa _ _ _ B ⟨hf.kp rfl,hc⟩

def qW (N:Nat)  : Option (aO) :=
 Option.bind (mX N 80 90) fun r=>
 Option.bind (mX N 160 180) fun B=>
 some (⟨50,100,250,3000,([(⟨0,10,r⟩:aI),(⟨5,5,B⟩:aI)]:List aI)⟩:aO)
theorem uE {N:Nat} {G:aQ} {Lf:List Ent} {w:World}    (hc:Ctx G (Lf) w) {D:aO} (hF:qW N=some D):Calls Tryz.prog 69 #[] w (fun e w=>∃ (I:Option Addr) (J:Nat),e=.returned (.agg #[i6 D.Car,i6 D.Wide,i6 D.Sag,i6 D.Most,.slice I D.Rides.length J])∧Ctx G (.row I J (D.Rides.map aJ) 72 4::Lf) w):=by
 unfold qW at hF
 refine bN Tryz.func69 rfl Tryz.ntmps69 rfl fun a hf=>zS fun K h=>zA hf hc aHo rfl fun O a w hf hc=>zT h ?_
 refine zS fun K h=>?_
 obtain ⟨r,hr,hF⟩:=aA hF
 refine zQ (v:=.agg #[i6 r.Lo,i6 r.Hi]) hf hc aDo rfl (fun w hc=>lU 80 90 hc hr) fun a w hf hc=>zP hf rfl (cK (cells:=[i6 0,i6 10,i6 r.Lo,i6 r.Hi]) aL0 rfl rfl) fun a hf=>?_
 obtain ⟨B,M,hF⟩:=aA hF
 refine zQ (v:=.agg #[i6 B.Lo,i6 B.Hi]) hf hc aDo rfl (fun w hc=>lU 160 180 hc M) fun a w hf hc=>zP hf rfl (cK (cells:=[i6 5,i6 5,i6 B.Lo,i6 B.Hi]) aL0 rfl rfl) fun a hf=>nU (rows:=([(⟨0,10,r⟩:aI),(⟨5,5,B⟩:aI)]:List aI).map aJ) (vs:=[(0,.agg #[i6 0,i6 10,i6 r.Lo,i6 r.Hi]),(1,.agg #[i6 5,i6 5,i6 B.Lo,i6 B.Hi])]) hf hc rfl rfl aDb rfl ⟨rfl,rfl,rfl,rfl,rfl,rfl,trivial⟩ rfl rfl fun H a w hf hc=>zP hf rfl (cK (cells:=[i6 50,i6 100,i6 250,i6 3000,.slice (some ⟨H,0,none⟩) 2 2]) bt_54 rfl rfl) fun a hf=>zW hf hc aF0 u1 rfl fun w hc=>zT h ?_
 refine wp_ret ?_
 obtain rfl:=sj hF
 exact vQ (by simp) rfl Tryz.results69 hf hc (eG (vs:=[i6 50,i6 100,i6 250,i6 3000,.slice (some ⟨H,0,none⟩) 2 2]) pF rfl rfl (bM (n:=5) m1 rfl)) ⟨(some ⟨H,0,none⟩),2,rfl,(hc.drop k1)⟩

def nR (r:aI):Bool :=
 ((((bQ r.From) && (aE r.Long 1 100000)) && (aE r.Weight.Lo 0 r.Weight.Hi)) && (decide (r.Weight.Hi≤1000)))
theorem xE {G:aQ} {Lf:List Ent} {w:World} (r:aI)   (hc:Ctx G (Lf) w) {D:Bool} (hF:nR r=D):Calls Tryz.prog 91 #[.agg #[i6 r.From,i6 r.Long,i6 r.Weight.Lo,i6 r.Weight.Hi]] w (fun e w=>e=.returned (.bool D)∧Ctx G (Lf) w):=by
 unfold nR at hF
 refine bN Tryz.func91 rfl Tryz.ntmps91 rfl fun a hf=>zS fun K h=>zB hf hc rfl fun B a w hf hc=>sp 1 hf rfl fun a hf=>zT h ?_
 refine zS fun K h=>zP hf rfl (pFA rI rfl) fun a hf=>zL hf hc bG m0 rfl fun a w hf hc=>zQ (v:=.bool (bQ r.From)) hf hc aH3 rfl (fun w hc=>pU r.From hc rfl) fun a w hf hc=>sp 1 hf rfl fun a hf=>fV 4 (fun a=>Has 26 a [(1,pq B),(2,.bool false),(3,pq B),(4,i6 r.From),(5,.bool (bQ r.From)),(6,.bool (bQ r.From)),(10,.bool ((bQ r.From) && (aE r.Long 1 100000)))]) hc ?_ ?_
 ·cases hb:(bQ r.From)
  ·rw [hb] at hf
   refine stS hf rfl rfl rfl fun a hf=>stS hf rfl rfl rfl fun a hf=>stS hf rfl rfl rfl fun a hf=>sp 1 hf rfl fun a hf=>aL ⟨hf.kp rfl,hc⟩
  ·rw [hb] at hf
   refine zP hf rfl (pFA aCd rfl) fun a hf=>zL hf hc bG m0 rfl fun a w hf hc=>zQ (v:=.bool (aE r.Long 1 100000)) hf hc nZ rfl (fun w hc=>cU r.Long 1 100000 hc rfl) fun a w hf hc=>sp 1 hf rfl fun a hf=>aL ⟨hf.kp rfl,hc⟩
 intro a w ⟨hf,hc⟩
 refine sp 1 hf rfl fun a hf=>fV 8 (fun a=>Has 26 a [(1,pq B),(2,.bool false),(3,pq B),(4,i6 r.From),(5,.bool (bQ r.From)),(6,.bool (bQ r.From)),(10,.bool ((bQ r.From) && (aE r.Long 1 100000))),(11,.bool ((bQ r.From) && (aE r.Long 1 100000))),(19,.bool (((bQ r.From) && (aE r.Long 1 100000)) && (aE r.Weight.Lo 0 r.Weight.Hi)))]) hc ?_ ?_
 ·cases hb:((bQ r.From) && (aE r.Long 1 100000))
  ·rw [hb] at hf
   refine stS hf rfl rfl rfl fun a hf=>stS hf rfl rfl rfl fun a hf=>stS hf rfl rfl rfl fun a hf=>stS hf rfl rfl rfl fun a hf=>stS hf rfl rfl rfl fun a hf=>stS hf rfl rfl rfl fun a hf=>stS hf rfl rfl rfl fun a hf=>sp 1 hf rfl fun a hf=>aL ⟨hf.kp rfl,hc⟩
  ·rw [hb] at hf
   refine zP hf rfl (pFA xY rfl) fun a hf=>zP hf rfl (pFA aCf rfl) fun a hf=>zL hf hc bG m0 rfl fun a w hf hc=>zP hf rfl (pFA xY rfl) fun a hf=>zP hf rfl (pFA sU rfl) fun a hf=>zL hf hc bG m0 rfl fun a w hf hc=>zQ (v:=.bool (aE r.Weight.Lo 0 r.Weight.Hi)) hf hc nZ rfl (fun w hc=>cU r.Weight.Lo 0 r.Weight.Hi hc rfl) fun a w hf hc=>sp 1 hf rfl fun a hf=>aL ⟨hf.kp rfl,hc⟩
 intro a w ⟨hf,hc⟩
 refine sp 1 hf rfl fun a hf=>fV 5 (fun a=>Has 26 a [(1,pq B),(2,.bool false),(3,pq B),(4,i6 r.From),(5,.bool (bQ r.From)),(6,.bool (bQ r.From)),(10,.bool ((bQ r.From) && (aE r.Long 1 100000))),(11,.bool ((bQ r.From) && (aE r.Long 1 100000))),(19,.bool (((bQ r.From) && (aE r.Long 1 100000)) && (aE r.Weight.Lo 0 r.Weight.Hi))),(20,.bool (((bQ r.From) && (aE r.Long 1 100000)) && (aE r.Weight.Lo 0 r.Weight.Hi))),(25,.bool ((((bQ r.From) && (aE r.Long 1 100000)) && (aE r.Weight.Lo 0 r.Weight.Hi)) && (decide (r.Weight.Hi≤1000))))]) hc ?_ ?_
 ·cases hb:(((bQ r.From) && (aE r.Long 1 100000)) && (aE r.Weight.Lo 0 r.Weight.Hi))
  ·rw [hb] at hf
   refine stS hf rfl rfl rfl fun a hf=>stS hf rfl rfl rfl fun a hf=>stS hf rfl rfl rfl fun a hf=>stS hf rfl rfl rfl fun a hf=>sp 1 hf rfl fun a hf=>aL ⟨hf.kp rfl,hc⟩
  ·rw [hb] at hf
   refine zP hf rfl (pFA xY rfl) fun a hf=>zP hf rfl (pFA sU rfl) fun a hf=>zL hf hc bG m0 rfl fun a w hf hc=>sp 2 hf rfl fun a hf=>aL ⟨hf.kp rfl,hc⟩
 intro a w ⟨hf,hc⟩
 refine sp 1 hf rfl fun a hf=>zT h ?_
 refine wp_ret ?_
 obtain rfl:=hF
 replace hc:=hc.drop k0
 exact zO1 Tryz.results91 hf rfl ⟨rfl,hc⟩

def jZ (x:aI):Bool :=
 (!(nR (⟨x.From,x.Long,x.Weight⟩:aI)))
theorem tP {G:aQ} {Lf:List Ent} {w:World} (x:aI) {b_:Nat}  (hc:Ctx G (.box b_ [.func (.func 91) #[] #[]] 155::Lf) w) {B:Bool} (hF:jZ x=B):Calls Tryz.prog 159 #[.agg #[i6 x.From,i6 x.Long,i6 x.Weight.Lo,i6 x.Weight.Hi],pq b_] w (fun e w=>e=.returned (.bool B)∧Ctx G (.box b_ [.func (.func 91) #[] #[]] 155::Lf) w):=by
 unfold jZ at hF
 refine bN Tryz.func159 rfl Tryz.ntmps159 rfl fun a hf=>zS fun K h=>zB hf hc rfl fun D a w hf hc=>sp 1 hf rfl fun a hf=>zT h ?_
 refine zS fun K h=>zL hf hc aJi m1 rfl fun a w hf hc=>zN hf hc tF m0 rfl fun a w hf hc=>zQ (v:=.bool (nR (⟨x.From,x.Long,x.Weight⟩:aI))) hf hc en_91 rfl (fun w hc=>xE (⟨x.From,x.Long,x.Weight⟩:aI) hc rfl) fun a w hf hc=>sp 2 hf rfl fun a hf=>zT h ?_
 refine wp_ret ?_
 obtain rfl:=hF
 replace hc:=hc.drop k0
 exact zO1 Tryz.results159 hf rfl ⟨rfl,hc⟩

def iQ (N:Nat) (s_:List aI) (x:Int):Option (bK (Int) (Int)) :=
 cond (decide (x < ((s_.length:Nat):Int)))
 (Option.bind (aU s_ x) fun B=>
 cond (jZ B)
 (some (.ret x))
 (some (.cont (W (x + 1)))))
 (some (.brk x))
def fL (N:Nat) (s_:List aI):Option (Int) :=
 Option.bind (aS (fun s4=>iQ N s_ s4) N 0) fun x4=>
 exK x4 (fun s4=>some (-1)) some
theorem nM {N:Nat} {G:aQ} {Lf:List Ent} {w:World} (s_:List aI) {I:Option Addr} {H:Nat} {b_:Nat} (M:Rd G 4 I H (s_.map aJ)) (hc:Ctx G (.box b_ [.func (.func 91) #[] #[]] 155::Lf) w) {J:Int} (hF:fL N s_=some J):Calls Tryz.prog 185 #[.slice I s_.length H,.func (.func 159) #[] #[pq b_]] w (fun e w=>e=.returned (i6 J)∧Ctx G (.box b_ [.func (.func 91) #[] #[]] 155::Lf) w):=by
 unfold fL at hF
 refine bN Tryz.func185 rfl Tryz.ntmps185 rfl fun a hf=>zS fun K h=>sp 1 hf rfl fun a hf=>zT h ?_
 refine wp_seq_k fun K2 h2=>zS fun K h=>sp 1 hf rfl fun a hf=>zP hf rfl (aW Tryz.underlying52 rfl) fun a hf=>sp 1 hf rfl fun a hf=>zT h ?_
 refine wp_block ?_
 obtain ⟨x4,V,hF⟩:=aA hF
 let S4:Int→Act→World→Prop:=(fun (zz:Int) a w=>Has 19 a [(0,.slice I s_.length H),(1,.func (.func 159) #[] #[pq b_]),(7,i6 ((s_.length:Nat):Int)),(8,i6 zz)]∧Ctx G (.box b_ [.func (.func 91) #[] #[]] 155::Lf) w)
 have X:∀ (zz:Int) a w,x4=.go zz→S4 zz a w→K2 a w:=by
  rintro x a w rfl ⟨hf,hc⟩
  replace hF:=bH hF
  refine h2 _ _ ?_
  refine zS fun K h=>sp 1 hf rfl fun a hf=>zT h ?_
  refine wp_ret ?_
  obtain rfl:=sj hF
  exact zO1 Tryz.results185 hf rfl ⟨rfl,hc⟩
 have R:∀ r,x4=.out r→r=J:=by
  rintro r rfl
  exact sj hF
 refine bY N (bX (S:=S4) (x:=x4) ?_ N 0 _ _ ⟨hf.kp rfl,hc⟩ V)
 clear hF hf hc
 rintro x Z a w KB4 ⟨hf,hc⟩ hF B U
 unfold iQ at hF
 refine zS fun K h=>sp 1 hf rfl fun a hf=>zT h ?_
 refine wp_seq_k fun K7 h7=>zI hf rfl hF ?_ ?_ <;> clear hF <;> intro hF
 ·refine wp_skip ?_
  refine h7 _ _ ?_
  refine wp_seq_k fun K8 h8=>wp_block ?_
  refine zS fun K h=>sp 2 hf rfl fun a hf=>zT h ?_
  refine zS fun K h=>sp 3 hf rfl fun a hf=>?_
  obtain ⟨D,O,hF⟩:=aA hF
  obtain ⟨Y,o,qa,qp⟩:=M.atm O
  refine zP hf rfl (pIA Tryz.underlying52 uB rfl rfl qa) fun a hf=>zE hf hc rfl (kG (vs:=[i6 D.From,i6 D.Long,i6 D.Weight.Lo,i6 D.Weight.Hi]) tF rfl rfl (dF qp (n:=4) (o':=0) rfl)) fun a w hf hc=>zQ (v:=.bool (jZ D)) hf hc aJ8 rfl (fun w hc=>(tP D (hc.pick k0) rfl).mono fun e w h=>⟨h.1,(h.2.unpick k0)⟩) fun a w hf hc=>zT h ?_
  refine zI hf rfl hF ?_ ?_ <;> clear hF <;> intro hF
  ·refine zS fun K h=>sp 2 hf rfl fun a hf=>zT h ?_
   refine wp_ret ?_
   refine bB ?_
   refine aH ?_
   refine aH ?_
   have he:=sj hF
   rw [← he] at B
   replace hF:=R _ B
   refine bB ?_
   refine aH ?_
   obtain rfl:=hF
   exact zO1 Tryz.results185 hf rfl ⟨rfl,hc⟩
  ·refine wp_skip ?_
   refine h8 _ _ ?_
   refine bW ?_
   refine sp 2 hf rfl fun a hf=>aL ?_
   exact U (W (x + 1)) _ _ (sj hF).symm ⟨hf.kp rfl,hc⟩
 ·refine wp_exit ?_
  refine aN ?_
  refine aN ?_
  have he:=sj hF
  rw [← he] at B
  refine cT ?_
  exact X _ _ _ B ⟨hf.kp rfl,hc⟩

def eV (N:Nat) (s_:List aI):Option (Bool) :=
 Option.bind (fL N s_) fun r=>
 some (decide (0≤r))
theorem mQ {N:Nat} {G:aQ} {Lf:List Ent} {w:World} (s_:List aI) {B:Option Addr} {D:Nat} {b_:Nat} (I:Rd G 4 B D (s_.map aJ)) (hc:Ctx G (.box b_ [.func (.func 91) #[] #[]] 155::Lf) w) {H:Bool} (hF:eV N s_=some H):Calls Tryz.prog 158 #[.slice B s_.length D,.func (.func 159) #[] #[pq b_]] w (fun e w=>e=.returned (.bool H)∧Ctx G (.box b_ [.func (.func 91) #[] #[]] 155::Lf) w):=by
 unfold eV at hF
 refine bN Tryz.func158 rfl Tryz.ntmps158 rfl fun a hf=>zS fun K h=>sp 1 hf rfl fun a hf=>zT h ?_
 refine zS fun K h=>sp 2 hf rfl fun a hf=>?_
 obtain ⟨r,hr,hF⟩:=aA hF
 refine zQ (v:=i6 r) hf hc aJk rfl (fun w hc=>(nM s_ I (hc.pick k0) hr).mono fun e w h=>⟨h.1,(h.2.unpick k0)⟩) fun a w hf hc=>sp 2 hf rfl fun a hf=>zT h ?_
 refine wp_ret ?_
 obtain rfl:=sj hF
 exact zO1 Tryz.results158 hf rfl ⟨rfl,hc⟩

def nX (N:Nat) (l:List aI):Option (Bool) :=
 Option.bind (eV N l) fun r=>
 some (!r)
theorem uR {N:Nat} {G:aQ} {Lf:List Ent} {w:World} (l:List aI) {D:Option Addr} {B:Nat} (J:Rd G 4 D B (l.map aJ)) (hc:Ctx G (Lf) w) {H:Bool} (hF:nX N l=some H):Calls Tryz.prog 90 #[.slice D l.length B,.func (.func 91) #[] #[]] w (fun e w=>e=.returned (.bool H)∧Ctx G (Lf) w):=by
 unfold nX at hF
 refine bN Tryz.func90 rfl Tryz.ntmps90 rfl fun a hf=>zS fun K h=>zB hf hc rfl fun I a w hf hc=>sp 1 hf rfl fun a hf=>zT h ?_
 refine zS fun K h=>sp 1 hf rfl fun a hf=>zP hf rfl (pMF (us:=[pq I]) rfl rfl) fun a hf=>?_
 obtain ⟨r,hr,hF⟩:=aA hF
 refine zQ (v:=.bool r) hf hc aJa rfl (fun w hc=>(mQ l J (hc.pick k0) hr).mono fun e w h=>⟨h.1,(h.2.unpick k0)⟩) fun a w hf hc=>sp 2 hf rfl fun a hf=>zT h ?_
 refine wp_ret ?_
 obtain rfl:=sj hF
 replace hc:=hc.drop k0
 exact zO1 Tryz.results90 hf rfl ⟨rfl,hc⟩

def lA (N:Nat) (c_:aO):Option (Int) :=
 cond (decide (30 < ((c_.Rides.length:Nat):Int)))
 (some 3)
 (Option.bind (cond ((((!(aE c_.Car 0 1000)) || (!(aE c_.Wide 1 1000))) || (!(aE c_.Sag 1 10000))) || (!(aE c_.Most 0 10000000))) (some true) (Option.bind (nX N c_.Rides) fun r=>
 some (!r))) fun B=>
 cond B
 (some 120)
 (some 0))
theorem pC {N:Nat} {G:aQ} {Lf:List Ent} {w:World} (c_:aO) {B:Option Addr} {D:Nat} (I:Rd G 4 B D (c_.Rides.map aJ)) (hc:Ctx G (Lf) w) {M:Int} (hF:lA N c_=some M):Calls Tryz.prog 31 #[.agg #[i6 c_.Car,i6 c_.Wide,i6 c_.Sag,i6 c_.Most,.slice B c_.Rides.length D]] w (fun e w=>e=.returned (i6 M)∧Ctx G (Lf) w):=by
 unfold lA at hF
 refine bN Tryz.func31 rfl Tryz.ntmps31 rfl fun a hf=>zS fun K h=>zB hf hc rfl fun H a w hf hc=>sp 1 hf rfl fun a hf=>zT h ?_
 refine wp_seq_k fun K2 h2=>wp_block ?_
 refine zS fun K h=>zP hf rfl (pFA mV rfl) fun a hf=>zL hf hc vY m0 rfl fun a w hf hc=>zP hf rfl (aW Tryz.underlying52 rfl) fun a hf=>sp 2 hf rfl fun a hf=>zT h ?_
 refine zI hf rfl hF ?_ ?_ <;> clear hF <;> intro hF
 ·refine zS fun K h=>sp 1 hf rfl fun a hf=>zT h ?_
  refine wp_ret ?_
  refine bB ?_
  refine aH ?_
  obtain rfl:=sj hF
  replace hc:=hc.drop k0
  exact zO1 Tryz.results31 hf rfl ⟨rfl,hc⟩
 ·refine zS fun K h=>zP hf rfl (pFA aAm rfl) fun a hf=>zL hf hc bG m0 rfl fun a w hf hc=>zQ (v:=.bool (aE c_.Car 0 1000)) hf hc nZ rfl (fun w hc=>cU c_.Car 0 1000 hc rfl) fun a w hf hc=>sp 2 hf rfl fun a hf=>fV 5 (fun a=>Has 37 a [(1,pq H),(9,pq H),(10,i6 c_.Car),(11,.bool (aE c_.Car 0 1000)),(12,.bool (!(aE c_.Car 0 1000))),(13,.bool (!(aE c_.Car 0 1000))),(18,.bool ((!(aE c_.Car 0 1000)) || (!(aE c_.Wide 1 1000))))]) hc ?_ ?_
  ·cases hb:(!(aE c_.Car 0 1000))
   ·rw [hb] at hf
    refine zP hf rfl (pFA aHt rfl) fun a hf=>zL hf hc bG m0 rfl fun a w hf hc=>zQ (v:=.bool (aE c_.Wide 1 1000)) hf hc nZ rfl (fun w hc=>cU c_.Wide 1 1000 hc rfl) fun a w hf hc=>sp 2 hf rfl fun a hf=>aL ⟨hf.kp rfl,hc⟩
   ·rw [hb] at hf
    refine stS hf rfl rfl rfl fun a hf=>stS hf rfl rfl rfl fun a hf=>stS hf rfl rfl rfl fun a hf=>stS hf rfl rfl rfl fun a hf=>sp 1 hf rfl fun a hf=>aL ⟨hf.kp rfl,hc⟩
  intro a w ⟨hf,hc⟩
  refine sp 1 hf rfl fun a hf=>fV 5 (fun a=>Has 37 a [(1,pq H),(9,pq H),(10,i6 c_.Car),(11,.bool (aE c_.Car 0 1000)),(12,.bool (!(aE c_.Car 0 1000))),(13,.bool (!(aE c_.Car 0 1000))),(18,.bool ((!(aE c_.Car 0 1000)) || (!(aE c_.Wide 1 1000)))),(19,.bool ((!(aE c_.Car 0 1000)) || (!(aE c_.Wide 1 1000)))),(24,.bool (((!(aE c_.Car 0 1000)) || (!(aE c_.Wide 1 1000))) || (!(aE c_.Sag 1 10000))))]) hc ?_ ?_
  ·cases hb:((!(aE c_.Car 0 1000)) || (!(aE c_.Wide 1 1000)))
   ·rw [hb] at hf
    refine zP hf rfl (pFA aIm rfl) fun a hf=>zL hf hc bG m0 rfl fun a w hf hc=>zQ (v:=.bool (aE c_.Sag 1 10000)) hf hc nZ rfl (fun w hc=>cU c_.Sag 1 10000 hc rfl) fun a w hf hc=>sp 2 hf rfl fun a hf=>aL ⟨hf.kp rfl,hc⟩
   ·rw [hb] at hf
    refine stS hf rfl rfl rfl fun a hf=>stS hf rfl rfl rfl fun a hf=>stS hf rfl rfl rfl fun a hf=>stS hf rfl rfl rfl fun a hf=>sp 1 hf rfl fun a hf=>aL ⟨hf.kp rfl,hc⟩
  intro a w ⟨hf,hc⟩
  refine sp 1 hf rfl fun a hf=>fV 5 (fun a=>Has 37 a [(1,pq H),(9,pq H),(10,i6 c_.Car),(11,.bool (aE c_.Car 0 1000)),(12,.bool (!(aE c_.Car 0 1000))),(13,.bool (!(aE c_.Car 0 1000))),(18,.bool ((!(aE c_.Car 0 1000)) || (!(aE c_.Wide 1 1000)))),(19,.bool ((!(aE c_.Car 0 1000)) || (!(aE c_.Wide 1 1000)))),(24,.bool (((!(aE c_.Car 0 1000)) || (!(aE c_.Wide 1 1000))) || (!(aE c_.Sag 1 10000)))),(25,.bool (((!(aE c_.Car 0 1000)) || (!(aE c_.Wide 1 1000))) || (!(aE c_.Sag 1 10000)))),(30,.bool ((((!(aE c_.Car 0 1000)) || (!(aE c_.Wide 1 1000))) || (!(aE c_.Sag 1 10000))) || (!(aE c_.Most 0 10000000))))]) hc ?_ ?_
  ·cases hb:(((!(aE c_.Car 0 1000)) || (!(aE c_.Wide 1 1000))) || (!(aE c_.Sag 1 10000)))
   ·rw [hb] at hf
    refine zP hf rfl (pFA aIg rfl) fun a hf=>zL hf hc bG m0 rfl fun a w hf hc=>zQ (v:=.bool (aE c_.Most 0 10000000)) hf hc nZ rfl (fun w hc=>cU c_.Most 0 10000000 hc rfl) fun a w hf hc=>sp 2 hf rfl fun a hf=>aL ⟨hf.kp rfl,hc⟩
   ·rw [hb] at hf
    refine stS hf rfl rfl rfl fun a hf=>stS hf rfl rfl rfl fun a hf=>stS hf rfl rfl rfl fun a hf=>stS hf rfl rfl rfl fun a hf=>sp 1 hf rfl fun a hf=>aL ⟨hf.kp rfl,hc⟩
  intro a w ⟨hf,hc⟩
  refine sp 1 hf rfl fun a hf=>?_
  obtain ⟨O,J,hF⟩:=aA hF
  refine fV 5 (fun a=>Has 37 a [(1,pq H),(9,pq H),(10,i6 c_.Car),(11,.bool (aE c_.Car 0 1000)),(12,.bool (!(aE c_.Car 0 1000))),(13,.bool (!(aE c_.Car 0 1000))),(18,.bool ((!(aE c_.Car 0 1000)) || (!(aE c_.Wide 1 1000)))),(19,.bool ((!(aE c_.Car 0 1000)) || (!(aE c_.Wide 1 1000)))),(24,.bool (((!(aE c_.Car 0 1000)) || (!(aE c_.Wide 1 1000))) || (!(aE c_.Sag 1 10000)))),(25,.bool (((!(aE c_.Car 0 1000)) || (!(aE c_.Wide 1 1000))) || (!(aE c_.Sag 1 10000)))),(30,.bool ((((!(aE c_.Car 0 1000)) || (!(aE c_.Wide 1 1000))) || (!(aE c_.Sag 1 10000))) || (!(aE c_.Most 0 10000000)))),(31,.bool ((((!(aE c_.Car 0 1000)) || (!(aE c_.Wide 1 1000))) || (!(aE c_.Sag 1 10000))) || (!(aE c_.Most 0 10000000)))),(36,.bool O)]) hc ?_ ?_
  ·cases hb:((((!(aE c_.Car 0 1000)) || (!(aE c_.Wide 1 1000))) || (!(aE c_.Sag 1 10000))) || (!(aE c_.Most 0 10000000)))
   ·rw [hb] at hf
    have hF:=gN hb J
    refine zP hf rfl (pFA mV rfl) fun a hf=>zL hf hc vY m0 rfl fun a w hf hc=>?_
    obtain ⟨r,hr,hF⟩:=aA hF
    refine zQ (v:=.bool r) hf hc aM9 rfl (fun w hc=>uR c_.Rides I hc hr) fun a w hf hc=>sp 2 hf rfl fun a hf=>?_
    obtain rfl:=sj hF
    exact aL ⟨hf.kp rfl,hc⟩
   ·rw [hb] at hf
    have hF:=fU hb J
    obtain rfl:=sj hF
    refine stS hf rfl rfl rfl fun a hf=>stS hf rfl rfl rfl fun a hf=>stS hf rfl rfl rfl fun a hf=>stS hf rfl rfl rfl fun a hf=>sp 1 hf rfl fun a hf=>aL ⟨hf.kp rfl,hc⟩
  intro a w ⟨hf,hc⟩
  refine sp 1 hf rfl fun a hf=>zT h ?_
  refine zI hf rfl hF ?_ ?_ <;> clear hF <;> intro hF
  ·refine zS fun K h=>sp 1 hf rfl fun a hf=>zT h ?_
   refine wp_ret ?_
   refine bB ?_
   refine aH ?_
   obtain rfl:=sj hF
   replace hc:=hc.drop k0
   exact zO1 Tryz.results31 hf rfl ⟨rfl,hc⟩
  ·refine wp_skip ?_
   refine h2 _ _ ?_
   refine zS fun K h=>sp 1 hf rfl fun a hf=>zT h ?_
   refine wp_ret ?_
   obtain rfl:=sj hF
   replace hc:=hc.drop k0
   exact zO1 Tryz.results31 hf rfl ⟨rfl,hc⟩

def gL (r:aI) (n:Int):Bool :=
 ((decide (r.From≤n)) && (decide ((W (n - r.From)) < r.Long)))
theorem sE {G:aQ} {Lf:List Ent} {w:World} (r:aI) (n:Int)   (hc:Ctx G (Lf) w) {B:Bool} (hF:gL r n=B):Calls Tryz.prog 104 #[.agg #[i6 r.From,i6 r.Long,i6 r.Weight.Lo,i6 r.Weight.Hi],i6 n] w (fun e w=>e=.returned (.bool B)∧Ctx G (Lf) w):=by
 unfold gL at hF
 refine bN Tryz.func104 rfl Tryz.ntmps104 rfl fun a hf=>zS fun K h=>zB hf hc rfl fun D a w hf hc=>sp 1 hf rfl fun a hf=>zT h ?_
 refine zS fun K h=>sp 1 hf rfl fun a hf=>zP hf rfl (pFA rI rfl) fun a hf=>zL hf hc bG m0 rfl fun a w hf hc=>sp 2 hf rfl fun a hf=>fV 8 (fun a=>Has 18 a [(1,i6 n),(2,pq D),(4,.bool false),(5,i6 n),(6,pq D),(7,i6 r.From),(8,.bool (decide (r.From≤n))),(9,.bool (decide (r.From≤n))),(17,.bool ((decide (r.From≤n)) && (decide ((W (n - r.From)) < r.Long))))]) hc ?_ ?_
 ·cases hb:(decide (r.From≤n))
  ·rw [hb] at hf
   refine stS hf rfl rfl rfl fun a hf=>stS hf rfl rfl rfl fun a hf=>stS hf rfl rfl rfl fun a hf=>stS hf rfl rfl rfl fun a hf=>stS hf rfl rfl rfl fun a hf=>stS hf rfl rfl rfl fun a hf=>stS hf rfl rfl rfl fun a hf=>sp 1 hf rfl fun a hf=>aL ⟨hf.kp rfl,hc⟩
  ·rw [hb] at hf
   refine sp 1 hf rfl fun a hf=>zP hf rfl (pFA rI rfl) fun a hf=>zL hf hc bG m0 rfl fun a w hf hc=>sp 1 hf rfl fun a hf=>zP hf rfl (pFA aCd rfl) fun a hf=>zL hf hc bG m0 rfl fun a w hf hc=>sp 2 hf rfl fun a hf=>aL ⟨hf.kp rfl,hc⟩
 intro a w ⟨hf,hc⟩
 refine sp 1 hf rfl fun a hf=>zT h ?_
 refine wp_ret ?_
 obtain rfl:=hF
 replace hc:=hc.drop k0
 exact zO1 Tryz.results104 hf rfl ⟨rfl,hc⟩

def aBx (N:Nat) (l:List Int) (out:Int) (x:Int):Option (bK (Int × Int) (Int)) :=
 cond (decide (x < ((l.length:Nat):Int)))
 (Option.bind (aU l x) fun B=>
 some (.cont (W (out + B),W (x + 1))))
 (some (.brk (out,x)))
def zY (N:Nat) (l:List Int):Option (Int) :=
 Option.bind (aS (fun s5=>aBx N l s5.1 s5.2) N (0,0)) fun x5=>
 exK x5 (fun s5=>some s5.1) some
theorem aBt {N:Nat} {G:aQ} {Lf:List Ent} {w:World} (l:List Int) {I:Option Addr} {H:Nat} (U:Rd G 1 I H (l.map aD)) (hc:Ctx G (Lf) w) {D:Int} (hF:zY N l=some D):Calls Tryz.prog 160 #[.slice I l.length H] w (fun e w=>e=.returned (i6 D)∧Ctx G (Lf) w):=by
 unfold zY at hF
 refine bN Tryz.func160 rfl Tryz.ntmps160 rfl fun a hf=>zS fun K h=>sp 1 hf rfl fun a hf=>zT h ?_
 refine zS fun K h=>sp 1 hf rfl fun a hf=>zT h ?_
 refine wp_seq_k fun K3 h3=>zS fun K h=>sp 1 hf rfl fun a hf=>zP hf rfl (aW Tryz.underlying25 rfl) fun a hf=>sp 1 hf rfl fun a hf=>zT h ?_
 refine wp_block ?_
 obtain ⟨x5,O,hF⟩:=aA hF
 let S5:(Int × Int)→Act→World→Prop:=(fun (zz:Int × Int) a w=>Has 17 a [(3,i6 zz.1),(6,.slice I l.length H),(7,i6 ((l.length:Nat):Int)),(8,i6 zz.2)]∧Ctx G (Lf) w)
 have V:∀ (zz:Int × Int) a w,x5=.go zz→S5 zz a w→K3 a w:=by
  rintro ⟨out,x⟩ a w rfl ⟨hf,hc⟩
  replace hF:=bH hF
  refine h3 _ _ ?_
  refine zS fun K h=>sp 2 hf rfl fun a hf=>zT h ?_
  refine wp_ret ?_
  obtain rfl:=sj hF
  exact zO1 Tryz.results160 hf rfl ⟨rfl,hc⟩
 have Z:∀ r,x5=.out r→r=D:=by
  rintro r rfl
  exact sj hF
 refine bY N (bX (S:=S5) (x:=x5) ?_ N (0,0) _ _ ⟨hf.kp rfl,hc⟩ O)
 clear hF hf hc
 rintro ⟨out,x⟩ Y a w KB5 ⟨hf,hc⟩ hF B R
 unfold aBx at hF
 refine zS fun K h=>sp 1 hf rfl fun a hf=>zT h ?_
 refine wp_seq_k fun K8 h8=>zI hf rfl hF ?_ ?_ <;> clear hF <;> intro hF
 ·refine wp_skip ?_
  refine h8 _ _ ?_
  refine wp_seq_k fun K9 h9=>wp_block ?_
  refine zS fun K h=>?_
  obtain ⟨M,J,hF⟩:=aA hF
  obtain ⟨X,o,qa,qp⟩:=U.atm J
  refine zP hf rfl (pIA Tryz.underlying25 eH rfl rfl qa) fun a hf=>zE hf hc rfl (bF bG rfl (aR (j:=0) qp rfl)) fun a w hf hc=>sp 1 hf rfl fun a hf=>zT h ?_
  refine bW ?_
  refine sp 4 hf rfl fun a hf=>aL ?_
  refine h9 _ _ ?_
  refine bW ?_
  refine sp 2 hf rfl fun a hf=>aL ?_
  exact R (W (out + M),W (x + 1)) _ _ (sj hF).symm ⟨hf.kp rfl,hc⟩
 ·refine wp_exit ?_
  refine aN ?_
  refine aN ?_
  have he:=sj hF
  rw [← he] at B
  refine cT ?_
  exact V _ _ _ B ⟨hf.kp rfl,hc⟩

def nC (N:Nat) (x:Int) (B:List Int):Option (bK ((List Int) × Int) (Int)) :=
 some (.cont (B,W (x + 1)))
def tM (N:Nat) (c_:aO) (n:Int) (l:List Int) (x:Int):Option (bK ((List Int) × Int) (Int)) :=
 cond (decide (x < ((c_.Rides.length:Nat):Int)))
 (Option.bind (aU c_.Rides x) fun B=>
 cond (gL B n)
 (Option.bind (room ((l++[(dE B.Weight)])).length) fun un=>
 nC N x (l++[(dE B.Weight)]))
 (nC N x l))
 (some (.brk (l,x)))
def oV (N:Nat) (c_:aO) (n:Int):Option (Int) :=
 Option.bind (aS (fun s5=>tM N c_ n s5.1 s5.2) N (([c_.Car]:List Int),0)) fun x5=>
 exK x5 (fun s5=>Option.bind (zY N s5.1) fun r=>
 some r) some
theorem tD {N:Nat} {G:aQ} {Lf:List Ent} {w:World} (c_:aO) (n:Int) {B:Option Addr} {D:Nat} (M:Rd G 4 B D (c_.Rides.map aJ)) (hc:Ctx G (Lf) w) {Y:Int} (hF:oV N c_ n=some Y):Calls Tryz.prog 93 #[.agg #[i6 c_.Car,i6 c_.Wide,i6 c_.Sag,i6 c_.Most,.slice B c_.Rides.length D],i6 n,.agg #[.func (.func 155) #[] #[]]] w (fun e w=>e=.returned (i6 Y)∧Ctx G (Lf) w):=by
 unfold oV at hF
 refine bN Tryz.func93 rfl Tryz.ntmps93 rfl fun a hf=>zS fun K h=>zB hf hc rfl fun aa a w hf hc=>zB hf hc rfl fun U a w hf hc=>sp 1 hf rfl fun a hf=>zT h ?_
 refine zS fun K h=>zP hf rfl (pFA aAm rfl) fun a hf=>zL hf hc bG m1 rfl fun a w hf hc=>nU (rows:=([c_.Car]:List Int).map aD) (vs:=[(0,i6 c_.Car)]) hf hc rfl rfl jO rfl ⟨rfl,rfl,rfl,trivial⟩ rfl rfl fun k a w hf hc=>sp 1 hf rfl fun a hf=>zT h ?_
 refine wp_seq_k fun K3 h3=>zS fun K h=>zP hf rfl (pFA mV rfl) fun a hf=>zL hf hc vY m2 rfl fun a w hf hc=>zP hf rfl (aW Tryz.underlying52 rfl) fun a hf=>sp 1 hf rfl fun a hf=>zT h ?_
 refine wp_block ?_
 obtain ⟨x5,j,hF⟩:=aA hF
 let S5:((List Int) × Int)→Act→World→Prop:=(fun (zz:(List Int) × Int) a w=>∃ (J:Option Addr) (I:Nat),Has 34 a [(1,i6 n),(5,pq U),(7,.slice J zz.1.length I),(14,.slice B c_.Rides.length D),(15,i6 ((c_.Rides.length:Nat):Int)),(16,i6 zz.2)]∧Ctx G (.row J I (zz.1.map aD) 3 1::.box U [.func (.func 155) #[] #[]] 147::Lf) w)
 have s:∀ (zz:(List Int) × Int) a w,x5=.go zz→S5 zz a w→K3 a w:=by
  rintro ⟨l,x⟩ a w rfl ⟨J,I,hf,hc⟩
  replace hF:=bH hF
  refine h3 _ _ ?_
  refine zS fun K h=>sp 1 hf rfl fun a hf=>?_
  obtain ⟨r,hr,hF⟩:=aA hF
  refine zQ (v:=i6 r) hf hc aLe rfl (fun w hc=>by obtain ⟨G1,u,b,hc,g⟩:=lend hc k0; exact (aBt l b hc hr).mono fun e w h=>⟨h.1,((g _ _ h.2).unpick k0)⟩) fun a w hf hc=>sp 1 hf rfl fun a hf=>zT h ?_
  refine wp_ret ?_
  obtain rfl:=sj hF
  replace hc:=(hc.drop k1).drop k0
  exact zO1 Tryz.results93 hf rfl ⟨rfl,hc⟩
 have ac:∀ r,x5=.out r→r=Y:=by
  rintro r rfl
  exact sj hF
 replace hc:=hc.drop k2
 refine bY N (bX (S:=S5) (x:=x5) ?_ N (([c_.Car]:List Int),0) _ _ ⟨(some ⟨k,0,none⟩),1,hf.kp rfl,hc⟩ j)
 clear hF hf hc
 rintro ⟨l,x⟩ p a w KB5 ⟨J,I,hf,hc⟩ hF R m
 unfold tM at hF
 refine zS fun K h=>sp 1 hf rfl fun a hf=>zT h ?_
 refine wp_seq_k fun K8 h8=>zI hf rfl hF ?_ ?_ <;> clear hF <;> intro hF
 ·refine wp_skip ?_
  refine h8 _ _ ?_
  refine wp_seq_k fun K9 h9=>?_
  have Z:∀ (O:List Int) (X:Option Addr) (V:Nat) a w,Has 34 a [(1,i6 n),(5,pq U),(7,.slice X O.length V),(14,.slice B c_.Rides.length D),(15,i6 ((c_.Rides.length:Nat):Int)),(16,i6 x)]→Ctx G (.row X V (O.map aD) 3 1::.box U [.func (.func 155) #[] #[]] 147::Lf) w→nC N x O=some p→K9 a w:=by
   repeat (clear hF)
   repeat (clear hc)
   repeat (clear hf)
   intro O X V a w hf hc hF
   unfold nC at hF
   refine h9 _ _ ?_
   refine bW ?_
   refine sp 2 hf rfl fun a hf=>aL ?_
   exact m (O,W (x + 1)) _ _ (sj hF).symm ⟨X,V,hf.kp rfl,hc⟩
  refine wp_block ?_
  refine zS fun K h=>?_
  obtain ⟨H,d,hF⟩:=aA hF
  obtain ⟨y,o,qa,qp⟩:=M.atm d
  refine zP hf rfl (pIA Tryz.underlying52 uB rfl rfl qa) fun a hf=>zE hf hc rfl (kG (vs:=[i6 H.From,i6 H.Long,i6 H.Weight.Lo,i6 H.Weight.Hi]) tF rfl rfl (dF qp (n:=4) (o':=0) rfl)) fun a w hf hc=>zA hf hc aFt rfl fun ab a w hf hc=>zW hf hc uB u0 rfl fun w hc=>zT h ?_
  refine zS fun K h=>zN hf hc tF m0 rfl fun a w hf hc=>sp 1 hf rfl fun a hf=>zQ (v:=.bool (gL H n)) hf hc aGm rfl (fun w hc=>sE H n hc rfl) fun a w hf hc=>zT h ?_
  refine zI hf rfl hF ?_ ?_ <;> clear hF <;> intro hF
  ·refine bW ?_
   refine sp 1 hf rfl fun a hf=>zP hf rfl (pFA vA rfl) fun a hf=>zL hf hc aBb m2 rfl fun a w hf hc=>zP hf rfl (pFA xY rfl) fun a hf=>zN hf hc tK m0 rfl fun a w hf hc=>zQ (v:=i6 (dE H.Weight)) hf hc aGo rfl (fun w hc=>uJ H.Weight hc rfl) fun a w hf hc=>nU (rows:=([(dE H.Weight)]:List Int).map aD) (vs:=[(0,i6 (dE H.Weight))]) hf hc rfl rfl jO rfl ⟨rfl,rfl,rfl,trivial⟩ rfl rfl fun z a w hf hc=>?_
   obtain ⟨un,q,hF⟩:=aA hF
   refine pG (xs:=l) (ys:=([(dE H.Weight)]:List Int)) hf hc rfl rfl jO rfl rfl rfl rfl rfl bP (lL hc m0) (fun _ _=>u2) (by simpa using fA q) fun t i a w hf hc=>sp 1 hf rfl fun a hf=>aL ?_
   replace hc:=(hc.drop k1).drop k0
   exact Z (l++[(dE H.Weight)]) t i _ _  (hf.kp rfl) hc hF
  ·refine wp_skip ?_
   replace hc:=hc.drop k0
   exact Z l J I _ _  (hf.kp rfl) hc hF
 ·refine wp_exit ?_
  refine aN ?_
  refine aN ?_
  have he:=sj hF
  rw [← he] at R
  refine cT ?_
  exact s _ _ _ R ⟨J,I,hf.kp rfl,hc⟩

end Go.Nilo
