/-
 What functions of the Go text compute, as plain functions, and that they do, part 3 of 4. Conditions: what each theorem names.
-/
import Derived.Test.YtpfmkhhhamdpeaaGreatRu2
import Derived.Test.YtpfmkhhhamdpeaaGreatProg
set_option linter.unusedVariables false
set_option linter.unusedSimpArgs false
set_option maxRecDepth 100000
set_option maxHeartbeats 4000000
namespace Go.Nilo
open Go.Proofs


def kR (N:Nat) (x:Int) (B:List Int):Option (bK ((List Int) × Int) (Int)) :=
 some (.cont (B,W (x + 1)))
def qT (N:Nat) (c_:aO) (n:Int) (l:List Int) (x:Int):Option (bK ((List Int) × Int) (Int)) :=
 cond (decide (x < ((c_.Rides.length:Nat):Int)))
 (Option.bind (aU c_.Rides x) fun B=>
 cond (gL B n)
 (Option.bind (room ((l++[(cS B.Weight)])).length) fun un=>
 kR N x (l++[(cS B.Weight)]))
 (kR N x l))
 (some (.brk (l,x)))
def kP (N:Nat) (c_:aO) (n:Int):Option (Int) :=
 Option.bind (aS (fun s5=>qT N c_ n s5.1 s5.2) N (([c_.Car]:List Int),0)) fun x5=>
 exK x5 (fun s5=>Option.bind (zY N s5.1) fun r=>
 some r) some
theorem nL {N:Nat} {G:aQ} {Lf:List Ent} {w:World} (c_:aO) (n:Int) {B:Option Addr} {D:Nat} (M:Rd G 4 B D (c_.Rides.map aJ)) (hc:Ctx G (Lf) w) {Y:Int} (hF:kP N c_ n=some Y):Calls Tryz.prog 93 #[.agg #[i6 c_.Car,i6 c_.Wide,i6 c_.Sag,i6 c_.Most,.slice B c_.Rides.length D],i6 n,.agg #[.func (.func 156) #[] #[]]] w (fun e w=>e=.returned (i6 Y)∧Ctx G (Lf) w):=by
 unfold kP at hF
 refine bN Tryz.func93 rfl Tryz.ntmps93 rfl fun a hf=>zS fun K h=>zB hf hc rfl fun aa a w hf hc=>zB hf hc rfl fun U a w hf hc=>sp 1 hf rfl fun a hf=>zT h ?_
 refine zS fun K h=>zP hf rfl (pFA aAm rfl) fun a hf=>zL hf hc bG m1 rfl fun a w hf hc=>nU (rows:=([c_.Car]:List Int).map aD) (vs:=[(0,i6 c_.Car)]) hf hc rfl rfl jO rfl ⟨rfl,rfl,rfl,trivial⟩ rfl rfl fun k a w hf hc=>sp 1 hf rfl fun a hf=>zT h ?_
 refine wp_seq_k fun K3 h3=>zS fun K h=>zP hf rfl (pFA mV rfl) fun a hf=>zL hf hc vY m2 rfl fun a w hf hc=>zP hf rfl (aW Tryz.underlying52 rfl) fun a hf=>sp 1 hf rfl fun a hf=>zT h ?_
 refine wp_block ?_
 obtain ⟨x5,j,hF⟩:=aA hF
 let S5:((List Int) × Int)→Act→World→Prop:=(fun (zz:(List Int) × Int) a w=>∃ (J:Option Addr) (I:Nat),Has 34 a [(1,i6 n),(5,pq U),(7,.slice J zz.1.length I),(14,.slice B c_.Rides.length D),(15,i6 ((c_.Rides.length:Nat):Int)),(16,i6 zz.2)]∧Ctx G (.row J I (zz.1.map aD) 3 1::.box U [.func (.func 156) #[] #[]] 147::Lf) w)
 have s:∀ (zz:(List Int) × Int) a w,x5=.go zz→S5 zz a w→K3 a w:=by
  rintro ⟨l,x⟩ a w rfl ⟨J,I,hf,hc⟩
  replace hF:=bH hF
  refine h3 _ _ ?_
  refine zS fun K h=>sp 1 hf rfl fun a hf=>?_
  obtain ⟨r,hr,hF⟩:=aA hF
  refine zQ (v:=i6 r) hf hc aLe rfl (fun w hc=>by obtain ⟨G1,u,b,hc,g⟩:=lend hc k0; exact (aBt l b hc hr).mono fun e w h=>⟨h.1,((g _ _ h.2).unpick k0)⟩) fun a w hf hc=>sp 1 hf rfl fun a hf=>zT h ?_
  refine wp_ret ?_
  obtain rfl:=sj hF
  replace hc:=(hc.drop k1).drop k0
  exact zO1 Tryz.results93 hf rfl ⟨rfl,hc⟩
 have ac:∀ r,x5=.out r→r=Y:=by
  rintro r rfl
  exact sj hF
 replace hc:=hc.drop k2
 refine bY N (bX (S:=S5) (x:=x5) ?_ N (([c_.Car]:List Int),0) _ _ ⟨(some ⟨k,0,none⟩),1,hf.kp rfl,hc⟩ j)
 clear hF hf hc
 rintro ⟨l,x⟩ p a w KB5 ⟨J,I,hf,hc⟩ hF R m
 unfold qT at hF
 refine zS fun K h=>sp 1 hf rfl fun a hf=>zT h ?_
 refine wp_seq_k fun K8 h8=>zI hf rfl hF ?_ ?_ <;> clear hF <;> intro hF
 ·refine wp_skip ?_
  refine h8 _ _ ?_
  refine wp_seq_k fun K9 h9=>?_
  have Z:∀ (O:List Int) (X:Option Addr) (V:Nat) a w,Has 34 a [(1,i6 n),(5,pq U),(7,.slice X O.length V),(14,.slice B c_.Rides.length D),(15,i6 ((c_.Rides.length:Nat):Int)),(16,i6 x)]→Ctx G (.row X V (O.map aD) 3 1::.box U [.func (.func 156) #[] #[]] 147::Lf) w→kR N x O=some p→K9 a w:=by
   repeat (clear hF)
   repeat (clear hc)
   repeat (clear hf)
   intro O X V a w hf hc hF
   unfold kR at hF
   refine h9 _ _ ?_
   refine bW ?_
   refine sp 2 hf rfl fun a hf=>aL ?_
   exact m (O,W (x + 1)) _ _ (sj hF).symm ⟨X,V,hf.kp rfl,hc⟩
  refine wp_block ?_
  refine zS fun K h=>?_
  obtain ⟨H,d,hF⟩:=aA hF
  obtain ⟨y,o,qa,qp⟩:=M.atm d
  refine zP hf rfl (pIA Tryz.underlying52 uB rfl rfl qa) fun a hf=>zE hf hc rfl (kG (vs:=[i6 H.From,i6 H.Long,i6 H.Weight.Lo,i6 H.Weight.Hi]) tF rfl rfl (dF qp (n:=4) (o':=0) rfl)) fun a w hf hc=>zA hf hc aFt rfl fun ab a w hf hc=>zW hf hc uB u0 rfl fun w hc=>zT h ?_
  refine zS fun K h=>zN hf hc tF m0 rfl fun a w hf hc=>sp 1 hf rfl fun a hf=>zQ (v:=.bool (gL H n)) hf hc aGm rfl (fun w hc=>sE H n hc rfl) fun a w hf hc=>zT h ?_
  refine zI hf rfl hF ?_ ?_ <;> clear hF <;> intro hF
  ·refine bW ?_
   refine sp 1 hf rfl fun a hf=>zP hf rfl (pFA vA rfl) fun a hf=>zL hf hc aBb m2 rfl fun a w hf hc=>zP hf rfl (pFA xY rfl) fun a hf=>zN hf hc tK m0 rfl fun a w hf hc=>zQ (v:=i6 (cS H.Weight)) hf hc aGy rfl (fun w hc=>tA H.Weight hc rfl) fun a w hf hc=>nU (rows:=([(cS H.Weight)]:List Int).map aD) (vs:=[(0,i6 (cS H.Weight))]) hf hc rfl rfl jO rfl ⟨rfl,rfl,rfl,trivial⟩ rfl rfl fun z a w hf hc=>?_
   obtain ⟨un,q,hF⟩:=aA hF
   refine pG (xs:=l) (ys:=([(cS H.Weight)]:List Int)) hf hc rfl rfl jO rfl rfl rfl rfl rfl bP (lL hc m0) (fun _ _=>u2) (by simpa using fA q) fun t i a w hf hc=>sp 1 hf rfl fun a hf=>aL ?_
   replace hc:=(hc.drop k1).drop k0
   exact Z (l++[(cS H.Weight)]) t i _ _  (hf.kp rfl) hc hF
  ·refine wp_skip ?_
   replace hc:=hc.drop k0
   exact Z l J I _ _  (hf.kp rfl) hc hF
 ·refine wp_exit ?_
  refine aN ?_
  refine aN ?_
  have he:=sj hF
  rw [← he] at R
  refine cT ?_
  exact s _ _ _ R ⟨J,I,hf.kp rfl,hc⟩

def aAx (N:Nat) (c_:aO) (n:Int):Option (aX × Int) :=
 Option.bind (lA N c_) fun r=>
 cond (r != 0)
 (some ((⟨0,0⟩:aX),r))
 (cond (!(aE n 0 200000))
 (some ((⟨0,0⟩:aX),4))
 (Option.bind (oV N c_ n) fun D=>
 Option.bind (kP N c_ n) fun B=>
 some ((⟨D,B⟩:aX),0)))
theorem aE2 {N:Nat} {G:aQ} {Lf:List Ent} {w:World} (c_:aO) (n:Int) {B:Option Addr} {D:Nat} (H:Rd G 4 B D (c_.Rides.map aJ)) (hc:Ctx G (Lf) w) {O:aX × Int} (hF:aAx N c_ n=some O):Calls Tryz.prog 34 #[.agg #[i6 c_.Car,i6 c_.Wide,i6 c_.Sag,i6 c_.Most,.slice B c_.Rides.length D],i6 n] w (fun e w=>e=.returned (.tuple #[.agg #[i6 O.1.Lo,i6 O.1.Hi],i6 O.2])∧Ctx G (Lf) w):=by
 unfold aAx at hF
 refine bN Tryz.func34 rfl Tryz.ntmps34 rfl fun a hf=>zS fun K h=>zB hf hc rfl fun S a w hf hc=>zA hf hc aKo rfl fun M a w hf hc=>sp 1 hf rfl fun a hf=>zT h ?_
 refine zS fun K h=>zN hf hc pF m1 rfl fun a w hf hc=>?_
 obtain ⟨r,hr,hF⟩:=aA hF
 refine zQ (v:=i6 r) hf hc aLk rfl (fun w hc=>pC c_ H hc hr) fun a w hf hc=>sp 1 hf rfl fun a hf=>zT h ?_
 refine wp_seq_k fun K3 h3=>wp_block ?_
 refine zS fun K h=>sp 3 hf rfl fun a hf=>zT h ?_
 refine zI hf rfl hF ?_ ?_ <;> clear hF <;> intro hF
 ·refine zS fun K h=>zP hf rfl (cK (cells:=[i6 0,i6 0]) aDm rfl rfl) fun a hf=>sp 1 hf rfl fun a hf=>zW hf hc aAi u0 rfl fun w hc=>sp 1 hf rfl fun a hf=>zT h ?_
  refine wp_ret ?_
  refine bB ?_
  refine aH ?_
  obtain rfl:=sj hF
  replace hc:=hc.drop k1
  exact vN (by simp) rfl Tryz.results34 hf hc (eG (vs:=[i6 0,i6 0]) tK rfl rfl (bM (n:=2) m0 rfl)) (show iX _ 5=_ from rfl) ⟨rfl,(hc.drop k0)⟩
 ·refine zS fun K h=>sp 1 hf rfl fun a hf=>zQ (v:=.bool (aE n 0 200000)) hf hc nZ rfl (fun w hc=>cU n 0 200000 hc rfl) fun a w hf hc=>sp 2 hf rfl fun a hf=>zT h ?_
  refine zI hf rfl hF ?_ ?_ <;> clear hF <;> intro hF
  ·refine zS fun K h=>zP hf rfl (cK (cells:=[i6 0,i6 0]) aDm rfl rfl) fun a hf=>zW hf hc aAi u0 rfl fun w hc=>sp 1 hf rfl fun a hf=>zT h ?_
   refine wp_ret ?_
   refine bB ?_
   refine aH ?_
   obtain rfl:=sj hF
   replace hc:=hc.drop k1
   exact vN (by simp) rfl Tryz.results34 hf hc (eG (vs:=[i6 0,i6 0]) tK rfl rfl (bM (n:=2) m0 rfl)) (show iX _ 5=_ from rfl) ⟨rfl,(hc.drop k0)⟩
  ·refine wp_skip ?_
   refine h3 _ _ ?_
   refine wp_seq_k fun K8 h8=>?_
   obtain ⟨I,U,hF⟩:=aA hF
   obtain ⟨J,V,hF⟩:=aA hF
   refine mB (fun θ=>[⟨none,none,1,i6 n⟩,⟨none,none,2,pq S⟩,⟨none,none,4,pq M⟩,⟨none,some 10,5,i6 0⟩,⟨some 0,none,19,.agg #[i6 c_.Car,i6 c_.Wide,i6 c_.Sag,i6 c_.Most,.slice B c_.Rides.length D]⟩,⟨some 1,none,20,i6 n⟩,⟨some 2,none,21,.agg #[.func (.func 155) #[] #[]]⟩,⟨some 3,none,22,i6 I⟩,⟨some 4,none,23,.agg #[i6 c_.Car,i6 c_.Wide,i6 c_.Sag,i6 c_.Most,.slice B c_.Rides.length D]⟩,⟨some 5,none,24,i6 n⟩,⟨some 6,none,25,.agg #[.func (.func 156) #[] #[]]⟩,⟨some 7,none,26,i6 J⟩,⟨some 8,none,27,.agg #[i6 I,i6 J]⟩,⟨some 10,none,5,i6 0⟩]) (fun E θ=>(bif E 9 then .box M [i6 I,i6 J] 29 else .box M [i6 0,i6 0] 29)::.box S [i6 c_.Car,i6 c_.Wide,i6 c_.Sag,i6 c_.Most,.slice B c_.Rides.length D] 54::Lf) [] (fun a w=>Has 28 a [(4,pq M),(5,i6 0)]∧Ctx G (.box M [i6 I,i6 J] 29::.box S [i6 c_.Car,i6 c_.Wide,i6 c_.Sag,i6 c_.Most,.slice B c_.Rides.length D] 54::Lf) w) aT (by kernel_rfl) (by kernel_rfl) (iT.of hf ⟨rfl,rfl,rfl,rfl,trivial,trivial,trivial,trivial,trivial,trivial,trivial,trivial,trivial,trivial,trivial⟩) hc ⟨?_,?_,?_,?_,?_,?_,?_,?_,?_,?_,?_,trivial⟩ ?_ ?_
   ·intro E θ a w hD hi hp he hc
    have hf:=he.h0.mT he 1 rfl
    refine zN hf hc pF m1 rfl fun a w hf hc=>zD θ he hi hf 4 rfl rfl rfl hc
   ·intro E θ a w hD hi hp he hc
    have hf:=he.h0.mT he 0 rfl
    refine sp 1 hf rfl fun a hf=>zD θ he hi hf 5 rfl rfl rfl hc
   ·intro E θ a w hD hi hp he hc
    have hf:=he.h0
    refine zQ (v:=.agg #[.func (.func 155) #[] #[]]) hf hc aK2 rfl (fun w hc=>xL hc rfl) fun a w hf hc=>zD θ he hi hf 6 rfl rfl rfl hc
   ·intro E θ a w hD hi hp he hc
    have e0:=hp.o 0 rfl
    have e1:=hp.o 1 rfl
    have e2:=hp.o 2 rfl
    have hf:=((he.h0.mP he 4 rfl e0).mP he 5 rfl e1).mP he 6 rfl e2
    refine zQ (v:=i6 I) hf hc aGf rfl (fun w hc=>tD c_ n H hc U) fun a w hf hc=>zD θ he hi hf 7 rfl rfl rfl hc
   ·intro E θ a w hD hi hp he hc
    have hf:=he.h0.mT he 1 rfl
    refine zN hf hc pF m1 rfl fun a w hf hc=>zD θ he hi hf 8 rfl rfl rfl hc
   ·intro E θ a w hD hi hp he hc
    have hf:=he.h0.mT he 0 rfl
    refine sp 1 hf rfl fun a hf=>zD θ he hi hf 9 rfl rfl rfl hc
   ·intro E θ a w hD hi hp he hc
    have hf:=he.h0
    refine zQ (v:=.agg #[.func (.func 156) #[] #[]]) hf hc aHv rfl (fun w hc=>sO hc rfl) fun a w hf hc=>zD θ he hi hf 10 rfl rfl rfl hc
   ·intro E θ a w hD hi hp he hc
    have e4:=hp.o 4 rfl
    have e5:=hp.o 5 rfl
    have e6:=hp.o 6 rfl
    have hf:=((he.h0.mP he 8 rfl e4).mP he 9 rfl e5).mP he 10 rfl e6
    refine zQ (v:=i6 J) hf hc aGf rfl (fun w hc=>nL c_ n H hc V) fun a w hf hc=>zD θ he hi hf 11 rfl rfl rfl hc
   ·intro E θ a w hD hi hp he hc
    have e3:=hp.o 3 rfl
    have e7:=hp.o 7 rfl
    have hf:=(he.h0.mP he 7 rfl e3).mP he 11 rfl e7
    refine zP hf rfl (cK (cells:=[i6 I,i6 J]) aDm rfl rfl) fun a hf=>zD θ he hi hf 12 rfl rfl rfl hc
   ·intro E θ a w hD hi hp he hc
    have e8:=hp.o 8 rfl
    try dsimp only at hc
    rw [hi] at hc
    have hf:=(he.h0.mT he 2 rfl).mP he 12 rfl e8
    refine zW hf hc aAi u0 rfl fun w hc=>zG θ he hi hf rfl ?_
    try dsimp only
    rw [bV E 9]
    exact hc
   ·intro E θ a w hD hi hp he hc
    have hf:=he.h0
    refine sp 1 hf rfl fun a hf=>zD θ he hi hf 13 rfl rfl rfl hc
   ·intro E θ a w R he hc
    have hf:=he.h0
    have e9:=R 9 rfl
    have X:=R 10 rfl
    replace hf:=hf.more he 13 rfl (onP X)
    replace hf:=hf.more he 2 rfl (onT)
    try dsimp only at hc
    rw [e9] at hc
    exact ⟨hf.kp rfl,hc⟩
   rintro a w ⟨hf,hc⟩
   refine h8 _ _ ?_
   refine wp_ret ?_
   obtain rfl:=sj hF
   replace hc:=hc.drop k1
   exact vN (by simp) rfl Tryz.results34 hf hc (eG (vs:=[i6 I,i6 J]) tK rfl rfl (bM (n:=2) m0 rfl)) (show iX _ 5=_ from rfl) ⟨rfl,(hc.drop k0)⟩

def kS (N:Nat) (s_:List Int):Option ((List Int)) :=
 Option.bind (room (s_).length) fun un=>
 some s_
theorem uD {N:Nat} {G:aQ} {Lf:List Ent} {w:World} (s_:List Int) {D:Option Addr} {H:Nat} (I:Rd G 1 D H (s_.map aD)) (hc:Ctx G (Lf) w) {B:(List Int)} (hF:kS N s_=some B):Calls Tryz.prog 150 #[.slice D s_.length H] w (fun e w=>∃ (J:Option Addr) (M:Nat),e=.returned (.slice J B.length M)∧Ctx G (.row J M (B.map aD) 3 1::Lf) w):=by
 unfold kS at hF
 refine bN Tryz.func150 rfl Tryz.ntmps150 rfl fun a hf=>zS fun K h=>sp 1 hf rfl fun a hf=>zT h ?_
 refine wp_seq_k fun K2 h2=>zS fun K h=>sp 1 hf rfl fun a hf=>zP hf rfl (pEqN Tryz.underlying25 rfl rfl) fun a hf=>zT h ?_
 rcases aH5 I with ⟨hp,hx⟩ | hp
 ·rw [hp] at hf
  replace hF:(some ([]:List Int))=some B:=by
   try rw [hx] at hF
   exact hF
  refine aGt hf rfl ?_
  refine zS fun K h=>sp 1 hf rfl fun a hf=>zT h ?_
  refine wp_ret ?_
  refine aH ?_
  obtain rfl:=sj hF
  replace hc:=hc.nilRow 3 1
  exact zO1 Tryz.results150 hf rfl ⟨none,0,rfl,hc⟩
 ·rw [hp] at hf
  refine aGq hf rfl ?_
  refine wp_skip ?_
  refine h2 _ _ ?_
  refine zS fun K h=>nU (rows:=([]:List Int).map aD) (vs:=[]) hf hc rfl rfl jO rfl trivial rfl rfl fun U a w hf hc=>sp 1 hf rfl fun a hf=>?_
  obtain ⟨un,O,hF⟩:=aA hF
  refine pG (xs:=([]:List Int)) (ys:=s_) hf hc rfl rfl jO rfl rfl rfl rfl rfl bP (aCt hc I) (fun _ _=>u0) (by simpa using fA O) fun S R a w hf hc=>sp 1 hf rfl fun a hf=>zT h ?_
  refine wp_ret ?_
  obtain rfl:=sj hF
  exact zO1 Tryz.results150 hf rfl ⟨S,R,rfl,hc⟩

def lE (N:Nat) (x:List Int):Option ((List Int)) :=
 aFp x
/-! ### Walks of the library -/

theorem uS {N:Nat} {G:aQ} {Lf:List Ent} {w:World} (x:List Int) {B:Option Addr} {H:Nat}  (hc:Ctx G (.row B H (x.map aD) 3 1::Lf) w) {D:(List Int)} (hF:lE N x=some D):Calls Tryz.prog 161 #[.slice B x.length H] w (fun e w=>e=.returned (.tuple #[])∧D.length=x.length∧Ctx G (.row B H (D.map aD) 3 1::Lf) w):=by
 unfold lE at hF
 exact aKb (fun w=>aLs Go.Proofs.Tryz.lays189 w) (fun b o c zs w h1 h2 h3=>Go.Proofs.Any.slices_Sort_int Go.Proofs.Tryz.lays189 b o c zs w h1 h2 h3) hc hF

def mL (N:Nat) (s_:List Int):Option ((List Int)) :=
 aM0 s_
/-! ### Walks of the library -/

theorem sZ {N:Nat} {G:aQ} {Lf:List Ent} {w:World} (s_:List Int) {B:Option Addr} {D:Nat}  (hc:Ctx G (.row B D (s_.map aD) 3 1::Lf) w) {H:(List Int)} (hF:mL N s_=some H):Calls Tryz.prog 162 #[.slice B s_.length D] w (fun e w=>∃ (I:Option Addr) (J:Nat),e=.returned (.slice I H.length J)∧Ctx G (.row I J (H.map aD) 3 1::Lf) w):=by
 unfold mL at hF
 exact aF7 (fun a c w=>Go.Proofs.Any.slices_Compact_int_empty Go.Proofs.Tryz.lays20 a c w) (fun b o c zs w h1 h2 h3=>Go.Proofs.Any.slices_Compact_int Go.Proofs.Tryz.lays20 b o c zs w h1 h2 h3) hc hF

def nV (N:Nat) (c_:aO) (out:List Int) (x:Int):Option (bK ((List Int) × Int) ((List Int))) :=
 cond (decide (x < ((c_.Rides.length:Nat):Int)))
 (Option.bind (aU c_.Rides x) fun B=>
 Option.bind (room ((out++[B.From])).length) fun un=>
 some (.cont ((out++[B.From]),W (x + 1))))
 (some (.brk (out,x)))
def lH (N:Nat) (c_:aO):Option ((List Int)) :=
 Option.bind (aS (fun s5=>nV N c_ s5.1 s5.2) N (([0]:List Int),0)) fun x5=>
 exK x5 (fun s5=>Option.bind (kS N s5.1) fun r=>
 Option.bind (lE N r) fun D=>
 Option.bind (mL N D) fun B=>
 some B) some
theorem wJ {N:Nat} {G:aQ} {Lf:List Ent} {w:World} (c_:aO) {B:Option Addr} {D:Nat} (I:Rd G 4 B D (c_.Rides.map aJ)) (hc:Ctx G (Lf) w) {R:(List Int)} (hF:lH N c_=some R):Calls Tryz.prog 95 #[.agg #[i6 c_.Car,i6 c_.Wide,i6 c_.Sag,i6 c_.Most,.slice B c_.Rides.length D]] w (fun e w=>∃ (U:Option Addr) (V:Nat),e=.returned (.slice U R.length V)∧Ctx G (.row U V (R.map aD) 3 1::Lf) w):=by
 unfold lH at hF
 refine bN Tryz.func95 rfl Tryz.ntmps95 rfl fun a hf=>zS fun K h=>zB hf hc rfl fun af a w hf hc=>sp 1 hf rfl fun a hf=>zT h ?_
 refine zS fun K h=>nU (rows:=([0]:List Int).map aD) (vs:=[(0,i6 0)]) hf hc rfl rfl jO rfl ⟨rfl,rfl,rfl,trivial⟩ rfl rfl fun g a w hf hc=>sp 1 hf rfl fun a hf=>zT h ?_
 refine wp_seq_k fun K3 h3=>zS fun K h=>zP hf rfl (pFA mV rfl) fun a hf=>zL hf hc vY m1 rfl fun a w hf hc=>zP hf rfl (aW Tryz.underlying52 rfl) fun a hf=>sp 1 hf rfl fun a hf=>zT h ?_
 refine wp_block ?_
 obtain ⟨x5,j,hF⟩:=aA hF
 let S5:((List Int) × Int)→Act→World→Prop:=(fun (zz:(List Int) × Int) a w=>∃ (M:Option Addr) (J:Nat),Has 27 a [(3,.slice M zz.1.length J),(9,.slice B c_.Rides.length D),(10,i6 ((c_.Rides.length:Nat):Int)),(11,i6 zz.2)]∧Ctx G (.row M J (zz.1.map aD) 3 1::Lf) w)
 have u:∀ (zz:(List Int) × Int) a w,x5=.go zz→S5 zz a w→K3 a w:=by
  rintro ⟨out,x⟩ a w rfl ⟨M,J,hf,hc⟩
  replace hF:=bH hF
  refine h3 _ _ ?_
  refine zS fun K h=>sp 1 hf rfl fun a hf=>?_
  obtain ⟨r,hr,hF⟩:=aA hF
  obtain ⟨G1,z,Y,hc,d⟩:=lend hc k0
  refine zC hf aOs rfl (uD out Y hc hr) ?_
  rintro _ w ⟨ad,ab,rfl,hc⟩
  refine ⟨_,rfl,fun a hf=>?_⟩
  replace hc:=d _ _ hc
  refine sp 1 hf rfl fun a hf=>zT h ?_
  refine zS fun K h=>sp 1 hf rfl fun a hf=>?_
  obtain ⟨t,X,hF⟩:=aA hF
  refine zC hf aOt rfl (uS r (hc.pick k1) X) ?_
  rintro _ w ⟨rfl,hl,hc⟩
  refine ⟨_,rfl,fun a hf=>?_⟩
  try rw [← hl] at hf
  try rw [← hl] at hc
  refine zT h ?_
  refine zS fun K h=>sp 1 hf rfl fun a hf=>?_
  obtain ⟨ai,Z,hF⟩:=aA hF
  refine zC hf aNt rfl (sZ t (hc.pick k0) Z) ?_
  rintro _ w ⟨v,i,rfl,hc⟩
  refine ⟨_,rfl,fun a hf=>?_⟩
  refine sp 1 hf rfl fun a hf=>zT h ?_
  refine wp_ret ?_
  obtain rfl:=sj hF
  replace hc:=hc.drop k1
  exact zO1 Tryz.results95 hf rfl ⟨v,i,rfl,hc⟩
 have ak:∀ r,x5=.out r→r=R:=by
  rintro r rfl
  exact sj hF
 replace hc:=hc.drop k1
 refine bY N (bX (S:=S5) (x:=x5) ?_ N (([0]:List Int),0) _ _ ⟨(some ⟨g,0,none⟩),1,hf.kp rfl,hc⟩ j)
 clear hF hf hc
 rintro ⟨out,x⟩ ag a w KB5 ⟨M,J,hf,hc⟩ hF O k
 unfold nV at hF
 refine zS fun K h=>sp 1 hf rfl fun a hf=>zT h ?_
 refine wp_seq_k fun K10 p=>zI hf rfl hF ?_ ?_ <;> clear hF <;> intro hF
 ·refine wp_skip ?_
  refine p _ _ ?_
  refine wp_seq_k fun K11 y=>wp_block ?_
  refine zS fun K h=>?_
  obtain ⟨H,b,hF⟩:=aA hF
  obtain ⟨ac,o,qa,qp⟩:=I.atm b
  refine zP hf rfl (pIA Tryz.underlying52 uB rfl rfl qa) fun a hf=>zE hf hc rfl (kG (vs:=[i6 H.From,i6 H.Long,i6 H.Weight.Lo,i6 H.Weight.Hi]) tF rfl rfl (dF qp (n:=4) (o':=0) rfl)) fun a w hf hc=>zA hf hc aFt rfl fun aa a w hf hc=>zW hf hc uB u0 rfl fun w hc=>zT h ?_
  refine bW ?_
  refine sp 1 hf rfl fun a hf=>zP hf rfl (pFA rI rfl) fun a hf=>zL hf hc bG m0 rfl fun a w hf hc=>nU (rows:=([H.From]:List Int).map aD) (vs:=[(0,i6 H.From)]) hf hc rfl rfl jO rfl ⟨rfl,rfl,rfl,trivial⟩ rfl rfl fun aj a w hf hc=>?_
  obtain ⟨un,s,hF⟩:=aA hF
  refine pG (xs:=out) (ys:=([H.From]:List Int)) hf hc rfl rfl jO rfl rfl rfl rfl rfl bP (lL hc m0) (fun _ _=>u2) (by simpa using fA s) fun m q a w hf hc=>sp 1 hf rfl fun a hf=>aL ?_
  refine y _ _ ?_
  refine bW ?_
  refine sp 2 hf rfl fun a hf=>aL ?_
  replace hc:=(hc.drop k1).drop k0
  exact k ((out++[H.From]),W (x + 1)) _ _ (sj hF).symm ⟨m,q,hf.kp rfl,hc⟩
 ·refine wp_exit ?_
  refine aN ?_
  refine aN ?_
  have he:=sj hF
  rw [← he] at O
  refine cT ?_
  exact u _ _ _ O ⟨M,J,hf.kp rfl,hc⟩

def cC (c_:aO) (B:Int):Bool :=
 (decide ((W (c_.Most * c_.Sag)) < (W ((W (B * c_.Wide)) * 25))))
theorem jJ {G:aQ} {Lf:List Ent} {w:World} (c_:aO) (H:Int) {B:Option Addr} {D:Nat} (I:Rd G 4 B D (c_.Rides.map aJ)) (hc:Ctx G (Lf) w) {J:Bool} (hF:cC c_ H=J):Calls Tryz.prog 99 #[.agg #[i6 c_.Car,i6 c_.Wide,i6 c_.Sag,i6 c_.Most,.slice B c_.Rides.length D],i6 H] w (fun e w=>e=.returned (.bool J)∧Ctx G (Lf) w):=by
 unfold cC at hF
 refine bN Tryz.func99 rfl Tryz.ntmps99 rfl fun a hf=>zS fun K h=>zB hf hc rfl fun M a w hf hc=>sp 1 hf rfl fun a hf=>zT h ?_
 refine zS fun K h=>sp 1 hf rfl fun a hf=>zP hf rfl (pFA aHt rfl) fun a hf=>zL hf hc bG m0 rfl fun a w hf hc=>sp 2 hf rfl fun a hf=>zP hf rfl (pFA aIg rfl) fun a hf=>zL hf hc bG m0 rfl fun a w hf hc=>zP hf rfl (pFA aIm rfl) fun a hf=>zL hf hc bG m0 rfl fun a w hf hc=>sp 3 hf rfl fun a hf=>zT h ?_
 refine wp_ret ?_
 obtain rfl:=hF
 replace hc:=hc.drop k0
 exact zO1 Tryz.results99 hf rfl ⟨rfl,hc⟩

def sG (N:Nat) (n:Int) (x:aO):Option (Bool) :=
 Option.bind (kP N (⟨x.Car,x.Wide,x.Sag,x.Most,x.Rides⟩:aO) n) fun r=>
 some (cC (⟨x.Car,x.Wide,x.Sag,x.Most,x.Rides⟩:aO) r)
theorem yX {N:Nat} {G:aQ} {Lf:List Ent} {w:World} (n:Int) (x:aO) {b_:Nat} {D:Option Addr} {B:Nat} {I:Nat} (H:Rd G 4 D B (x.Rides.map aJ)) (hc:Ctx G (.box b_ [i6 x.Car,i6 x.Wide,i6 x.Sag,i6 x.Most,.slice D x.Rides.length B] 54::.box I [.func (.func 156) #[] #[]] 147::Lf) w) {J:Bool} (hF:sG N n x=some J):Calls Tryz.prog 98 #[i6 n,pq b_,pq I] w (fun e w=>e=.returned (.bool J)∧Ctx G (.box b_ [i6 x.Car,i6 x.Wide,i6 x.Sag,i6 x.Most,.slice D x.Rides.length B] 54::.box I [.func (.func 156) #[] #[]] 147::Lf) w):=by
 unfold sG at hF
 refine bN Tryz.func98 rfl Tryz.ntmps98 rfl fun a hf=>zS fun K h=>sp 1 hf rfl fun a hf=>zT h ?_
 refine wp_seq_k fun K2 h2=>?_
 obtain ⟨r,hr,hF⟩:=aA hF
 refine cQ hc aT (by kernel_rfl) ?_
 refine qE hf rfl rfl rfl (kG (vs:=[i6 x.Car,i6 x.Wide,i6 x.Sag,i6 x.Most,.slice D x.Rides.length B]) pF rfl rfl (bM (n:=5) m0 rfl)) fun a hf=>qE hf rfl rfl rfl (kG (vs:=[i6 x.Car,i6 x.Wide,i6 x.Sag,i6 x.Most,.slice D x.Rides.length B]) pF rfl rfl (bM (n:=5) m0 rfl)) fun a hf=>qE hf rfl rfl rfl (Pu.ev (pM rfl)) fun a hf=>qE hf rfl rfl rfl (kG (vs:=[.func (.func 156) #[] #[]]) aEw rfl rfl (bM (n:=1) m1 rfl)) fun a hf=>qE hf rfl rfl rfl (eC (v:=i6 r) (vs:=[.agg #[i6 x.Car,i6 x.Wide,i6 x.Sag,i6 x.Most,.slice D x.Rides.length B],i6 n,.agg #[.func (.func 156) #[] #[]]]) (caps:=[]) aGf rfl rfl rfl rfl (fun w hc=>nL (⟨x.Car,x.Wide,x.Sag,x.Most,x.Rides⟩:aO) n H hc hr)) fun a hf=>qE hf rfl rfl rfl (eC (v:=.bool (cC (⟨x.Car,x.Wide,x.Sag,x.Most,x.Rides⟩:aO) r)) (vs:=[.agg #[i6 x.Car,i6 x.Wide,i6 x.Sag,i6 x.Most,.slice D x.Rides.length B],i6 r]) (caps:=[]) aFj rfl rfl rfl rfl (fun w hc=>jJ (⟨x.Car,x.Wide,x.Sag,x.Most,x.Rides⟩:aO) r H hc rfl)) fun a hf=>qE hf rfl rfl rfl (Pu.ev (pA rfl)) fun a hf=>?_
 intro w hc
 refine h2 _ _ ?_
 refine wp_ret ?_
 obtain rfl:=sj hF
 exact zO1 Tryz.results98 hf rfl ⟨rfl,hc⟩

def lW (N:Nat) (s_:List Int) (f_:aO) (x:Int):Option (bK (Int) (Int)) :=
 cond (decide (x < ((s_.length:Nat):Int)))
 (Option.bind (aU s_ x) fun B=>
 Option.bind (sG N B f_) fun r=>
 cond r
 (some (.ret x))
 (some (.cont (W (x + 1)))))
 (some (.brk x))
def jR (N:Nat) (s_:List Int) (f_:aO):Option (Int) :=
 Option.bind (aS (fun s4=>lW N s_ f_ s4) N 0) fun x4=>
 exK x4 (fun s4=>some (-1)) some
theorem qM {N:Nat} {G:aQ} {Lf:List Ent} {w:World} (s_:List Int) (f_:aO) {O:Option Addr} {M:Nat} {b_:Nat} {B:Option Addr} {D:Nat} {I:Nat} (U:Rd G 1 O M (s_.map aD)) (J:Rd G 4 B D (f_.Rides.map aJ)) (hc:Ctx G (.box b_ [i6 f_.Car,i6 f_.Wide,i6 f_.Sag,i6 f_.Most,.slice B f_.Rides.length D] 54::.box I [.func (.func 156) #[] #[]] 147::Lf) w) {R:Int} (hF:jR N s_ f_=some R):Calls Tryz.prog 97 #[.slice O s_.length M,.func (.func 98) #[] #[pq b_,pq I]] w (fun e w=>e=.returned (i6 R)∧Ctx G (.box b_ [i6 f_.Car,i6 f_.Wide,i6 f_.Sag,i6 f_.Most,.slice B f_.Rides.length D] 54::.box I [.func (.func 156) #[] #[]] 147::Lf) w):=by
 unfold jR at hF
 refine bN Tryz.func97 rfl Tryz.ntmps97 rfl fun a hf=>zS fun K h=>sp 1 hf rfl fun a hf=>zT h ?_
 refine wp_seq_k fun K2 h2=>zS fun K h=>sp 1 hf rfl fun a hf=>zP hf rfl (aW Tryz.underlying25 rfl) fun a hf=>sp 1 hf rfl fun a hf=>zT h ?_
 refine wp_block ?_
 obtain ⟨x4,d,hF⟩:=aA hF
 let S4:Int→Act→World→Prop:=(fun (zz:Int) a w=>Has 19 a [(0,.slice O s_.length M),(1,.func (.func 98) #[] #[pq b_,pq I]),(7,i6 ((s_.length:Nat):Int)),(8,i6 zz)]∧Ctx G (.box b_ [i6 f_.Car,i6 f_.Wide,i6 f_.Sag,i6 f_.Most,.slice B f_.Rides.length D] 54::.box I [.func (.func 156) #[] #[]] 147::Lf) w)
 have b:∀ (zz:Int) a w,x4=.go zz→S4 zz a w→K2 a w:=by
  rintro x a w rfl ⟨hf,hc⟩
  replace hF:=bH hF
  refine h2 _ _ ?_
  refine zS fun K h=>sp 1 hf rfl fun a hf=>zT h ?_
  refine wp_ret ?_
  obtain rfl:=sj hF
  exact zO1 Tryz.results97 hf rfl ⟨rfl,hc⟩
 have X:∀ r,x4=.out r→r=R:=by
  rintro r rfl
  exact sj hF
 refine bY N (bX (S:=S4) (x:=x4) ?_ N 0 _ _ ⟨hf.kp rfl,hc⟩ d)
 clear hF hf hc
 rintro x i a w KB4 ⟨hf,hc⟩ hF H Y
 unfold lW at hF
 refine zS fun K h=>sp 1 hf rfl fun a hf=>zT h ?_
 refine wp_seq_k fun K7 h7=>zI hf rfl hF ?_ ?_ <;> clear hF <;> intro hF
 ·refine wp_skip ?_
  refine h7 _ _ ?_
  refine wp_seq_k fun K8 h8=>wp_block ?_
  refine zS fun K h=>sp 2 hf rfl fun a hf=>zT h ?_
  refine zS fun K h=>sp 3 hf rfl fun a hf=>?_
  obtain ⟨Z,V,hF⟩:=aA hF
  obtain ⟨g,o,qa,qp⟩:=U.atm V
  refine zP hf rfl (pIA Tryz.underlying25 eH rfl rfl qa) fun a hf=>zE hf hc rfl (bF bG rfl (aR (j:=0) qp rfl)) fun a w hf hc=>?_
  obtain ⟨r,hr,hF⟩:=aA hF
  refine zQ (v:=.bool r) hf hc aM4 rfl (fun w hc=>(yX Z f_ J ((hc.pick k1).pick k1) hr).mono fun e w h=>⟨h.1,((h.2.unpick k1).unpick k1)⟩) fun a w hf hc=>zT h ?_
  refine zI hf rfl hF ?_ ?_ <;> clear hF <;> intro hF
  ·refine zS fun K h=>sp 2 hf rfl fun a hf=>zT h ?_
   refine wp_ret ?_
   refine bB ?_
   refine aH ?_
   refine aH ?_
   have he:=sj hF
   rw [← he] at H
   replace hF:=X _ H
   refine bB ?_
   refine aH ?_
   obtain rfl:=hF
   exact zO1 Tryz.results97 hf rfl ⟨rfl,hc⟩
  ·refine wp_skip ?_
   refine h8 _ _ ?_
   refine bW ?_
   refine sp 2 hf rfl fun a hf=>aL ?_
   exact Y (W (x + 1)) _ _ (sj hF).symm ⟨hf.kp rfl,hc⟩
 ·refine wp_exit ?_
  refine aN ?_
  refine aN ?_
  have he:=sj hF
  rw [← he] at H
  refine cT ?_
  exact b _ _ _ H ⟨hf.kp rfl,hc⟩

def uG (N:Nat) (x:List Int) (B:aO):Option (Int) :=
 Option.bind (jR N x B) fun r=>
 cond (r == (-1))
 (some (-1))
 (Option.bind (aU x r) fun D=>
 some D)
theorem aBm {N:Nat} {G:aQ} {Lf:List Ent} {w:World} (x:List Int) (H:aO) {b_:Nat} {M:Option Addr} {O:Nat} {J:Nat} {D:Option Addr} {B:Nat} (S:Rd G 1 M O (x.map aD)) (I:Rd G 4 D B (H.Rides.map aJ)) (hc:Ctx G (.box b_ [.slice M x.length O] 25::.box J [i6 H.Car,i6 H.Wide,i6 H.Sag,i6 H.Most,.slice D H.Rides.length B] 54::Lf) w) {R:Int} (hF:uG N x H=some R):Calls Tryz.prog 96 #[.agg #[.func (.func 156) #[] #[]],pq b_,pq J] w (fun e w=>e=.returned (i6 R)∧Ctx G (.box b_ [.slice M x.length O] 25::.box J [i6 H.Car,i6 H.Wide,i6 H.Sag,i6 H.Most,.slice D H.Rides.length B] 54::Lf) w):=by
 unfold uG at hF
 refine bN Tryz.func96 rfl Tryz.ntmps96 rfl fun a hf=>zS fun K h=>zB hf hc rfl fun V a w hf hc=>sp 1 hf rfl fun a hf=>zT h ?_
 refine zS fun K h=>zL hf hc fB m1 rfl fun a w hf hc=>zP hf rfl (pMF (us:=[pq J,pq V]) rfl rfl) fun a hf=>?_
 obtain ⟨r,hr,hF⟩:=aA hF
 refine zQ (v:=i6 r) hf hc aDn rfl (fun w hc=>(qM x H S I ((hc.pick k0).pick k2) hr).mono fun e w h=>⟨h.1,((h.2.unpick k2).unpick k0)⟩) fun a w hf hc=>sp 1 hf rfl fun a hf=>zT h ?_
 refine wp_seq_k fun K3 h3=>zS fun K h=>sp 2 hf rfl fun a hf=>zT h ?_
 refine zI hf rfl hF ?_ ?_ <;> clear hF <;> intro hF
 ·refine zS fun K h=>sp 1 hf rfl fun a hf=>zT h ?_
  refine wp_ret ?_
  refine aH ?_
  obtain rfl:=sj hF
  replace hc:=hc.drop k0
  exact zO1 Tryz.results96 hf rfl ⟨rfl,hc⟩
 ·refine wp_skip ?_
  refine h3 _ _ ?_
  refine zS fun K h=>zL hf hc fB m1 rfl fun a w hf hc=>sp 1 hf rfl fun a hf=>?_
  obtain ⟨Y,U,hF⟩:=aA hF
  obtain ⟨X,o,qa,qp⟩:=S.atm U
  refine zP hf rfl (pIA Tryz.underlying25 eH rfl rfl qa) fun a hf=>zE hf hc rfl (bF bG rfl (aR (j:=0) qp rfl)) fun a w hf hc=>sp 1 hf rfl fun a hf=>zT h ?_
  refine wp_ret ?_
  obtain rfl:=sj hF
  replace hc:=hc.drop k0
  exact zO1 Tryz.results96 hf rfl ⟨rfl,hc⟩

def oZ (N:Nat) (n:Int) (x:aO):Option (Bool) :=
 Option.bind (oV N (⟨x.Car,x.Wide,x.Sag,x.Most,x.Rides⟩:aO) n) fun r=>
 some (cC (⟨x.Car,x.Wide,x.Sag,x.Most,x.Rides⟩:aO) r)
theorem wC {N:Nat} {G:aQ} {Lf:List Ent} {w:World} (n:Int) (x:aO) {b_:Nat} {D:Option Addr} {B:Nat} {I:Nat} (H:Rd G 4 D B (x.Rides.map aJ)) (hc:Ctx G (.box b_ [i6 x.Car,i6 x.Wide,i6 x.Sag,i6 x.Most,.slice D x.Rides.length B] 54::.box I [.func (.func 155) #[] #[]] 147::Lf) w) {J:Bool} (hF:oZ N n x=some J):Calls Tryz.prog 98 #[i6 n,pq b_,pq I] w (fun e w=>e=.returned (.bool J)∧Ctx G (.box b_ [i6 x.Car,i6 x.Wide,i6 x.Sag,i6 x.Most,.slice D x.Rides.length B] 54::.box I [.func (.func 155) #[] #[]] 147::Lf) w):=by
 unfold oZ at hF
 refine bN Tryz.func98 rfl Tryz.ntmps98 rfl fun a hf=>zS fun K h=>sp 1 hf rfl fun a hf=>zT h ?_
 refine wp_seq_k fun K2 h2=>?_
 obtain ⟨r,hr,hF⟩:=aA hF
 refine cQ hc aT (by kernel_rfl) ?_
 refine qE hf rfl rfl rfl (kG (vs:=[i6 x.Car,i6 x.Wide,i6 x.Sag,i6 x.Most,.slice D x.Rides.length B]) pF rfl rfl (bM (n:=5) m0 rfl)) fun a hf=>qE hf rfl rfl rfl (kG (vs:=[i6 x.Car,i6 x.Wide,i6 x.Sag,i6 x.Most,.slice D x.Rides.length B]) pF rfl rfl (bM (n:=5) m0 rfl)) fun a hf=>qE hf rfl rfl rfl (Pu.ev (pM rfl)) fun a hf=>qE hf rfl rfl rfl (kG (vs:=[.func (.func 155) #[] #[]]) aEw rfl rfl (bM (n:=1) m1 rfl)) fun a hf=>qE hf rfl rfl rfl (eC (v:=i6 r) (vs:=[.agg #[i6 x.Car,i6 x.Wide,i6 x.Sag,i6 x.Most,.slice D x.Rides.length B],i6 n,.agg #[.func (.func 155) #[] #[]]]) (caps:=[]) aGf rfl rfl rfl rfl (fun w hc=>tD (⟨x.Car,x.Wide,x.Sag,x.Most,x.Rides⟩:aO) n H hc hr)) fun a hf=>qE hf rfl rfl rfl (eC (v:=.bool (cC (⟨x.Car,x.Wide,x.Sag,x.Most,x.Rides⟩:aO) r)) (vs:=[.agg #[i6 x.Car,i6 x.Wide,i6 x.Sag,i6 x.Most,.slice D x.Rides.length B],i6 r]) (caps:=[]) aFj rfl rfl rfl rfl (fun w hc=>jJ (⟨x.Car,x.Wide,x.Sag,x.Most,x.Rides⟩:aO) r H hc rfl)) fun a hf=>qE hf rfl rfl rfl (Pu.ev (pA rfl)) fun a hf=>?_
 intro w hc
 refine h2 _ _ ?_
 refine wp_ret ?_
 obtain rfl:=sj hF
 exact zO1 Tryz.results98 hf rfl ⟨rfl,hc⟩

def lX (N:Nat) (s_:List Int) (f_:aO) (x:Int):Option (bK (Int) (Int)) :=
 cond (decide (x < ((s_.length:Nat):Int)))
 (Option.bind (aU s_ x) fun B=>
 Option.bind (oZ N B f_) fun r=>
 cond r
 (some (.ret x))
 (some (.cont (W (x + 1)))))
 (some (.brk x))
def jS (N:Nat) (s_:List Int) (f_:aO):Option (Int) :=
 Option.bind (aS (fun s4=>lX N s_ f_ s4) N 0) fun x4=>
 exK x4 (fun s4=>some (-1)) some
theorem qJ {N:Nat} {G:aQ} {Lf:List Ent} {w:World} (s_:List Int) (f_:aO) {O:Option Addr} {M:Nat} {b_:Nat} {B:Option Addr} {D:Nat} {I:Nat} (U:Rd G 1 O M (s_.map aD)) (J:Rd G 4 B D (f_.Rides.map aJ)) (hc:Ctx G (.box b_ [i6 f_.Car,i6 f_.Wide,i6 f_.Sag,i6 f_.Most,.slice B f_.Rides.length D] 54::.box I [.func (.func 155) #[] #[]] 147::Lf) w) {R:Int} (hF:jS N s_ f_=some R):Calls Tryz.prog 97 #[.slice O s_.length M,.func (.func 98) #[] #[pq b_,pq I]] w (fun e w=>e=.returned (i6 R)∧Ctx G (.box b_ [i6 f_.Car,i6 f_.Wide,i6 f_.Sag,i6 f_.Most,.slice B f_.Rides.length D] 54::.box I [.func (.func 155) #[] #[]] 147::Lf) w):=by
 unfold jS at hF
 refine bN Tryz.func97 rfl Tryz.ntmps97 rfl fun a hf=>zS fun K h=>sp 1 hf rfl fun a hf=>zT h ?_
 refine wp_seq_k fun K2 h2=>zS fun K h=>sp 1 hf rfl fun a hf=>zP hf rfl (aW Tryz.underlying25 rfl) fun a hf=>sp 1 hf rfl fun a hf=>zT h ?_
 refine wp_block ?_
 obtain ⟨x4,d,hF⟩:=aA hF
 let S4:Int→Act→World→Prop:=(fun (zz:Int) a w=>Has 19 a [(0,.slice O s_.length M),(1,.func (.func 98) #[] #[pq b_,pq I]),(7,i6 ((s_.length:Nat):Int)),(8,i6 zz)]∧Ctx G (.box b_ [i6 f_.Car,i6 f_.Wide,i6 f_.Sag,i6 f_.Most,.slice B f_.Rides.length D] 54::.box I [.func (.func 155) #[] #[]] 147::Lf) w)
 have b:∀ (zz:Int) a w,x4=.go zz→S4 zz a w→K2 a w:=by
  rintro x a w rfl ⟨hf,hc⟩
  replace hF:=bH hF
  refine h2 _ _ ?_
  refine zS fun K h=>sp 1 hf rfl fun a hf=>zT h ?_
  refine wp_ret ?_
  obtain rfl:=sj hF
  exact zO1 Tryz.results97 hf rfl ⟨rfl,hc⟩
 have X:∀ r,x4=.out r→r=R:=by
  rintro r rfl
  exact sj hF
 refine bY N (bX (S:=S4) (x:=x4) ?_ N 0 _ _ ⟨hf.kp rfl,hc⟩ d)
 clear hF hf hc
 rintro x i a w KB4 ⟨hf,hc⟩ hF H Y
 unfold lX at hF
 refine zS fun K h=>sp 1 hf rfl fun a hf=>zT h ?_
 refine wp_seq_k fun K7 h7=>zI hf rfl hF ?_ ?_ <;> clear hF <;> intro hF
 ·refine wp_skip ?_
  refine h7 _ _ ?_
  refine wp_seq_k fun K8 h8=>wp_block ?_
  refine zS fun K h=>sp 2 hf rfl fun a hf=>zT h ?_
  refine zS fun K h=>sp 3 hf rfl fun a hf=>?_
  obtain ⟨Z,V,hF⟩:=aA hF
  obtain ⟨g,o,qa,qp⟩:=U.atm V
  refine zP hf rfl (pIA Tryz.underlying25 eH rfl rfl qa) fun a hf=>zE hf hc rfl (bF bG rfl (aR (j:=0) qp rfl)) fun a w hf hc=>?_
  obtain ⟨r,hr,hF⟩:=aA hF
  refine zQ (v:=.bool r) hf hc aM4 rfl (fun w hc=>(wC Z f_ J ((hc.pick k1).pick k1) hr).mono fun e w h=>⟨h.1,((h.2.unpick k1).unpick k1)⟩) fun a w hf hc=>zT h ?_
  refine zI hf rfl hF ?_ ?_ <;> clear hF <;> intro hF
  ·refine zS fun K h=>sp 2 hf rfl fun a hf=>zT h ?_
   refine wp_ret ?_
   refine bB ?_
   refine aH ?_
   refine aH ?_
   have he:=sj hF
   rw [← he] at H
   replace hF:=X _ H
   refine bB ?_
   refine aH ?_
   obtain rfl:=hF
   exact zO1 Tryz.results97 hf rfl ⟨rfl,hc⟩
  ·refine wp_skip ?_
   refine h8 _ _ ?_
   refine bW ?_
   refine sp 2 hf rfl fun a hf=>aL ?_
   exact Y (W (x + 1)) _ _ (sj hF).symm ⟨hf.kp rfl,hc⟩
 ·refine wp_exit ?_
  refine aN ?_
  refine aN ?_
  have he:=sj hF
  rw [← he] at H
  refine cT ?_
  exact b _ _ _ H ⟨hf.kp rfl,hc⟩

def qU (N:Nat) (x:List Int) (B:aO):Option (Int) :=
 Option.bind (jS N x B) fun r=>
 cond (r == (-1))
 (some (-1))
 (Option.bind (aU x r) fun D=>
 some D)
theorem yD {N:Nat} {G:aQ} {Lf:List Ent} {w:World} (x:List Int) (H:aO) {b_:Nat} {M:Option Addr} {O:Nat} {J:Nat} {D:Option Addr} {B:Nat} (S:Rd G 1 M O (x.map aD)) (I:Rd G 4 D B (H.Rides.map aJ)) (hc:Ctx G (.box b_ [.slice M x.length O] 25::.box J [i6 H.Car,i6 H.Wide,i6 H.Sag,i6 H.Most,.slice D H.Rides.length B] 54::Lf) w) {R:Int} (hF:qU N x H=some R):Calls Tryz.prog 96 #[.agg #[.func (.func 155) #[] #[]],pq b_,pq J] w (fun e w=>e=.returned (i6 R)∧Ctx G (.box b_ [.slice M x.length O] 25::.box J [i6 H.Car,i6 H.Wide,i6 H.Sag,i6 H.Most,.slice D H.Rides.length B] 54::Lf) w):=by
 unfold qU at hF
 refine bN Tryz.func96 rfl Tryz.ntmps96 rfl fun a hf=>zS fun K h=>zB hf hc rfl fun V a w hf hc=>sp 1 hf rfl fun a hf=>zT h ?_
 refine zS fun K h=>zL hf hc fB m1 rfl fun a w hf hc=>zP hf rfl (pMF (us:=[pq J,pq V]) rfl rfl) fun a hf=>?_
 obtain ⟨r,hr,hF⟩:=aA hF
 refine zQ (v:=i6 r) hf hc aDn rfl (fun w hc=>(qJ x H S I ((hc.pick k0).pick k2) hr).mono fun e w h=>⟨h.1,((h.2.unpick k2).unpick k0)⟩) fun a w hf hc=>sp 1 hf rfl fun a hf=>zT h ?_
 refine wp_seq_k fun K3 h3=>zS fun K h=>sp 2 hf rfl fun a hf=>zT h ?_
 refine zI hf rfl hF ?_ ?_ <;> clear hF <;> intro hF
 ·refine zS fun K h=>sp 1 hf rfl fun a hf=>zT h ?_
  refine wp_ret ?_
  refine aH ?_
  obtain rfl:=sj hF
  replace hc:=hc.drop k0
  exact zO1 Tryz.results96 hf rfl ⟨rfl,hc⟩
 ·refine wp_skip ?_
  refine h3 _ _ ?_
  refine zS fun K h=>zL hf hc fB m1 rfl fun a w hf hc=>sp 1 hf rfl fun a hf=>?_
  obtain ⟨Y,U,hF⟩:=aA hF
  obtain ⟨X,o,qa,qp⟩:=S.atm U
  refine zP hf rfl (pIA Tryz.underlying25 eH rfl rfl qa) fun a hf=>zE hf hc rfl (bF bG rfl (aR (j:=0) qp rfl)) fun a w hf hc=>sp 1 hf rfl fun a hf=>zT h ?_
  refine wp_ret ?_
  obtain rfl:=sj hF
  replace hc:=hc.drop k0
  exact zO1 Tryz.results96 hf rfl ⟨rfl,hc⟩

def rN (N:Nat) (c_:aO):Option (Int × Int × Int) :=
 Option.bind (lA N c_) fun r=>
 cond (r != 0)
 (some (0,0,r))
 (Option.bind (lH N c_) fun B=>
 Option.bind (uG N B c_) fun H=>
 Option.bind (qU N B c_) fun D=>
 some (H,D,0))
theorem aDe {N:Nat} {G:aQ} {Lf:List Ent} {w:World} (c_:aO) {D:Option Addr} {H:Nat} (B:Rd G 4 D H (c_.Rides.map aJ)) (hc:Ctx G (Lf) w) {O:Int × Int × Int} (hF:rN N c_=some O):Calls Tryz.prog 36 #[.agg #[i6 c_.Car,i6 c_.Wide,i6 c_.Sag,i6 c_.Most,.slice D c_.Rides.length H]] w (fun e w=>e=.returned (.tuple #[i6 O.1,i6 O.2.1,i6 O.2.2])∧Ctx G (Lf) w):=by
 unfold rN at hF
 refine bN Tryz.func36 rfl Tryz.ntmps36 rfl fun a hf=>zS fun K h=>zB hf hc rfl fun Z a w hf hc=>sp 3 hf rfl fun a hf=>zT h ?_
 refine wp_seq_k fun K2 h2=>zS fun K h=>zN hf hc pF m0 rfl fun a w hf hc=>?_
 obtain ⟨r,hr,hF⟩:=aA hF
 refine zQ (v:=i6 r) hf hc aLk rfl (fun w hc=>pC c_ B hc hr) fun a w hf hc=>sp 1 hf rfl fun a hf=>zT h ?_
 refine zS fun K h=>sp 2 hf rfl fun a hf=>zT h ?_
 refine zI hf rfl hF ?_ ?_ <;> clear hF <;> intro hF
 ·refine zS fun K h=>sp 4 hf rfl fun a hf=>zT h ?_
  refine wp_ret ?_
  refine aH ?_
  obtain rfl:=sj hF
  replace hc:=hc.drop k0
  exact zO3 Tryz.results36 hf rfl rfl rfl ⟨rfl,hc⟩
 ·refine wp_skip ?_
  refine h2 _ _ ?_
  refine zS fun K h=>zN hf hc pF m0 rfl fun a w hf hc=>?_
  obtain ⟨R,S,hF⟩:=aA hF
  refine zC hf en_95 rfl (wJ c_ B hc S) ?_
  rintro _ w ⟨g,d,rfl,hc⟩
  refine ⟨_,rfl,fun a hf=>?_⟩
  refine zA hf hc aM3 rfl fun X a w hf hc=>zW hf hc kX u0 rfl fun w hc=>zT h ?_
  refine zS fun K h=>zP hf rfl (pMF (us:=[pq X,pq Z]) rfl rfl) fun a hf=>sp 1 hf rfl fun a hf=>zT h ?_
  refine zS fun K h=>sp 1 hf rfl fun a hf=>zQ (v:=.agg #[.func (.func 156) #[] #[]]) hf hc aHv rfl (fun w hc=>sO hc rfl) fun a w hf hc=>?_
  obtain ⟨b,V,hF⟩:=aA hF
  refine zQ (v:=i6 b) hf hc aMp rfl (fun w hc=>by obtain ⟨G1,J,I,hc,M⟩:=lend hc k1; exact (aBm R c_ I (B.mono J) ((hc.pick k1).pick k1) V).mono fun e w h=>⟨h.1,((M _ _ ((h.2.unpick k1).unpick k1)).unpick k1)⟩) fun a w hf hc=>sp 1 hf rfl fun a hf=>zQ (v:=.agg #[.func (.func 155) #[] #[]]) hf hc aK2 rfl (fun w hc=>xL hc rfl) fun a w hf hc=>?_
  obtain ⟨Y,U,hF⟩:=aA hF
  refine zQ (v:=i6 Y) hf hc aMp rfl (fun w hc=>by obtain ⟨G1,J,I,hc,M⟩:=lend hc k1; exact (yD R c_ I (B.mono J) ((hc.pick k1).pick k1) U).mono fun e w h=>⟨h.1,((M _ _ ((h.2.unpick k1).unpick k1)).unpick k1)⟩) fun a w hf hc=>sp 3 hf rfl fun a hf=>zT h ?_
  refine wp_ret ?_
  obtain rfl:=sj hF
  replace hc:=((hc.drop k2).drop k1).drop k0
  exact zO3 Tryz.results36 hf rfl rfl rfl ⟨rfl,hc⟩

def sN (r:aI) (x:aO):Bool :=
 (!(cC (⟨x.Car,x.Wide,x.Sag,x.Most,x.Rides⟩:aO) (W (x.Car + r.Weight.Hi))))
theorem aB3 {G:aQ} {Lf:List Ent} {w:World} (r:aI) (x:aO) {b_:Nat} {D:Option Addr} {B:Nat} (H:Rd G 4 D B (x.Rides.map aJ)) (hc:Ctx G (.box b_ [i6 x.Car,i6 x.Wide,i6 x.Sag,i6 x.Most,.slice D x.Rides.length B] 54::Lf) w) {I:Bool} (hF:sN r x=I):Calls Tryz.prog 101 #[.agg #[i6 r.From,i6 r.Long,i6 r.Weight.Lo,i6 r.Weight.Hi],pq b_] w (fun e w=>e=.returned (.bool I)∧Ctx G (.box b_ [i6 x.Car,i6 x.Wide,i6 x.Sag,i6 x.Most,.slice D x.Rides.length B] 54::Lf) w):=by
 unfold sN at hF
 refine bN Tryz.func101 rfl Tryz.ntmps101 rfl fun a hf=>zS fun K h=>zB hf hc rfl fun J a w hf hc=>sp 1 hf rfl fun a hf=>zT h ?_
 refine zS fun K h=>zN hf hc pF m1 rfl fun a w hf hc=>zP hf rfl (pFA aAm rfl) fun a hf=>zL hf hc bG m1 rfl fun a w hf hc=>zP hf rfl (pFA xY rfl) fun a hf=>zP hf rfl (pFA sU rfl) fun a hf=>zL hf hc bG m0 rfl fun a w hf hc=>sp 1 hf rfl fun a hf=>zQ (v:=.bool (cC (⟨x.Car,x.Wide,x.Sag,x.Most,x.Rides⟩:aO) (W (x.Car + r.Weight.Hi)))) hf hc aFj rfl (fun w hc=>jJ (⟨x.Car,x.Wide,x.Sag,x.Most,x.Rides⟩:aO) (W (x.Car + r.Weight.Hi)) H hc rfl) fun a w hf hc=>sp 2 hf rfl fun a hf=>zT h ?_
 refine wp_ret ?_
 obtain rfl:=hF
 replace hc:=hc.drop k0
 exact zO1 Tryz.results101 hf rfl ⟨rfl,hc⟩

def iL (x:aI) (B:aO):Bool :=
 (!(sN (⟨x.From,x.Long,x.Weight⟩:aI) B))
theorem sH {G:aQ} {Lf:List Ent} {w:World} (x:aI) (B:aO) {b_:Nat} {J:Nat} {H:Option Addr} {D:Nat} (I:Rd G 4 H D (B.Rides.map aJ)) (hc:Ctx G (.box b_ [.func (.func 101) #[] #[pq J]] 155::.box J [i6 B.Car,i6 B.Wide,i6 B.Sag,i6 B.Most,.slice H B.Rides.length D] 54::Lf) w) {M:Bool} (hF:iL x B=M):Calls Tryz.prog 159 #[.agg #[i6 x.From,i6 x.Long,i6 x.Weight.Lo,i6 x.Weight.Hi],pq b_] w (fun e w=>e=.returned (.bool M)∧Ctx G (.box b_ [.func (.func 101) #[] #[pq J]] 155::.box J [i6 B.Car,i6 B.Wide,i6 B.Sag,i6 B.Most,.slice H B.Rides.length D] 54::Lf) w):=by
 unfold iL at hF
 refine bN Tryz.func159 rfl Tryz.ntmps159 rfl fun a hf=>zS fun K h=>zB hf hc rfl fun O a w hf hc=>sp 1 hf rfl fun a hf=>zT h ?_
 refine zS fun K h=>zL hf hc aJi m1 rfl fun a w hf hc=>zN hf hc tF m0 rfl fun a w hf hc=>zQ (v:=.bool (sN (⟨x.From,x.Long,x.Weight⟩:aI) B)) hf hc aNi rfl (fun w hc=>(aB3 (⟨x.From,x.Long,x.Weight⟩:aI) B I (hc.pick k2) rfl).mono fun e w h=>⟨h.1,(h.2.unpick k2)⟩) fun a w hf hc=>sp 2 hf rfl fun a hf=>zT h ?_
 refine wp_ret ?_
 obtain rfl:=hF
 replace hc:=hc.drop k0
 exact zO1 Tryz.results159 hf rfl ⟨rfl,hc⟩

def gX (N:Nat) (s_:List aI) (f_:aO) (x:Int):Option (bK (Int) (Int)) :=
 cond (decide (x < ((s_.length:Nat):Int)))
 (Option.bind (aU s_ x) fun B=>
 cond (iL B f_)
 (some (.ret x))
 (some (.cont (W (x + 1)))))
 (some (.brk x))
def eU (N:Nat) (s_:List aI) (f_:aO):Option (Int) :=
 Option.bind (aS (fun s4=>gX N s_ f_ s4) N 0) fun x4=>
 exK x4 (fun s4=>some (-1)) some
theorem mO {N:Nat} {G:aQ} {Lf:List Ent} {w:World} (s_:List aI) (f_:aO) {R:Option Addr} {O:Nat} {b_:Nat} {H:Nat} {B:Option Addr} {D:Nat} (V:Rd G 4 R O (s_.map aJ)) (M:Rd G 4 B D (f_.Rides.map aJ)) (hc:Ctx G (.box b_ [.func (.func 101) #[] #[pq H]] 155::.box H [i6 f_.Car,i6 f_.Wide,i6 f_.Sag,i6 f_.Most,.slice B f_.Rides.length D] 54::Lf) w) {U:Int} (hF:eU N s_ f_=some U):Calls Tryz.prog 185 #[.slice R s_.length O,.func (.func 159) #[] #[pq b_]] w (fun e w=>e=.returned (i6 U)∧Ctx G (.box b_ [.func (.func 101) #[] #[pq H]] 155::.box H [i6 f_.Car,i6 f_.Wide,i6 f_.Sag,i6 f_.Most,.slice B f_.Rides.length D] 54::Lf) w):=by
 unfold eU at hF
 refine bN Tryz.func185 rfl Tryz.ntmps185 rfl fun a hf=>zS fun K h=>sp 1 hf rfl fun a hf=>zT h ?_
 refine wp_seq_k fun K2 h2=>zS fun K h=>sp 1 hf rfl fun a hf=>zP hf rfl (aW Tryz.underlying52 rfl) fun a hf=>sp 1 hf rfl fun a hf=>zT h ?_
 refine wp_block ?_
 obtain ⟨x4,d,hF⟩:=aA hF
 let S4:Int→Act→World→Prop:=(fun (zz:Int) a w=>Has 19 a [(0,.slice R s_.length O),(1,.func (.func 159) #[] #[pq b_]),(7,i6 ((s_.length:Nat):Int)),(8,i6 zz)]∧Ctx G (.box b_ [.func (.func 101) #[] #[pq H]] 155::.box H [i6 f_.Car,i6 f_.Wide,i6 f_.Sag,i6 f_.Most,.slice B f_.Rides.length D] 54::Lf) w)
 have b:∀ (zz:Int) a w,x4=.go zz→S4 zz a w→K2 a w:=by
  rintro x a w rfl ⟨hf,hc⟩
  replace hF:=bH hF
  refine h2 _ _ ?_
  refine zS fun K h=>sp 1 hf rfl fun a hf=>zT h ?_
  refine wp_ret ?_
  obtain rfl:=sj hF
  exact zO1 Tryz.results185 hf rfl ⟨rfl,hc⟩
 have Y:∀ r,x4=.out r→r=U:=by
  rintro r rfl
  exact sj hF
 refine bY N (bX (S:=S4) (x:=x4) ?_ N 0 _ _ ⟨hf.kp rfl,hc⟩ d)
 clear hF hf hc
 rintro x i a w KB4 ⟨hf,hc⟩ hF I Z
 unfold gX at hF
 refine zS fun K h=>sp 1 hf rfl fun a hf=>zT h ?_
 refine wp_seq_k fun K7 h7=>zI hf rfl hF ?_ ?_ <;> clear hF <;> intro hF
 ·refine wp_skip ?_
  refine h7 _ _ ?_
  refine wp_seq_k fun K8 h8=>wp_block ?_
  refine zS fun K h=>sp 2 hf rfl fun a hf=>zT h ?_
  refine zS fun K h=>sp 3 hf rfl fun a hf=>?_
  obtain ⟨J,X,hF⟩:=aA hF
  obtain ⟨g,o,qa,qp⟩:=V.atm X
  refine zP hf rfl (pIA Tryz.underlying52 uB rfl rfl qa) fun a hf=>zE hf hc rfl (kG (vs:=[i6 J.From,i6 J.Long,i6 J.Weight.Lo,i6 J.Weight.Hi]) tF rfl rfl (dF qp (n:=4) (o':=0) rfl)) fun a w hf hc=>zQ (v:=.bool (iL J f_)) hf hc aJ8 rfl (fun w hc=>(sH J f_ M ((hc.pick k1).pick k1) rfl).mono fun e w h=>⟨h.1,((h.2.unpick k1).unpick k1)⟩) fun a w hf hc=>zT h ?_
  refine zI hf rfl hF ?_ ?_ <;> clear hF <;> intro hF
  ·refine zS fun K h=>sp 2 hf rfl fun a hf=>zT h ?_
   refine wp_ret ?_
   refine bB ?_
   refine aH ?_
   refine aH ?_
   have he:=sj hF
   rw [← he] at I
   replace hF:=Y _ I
   refine bB ?_
   refine aH ?_
   obtain rfl:=hF
   exact zO1 Tryz.results185 hf rfl ⟨rfl,hc⟩
  ·refine wp_skip ?_
   refine h8 _ _ ?_
   refine bW ?_
   refine sp 2 hf rfl fun a hf=>aL ?_
   exact Z (W (x + 1)) _ _ (sj hF).symm ⟨hf.kp rfl,hc⟩
 ·refine wp_exit ?_
  refine aN ?_
  refine aN ?_
  have he:=sj hF
  rw [← he] at I
  refine cT ?_
  exact b _ _ _ I ⟨hf.kp rfl,hc⟩

def dS (N:Nat) (s_:List aI) (f_:aO):Option (Bool) :=
 Option.bind (eU N s_ f_) fun r=>
 some (decide (0≤r))
theorem lQ {N:Nat} {G:aQ} {Lf:List Ent} {w:World} (s_:List aI) (f_:aO) {J:Option Addr} {M:Nat} {b_:Nat} {I:Nat} {D:Option Addr} {B:Nat} (R:Rd G 4 J M (s_.map aJ)) (H:Rd G 4 D B (f_.Rides.map aJ)) (hc:Ctx G (.box b_ [.func (.func 101) #[] #[pq I]] 155::.box I [i6 f_.Car,i6 f_.Wide,i6 f_.Sag,i6 f_.Most,.slice D f_.Rides.length B] 54::Lf) w) {O:Bool} (hF:dS N s_ f_=some O):Calls Tryz.prog 158 #[.slice J s_.length M,.func (.func 159) #[] #[pq b_]] w (fun e w=>e=.returned (.bool O)∧Ctx G (.box b_ [.func (.func 101) #[] #[pq I]] 155::.box I [i6 f_.Car,i6 f_.Wide,i6 f_.Sag,i6 f_.Most,.slice D f_.Rides.length B] 54::Lf) w):=by
 unfold dS at hF
 refine bN Tryz.func158 rfl Tryz.ntmps158 rfl fun a hf=>zS fun K h=>sp 1 hf rfl fun a hf=>zT h ?_
 refine zS fun K h=>sp 2 hf rfl fun a hf=>?_
 obtain ⟨r,hr,hF⟩:=aA hF
 refine zQ (v:=i6 r) hf hc aJk rfl (fun w hc=>(mO s_ f_ R H ((hc.pick k1).pick k1) hr).mono fun e w h=>⟨h.1,((h.2.unpick k1).unpick k1)⟩) fun a w hf hc=>sp 2 hf rfl fun a hf=>zT h ?_
 refine wp_ret ?_
 obtain rfl:=sj hF
 exact zO1 Tryz.results158 hf rfl ⟨rfl,hc⟩

def mE (N:Nat) (l:List aI) (so:aO):Option (Bool) :=
 Option.bind (dS N l so) fun r=>
 some (!r)
theorem tN {N:Nat} {G:aQ} {Lf:List Ent} {w:World} (l:List aI) (so:aO) {J:Option Addr} {I:Nat} {b_:Nat} {D:Option Addr} {B:Nat} (R:Rd G 4 J I (l.map aJ)) (H:Rd G 4 D B (so.Rides.map aJ)) (hc:Ctx G (.box b_ [i6 so.Car,i6 so.Wide,i6 so.Sag,i6 so.Most,.slice D so.Rides.length B] 54::Lf) w) {M:Bool} (hF:mE N l so=some M):Calls Tryz.prog 90 #[.slice J l.length I,.func (.func 101) #[] #[pq b_]] w (fun e w=>e=.returned (.bool M)∧Ctx G (.box b_ [i6 so.Car,i6 so.Wide,i6 so.Sag,i6 so.Most,.slice D so.Rides.length B] 54::Lf) w):=by
 unfold mE at hF
 refine bN Tryz.func90 rfl Tryz.ntmps90 rfl fun a hf=>zS fun K h=>zB hf hc rfl fun O a w hf hc=>sp 1 hf rfl fun a hf=>zT h ?_
 refine zS fun K h=>sp 1 hf rfl fun a hf=>zP hf rfl (pMF (us:=[pq O]) rfl rfl) fun a hf=>?_
 obtain ⟨r,hr,hF⟩:=aA hF
 refine zQ (v:=.bool r) hf hc aJa rfl (fun w hc=>(lQ l so R H ((hc.pick k1).pick k1) hr).mono fun e w h=>⟨h.1,((h.2.unpick k1).unpick k1)⟩) fun a w hf hc=>sp 2 hf rfl fun a hf=>zT h ?_
 refine wp_ret ?_
 obtain rfl:=sj hF
 replace hc:=hc.drop k0
 exact zO1 Tryz.results90 hf rfl ⟨rfl,hc⟩

def gW (N:Nat) (s_:List aI):Option ((List aI)) :=
 Option.bind (room (s_).length) fun un=>
 some s_
theorem oP {N:Nat} {G:aQ} {Lf:List Ent} {w:World} (s_:List aI) {D:Option Addr} {H:Nat} (I:Rd G 4 D H (s_.map aJ)) (hc:Ctx G (Lf) w) {B:(List aI)} (hF:gW N s_=some B):Calls Tryz.prog 102 #[.slice D s_.length H] w (fun e w=>∃ (J:Option Addr) (M:Nat),e=.returned (.slice J B.length M)∧Ctx G (.row J M (B.map aJ) 72 4::Lf) w):=by
 unfold gW at hF
 refine bN Tryz.func102 rfl Tryz.ntmps102 rfl fun a hf=>zS fun K h=>sp 1 hf rfl fun a hf=>zT h ?_
 refine wp_seq_k fun K2 h2=>zS fun K h=>sp 1 hf rfl fun a hf=>zP hf rfl (pEqN Tryz.underlying52 rfl rfl) fun a hf=>zT h ?_
 rcases aH5 I with ⟨hp,hx⟩ | hp
 ·rw [hp] at hf
  replace hF:(some ([]:List aI))=some B:=by
   try rw [hx] at hF
   exact hF
  refine aGt hf rfl ?_
  refine zS fun K h=>sp 1 hf rfl fun a hf=>zT h ?_
  refine wp_ret ?_
  refine aH ?_
  obtain rfl:=sj hF
  replace hc:=hc.nilRow 72 4
  exact zO1 Tryz.results102 hf rfl ⟨none,0,rfl,hc⟩
 ·rw [hp] at hf
  refine aGq hf rfl ?_
  refine wp_skip ?_
  refine h2 _ _ ?_
  refine zS fun K h=>nU (rows:=([]:List aI).map aJ) (vs:=[]) hf hc rfl rfl aDb rfl trivial rfl rfl fun U a w hf hc=>sp 1 hf rfl fun a hf=>?_
  obtain ⟨un,O,hF⟩:=aA hF
  refine pG (xs:=([]:List aI)) (ys:=s_) hf hc rfl rfl aDb rfl rfl rfl rfl rfl nS (aCt hc I) (fun _ _=>u0) (by simpa using fA O) fun S R a w hf hc=>sp 1 hf rfl fun a hf=>zT h ?_
  refine wp_ret ?_
  obtain rfl:=sj hF
  exact zO1 Tryz.results102 hf rfl ⟨S,R,rfl,hc⟩

def sL (N:Nat) (c_:aO) (r:aI):Option (Bool) :=
 Option.bind (kP N c_ r.From) fun B=>
 some (cC c_ B)
theorem yV {N:Nat} {G:aQ} {Lf:List Ent} {w:World} (c_:aO) (r:aI) {B:Option Addr} {D:Nat} (H:Rd G 4 B D (c_.Rides.map aJ)) (hc:Ctx G (Lf) w) {J:Bool} (hF:sL N c_ r=some J):Calls Tryz.prog 103 #[.agg #[i6 c_.Car,i6 c_.Wide,i6 c_.Sag,i6 c_.Most,.slice B c_.Rides.length D],.agg #[i6 r.From,i6 r.Long,i6 r.Weight.Lo,i6 r.Weight.Hi]] w (fun e w=>e=.returned (.bool J)∧Ctx G (Lf) w):=by
 unfold sL at hF
 refine bN Tryz.func103 rfl Tryz.ntmps103 rfl fun a hf=>zS fun K h=>zB hf hc rfl fun O a w hf hc=>zB hf hc rfl fun R a w hf hc=>sp 1 hf rfl fun a hf=>zT h ?_
 refine wp_seq_k fun K2 h2=>?_
 obtain ⟨I,M,hF⟩:=aA hF
 refine cQ hc aT (by kernel_rfl) ?_
 refine qE hf rfl rfl rfl (kG (vs:=[i6 c_.Car,i6 c_.Wide,i6 c_.Sag,i6 c_.Most,.slice B c_.Rides.length D]) pF rfl rfl (bM (n:=5) m1 rfl)) fun a hf=>qE hf rfl rfl rfl (kG (vs:=[i6 c_.Car,i6 c_.Wide,i6 c_.Sag,i6 c_.Most,.slice B c_.Rides.length D]) pF rfl rfl (bM (n:=5) m1 rfl)) fun a hf=>qE hf rfl rfl rfl (Pu.ev (pFA rI rfl)) fun a hf=>qE hf rfl rfl rfl (bF bG rfl (bL m0 rfl)) fun a hf=>qE hf rfl rfl rfl (eC (v:=.agg #[.func (.func 156) #[] #[]]) (vs:=[]) (caps:=[]) aHv rfl rfl rfl rfl (fun w hc=>sO hc rfl)) fun a hf=>qE hf rfl rfl rfl (eC (v:=i6 I) (vs:=[.agg #[i6 c_.Car,i6 c_.Wide,i6 c_.Sag,i6 c_.Most,.slice B c_.Rides.length D],i6 r.From,.agg #[.func (.func 156) #[] #[]]]) (caps:=[]) aGf rfl rfl rfl rfl (fun w hc=>nL c_ r.From H hc M)) fun a hf=>qE hf rfl rfl rfl (eC (v:=.bool (cC c_ I)) (vs:=[.agg #[i6 c_.Car,i6 c_.Wide,i6 c_.Sag,i6 c_.Most,.slice B c_.Rides.length D],i6 I]) (caps:=[]) aFj rfl rfl rfl rfl (fun w hc=>jJ c_ I H hc rfl)) fun a hf=>qE hf rfl rfl rfl (Pu.ev (pA rfl)) fun a hf=>?_
 intro w hc
 refine h2 _ _ ?_
 refine wp_ret ?_
 obtain rfl:=sj hF
 replace hc:=(hc.drop k1).drop k0
 exact zO1 Tryz.results103 hf rfl ⟨rfl,hc⟩

def pN (N:Nat) (D:Int) (B:Int):Option (bK (Int × Int) (bK (Int × Int × (List aI)) (bK ((List Int) × Int × Int × (List aI)) ((List Int) × Int)))) :=
 some (.cont (B,W (D + 1)))
def wU (N:Nat) (J:List aI) (I:Int) (B:Int) (H:Int):Option (bK (Int × Int) (bK (Int × Int × (List aI)) (bK ((List Int) × Int × Int × (List aI)) ((List Int) × Int)))) :=
 cond (decide (H < ((J.length:Nat):Int)))
 (Option.bind (aU J H) fun D=>
 cond ((gL D I) && ((B == (-1)) || (decide ((W (D.From + D.Long)) < B))))
 (pN N H (W (D.From + D.Long)))
 (pN N H B))
 (some (.brk (B,H)))
def xM (N:Nat) (c_:aO) (M:List aI) (H:aI) (I:Int) (J:Int) (D:List aI):Option (bK (Int × Int × (List aI)) (bK ((List Int) × Int × Int × (List aI)) ((List Int) × Int))) :=
 Option.bind (sL N (⟨c_.Car,c_.Wide,c_.Sag,c_.Most,D⟩:aO) (⟨J,H.Long,H.Weight⟩:aI)) fun O=>
 cond O
 (Option.bind (aS (fun B=>wU N M I B.1 B.2) N ((-1),0)) fun R=>
 exK R (fun B=>Option.bind (aU D (W (((D.length:Nat):Int) - 1))) fun S=>
 some (.cont (B.1,B.1,(D.set (W (((D.length:Nat):Int) - 1)).toNat (⟨B.1,H.Long,H.Weight⟩:aI))))) some)
 (some (.brk (I,J,D)))
def xF (N:Nat) (c_:aO) (out:List Int) (H:Int) (x:Int) (I:List aI):Option (bK ((List Int) × Int × Int × (List aI)) ((List Int) × Int)) :=
 cond (decide (x < ((c_.Rides.length:Nat):Int)))
 (Option.bind (aU c_.Rides x) fun B=>
 Option.bind (gW N I) fun J=>
 Option.bind (room ((J++[(⟨max H B.From,B.Long,B.Weight⟩:aI)])).length) fun un=>
 Option.bind (aS (fun D=>xM N c_ I B D.1 D.2.1 D.2.2) N (max H B.From,max H B.From,(J++[(⟨max H B.From,B.Long,B.Weight⟩:aI)]))) fun M=>
 exK M (fun D=>Option.bind (room ((out++[D.1])).length) fun O=>
 some (.cont ((out++[D.1]),D.1,W (x + 1),D.2.2))) some)
 (some (.brk (out,H,x,I)))
def zH (N:Nat) (c_:aO):Option ((List Int) × Int) :=
 Option.bind (lA N c_) fun r=>
 cond (r != 0)
 (some (([]:List Int),r))
 (Option.bind (cond (cC c_ c_.Car) (some true) (Option.bind (mE N c_.Rides c_) fun I=>
 some (!I))) fun H=>
 cond H
 (some (([]:List Int),6))
 (Option.bind (aS (fun B=>xF N c_ B.1 B.2.1 B.2.2.1 B.2.2.2) N (([]:List Int),0,0,([]:List aI))) fun D=>
 exK D (fun B=>some (B.1,0)) some))
theorem aDw {N:Nat} {G:aQ} {Lf:List Ent} {w:World} (c_:aO) {D:Option Addr} {H:Nat} (U:Rd G 4 D H (c_.Rides.map aJ)) (hc:Ctx G (Lf) w) {am:(List Int) × Int} (hF:zH N c_=some am):Calls Tryz.prog 38 #[.agg #[i6 c_.Car,i6 c_.Wide,i6 c_.Sag,i6 c_.Most,.slice D c_.Rides.length H]] w (fun e w=>∃ (a8:Option Addr) (a9:Nat),e=.returned (.tuple #[.slice a8 am.1.length a9,i6 am.2])∧Ctx G (.row a8 a9 (am.1.map aD) 3 1::Lf) w):=by
 unfold zH at hF
 refine bN Tryz.func38 rfl Tryz.ntmps38 rfl fun a hf=>zS fun K h=>zB hf hc rfl fun a0 a w hf hc=>sp 2 hf rfl fun a hf=>zT h ?_
 refine zS fun K h=>zN hf hc pF m0 rfl fun a w hf hc=>?_
 obtain ⟨r,hr,hF⟩:=aA hF
 refine zQ (v:=i6 r) hf hc aLk rfl (fun w hc=>pC c_ U hc hr) fun a w hf hc=>sp 1 hf rfl fun a hf=>zT h ?_
 refine wp_seq_k fun K3 h3=>wp_block ?_
 refine zS fun K h=>sp 3 hf rfl fun a hf=>zT h ?_
 refine zI hf rfl hF ?_ ?_ <;> clear hF <;> intro hF
 ·refine zS fun K h=>sp 3 hf rfl fun a hf=>zT h ?_
  refine wp_ret ?_
  refine bB ?_
  refine aH ?_
  obtain rfl:=sj hF
  replace hc:=hc.nilRow 3 1
  replace hc:=hc.drop k1
  exact zO2 Tryz.results38 hf rfl rfl ⟨none,0,rfl,hc⟩
 ·refine zS fun K h=>zN hf hc pF m0 rfl fun a w hf hc=>zP hf rfl (pFA aAm rfl) fun a hf=>zL hf hc bG m0 rfl fun a w hf hc=>zQ (v:=.bool (cC c_ c_.Car)) hf hc aFj rfl (fun w hc=>jJ c_ c_.Car U hc rfl) fun a w hf hc=>sp 1 hf rfl fun a hf=>?_
  obtain ⟨b9,a4,hF⟩:=aA hF
  refine fV 6 (fun a=>Has 105 a [(1,pq a0),(21,.agg #[i6 c_.Car,i6 c_.Wide,i6 c_.Sag,i6 c_.Most,.slice D c_.Rides.length H]),(22,pq a0),(23,i6 c_.Car),(24,.bool (cC c_ c_.Car)),(25,.bool (cC c_ c_.Car)),(31,.bool b9)]) hc ?_ ?_
  ·cases hb:(cC c_ c_.Car)
   ·rw [hb] at hf
    have hF:=gN hb a4
    refine zP hf rfl (pFA mV rfl) fun a hf=>zL hf hc vY m0 rfl fun a w hf hc=>zP hf rfl (pMF (us:=[pq a0]) rfl rfl) fun a hf=>?_
    obtain ⟨b6,bs,hF⟩:=aA hF
    refine zQ (v:=.bool b6) hf hc aM9 rfl (fun w hc=>(tN c_.Rides c_ U U (hc.pick k0) bs).mono fun e w h=>⟨h.1,(h.2.unpick k0)⟩) fun a w hf hc=>sp 2 hf rfl fun a hf=>?_
    obtain rfl:=sj hF
    exact aL ⟨hf.kp rfl,hc⟩
   ·rw [hb] at hf
    have hF:=fU hb a4
    obtain rfl:=sj hF
    refine stS hf rfl rfl rfl fun a hf=>stS hf rfl rfl rfl fun a hf=>stS hf rfl rfl rfl fun a hf=>stS hf rfl rfl rfl fun a hf=>stS hf rfl rfl rfl fun a hf=>sp 1 hf rfl fun a hf=>aL ⟨hf.kp rfl,hc⟩
  intro a w ⟨hf,hc⟩
  refine sp 1 hf rfl fun a hf=>zT h ?_
  refine zI hf rfl hF ?_ ?_ <;> clear hF <;> intro hF
  ·refine zS fun K h=>sp 2 hf rfl fun a hf=>zT h ?_
   refine wp_ret ?_
   refine bB ?_
   refine aH ?_
   obtain rfl:=sj hF
   replace hc:=hc.nilRow 3 1
   replace hc:=hc.drop k1
   exact zO2 Tryz.results38 hf rfl rfl ⟨none,0,rfl,hc⟩
  ·refine wp_skip ?_
   refine h3 _ _ ?_
   refine zS fun K h=>zN hf hc pF m0 rfl fun a w hf hc=>zA hf hc aHo rfl fun Y a w hf hc=>zW hf hc aF0 u0 rfl fun w hc=>zT h ?_
   refine zS fun K h=>zP hf rfl (pFA mV rfl) fun a hf=>zW hf hc aJz u0 rfl fun w hc=>zT h ?_
   refine zS fun K h=>sp 1 hf rfl fun a hf=>zT h ?_
   refine zS fun K h=>sp 1 hf rfl fun a hf=>zT h ?_
   refine wp_seq_k fun K12 cm=>zS fun K h=>zP hf rfl (pFA mV rfl) fun a hf=>zL hf hc vY m1 rfl fun a w hf hc=>zP hf rfl (aW Tryz.underlying52 rfl) fun a hf=>sp 1 hf rfl fun a hf=>zT h ?_
   refine wp_block ?_
   obtain ⟨a1,bj,hF⟩:=aA hF
   let S14:((List Int) × Int × Int × (List aI))→Act→World→Prop:=(fun (zz:(List Int) × Int × Int × (List aI)) a w=>∃ (X:Option Addr) (V:Nat) (q:Option Addr) (s:Nat),Has 105 a [(5,pq Y),(6,.slice X zz.1.length V),(7,i6 zz.2.1),(35,.slice D c_.Rides.length H),(36,i6 ((c_.Rides.length:Nat):Int)),(37,i6 zz.2.2.1)]∧Ctx G (.row q s (zz.2.2.2.map aJ) 72 4::.row X V (zz.1.map aD) 3 1::.box Y [i6 c_.Car,i6 c_.Wide,i6 c_.Sag,i6 c_.Most,.slice q zz.2.2.2.length s] 54::Lf) w)
   have bp:∀ (zz:(List Int) × Int × Int × (List aI)) a w,a1=.go zz→S14 zz a w→K12 a w:=by
    rintro ⟨out,R,x,M⟩ a w rfl ⟨X,V,q,s,hf,hc⟩
    replace hF:=bH hF
    refine cm _ _ ?_
    refine zS fun K h=>sp 3 hf rfl fun a hf=>zT h ?_
    refine wp_ret ?_
    obtain rfl:=sj hF
    replace hc:=(hc.drop k2).drop k0
    exact zO2 Tryz.results38 hf rfl rfl ⟨X,V,rfl,hc⟩
   have cv:∀ r,a1=.out r→r=am:=by
    rintro r rfl
    exact sj hF
   replace hc:=hc.nilRow 3 1
   replace hc:=hc.nilRow 72 4
   replace hc:=hc.drop k3
   refine bY N (bX (S:=S14) (x:=a1) ?_ N (([]:List Int),0,0,([]:List aI)) _ _ ⟨none,0,none,0,hf.kp rfl,hc⟩ bj)
   clear hF hf hc
   rintro ⟨out,R,x,M⟩ b1 a w KB14 ⟨X,V,q,s,hf,hc⟩ hF aq bf
   unfold xF at hF
   refine zS fun K h=>sp 1 hf rfl fun a hf=>zT h ?_
   refine wp_seq_k fun K17 ca=>zI hf rfl hF ?_ ?_ <;> clear hF <;> intro hF
   ·refine wp_skip ?_
    refine ca _ _ ?_
    refine wp_seq_k fun K18 b7=>wp_block ?_
    refine zS fun K h=>?_
    obtain ⟨B,bu,hF⟩:=aA hF
    obtain ⟨cz,o,qa,qp⟩:=U.atm bu
    refine zP hf rfl (pIA Tryz.underlying52 uB rfl rfl qa) fun a hf=>zE hf hc rfl (kG (vs:=[i6 B.From,i6 B.Long,i6 B.Weight.Lo,i6 B.Weight.Hi]) tF rfl rfl (dF qp (n:=4) (o':=0) rfl)) fun a w hf hc=>zA hf hc aFt rfl fun k a w hf hc=>zW hf hc uB u0 rfl fun w hc=>zT h ?_
    refine zS fun K h=>sp 1 hf rfl fun a hf=>zP hf rfl (pFA rI rfl) fun a hf=>zL hf hc bG m0 rfl fun a w hf hc=>zP hf rfl (aH9 rfl rfl) fun a hf=>sp 1 hf rfl fun a hf=>zT h ?_
    refine zS fun K h=>sp 1 hf rfl fun a hf=>zP hf rfl (pFA rI rfl) fun a hf=>zW hf hc eH u0 rfl fun w hc=>zT h ?_
    refine zS fun K h=>zN hf hc pF m3 rfl fun a w hf hc=>zA hf hc aHo rfl fun Z a w hf hc=>zW hf hc aF0 u0 rfl fun w hc=>zT h ?_
    refine wp_seq_k fun K23 cb=>?_
    obtain ⟨ab,bt,hF⟩:=aA hF
    obtain ⟨un,cn,hF⟩:=aA hF
    replace hc:=hc.nilRow 0 0
    replace hc:=hc.nilRow 0 0
    refine mB (fun θ=>[⟨none,none,5,pq Y⟩,⟨none,none,6,.slice X out.length V⟩,⟨none,none,7,i6 (max R B.From)⟩,⟨none,none,9,pq k⟩,⟨none,none,10,pq Z⟩,⟨none,none,35,.slice D c_.Rides.length H⟩,⟨none,none,36,i6 ((c_.Rides.length:Nat):Int)⟩,⟨none,none,37,i6 x⟩,⟨some 0,none,48,.pointer (some ⟨Y,4,none⟩)⟩,⟨some 1,none,49,.slice q M.length s⟩,⟨some 2,none,50,.slice ((θ 16).p) ab.length ((θ 16).c)⟩,⟨some 3,none,51,.agg #[i6 (max R B.From),i6 B.Long,i6 B.Weight.Lo,i6 B.Weight.Hi]⟩,⟨some 4,none,52,.slice (some ⟨(θ 32).b,0,none⟩) 1 1⟩,⟨some 5,none,53,.slice ((θ 40).p) ((ab++[(⟨max R B.From,B.Long,B.Weight⟩:aI)]).length) ((θ 40).c)⟩,⟨some 6,none,54,.pointer (some ⟨Z,4,none⟩)⟩]) (fun E θ=>(bif E 4 then .row (some ⟨(θ 32).b,0,none⟩) 1 (([(⟨max R B.From,B.Long,B.Weight⟩:aI)]:List aI).map aJ) 72 4 else .row none 0 [] 0 0)::(bif E 5 then .row ((θ 40).p) ((θ 40).c) ((ab++[(⟨max R B.From,B.Long,B.Weight⟩:aI)]).map aJ) 72 4 else bif E 2 then .row ((θ 16).p) ((θ 16).c) (ab.map aJ) 72 4 else .row none 0 [] 0 0)::(bif E 7 then .box Z [i6 c_.Car,i6 c_.Wide,i6 c_.Sag,i6 c_.Most,.slice ((θ 40).p) ((ab++[(⟨max R B.From,B.Long,B.Weight⟩:aI)]).length) ((θ 40).c)] 54 else .box Z [i6 c_.Car,i6 c_.Wide,i6 c_.Sag,i6 c_.Most,.slice q M.length s] 54)::.box k [i6 (max R B.From),i6 B.Long,i6 B.Weight.Lo,i6 B.Weight.Hi] 72::.row q s (M.map aJ) 72 4::.row X V (out.map aD) 3 1::.box Y [i6 c_.Car,i6 c_.Wide,i6 c_.Sag,i6 c_.Most,.slice q M.length s] 54::Lf) [(5,2),(7,5)] (fun a w=>∃ (bb:Nat) (ay:Option Addr) (az:Nat),Has 105 a [(5,pq Y),(6,.slice X out.length V),(7,i6 (max R B.From)),(9,pq k),(10,pq Z),(35,.slice D c_.Rides.length H),(36,i6 ((c_.Rides.length:Nat):Int)),(37,i6 x)]∧Ctx G (.row (some ⟨bb,0,none⟩) 1 (([(⟨max R B.From,B.Long,B.Weight⟩:aI)]:List aI).map aJ) 72 4::.row ay az ((ab++[(⟨max R B.From,B.Long,B.Weight⟩:aI)]).map aJ) 72 4::.box Z [i6 c_.Car,i6 c_.Wide,i6 c_.Sag,i6 c_.Most,.slice ay ((ab++[(⟨max R B.From,B.Long,B.Weight⟩:aI)]).length) az] 54::.box k [i6 (max R B.From),i6 B.Long,i6 B.Weight.Lo,i6 B.Weight.Hi] 72::.row q s (M.map aJ) 72 4::.row X V (out.map aD) 3 1::.box Y [i6 c_.Car,i6 c_.Wide,i6 c_.Sag,i6 c_.Most,.slice q M.length s] 54::Lf) w) aT (by kernel_rfl) (by kernel_rfl) (iT.of hf ⟨rfl,rfl,rfl,rfl,rfl,rfl,rfl,rfl,trivial,trivial,trivial,trivial,trivial,trivial,trivial,trivial⟩) hc ⟨?_,?_,?_,?_,?_,?_,?_,?_,trivial⟩ ?_ ?_
    ·intro E θ a w hD hi hp he hc
     have hf:=he.h0.mT he 0 rfl
     refine zP hf rfl (pFA mV rfl) fun a hf=>zD θ he hi hf 8 rfl rfl rfl hc
    ·intro E θ a w hD hi hp he hc
     have e0:=hp.o 0 rfl
     have hf:=he.h0.mP he 8 rfl e0
     refine zL hf hc vY m6 rfl fun a w hf hc=>zD θ he hi hf 9 rfl rfl rfl hc
    ·intro E θ a w hD hi hp he hc
     have e1:=hp.o 1 rfl
     have e5:=hD.f 0 rfl hi
     try dsimp only at hc
     rw [hi,e5] at hc
     have hf:=he.h0.mP he 9 rfl e1
     obtain ⟨G1,b0,ar,hc,au⟩:=lend hc k4
     refine zC hf aNv rfl (oP M ar hc bt) ?_
     rintro _ w ⟨cf,cj,rfl,hc⟩
     refine ⟨_,rfl,fun a hf=>?_⟩
     replace hc:=au _ _ hc
     refine aL ?_
     refine jV ?_
     intro ds u an
     replace hc:=(((((hc.drop k3).pick k0).pick k4).pick k4).pick k3).pick k4
     refine ⟨(uQ θ 16 ⟨0,cf,cj,(fun _=>(none,0))⟩),he.put hi an hf rfl [] trivial ⟨qq,qq,qq,qq,qq,qq,qq,qq,qq,qq,qq,qq,qq,qq,qq,trivial⟩,?_⟩
     try dsimp only
     rw [bV E 2,gU 2 e5 rfl]
     exact hc
    ·intro E θ a w hD hi hp he hc
     have hf:=he.h0.mT he 3 rfl
     refine zN hf hc tF m3 rfl fun a w hf hc=>zD θ he hi hf 11 rfl rfl rfl hc
    ·intro E θ a w hD hi hp he hc
     have e3:=hp.o 3 rfl
     try dsimp only at hc
     rw [hi] at hc
     have hf:=he.h0.mP he 11 rfl e3
     refine nU (rows:=([(⟨max R B.From,B.Long,B.Weight⟩:aI)]:List aI).map aJ) (vs:=[(0,.agg #[i6 (max R B.From),i6 B.Long,i6 B.Weight.Lo,i6 B.Weight.Hi])]) hf hc rfl rfl aDb rfl ⟨rfl,rfl,rfl,trivial⟩ rfl rfl fun cq a w hf hc=>aL ?_
     refine jV ?_
     intro ds u an
     replace hc:=hc.drop k1
     refine ⟨(uQ θ 32 ⟨cq,none,0,(fun _=>(none,0))⟩),he.put hi an hf rfl [] trivial ⟨qq,qq,qq,qq,qq,qq,qq,qq,qq,qq,qq,qq,qq,qq,qq,trivial⟩,?_⟩
     try dsimp only
     rw [bV E 4]
     exact hc
    ·intro E θ a w hD hi hp he hc
     have e2:=hp.o 2 rfl
     have e4:=hp.o 4 rfl
     have e7:=hD.f 1 rfl hi
     try dsimp only at hc
     rw [e4,e2,hi,e7] at hc
     have hf:=(he.h0.mP he 10 rfl e2).mP he 12 rfl e4
     refine pG (xs:=ab) (ys:=([(⟨max R B.From,B.Long,B.Weight⟩:aI)]:List aI)) hf hc rfl rfl aDb rfl rfl rfl rfl rfl nS (lL hc m0) (fun _ _=>u1) (by simpa using fA cn) fun b5 cc a w hf hc=>aL ?_
     refine jV ?_
     intro ds u an
     refine ⟨(uQ θ 40 ⟨0,b5,cc,(fun _=>(none,0))⟩),he.put hi an hf rfl [] trivial ⟨qq,qq,qq,qq,qq,qq,qq,qq,qq,qq,qq,qq,qq,qq,qq,trivial⟩,?_⟩
     try dsimp only
     rw [mG 5 e4,mG 5 e2,bV E 5,gU 5 e7 rfl]
     exact hc
    ·intro E θ a w hD hi hp he hc
     have hf:=he.h0.mT he 4 rfl
     refine zP hf rfl (pFA mV rfl) fun a hf=>zD θ he hi hf 14 rfl rfl rfl hc
    ·intro E θ a w hD hi hp he hc
     have e5:=hp.o 5 rfl
     have e6:=hp.o 6 rfl
     try dsimp only at hc
     rw [hi] at hc
     have hf:=(he.h0.mP he 13 rfl e5).mP he 14 rfl e6
     refine zW hf hc aJz u2 rfl fun w hc=>zG θ he hi hf rfl ?_
     try dsimp only
     rw [bV E 7]
     exact hc
    ·intro E θ a w aj he hc
     have hf:=he.h0
     have e2:=aj 2 rfl
     have e4:=aj 4 rfl
     have e5:=aj 5 rfl
     have e7:=aj 7 rfl
     replace hf:=hf.more he 7 rfl (onT)
     replace hf:=hf.more he 6 rfl (onT)
     replace hf:=hf.more he 5 rfl (onT)
     replace hf:=hf.more he 4 rfl (onT)
     replace hf:=hf.more he 3 rfl (onT)
     replace hf:=hf.more he 2 rfl (onT)
     replace hf:=hf.more he 1 rfl (onT)
     replace hf:=hf.more he 0 rfl (onT)
     try dsimp only at hc
     rw [e2,e4,e5,e7] at hc
     exact ⟨(θ 32).b,(θ 40).p,(θ 40).c,hf.kp rfl,hc⟩
    rintro a w ⟨bb,ay,az,hf,hc⟩
    refine cb _ _ ?_
    refine wp_seq_k fun K24 ci=>wp_block ?_
    obtain ⟨a5,b2,hF⟩:=aA hF
    let S25:(Int × Int × (List aI))→Act→World→Prop:=(fun (zz:Int × Int × (List aI)) a w=>∃ (ai:Option Addr) (ag:Nat) (y:Option Addr) (j:Nat),Has 105 a [(5,pq Y),(6,.slice X out.length V),(7,i6 zz.1),(9,pq k),(10,pq Z),(35,.slice D c_.Rides.length H),(36,i6 ((c_.Rides.length:Nat):Int)),(37,i6 x)]∧Ctx G (.row y j (zz.2.2.map aJ) 72 4::.box Z [i6 c_.Car,i6 c_.Wide,i6 c_.Sag,i6 c_.Most,.slice y zz.2.2.length j] 54::.box k [i6 zz.2.1,i6 B.Long,i6 B.Weight.Lo,i6 B.Weight.Hi] 72::.row ai ag (M.map aJ) 72 4::.row X V (out.map aD) 3 1::.box Y [i6 c_.Car,i6 c_.Wide,i6 c_.Sag,i6 c_.Most,.slice ai M.length ag] 54::Lf) w)
    have bm:∀ (zz:Int × Int × (List aI)) a w,a5=.go zz→S25 zz a w→K24 a w:=by
     rintro ⟨J,av,d⟩ a w rfl ⟨ai,ag,y,j,hf,hc⟩
     replace hF:=bH hF
     refine ci _ _ ?_
     refine zS fun K h=>zN hf hc pF m1 rfl fun a w hf hc=>zW hf hc aF0 u5 rfl fun w hc=>zT h ?_
     refine bW ?_
     refine sp 2 hf rfl fun a hf=>nU (rows:=([J]:List Int).map aD) (vs:=[(0,i6 J)]) hf hc rfl rfl jO rfl ⟨rfl,rfl,rfl,trivial⟩ rfl rfl fun cy a w hf hc=>?_
     obtain ⟨ct,a7,hF⟩:=aA hF
     refine pG (xs:=out) (ys:=([J]:List Int)) hf hc rfl rfl jO rfl rfl rfl rfl rfl bP (lL hc m0) (fun _ _=>u5) (by simpa using fA a7) fun cg b3 a w hf hc=>sp 1 hf rfl fun a hf=>aL ?_
     refine b7 _ _ ?_
     refine bW ?_
     refine sp 2 hf rfl fun a hf=>aL ?_
     replace hc:=(((hc.drop k4).drop k3).drop k2).drop k0
     exact bf ((out++[J]),J,W (x + 1),d) _ _ (sj hF).symm ⟨cg,b3,y,j,hf.kp rfl,hc⟩
    have cs:∀ r,a5=.out r→r=b1:=by
     rintro r rfl
     exact sj hF
    replace hc:=hc.drop k0
    refine bY N (bX (S:=S25) (x:=a5) ?_ N (max R B.From,max R B.From,(ab++[(⟨max R B.From,B.Long,B.Weight⟩:aI)])) _ _ ⟨q,s,ay,az,hf.kp rfl,hc⟩ b2)
    clear hF hf hc
    rintro ⟨J,av,d⟩ bq a w KB25 ⟨ai,ag,y,j,hf,hc⟩ hF ak bk
    unfold xM at hF
    refine wp_seq_k fun K27 b4=>zS fun K h=>zN hf hc pF m1 rfl fun a w hf hc=>zN hf hc tF m2 rfl fun a w hf hc=>?_
    obtain ⟨cd,bv,hF⟩:=aA hF
    refine zQ (v:=.bool cd) hf hc aNo rfl (fun w hc=>by obtain ⟨G1,b0,ar,hc,au⟩:=lend hc k0; exact (yV (⟨c_.Car,c_.Wide,c_.Sag,c_.Most,d⟩:aO) (⟨av,B.Long,B.Weight⟩:aI) ar hc bv).mono fun e w h=>⟨h.1,((au _ _ h.2).unpick k0)⟩) fun a w hf hc=>zT h ?_
    refine zI hf rfl hF ?_ ?_ <;> clear hF <;> intro hF
    ·refine wp_skip ?_
     refine b4 _ _ ?_
     refine qB fun K29 b8=>wp_block ?_
     refine zS fun K h=>sp 1 hf rfl fun a hf=>zT h ?_
     refine wp_seq_k fun K31 cp=>zS fun K h=>zP hf rfl (pFA mV rfl) fun a hf=>zL hf hc vY m5 rfl fun a w hf hc=>zP hf rfl (aW Tryz.underlying52 rfl) fun a hf=>sp 1 hf rfl fun a hf=>zT h ?_
     refine wp_block ?_
     obtain ⟨a2,bn,hF⟩:=aA hF
     let S33:(Int × Int)→Act→World→Prop:=(fun (zz:Int × Int) a w=>∃ (aa:Option Addr) (m:Nat),Has 105 a [(5,pq Y),(6,.slice X out.length V),(7,i6 J),(9,pq k),(10,pq Z),(11,i6 zz.1),(35,.slice D c_.Rides.length H),(36,i6 ((c_.Rides.length:Nat):Int)),(37,i6 x),(59,.slice aa M.length m),(60,i6 ((M.length:Nat):Int)),(61,i6 zz.2)]∧Ctx G (.row y j (d.map aJ) 72 4::.box Z [i6 c_.Car,i6 c_.Wide,i6 c_.Sag,i6 c_.Most,.slice y d.length j] 54::.box k [i6 av,i6 B.Long,i6 B.Weight.Lo,i6 B.Weight.Hi] 72::.row aa m (M.map aJ) 72 4::.row X V (out.map aD) 3 1::.box Y [i6 c_.Car,i6 c_.Wide,i6 c_.Sag,i6 c_.Most,.slice aa M.length m] 54::Lf) w)
     have bx:∀ (zz:Int × Int) a w,a2=.go zz→S33 zz a w→K31 a w:=by
      rintro ⟨I,af⟩ a w rfl ⟨aa,m,hf,hc⟩
      replace hF:=bH hF
      refine cp _ _ ?_
      refine zS fun K h=>sp 2 hf rfl fun a hf=>zT h ?_
      refine zS fun K h=>sp 1 hf rfl fun a hf=>zP hf rfl (pFA rI rfl) fun a hf=>zW hf hc eH u2 rfl fun w hc=>zT h ?_
      refine bW ?_
      refine zP hf rfl (pFA mV rfl) fun a hf=>zL hf hc vY m1 rfl fun a w hf hc=>zP hf rfl (pFA mV rfl) fun a hf=>zL hf hc vY m1 rfl fun a w hf hc=>zP hf rfl (aW Tryz.underlying52 rfl) fun a hf=>sp 1 hf rfl fun a hf=>zN hf hc tF m2 rfl fun a w hf hc=>?_
      obtain ⟨cx,a6,hF⟩:=aA hF
      obtain ⟨g,rfl,bd,qr⟩:=nQ hc m0 a6
      refine zP hf rfl (pIA Tryz.underlying52 uB rfl rfl bd) fun a hf=>aDu (vs:=[i6 I,i6 B.Long,i6 B.Weight.Lo,i6 B.Weight.Hi]) (o':=0) (z:=(⟨I,B.Long,B.Weight⟩:aI)) (xs:=d) hf hc rfl rfl rfl rfl uB rfl (fun x=>(nS x).1) (rH a6) (fun _ _=>rfl) rfl u0 fun w hc=>aL ?_
      refine b8 _ _ ?_
      replace hc:Ctx G (.row (some ⟨g,0,none⟩) j ((d.set (W (((d.length:Nat):Int) - 1)).toNat (⟨I,B.Long,B.Weight⟩:aI)).map aJ) 72 4::.box Z [i6 c_.Car,i6 c_.Wide,i6 c_.Sag,i6 c_.Most,.slice (some ⟨g,0,none⟩) ((d.set (W (((d.length:Nat):Int) - 1)).toNat (⟨I,B.Long,B.Weight⟩:aI)).length) j] 54::.box k [i6 I,i6 B.Long,i6 B.Weight.Lo,i6 B.Weight.Hi] 72::.row aa m (M.map aJ) 72 4::.row X V (out.map aD) 3 1::.box Y [i6 c_.Car,i6 c_.Wide,i6 c_.Sag,i6 c_.Most,.slice aa M.length m] 54::Lf) w:=by simp only [List.length_set] at hc ⊢; exact hc
      exact bk (I,I,(d.set (W (((d.length:Nat):Int) - 1)).toNat (⟨I,B.Long,B.Weight⟩:aI))) _ _ (sj hF).symm ⟨aa,m,(some ⟨g,0,none⟩),j,hf.kp rfl,hc⟩
     have cu:∀ r,a2=.out r→r=bq:=by
      rintro r rfl
      exact sj hF
     refine bY N (bX (S:=S33) (x:=a2) ?_ N ((-1),0) _ _ ⟨ai,ag,hf.kp rfl,hc⟩ bn)
     clear hF hf hc
     rintro ⟨I,af⟩ br a w KB33 ⟨aa,m,hf,hc⟩ hF ap bg
     unfold wU at hF
     refine zS fun K h=>sp 1 hf rfl fun a hf=>zT h ?_
     refine wp_seq_k fun K37 cr=>zI hf rfl hF ?_ ?_ <;> clear hF <;> intro hF
     ·refine wp_skip ?_
      refine cr _ _ ?_
      refine wp_seq_k fun K38 ck=>?_
      have a3:∀ (t:Int) (ac:Option Addr) (ad:Nat) a w,Has 105 a [(5,pq Y),(6,.slice X out.length V),(7,i6 J),(9,pq k),(10,pq Z),(11,i6 t),(35,.slice D c_.Rides.length H),(36,i6 ((c_.Rides.length:Nat):Int)),(37,i6 x),(59,.slice ac M.length ad),(60,i6 ((M.length:Nat):Int)),(61,i6 af)]→Ctx G (.row y j (d.map aJ) 72 4::.box Z [i6 c_.Car,i6 c_.Wide,i6 c_.Sag,i6 c_.Most,.slice y d.length j] 54::.box k [i6 av,i6 B.Long,i6 B.Weight.Lo,i6 B.Weight.Hi] 72::.row ac ad (M.map aJ) 72 4::.row X V (out.map aD) 3 1::.box Y [i6 c_.Car,i6 c_.Wide,i6 c_.Sag,i6 c_.Most,.slice ac M.length ad] 54::Lf) w→pN N af t=some br→K38 a w:=by
       repeat (clear hF)
       repeat (clear hc)
       repeat (clear hf)
       intro t ac ad a w hf hc hF
       unfold pN at hF
       refine ck _ _ ?_
       refine bW ?_
       refine sp 2 hf rfl fun a hf=>aL ?_
       exact bg (t,W (af + 1)) _ _ (sj hF).symm ⟨ac,ad,hf.kp rfl,hc⟩
      refine wp_block ?_
      refine zS fun K h=>?_
      obtain ⟨O,bi,hF⟩:=aA hF
      obtain ⟨ax,rfl,bz,bc⟩:=nQ hc m3 bi
      refine zP hf rfl (pIA Tryz.underlying52 uB rfl rfl bz) fun a hf=>zE hf hc rfl (kG (vs:=[i6 O.From,i6 O.Long,i6 O.Weight.Lo,i6 O.Weight.Hi]) tF rfl rfl (aLq (sz:=4) (i:=af.toNat) m3 bc (n:=4) (o':=0) rfl)) fun a w hf hc=>zA hf hc aFt rfl fun ba a w hf hc=>zW hf hc uB u0 rfl fun w hc=>zT h ?_
      refine zS fun K h=>zN hf hc tF m0 rfl fun a w hf hc=>sp 1 hf rfl fun a hf=>zQ (v:=.bool (gL O J)) hf hc aGm rfl (fun w hc=>sE O J hc rfl) fun a w hf hc=>sp 1 hf rfl fun a hf=>fV 12 (fun a=>Has 105 a [(5,pq Y),(6,.slice X out.length V),(7,i6 J),(9,pq k),(10,pq Z),(11,i6 I),(35,.slice D c_.Rides.length H),(36,i6 ((c_.Rides.length:Nat):Int)),(37,i6 x),(59,.slice (some ⟨ax,0,none⟩) M.length m),(60,i6 ((M.length:Nat):Int)),(61,i6 af),(13,pq ba),(65,.agg #[i6 O.From,i6 O.Long,i6 O.Weight.Lo,i6 O.Weight.Hi]),(66,i6 J),(67,.bool (gL O J)),(68,.bool (gL O J)),(80,.bool ((gL O J) && ((I == (-1)) || (decide ((W (O.From + O.Long)) < I)))))]) hc ?_ ?_
      ·cases hb:(gL O J)
       ·rw [hb] at hf
        refine stS hf rfl rfl rfl fun a hf=>stS hf rfl rfl rfl fun a hf=>stS hf rfl rfl rfl fun a hf=>stS hf rfl rfl rfl fun a hf=>stS hf rfl rfl rfl fun a hf=>stS hf rfl rfl rfl fun a hf=>stS hf rfl rfl rfl fun a hf=>stS hf rfl rfl rfl fun a hf=>stS hf rfl rfl rfl fun a hf=>stS hf rfl rfl rfl fun a hf=>stS hf rfl rfl rfl fun a hf=>sp 1 hf rfl fun a hf=>aL ⟨hf.kp rfl,hc⟩
       ·rw [hb] at hf
        refine sp 3 hf rfl fun a hf=>fV 8 (fun a=>Has 105 a [(5,pq Y),(6,.slice X out.length V),(7,i6 J),(9,pq k),(10,pq Z),(11,i6 I),(35,.slice D c_.Rides.length H),(36,i6 ((c_.Rides.length:Nat):Int)),(37,i6 x),(59,.slice (some ⟨ax,0,none⟩) M.length m),(60,i6 ((M.length:Nat):Int)),(61,i6 af),(13,pq ba),(65,.agg #[i6 O.From,i6 O.Long,i6 O.Weight.Lo,i6 O.Weight.Hi]),(66,i6 J),(67,.bool true),(68,.bool true),(69,i6 I),(70,.bool (I == (-1))),(71,.bool (I == (-1))),(79,.bool ((I == (-1)) || (decide ((W (O.From + O.Long)) < I))))]) hc ?_ ?_
        ·cases hb:(I == (-1))
         ·rw [hb] at hf
          refine zP hf rfl (pFA rI rfl) fun a hf=>zL hf hc bG m0 rfl fun a w hf hc=>zP hf rfl (pFA aCd rfl) fun a hf=>zL hf hc bG m0 rfl fun a w hf hc=>sp 4 hf rfl fun a hf=>aL ⟨hf.kp rfl,hc⟩
         ·rw [hb] at hf
          refine stS hf rfl rfl rfl fun a hf=>stS hf rfl rfl rfl fun a hf=>stS hf rfl rfl rfl fun a hf=>stS hf rfl rfl rfl fun a hf=>stS hf rfl rfl rfl fun a hf=>stS hf rfl rfl rfl fun a hf=>stS hf rfl rfl rfl fun a hf=>sp 1 hf rfl fun a hf=>aL ⟨hf.kp rfl,hc⟩
        intro a w ⟨hf,hc⟩
        refine sp 1 hf rfl fun a hf=>aL ⟨hf.kp rfl,hc⟩
      intro a w ⟨hf,hc⟩
      refine zT h ?_
      refine zI hf rfl hF ?_ ?_ <;> clear hF <;> intro hF
      ·refine bW ?_
       refine zP hf rfl (pFA rI rfl) fun a hf=>zL hf hc bG m0 rfl fun a w hf hc=>zP hf rfl (pFA aCd rfl) fun a hf=>zL hf hc bG m0 rfl fun a w hf hc=>sp 2 hf rfl fun a hf=>aL ?_
       replace hc:=hc.drop k0
       exact a3 (W (O.From + O.Long)) (some ⟨ax,0,none⟩) m _ _  (hf.kp rfl) hc hF
      ·refine wp_skip ?_
       replace hc:=hc.drop k0
       exact a3 I (some ⟨ax,0,none⟩) m _ _  (hf.kp rfl) hc hF
     ·refine wp_exit ?_
      refine aN ?_
      refine aN ?_
      have he:=sj hF
      rw [← he] at ap
      refine cT ?_
      exact bx _ _ _ ap ⟨aa,m,hf.kp rfl,hc⟩
    ·refine wp_exit ?_
     refine aN ?_
     refine aN ?_
     have he:=sj hF
     rw [← he] at ak
     refine cT ?_
     exact bm _ _ _ ak ⟨ai,ag,y,j,hf.kp rfl,hc⟩
   ·refine wp_exit ?_
    refine aN ?_
    refine aN ?_
    have he:=sj hF
    rw [← he] at aq
    refine cT ?_
    exact bp _ _ _ aq ⟨X,V,q,s,hf.kp rfl,hc⟩

def uC (n:Int):Bool :=
 (aE n 0 1440)
theorem aCn {G:aQ} {Lf:List Ent} {w:World} (n:Int)   (hc:Ctx G (Lf) w) {B:Bool} (hF:uC n=B):Calls Tryz.prog 88 #[i6 n] w (fun e w=>e=.returned (.bool B)∧Ctx G (Lf) w):=by
 unfold uC at hF
 refine bN Tryz.func88 rfl Tryz.ntmps88 rfl fun a hf=>zS fun K h=>sp 1 hf rfl fun a hf=>zT h ?_
 refine zS fun K h=>sp 1 hf rfl fun a hf=>zQ (v:=.bool (aE n 0 1440)) hf hc nZ rfl (fun w hc=>cU n 0 1440 hc rfl) fun a w hf hc=>sp 1 hf rfl fun a hf=>zT h ?_
 refine wp_ret ?_
 obtain rfl:=hF
 exact zO1 Tryz.results88 hf rfl ⟨rfl,hc⟩

def mC (x:Int):Bool :=
 (!(uC x))
theorem vM {G:aQ} {Lf:List Ent} {w:World} (x:Int) {b_:Nat}  (hc:Ctx G (.box b_ [.func (.func 88) #[] #[]] 143::Lf) w) {B:Bool} (hF:mC x=B):Calls Tryz.prog 157 #[i6 x,pq b_] w (fun e w=>e=.returned (.bool B)∧Ctx G (.box b_ [.func (.func 88) #[] #[]] 143::Lf) w):=by
 unfold mC at hF
 refine bN Tryz.func157 rfl Tryz.ntmps157 rfl fun a hf=>zS fun K h=>sp 1 hf rfl fun a hf=>zT h ?_
 refine zS fun K h=>zL hf hc aE4 m0 rfl fun a w hf hc=>sp 1 hf rfl fun a hf=>zQ (v:=.bool (uC x)) hf hc en_88 rfl (fun w hc=>aCn x hc rfl) fun a w hf hc=>sp 2 hf rfl fun a hf=>zT h ?_
 refine wp_ret ?_
 obtain rfl:=hF
 exact zO1 Tryz.results157 hf rfl ⟨rfl,hc⟩

def lY (N:Nat) (s_:List Int) (x:Int):Option (bK (Int) (Int)) :=
 cond (decide (x < ((s_.length:Nat):Int)))
 (Option.bind (aU s_ x) fun B=>
 cond (mC B)
 (some (.ret x))
 (some (.cont (W (x + 1)))))
 (some (.brk x))
def jU (N:Nat) (s_:List Int):Option (Int) :=
 Option.bind (aS (fun s4=>lY N s_ s4) N 0) fun x4=>
 exK x4 (fun s4=>some (-1)) some
theorem qR {N:Nat} {G:aQ} {Lf:List Ent} {w:World} (s_:List Int) {H:Option Addr} {D:Nat} {b_:Nat} (M:Rd G 1 H D (s_.map aD)) (hc:Ctx G (.box b_ [.func (.func 88) #[] #[]] 143::Lf) w) {I:Int} (hF:jU N s_=some I):Calls Tryz.prog 97 #[.slice H s_.length D,.func (.func 157) #[] #[pq b_]] w (fun e w=>e=.returned (i6 I)∧Ctx G (.box b_ [.func (.func 88) #[] #[]] 143::Lf) w):=by
 unfold jU at hF
 refine bN Tryz.func97 rfl Tryz.ntmps97 rfl fun a hf=>zS fun K h=>sp 1 hf rfl fun a hf=>zT h ?_
 refine wp_seq_k fun K2 h2=>zS fun K h=>sp 1 hf rfl fun a hf=>zP hf rfl (aW Tryz.underlying25 rfl) fun a hf=>sp 1 hf rfl fun a hf=>zT h ?_
 refine wp_block ?_
 obtain ⟨x4,V,hF⟩:=aA hF
 let S4:Int→Act→World→Prop:=(fun (zz:Int) a w=>Has 19 a [(0,.slice H s_.length D),(1,.func (.func 157) #[] #[pq b_]),(7,i6 ((s_.length:Nat):Int)),(8,i6 zz)]∧Ctx G (.box b_ [.func (.func 88) #[] #[]] 143::Lf) w)
 have X:∀ (zz:Int) a w,x4=.go zz→S4 zz a w→K2 a w:=by
  rintro x a w rfl ⟨hf,hc⟩
  replace hF:=bH hF
  refine h2 _ _ ?_
  refine zS fun K h=>sp 1 hf rfl fun a hf=>zT h ?_
  refine wp_ret ?_
  obtain rfl:=sj hF
  exact zO1 Tryz.results97 hf rfl ⟨rfl,hc⟩
 have R:∀ r,x4=.out r→r=I:=by
  rintro r rfl
  exact sj hF
 refine bY N (bX (S:=S4) (x:=x4) ?_ N 0 _ _ ⟨hf.kp rfl,hc⟩ V)
 clear hF hf hc
 rintro x Z a w KB4 ⟨hf,hc⟩ hF B U
 unfold lY at hF
 refine zS fun K h=>sp 1 hf rfl fun a hf=>zT h ?_
 refine wp_seq_k fun K7 h7=>zI hf rfl hF ?_ ?_ <;> clear hF <;> intro hF
 ·refine wp_skip ?_
  refine h7 _ _ ?_
  refine wp_seq_k fun K8 h8=>wp_block ?_
  refine zS fun K h=>sp 2 hf rfl fun a hf=>zT h ?_
  refine zS fun K h=>sp 3 hf rfl fun a hf=>?_
  obtain ⟨J,O,hF⟩:=aA hF
  obtain ⟨Y,o,qa,qp⟩:=M.atm O
  refine zP hf rfl (pIA Tryz.underlying25 eH rfl rfl qa) fun a hf=>zE hf hc rfl (bF bG rfl (aR (j:=0) qp rfl)) fun a w hf hc=>zQ (v:=.bool (mC J)) hf hc aEr rfl (fun w hc=>(vM J (hc.pick k0) rfl).mono fun e w h=>⟨h.1,(h.2.unpick k0)⟩) fun a w hf hc=>zT h ?_
  refine zI hf rfl hF ?_ ?_ <;> clear hF <;> intro hF
  ·refine zS fun K h=>sp 2 hf rfl fun a hf=>zT h ?_
   refine wp_ret ?_
   refine bB ?_
   refine aH ?_
   refine aH ?_
   have he:=sj hF
   rw [← he] at B
   replace hF:=R _ B
   refine bB ?_
   refine aH ?_
   obtain rfl:=hF
   exact zO1 Tryz.results97 hf rfl ⟨rfl,hc⟩
  ·refine wp_skip ?_
   refine h8 _ _ ?_
   refine bW ?_
   refine sp 2 hf rfl fun a hf=>aL ?_
   exact U (W (x + 1)) _ _ (sj hF).symm ⟨hf.kp rfl,hc⟩
 ·refine wp_exit ?_
  refine aN ?_
  refine aN ?_
  have he:=sj hF
  rw [← he] at B
  refine cT ?_
  exact X _ _ _ B ⟨hf.kp rfl,hc⟩

def iJ (N:Nat) (s_:List Int):Option (Bool) :=
 Option.bind (jU N s_) fun r=>
 some (decide (0≤r))
theorem oY {N:Nat} {G:aQ} {Lf:List Ent} {w:World} (s_:List Int) {B:Option Addr} {D:Nat} {b_:Nat} (I:Rd G 1 B D (s_.map aD)) (hc:Ctx G (.box b_ [.func (.func 88) #[] #[]] 143::Lf) w) {H:Bool} (hF:iJ N s_=some H):Calls Tryz.prog 113 #[.slice B s_.length D,.func (.func 157) #[] #[pq b_]] w (fun e w=>e=.returned (.bool H)∧Ctx G (.box b_ [.func (.func 88) #[] #[]] 143::Lf) w):=by
 unfold iJ at hF
 refine bN Tryz.func113 rfl Tryz.ntmps113 rfl fun a hf=>zS fun K h=>sp 1 hf rfl fun a hf=>zT h ?_
 refine zS fun K h=>sp 2 hf rfl fun a hf=>?_
 obtain ⟨r,hr,hF⟩:=aA hF
 refine zQ (v:=i6 r) hf hc aDn rfl (fun w hc=>(qR s_ I (hc.pick k0) hr).mono fun e w h=>⟨h.1,(h.2.unpick k0)⟩) fun a w hf hc=>sp 2 hf rfl fun a hf=>zT h ?_
 refine wp_ret ?_
 obtain rfl:=sj hF
 exact zO1 Tryz.results113 hf rfl ⟨rfl,hc⟩

def pV (N:Nat) (l:List Int):Option (Bool) :=
 Option.bind (iJ N l) fun r=>
 some (!r)
theorem wI {N:Nat} {G:aQ} {Lf:List Ent} {w:World} (l:List Int) {D:Option Addr} {B:Nat} (J:Rd G 1 D B (l.map aD)) (hc:Ctx G (Lf) w) {H:Bool} (hF:pV N l=some H):Calls Tryz.prog 87 #[.slice D l.length B,.func (.func 88) #[] #[]] w (fun e w=>e=.returned (.bool H)∧Ctx G (Lf) w):=by
 unfold pV at hF
 refine bN Tryz.func87 rfl Tryz.ntmps87 rfl fun a hf=>zS fun K h=>zB hf hc rfl fun I a w hf hc=>sp 1 hf rfl fun a hf=>zT h ?_
 refine zS fun K h=>sp 1 hf rfl fun a hf=>zP hf rfl (pMF (us:=[pq I]) rfl rfl) fun a hf=>?_
 obtain ⟨r,hr,hF⟩:=aA hF
 refine zQ (v:=.bool r) hf hc aCr rfl (fun w hc=>(oY l J (hc.pick k0) hr).mono fun e w h=>⟨h.1,(h.2.unpick k0)⟩) fun a w hf hc=>sp 2 hf rfl fun a hf=>zT h ?_
 refine wp_ret ?_
 obtain rfl:=sj hF
 replace hc:=hc.drop k0
 exact zO1 Tryz.results87 hf rfl ⟨rfl,hc⟩

def yJ (N:Nat) (p_:vB) (l:List Int) (out:Int) (x:Int):Option (bK (Int × Int) (Int × Int)) :=
 cond (decide (x < ((l.length:Nat):Int)))
 (Option.bind (aU l x) fun B=>
 some (.cont (W (out + (W (p_.Rate * (W ((W (1000 * B)) + (W (p_.Extra * (max 0 (W (B - p_.Normal)))))))))),W (x + 1))))
 (some (.brk (out,x)))
def aBj (N:Nat) (p_:vB) (l:List Int):Option (Int × Int) :=
 cond (((!(aE p_.Rate 0 10000)) || (!(aE p_.Normal 0 1440))) || (!(aE p_.Extra 0 1000)))
 (some (0,120))
 (cond (decide (366 < ((l.length:Nat):Int)))
 (some (0,3))
 (Option.bind (pV N l) fun r=>
 cond (!r)
 (some (0,4))
 (Option.bind (aS (fun B=>yJ N p_ l B.1 B.2) N (0,0)) fun D=>
 exK D (fun B=>some (W ((W (B.1 + 59999)).tdiv 60000),0)) some)))
theorem aE0 {N:Nat} {G:aQ} {Lf:List Ent} {w:World} (p_:vB) (l:List Int) {I:Option Addr} {H:Nat} (R:Rd G 1 I H (l.map aD)) (hc:Ctx G (Lf) w) {J:Int × Int} (hF:aBj N p_ l=some J):Calls Tryz.prog 26 #[.agg #[i6 p_.Rate,i6 p_.Normal,i6 p_.Extra],.slice I l.length H] w (fun e w=>e=.returned (.tuple #[i6 J.1,i6 J.2])∧Ctx G (Lf) w):=by
 unfold aBj at hF
 refine bN Tryz.func26 rfl Tryz.ntmps26 rfl fun a hf=>zS fun K h=>zB hf hc rfl fun B a w hf hc=>sp 2 hf rfl fun a hf=>zT h ?_
 refine wp_seq_k fun K2 h2=>wp_block ?_
 refine zS fun K h=>zP hf rfl (pFA aIo rfl) fun a hf=>zL hf hc bG m0 rfl fun a w hf hc=>zQ (v:=.bool (aE p_.Rate 0 10000)) hf hc nZ rfl (fun w hc=>cU p_.Rate 0 10000 hc rfl) fun a w hf hc=>sp 2 hf rfl fun a hf=>fV 5 (fun a=>Has 60 a [(1,.slice I l.length H),(2,pq B),(10,pq B),(11,i6 p_.Rate),(12,.bool (aE p_.Rate 0 10000)),(13,.bool (!(aE p_.Rate 0 10000))),(14,.bool (!(aE p_.Rate 0 10000))),(19,.bool ((!(aE p_.Rate 0 10000)) || (!(aE p_.Normal 0 1440))))]) hc ?_ ?_
 ·cases hb:(!(aE p_.Rate 0 10000))
  ·rw [hb] at hf
   refine zP hf rfl (pFA aIl rfl) fun a hf=>zL hf hc bG m0 rfl fun a w hf hc=>zQ (v:=.bool (aE p_.Normal 0 1440)) hf hc nZ rfl (fun w hc=>cU p_.Normal 0 1440 hc rfl) fun a w hf hc=>sp 2 hf rfl fun a hf=>aL ⟨hf.kp rfl,hc⟩
  ·rw [hb] at hf
   refine stS hf rfl rfl rfl fun a hf=>stS hf rfl rfl rfl fun a hf=>stS hf rfl rfl rfl fun a hf=>stS hf rfl rfl rfl fun a hf=>sp 1 hf rfl fun a hf=>aL ⟨hf.kp rfl,hc⟩
 intro a w ⟨hf,hc⟩
 refine sp 1 hf rfl fun a hf=>fV 5 (fun a=>Has 60 a [(1,.slice I l.length H),(2,pq B),(10,pq B),(11,i6 p_.Rate),(12,.bool (aE p_.Rate 0 10000)),(13,.bool (!(aE p_.Rate 0 10000))),(14,.bool (!(aE p_.Rate 0 10000))),(19,.bool ((!(aE p_.Rate 0 10000)) || (!(aE p_.Normal 0 1440)))),(20,.bool ((!(aE p_.Rate 0 10000)) || (!(aE p_.Normal 0 1440)))),(25,.bool (((!(aE p_.Rate 0 10000)) || (!(aE p_.Normal 0 1440))) || (!(aE p_.Extra 0 1000))))]) hc ?_ ?_
 ·cases hb:((!(aE p_.Rate 0 10000)) || (!(aE p_.Normal 0 1440)))
  ·rw [hb] at hf
   refine zP hf rfl (pFA aHe rfl) fun a hf=>zL hf hc bG m0 rfl fun a w hf hc=>zQ (v:=.bool (aE p_.Extra 0 1000)) hf hc nZ rfl (fun w hc=>cU p_.Extra 0 1000 hc rfl) fun a w hf hc=>sp 2 hf rfl fun a hf=>aL ⟨hf.kp rfl,hc⟩
  ·rw [hb] at hf
   refine stS hf rfl rfl rfl fun a hf=>stS hf rfl rfl rfl fun a hf=>stS hf rfl rfl rfl fun a hf=>stS hf rfl rfl rfl fun a hf=>sp 1 hf rfl fun a hf=>aL ⟨hf.kp rfl,hc⟩
 intro a w ⟨hf,hc⟩
 refine sp 1 hf rfl fun a hf=>zT h ?_
 refine zI hf rfl hF ?_ ?_ <;> clear hF <;> intro hF
 ·refine zS fun K h=>sp 2 hf rfl fun a hf=>zT h ?_
  refine wp_ret ?_
  refine bB ?_
  refine aH ?_
  obtain rfl:=sj hF
  replace hc:=hc.drop k0
  exact zO2 Tryz.results26 hf rfl rfl ⟨rfl,hc⟩
 ·refine zS fun K h=>sp 1 hf rfl fun a hf=>zP hf rfl (aW Tryz.underlying25 rfl) fun a hf=>sp 2 hf rfl fun a hf=>zT h ?_
  refine zI hf rfl hF ?_ ?_ <;> clear hF <;> intro hF
  ·refine zS fun K h=>sp 2 hf rfl fun a hf=>zT h ?_
   refine wp_ret ?_
   refine bB ?_
   refine aH ?_
   obtain rfl:=sj hF
   replace hc:=hc.drop k0
   exact zO2 Tryz.results26 hf rfl rfl ⟨rfl,hc⟩
  ·refine zS fun K h=>sp 1 hf rfl fun a hf=>?_
   obtain ⟨r,hr,hF⟩:=aA hF
   refine zQ (v:=.bool r) hf hc aFi rfl (fun w hc=>wI l R hc hr) fun a w hf hc=>sp 2 hf rfl fun a hf=>zT h ?_
   refine zI hf rfl hF ?_ ?_ <;> clear hF <;> intro hF
   ·refine zS fun K h=>sp 2 hf rfl fun a hf=>zT h ?_
    refine wp_ret ?_
    refine bB ?_
    refine aH ?_
    obtain rfl:=sj hF
    replace hc:=hc.drop k0
    exact zO2 Tryz.results26 hf rfl rfl ⟨rfl,hc⟩
   ·refine wp_skip ?_
    refine h2 _ _ ?_
    refine zS fun K h=>sp 1 hf rfl fun a hf=>zT h ?_
    refine wp_seq_k fun K10 d=>zS fun K h=>sp 1 hf rfl fun a hf=>zP hf rfl (aW Tryz.underlying25 rfl) fun a hf=>sp 1 hf rfl fun a hf=>zT h ?_
    refine wp_block ?_
    obtain ⟨M,U,hF⟩:=aA hF
    let S12:(Int × Int)→Act→World→Prop:=(fun (zz:Int × Int) a w=>Has 60 a [(2,pq B),(6,i6 zz.1),(34,.slice I l.length H),(35,i6 ((l.length:Nat):Int)),(36,i6 zz.2)]∧Ctx G (.box B [i6 p_.Rate,i6 p_.Normal,i6 p_.Extra] 24::Lf) w)
    have V:∀ (zz:Int × Int) a w,M=.go zz→S12 zz a w→K10 a w:=by
     rintro ⟨out,x⟩ a w rfl ⟨hf,hc⟩
     replace hF:=bH hF
     refine d _ _ ?_
     refine zS fun K h=>sp 2 hf rfl fun a hf=>zP hf rfl (pQuo rfl rfl (by decide)) fun a hf=>sp 2 hf rfl fun a hf=>zT h ?_
     refine wp_ret ?_
     obtain rfl:=sj hF
     replace hc:=hc.drop k0
     exact zO2 Tryz.results26 hf rfl rfl ⟨rfl,hc⟩
    have g:∀ r,M=.out r→r=J:=by
     rintro r rfl
     exact sj hF
    refine bY N (bX (S:=S12) (x:=M) ?_ N (0,0) _ _ ⟨hf.kp rfl,hc⟩ U)
    clear hF hf hc
    rintro ⟨out,x⟩ i a w KB12 ⟨hf,hc⟩ hF D Y
    unfold yJ at hF
    refine zS fun K h=>sp 1 hf rfl fun a hf=>zT h ?_
    refine wp_seq_k fun K15 Z=>zI hf rfl hF ?_ ?_ <;> clear hF <;> intro hF
    ·refine wp_skip ?_
     refine Z _ _ ?_
     refine wp_seq_k fun K16 b=>wp_block ?_
     refine zS fun K h=>?_
     obtain ⟨O,X,hF⟩:=aA hF
     obtain ⟨k,o,qa,qp⟩:=R.atm X
     refine zP hf rfl (pIA Tryz.underlying25 eH rfl rfl qa) fun a hf=>zE hf hc rfl (bF bG rfl (aR (j:=0) qp rfl)) fun a w hf hc=>sp 1 hf rfl fun a hf=>zT h ?_
     refine bW ?_
     refine sp 1 hf rfl fun a hf=>zP hf rfl (pFA aIo rfl) fun a hf=>zL hf hc bG m0 rfl fun a w hf hc=>sp 2 hf rfl fun a hf=>zP hf rfl (pFA aHe rfl) fun a hf=>zL hf hc bG m0 rfl fun a w hf hc=>sp 1 hf rfl fun a hf=>zP hf rfl (pFA aIl rfl) fun a hf=>zL hf hc bG m0 rfl fun a w hf hc=>sp 1 hf rfl fun a hf=>zP hf rfl (aH9 rfl rfl) fun a hf=>sp 5 hf rfl fun a hf=>aL ?_
     refine b _ _ ?_
     refine bW ?_
     refine sp 2 hf rfl fun a hf=>aL ?_
     exact Y (W (out + (W (p_.Rate * (W ((W (1000 * O)) + (W (p_.Extra * (max 0 (W (O - p_.Normal)))))))))),W (x + 1)) _ _ (sj hF).symm ⟨hf.kp rfl,hc⟩
    ·refine wp_exit ?_
     refine aN ?_
     refine aN ?_
     have he:=sj hF
     rw [← he] at D
     refine cT ?_
     exact V _ _ _ D ⟨hf.kp rfl,hc⟩

def lK (N:Nat)  : Option (Bool) :=
 Option.bind (uT N) fun r=>
 Option.bind (lI N r) fun X=>
 Option.bind (uT N) fun p=>
 Option.bind (kD N p ([0,1]:List Int)) fun S=>
 Option.bind (uT N) fun m=>
 Option.bind (mS N m ([(⟨0,0⟩:aC)]:List aC)) fun Y=>
 Option.bind (tB N 70) fun n=>
 Option.bind (vI N 0 n) fun V=>
 Option.bind (tB N 70) fun k=>
 Option.bind (aA3 N 0 k) fun R=>
 Option.bind (cond (((((X.2 != 0) || (S.2 != 0)) || (Y.2 != 0)) || (V.2 != 0)) || (R.2.2 != 0)) (some true) (Option.bind (gG N X.1 ([1,0]:List Int)) fun Z=>
 some (!Z))) fun o=>
 Option.bind (cond ((o || (!(S.1.Person == 1 && S.1.Station == 0))) || (!Y.1)) (some true) (Option.bind (pO N V.1 ([(⟨35,40⟩:aX),(⟨65,75⟩:aX)]:List aX)) fun i=>
 some (!i))) fun q=>
 cond ((q || (R.1 != 1)) || (R.2.1 != (-1)))
 (some false)
 (Option.bind (tB N 80) fun g=>
 Option.bind (xA N g) fun I=>
 Option.bind (qW N) fun d=>
 Option.bind (aAx N d 5) fun D=>
 Option.bind (qW N) fun b=>
 Option.bind (rN N b) fun B=>
 Option.bind (qW N) fun H=>
 Option.bind (mX N 90 90) fun U=>
 Option.bind (room ((H.Rides++[(⟨5,5,U⟩:aI)])).length) fun un=>
 Option.bind (zH N (⟨H.Car,H.Wide,H.Sag,H.Most,(H.Rides++[(⟨5,5,U⟩:aI)])⟩:aO)) fun O=>
 Option.bind (aBj N (⟨600,480,500⟩:vB) ([481]:List Int)) fun J=>
 Option.bind (cond ((((((I.2 == 0) && (D.2 == 0)) && (B.2.2 == 0)) && (O.2 == 0)) && (J.2 == 0)) && (I.1 == 5)) (mX N 290 320) (some (⟨0,0⟩:aX))) fun M=>
 Option.bind (cond (((((((((I.2 == 0) && (D.2 == 0)) && (B.2.2 == 0)) && (O.2 == 0)) && (J.2 == 0)) && (I.1 == 5)) && (D.1.Lo == M.Lo && D.1.Hi == M.Hi)) && (B.1 == 5)) && (B.2.1 == (-1))) (gG N O.1 ([0,10,15]:List Int)) (some false)) fun j=>
 some (((((((((((I.2 == 0) && (D.2 == 0)) && (B.2.2 == 0)) && (O.2 == 0)) && (J.2 == 0)) && (I.1 == 5)) && (D.1.Lo == M.Lo && D.1.Hi == M.Hi)) && (B.1 == 5)) && (B.2.1 == (-1))) && j) && (J.1 == 4815)))
theorem qF {N:Nat} {G:aQ} {Lf:List Ent} {w:World}    (hc:Ctx G (Lf) w) {bv:Bool} (hF:lK N=some bv):Calls Tryz.prog 15 #[] w (fun e w=>e=.returned (.bool bv)∧Ctx G (Lf) w):=by
 unfold lK at hF
 refine bN Tryz.func15 rfl Tryz.ntmps15 rfl fun a hf=>zS fun K h=>sp 1 hf rfl fun a hf=>zT h ?_
 refine zS fun K h=>?_
 obtain ⟨r,hr,hF⟩:=aA hF
 refine zC hf aKv rfl (vO hc hr) ?_
 rintro _ w ⟨d6,dq,d1,dd,rfl,hc⟩
 refine ⟨_,rfl,fun a hf=>?_⟩
 obtain ⟨J,cb,hF⟩:=aA hF
 obtain ⟨G1,j,Z,hc,d⟩:=lV oC hc k0 k0
 obtain ⟨G2,m,n,hc,k⟩:=lV rJ hc k0 k0
 refine zC hf aM2 rfl (wL r (Z.mono m) n hc cb) ?_
 rintro _ w ⟨ab,z,rfl,hc⟩
 refine ⟨_,rfl,fun a hf=>?_⟩
 replace hc:=k _ _ hc
 replace hc:=d _ _ hc
 refine sp 5 hf rfl fun a hf=>zT h ?_
 refine wp_seq_k fun K3 h3=>bW ?_
 obtain ⟨dc,cd,hF⟩:=aA hF
 refine zC hf aKv rfl (vO hc cd) ?_
 rintro _ w ⟨du,df,dy,di,rfl,hc⟩
 refine ⟨_,rfl,fun a hf=>?_⟩
 refine nU (rows:=([0,1]:List Int).map aD) (vs:=[(0,i6 0),(1,i6 1)]) hf hc rfl rfl jO rfl ⟨rfl,rfl,rfl,rfl,rfl,rfl,trivial⟩ rfl rfl fun dv a w hf hc=>?_
 obtain ⟨M,ci,hF⟩:=aA hF
 refine zQ (v:=.tuple #[.agg #[i6 M.1.Person,i6 M.1.Station],i6 M.2]) hf hc aMs rfl (fun w hc=>by obtain ⟨G1,j,Z,hc,d⟩:=lV oC hc k1 k1; obtain ⟨G2,m,n,hc,k⟩:=lV rJ hc k1 k1; obtain ⟨G3,ar,az,hc,a0⟩:=lend hc k0; exact (xH dc ([0,1]:List Int) ((Z.mono m).mono ar) (n.mono ar) az hc ci).mono fun e w h=>⟨h.1,(jM (d _ _ (jM (k _ _ ((a0 _ _ h.2).unpick k0)) k1 k1)) k1 k1)⟩) fun a w hf hc=>sp 3 hf rfl fun a hf=>zA hf hc yL rfl fun aa a w hf hc=>zW hf hc lJ u0 rfl fun w hc=>sp 1 hf rfl fun a hf=>aL ?_
 replace hc:=((((((((hc.drop k9).drop k8).drop k7).drop k6).drop k5).drop k4).drop k3).drop k2).drop k1
 refine h3 _ _ ?_
 refine zS fun K h=>?_
 obtain ⟨cv,cm,hF⟩:=aA hF
 refine zC hf aKv rfl (vO hc cm) ?_
 rintro _ w ⟨dz,dj,dx,dg,rfl,hc⟩
 refine ⟨_,rfl,fun a hf=>?_⟩
 refine zP hf rfl (cK (cells:=[i6 0,i6 0]) uW rfl rfl) fun a hf=>nU (rows:=([(⟨0,0⟩:aC)]:List aC).map aF) (vs:=[(0,.agg #[i6 0,i6 0])]) hf hc rfl rfl aIa rfl ⟨rfl,rfl,rfl,trivial⟩ rfl rfl fun dt a w hf hc=>?_
 obtain ⟨S,cc,hF⟩:=aA hF
 refine zQ (v:=.tuple #[.bool S.1,i6 S.2]) hf hc aMw rfl (fun w hc=>by obtain ⟨G1,j,Z,hc,d⟩:=lV oC hc k1 k1; obtain ⟨G2,m,n,hc,k⟩:=lV rJ hc k1 k1; obtain ⟨G3,ar,az,hc,a0⟩:=lend hc k0; exact (yI cv ([(⟨0,0⟩:aC)]:List aC) ((Z.mono m).mono ar) (n.mono ar) az hc cc).mono fun e w h=>⟨h.1,(jM (d _ _ (jM (k _ _ ((a0 _ _ h.2).unpick k0)) k1 k1)) k1 k1)⟩) fun a w hf hc=>sp 5 hf rfl fun a hf=>zT h ?_
 refine wp_seq_k fun K5 h5=>bW ?_
 obtain ⟨c2,cs,hF⟩:=aA hF
 refine zC hf aLp rfl (uL 70 hc cs) ?_
 rintro _ w ⟨d7,d0,rfl,hc⟩
 refine ⟨_,rfl,fun a hf=>?_⟩
 obtain ⟨X,ca,hF⟩:=aA hF
 obtain ⟨G1,j,Z,hc,d⟩:=lend hc k0
 refine zC hf aMt rfl (yG 0 c2 Z hc ca) ?_
 rintro _ w ⟨y,x,rfl,hc⟩
 refine ⟨_,rfl,fun a hf=>?_⟩
 replace hc:=d _ _ hc
 refine sp 5 hf rfl fun a hf=>aL ?_
 replace hc:=(((((hc.drop k6).drop k5).drop k4).drop k3).drop k2).drop k0
 refine h5 _ _ ?_
 refine zS fun K h=>?_
 obtain ⟨ct,cp,hF⟩:=aA hF
 refine zC hf aLp rfl (uL 70 hc cp) ?_
 rintro _ w ⟨dn,d2,rfl,hc⟩
 refine ⟨_,rfl,fun a hf=>?_⟩
 obtain ⟨U,cg,hF⟩:=aA hF
 refine zQ (v:=.tuple #[i6 U.1,i6 U.2.1,i6 U.2.2]) hf hc en_22 rfl (fun w hc=>by obtain ⟨G1,j,Z,hc,d⟩:=lend hc k0; exact (aE1 0 ct Z hc cg).mono fun e w h=>⟨h.1,((d _ _ h.2).unpick k0)⟩) fun a w hf hc=>sp 7 hf rfl fun a hf=>zT h ?_
 refine wp_seq_k fun K7 h7=>zS fun K h=>sp 3 hf rfl fun a hf=>fV 3 (fun a=>Has 174 a [(1,.slice ab J.1.length z),(2,i6 J.2),(3,pq aa),(4,i6 M.2),(5,.bool S.1),(6,i6 S.2),(7,.slice y X.1.length x),(8,i6 X.2),(9,i6 U.1),(10,i6 U.2.1),(11,i6 U.2.2),(46,i6 J.2),(47,.bool (J.2 != 0)),(48,.bool (J.2 != 0)),(51,.bool ((J.2 != 0) || (M.2 != 0)))]) hc ?_ ?_
 ·cases hb:(J.2 != 0)
  ·rw [hb] at hf
   refine sp 3 hf rfl fun a hf=>aL ⟨hf.kp rfl,hc⟩
  ·rw [hb] at hf
   refine stS hf rfl rfl rfl fun a hf=>stS hf rfl rfl rfl fun a hf=>sp 1 hf rfl fun a hf=>aL ⟨hf.kp rfl,hc⟩
 intro a w ⟨hf,hc⟩
 refine sp 1 hf rfl fun a hf=>fV 3 (fun a=>Has 174 a [(1,.slice ab J.1.length z),(2,i6 J.2),(3,pq aa),(4,i6 M.2),(5,.bool S.1),(6,i6 S.2),(7,.slice y X.1.length x),(8,i6 X.2),(9,i6 U.1),(10,i6 U.2.1),(11,i6 U.2.2),(46,i6 J.2),(47,.bool (J.2 != 0)),(48,.bool (J.2 != 0)),(51,.bool ((J.2 != 0) || (M.2 != 0))),(52,.bool ((J.2 != 0) || (M.2 != 0))),(55,.bool (((J.2 != 0) || (M.2 != 0)) || (S.2 != 0)))]) hc ?_ ?_
 ·cases hb:((J.2 != 0) || (M.2 != 0))
  ·rw [hb] at hf
   refine sp 3 hf rfl fun a hf=>aL ⟨hf.kp rfl,hc⟩
  ·rw [hb] at hf
   refine stS hf rfl rfl rfl fun a hf=>stS hf rfl rfl rfl fun a hf=>sp 1 hf rfl fun a hf=>aL ⟨hf.kp rfl,hc⟩
 intro a w ⟨hf,hc⟩
 refine sp 1 hf rfl fun a hf=>fV 3 (fun a=>Has 174 a [(1,.slice ab J.1.length z),(2,i6 J.2),(3,pq aa),(4,i6 M.2),(5,.bool S.1),(6,i6 S.2),(7,.slice y X.1.length x),(8,i6 X.2),(9,i6 U.1),(10,i6 U.2.1),(11,i6 U.2.2),(46,i6 J.2),(47,.bool (J.2 != 0)),(48,.bool (J.2 != 0)),(51,.bool ((J.2 != 0) || (M.2 != 0))),(52,.bool ((J.2 != 0) || (M.2 != 0))),(55,.bool (((J.2 != 0) || (M.2 != 0)) || (S.2 != 0))),(56,.bool (((J.2 != 0) || (M.2 != 0)) || (S.2 != 0))),(59,.bool ((((J.2 != 0) || (M.2 != 0)) || (S.2 != 0)) || (X.2 != 0)))]) hc ?_ ?_
 ·cases hb:(((J.2 != 0) || (M.2 != 0)) || (S.2 != 0))
  ·rw [hb] at hf
   refine sp 3 hf rfl fun a hf=>aL ⟨hf.kp rfl,hc⟩
  ·rw [hb] at hf
   refine stS hf rfl rfl rfl fun a hf=>stS hf rfl rfl rfl fun a hf=>sp 1 hf rfl fun a hf=>aL ⟨hf.kp rfl,hc⟩
 intro a w ⟨hf,hc⟩
 refine sp 1 hf rfl fun a hf=>fV 3 (fun a=>Has 174 a [(1,.slice ab J.1.length z),(2,i6 J.2),(3,pq aa),(4,i6 M.2),(5,.bool S.1),(6,i6 S.2),(7,.slice y X.1.length x),(8,i6 X.2),(9,i6 U.1),(10,i6 U.2.1),(11,i6 U.2.2),(46,i6 J.2),(47,.bool (J.2 != 0)),(48,.bool (J.2 != 0)),(51,.bool ((J.2 != 0) || (M.2 != 0))),(52,.bool ((J.2 != 0) || (M.2 != 0))),(55,.bool (((J.2 != 0) || (M.2 != 0)) || (S.2 != 0))),(56,.bool (((J.2 != 0) || (M.2 != 0)) || (S.2 != 0))),(59,.bool ((((J.2 != 0) || (M.2 != 0)) || (S.2 != 0)) || (X.2 != 0))),(60,.bool ((((J.2 != 0) || (M.2 != 0)) || (S.2 != 0)) || (X.2 != 0))),(63,.bool (((((J.2 != 0) || (M.2 != 0)) || (S.2 != 0)) || (X.2 != 0)) || (U.2.2 != 0)))]) hc ?_ ?_
 ·cases hb:((((J.2 != 0) || (M.2 != 0)) || (S.2 != 0)) || (X.2 != 0))
  ·rw [hb] at hf
   refine sp 3 hf rfl fun a hf=>aL ⟨hf.kp rfl,hc⟩
  ·rw [hb] at hf
   refine stS hf rfl rfl rfl fun a hf=>stS hf rfl rfl rfl fun a hf=>sp 1 hf rfl fun a hf=>aL ⟨hf.kp rfl,hc⟩
 intro a w ⟨hf,hc⟩
 refine sp 1 hf rfl fun a hf=>?_
 obtain ⟨g,a6,hF⟩:=aA hF
 refine fV 5 (fun a=>Has 174 a [(1,.slice ab J.1.length z),(2,i6 J.2),(3,pq aa),(4,i6 M.2),(5,.bool S.1),(6,i6 S.2),(7,.slice y X.1.length x),(8,i6 X.2),(9,i6 U.1),(10,i6 U.2.1),(11,i6 U.2.2),(46,i6 J.2),(47,.bool (J.2 != 0)),(48,.bool (J.2 != 0)),(51,.bool ((J.2 != 0) || (M.2 != 0))),(52,.bool ((J.2 != 0) || (M.2 != 0))),(55,.bool (((J.2 != 0) || (M.2 != 0)) || (S.2 != 0))),(56,.bool (((J.2 != 0) || (M.2 != 0)) || (S.2 != 0))),(59,.bool ((((J.2 != 0) || (M.2 != 0)) || (S.2 != 0)) || (X.2 != 0))),(60,.bool ((((J.2 != 0) || (M.2 != 0)) || (S.2 != 0)) || (X.2 != 0))),(63,.bool (((((J.2 != 0) || (M.2 != 0)) || (S.2 != 0)) || (X.2 != 0)) || (U.2.2 != 0))),(64,.bool (((((J.2 != 0) || (M.2 != 0)) || (S.2 != 0)) || (X.2 != 0)) || (U.2.2 != 0))),(69,.bool g)]) hc ?_ ?_
 ·cases hb:(((((J.2 != 0) || (M.2 != 0)) || (S.2 != 0)) || (X.2 != 0)) || (U.2.2 != 0))
  ·rw [hb] at hf
   have hF:=gN hb a6
   refine sp 1 hf rfl fun a hf=>nU (rows:=([1,0]:List Int).map aD) (vs:=[(0,i6 1),(1,i6 0)]) hf hc rfl rfl jO rfl ⟨rfl,rfl,rfl,rfl,rfl,rfl,trivial⟩ rfl rfl fun d4 a w hf hc=>?_
   obtain ⟨cn,bb,hF⟩:=aA hF
   refine zQ (v:=.bool cn) hf hc aD2 rfl (fun w hc=>by obtain ⟨G1,j,Z,hc,d⟩:=lend hc k4; obtain ⟨G2,m,n,hc,k⟩:=lend hc k0; exact (lB J.1 ([1,0]:List Int) (Z.mono m) n hc bb).mono fun e w h=>⟨h.1,((d _ _ ((k _ _ h.2).unpick k0)).unpick k4)⟩) fun a w hf hc=>sp 2 hf rfl fun a hf=>?_
   replace hc:=hc.drop k0
   obtain rfl:=sj hF
   exact aL ⟨hf.kp rfl,hc⟩
  ·rw [hb] at hf
   have hF:=fU hb a6
   obtain rfl:=sj hF
   refine stS hf rfl rfl rfl fun a hf=>stS hf rfl rfl rfl fun a hf=>stS hf rfl rfl rfl fun a hf=>stS hf rfl rfl rfl fun a hf=>sp 1 hf rfl fun a hf=>aL ⟨hf.kp rfl,hc⟩
 intro a w ⟨hf,hc⟩
 refine sp 1 hf rfl fun a hf=>fV 4 (fun a=>Has 174 a [(1,.slice ab J.1.length z),(2,i6 J.2),(3,pq aa),(4,i6 M.2),(5,.bool S.1),(6,i6 S.2),(7,.slice y X.1.length x),(8,i6 X.2),(9,i6 U.1),(10,i6 U.2.1),(11,i6 U.2.2),(46,i6 J.2),(47,.bool (J.2 != 0)),(48,.bool (J.2 != 0)),(51,.bool ((J.2 != 0) || (M.2 != 0))),(52,.bool ((J.2 != 0) || (M.2 != 0))),(55,.bool (((J.2 != 0) || (M.2 != 0)) || (S.2 != 0))),(56,.bool (((J.2 != 0) || (M.2 != 0)) || (S.2 != 0))),(59,.bool ((((J.2 != 0) || (M.2 != 0)) || (S.2 != 0)) || (X.2 != 0))),(60,.bool ((((J.2 != 0) || (M.2 != 0)) || (S.2 != 0)) || (X.2 != 0))),(63,.bool (((((J.2 != 0) || (M.2 != 0)) || (S.2 != 0)) || (X.2 != 0)) || (U.2.2 != 0))),(64,.bool (((((J.2 != 0) || (M.2 != 0)) || (S.2 != 0)) || (X.2 != 0)) || (U.2.2 != 0))),(69,.bool g),(70,.bool g),(74,.bool (g || (!(M.1.Person == 1 && M.1.Station == 0))))]) hc ?_ ?_
 ·cases hb:g
  ·rw [hb] at hf
   try rw [hb] at hc
   refine zN hf hc lM m2 rfl fun a w hf hc=>zP hf rfl (cK (cells:=[i6 1,i6 0]) uW rfl rfl) fun a hf=>zP hf rfl (pNeA aFm rfl rfl (aCz _ _ _ _)) fun a hf=>sp 1 hf rfl fun a hf=>aL ⟨hf.kp rfl,hc⟩
  ·rw [hb] at hf
   try rw [hb] at hc
   refine stS hf rfl rfl rfl fun a hf=>stS hf rfl rfl rfl fun a hf=>stS hf rfl rfl rfl fun a hf=>sp 1 hf rfl fun a hf=>aL ⟨hf.kp rfl,hc⟩
 intro a w ⟨hf,hc⟩
 refine sp 1 hf rfl fun a hf=>fV 3 (fun a=>Has 174 a [(1,.slice ab J.1.length z),(2,i6 J.2),(3,pq aa),(4,i6 M.2),(5,.bool S.1),(6,i6 S.2),(7,.slice y X.1.length x),(8,i6 X.2),(9,i6 U.1),(10,i6 U.2.1),(11,i6 U.2.2),(46,i6 J.2),(47,.bool (J.2 != 0)),(48,.bool (J.2 != 0)),(51,.bool ((J.2 != 0) || (M.2 != 0))),(52,.bool ((J.2 != 0) || (M.2 != 0))),(55,.bool (((J.2 != 0) || (M.2 != 0)) || (S.2 != 0))),(56,.bool (((J.2 != 0) || (M.2 != 0)) || (S.2 != 0))),(59,.bool ((((J.2 != 0) || (M.2 != 0)) || (S.2 != 0)) || (X.2 != 0))),(60,.bool ((((J.2 != 0) || (M.2 != 0)) || (S.2 != 0)) || (X.2 != 0))),(63,.bool (((((J.2 != 0) || (M.2 != 0)) || (S.2 != 0)) || (X.2 != 0)) || (U.2.2 != 0))),(64,.bool (((((J.2 != 0) || (M.2 != 0)) || (S.2 != 0)) || (X.2 != 0)) || (U.2.2 != 0))),(69,.bool g),(70,.bool g),(74,.bool (g || (!(M.1.Person == 1 && M.1.Station == 0)))),(75,.bool (g || (!(M.1.Person == 1 && M.1.Station == 0)))),(78,.bool ((g || (!(M.1.Person == 1 && M.1.Station == 0))) || (!S.1)))]) hc ?_ ?_
 ·cases hb:(g || (!(M.1.Person == 1 && M.1.Station == 0)))
  ·rw [hb] at hf
   refine sp 3 hf rfl fun a hf=>aL ⟨hf.kp rfl,hc⟩
  ·rw [hb] at hf
   refine stS hf rfl rfl rfl fun a hf=>stS hf rfl rfl rfl fun a hf=>sp 1 hf rfl fun a hf=>aL ⟨hf.kp rfl,hc⟩
 intro a w ⟨hf,hc⟩
 refine sp 1 hf rfl fun a hf=>?_
 obtain ⟨s,a4,hF⟩:=aA hF
 refine fV 7 (fun a=>Has 174 a [(1,.slice ab J.1.length z),(2,i6 J.2),(3,pq aa),(4,i6 M.2),(5,.bool S.1),(6,i6 S.2),(7,.slice y X.1.length x),(8,i6 X.2),(9,i6 U.1),(10,i6 U.2.1),(11,i6 U.2.2),(46,i6 J.2),(47,.bool (J.2 != 0)),(48,.bool (J.2 != 0)),(51,.bool ((J.2 != 0) || (M.2 != 0))),(52,.bool ((J.2 != 0) || (M.2 != 0))),(55,.bool (((J.2 != 0) || (M.2 != 0)) || (S.2 != 0))),(56,.bool (((J.2 != 0) || (M.2 != 0)) || (S.2 != 0))),(59,.bool ((((J.2 != 0) || (M.2 != 0)) || (S.2 != 0)) || (X.2 != 0))),(60,.bool ((((J.2 != 0) || (M.2 != 0)) || (S.2 != 0)) || (X.2 != 0))),(63,.bool (((((J.2 != 0) || (M.2 != 0)) || (S.2 != 0)) || (X.2 != 0)) || (U.2.2 != 0))),(64,.bool (((((J.2 != 0) || (M.2 != 0)) || (S.2 != 0)) || (X.2 != 0)) || (U.2.2 != 0))),(69,.bool g),(70,.bool g),(74,.bool (g || (!(M.1.Person == 1 && M.1.Station == 0)))),(75,.bool (g || (!(M.1.Person == 1 && M.1.Station == 0)))),(78,.bool ((g || (!(M.1.Person == 1 && M.1.Station == 0))) || (!S.1))),(79,.bool ((g || (!(M.1.Person == 1 && M.1.Station == 0))) || (!S.1))),(86,.bool s)]) hc ?_ ?_
 ·cases hb:((g || (!(M.1.Person == 1 && M.1.Station == 0))) || (!S.1))
  ·rw [hb] at hf
   have hF:=gN hb a4
   refine sp 1 hf rfl fun a hf=>zP hf rfl (cK (cells:=[i6 35,i6 40]) aDm rfl rfl) fun a hf=>zP hf rfl (cK (cells:=[i6 65,i6 75]) aDm rfl rfl) fun a hf=>nU (rows:=([(⟨35,40⟩:aX),(⟨65,75⟩:aX)]:List aX).map dK) (vs:=[(0,.agg #[i6 35,i6 40]),(1,.agg #[i6 65,i6 75])]) hf hc rfl rfl aKn rfl ⟨rfl,rfl,rfl,rfl,rfl,rfl,trivial⟩ rfl rfl fun d8 a w hf hc=>?_
   obtain ⟨cq,bj,hF⟩:=aA hF
   refine zQ (v:=.bool cq) hf hc en_21 rfl (fun w hc=>by obtain ⟨G1,j,Z,hc,d⟩:=lend hc k2; obtain ⟨G2,m,n,hc,k⟩:=lend hc k0; exact (xD X.1 ([(⟨35,40⟩:aX),(⟨65,75⟩:aX)]:List aX) (Z.mono m) n hc bj).mono fun e w h=>⟨h.1,((d _ _ ((k _ _ h.2).unpick k0)).unpick k2)⟩) fun a w hf hc=>sp 2 hf rfl fun a hf=>?_
   replace hc:=hc.drop k0
   obtain rfl:=sj hF
   exact aL ⟨hf.kp rfl,hc⟩
  ·rw [hb] at hf
   have hF:=fU hb a4
   obtain rfl:=sj hF
   refine stS hf rfl rfl rfl fun a hf=>stS hf rfl rfl rfl fun a hf=>stS hf rfl rfl rfl fun a hf=>stS hf rfl rfl rfl fun a hf=>stS hf rfl rfl rfl fun a hf=>stS hf rfl rfl rfl fun a hf=>sp 1 hf rfl fun a hf=>aL ⟨hf.kp rfl,hc⟩
 intro a w ⟨hf,hc⟩
 refine sp 1 hf rfl fun a hf=>fV 3 (fun a=>Has 174 a ((1,.slice ab J.1.length z)::(2,i6 J.2)::(3,pq aa)::(4,i6 M.2)::(5,.bool S.1)::(6,i6 S.2)::(7,.slice y X.1.length x)::(8,i6 X.2)::(9,i6 U.1)::(10,i6 U.2.1)::(11,i6 U.2.2)::(46,i6 J.2)::(47,.bool (J.2 != 0))::(48,.bool (J.2 != 0))::(51,.bool ((J.2 != 0) || (M.2 != 0)))::(52,.bool ((J.2 != 0) || (M.2 != 0)))::(55,.bool (((J.2 != 0) || (M.2 != 0)) || (S.2 != 0)))::(56,.bool (((J.2 != 0) || (M.2 != 0)) || (S.2 != 0)))::(59,.bool ((((J.2 != 0) || (M.2 != 0)) || (S.2 != 0)) || (X.2 != 0)))::(60,.bool ((((J.2 != 0) || (M.2 != 0)) || (S.2 != 0)) || (X.2 != 0)))::(63,.bool (((((J.2 != 0) || (M.2 != 0)) || (S.2 != 0)) || (X.2 != 0)) || (U.2.2 != 0)))::(64,.bool (((((J.2 != 0) || (M.2 != 0)) || (S.2 != 0)) || (X.2 != 0)) || (U.2.2 != 0)))::(69,.bool g)::(70,.bool g)::(74,.bool (g || (!(M.1.Person == 1 && M.1.Station == 0))))::(75,.bool (g || (!(M.1.Person == 1 && M.1.Station == 0))))::(78,.bool ((g || (!(M.1.Person == 1 && M.1.Station == 0))) || (!S.1)))::(79,.bool ((g || (!(M.1.Person == 1 && M.1.Station == 0))) || (!S.1)))::(86,.bool s)::(87,.bool s)::(90,.bool (s || (U.1 != 1)))::[])) hc ?_ ?_
 ·cases hb:s
  ·rw [hb] at hf
   try rw [hb] at hc
   refine sp 3 hf rfl fun a hf=>aL ⟨hf.kp rfl,hc⟩
  ·rw [hb] at hf
   try rw [hb] at hc
   refine stS hf rfl rfl rfl fun a hf=>stS hf rfl rfl rfl fun a hf=>sp 1 hf rfl fun a hf=>aL ⟨hf.kp rfl,hc⟩
 intro a w ⟨hf,hc⟩
 refine sp 1 hf rfl fun a hf=>fV 3 (fun a=>Has 174 a ((1,.slice ab J.1.length z)::(2,i6 J.2)::(3,pq aa)::(4,i6 M.2)::(5,.bool S.1)::(6,i6 S.2)::(7,.slice y X.1.length x)::(8,i6 X.2)::(9,i6 U.1)::(10,i6 U.2.1)::(11,i6 U.2.2)::(46,i6 J.2)::(47,.bool (J.2 != 0))::(48,.bool (J.2 != 0))::(51,.bool ((J.2 != 0) || (M.2 != 0)))::(52,.bool ((J.2 != 0) || (M.2 != 0)))::(55,.bool (((J.2 != 0) || (M.2 != 0)) || (S.2 != 0)))::(56,.bool (((J.2 != 0) || (M.2 != 0)) || (S.2 != 0)))::(59,.bool ((((J.2 != 0) || (M.2 != 0)) || (S.2 != 0)) || (X.2 != 0)))::(60,.bool ((((J.2 != 0) || (M.2 != 0)) || (S.2 != 0)) || (X.2 != 0)))::(63,.bool (((((J.2 != 0) || (M.2 != 0)) || (S.2 != 0)) || (X.2 != 0)) || (U.2.2 != 0)))::(64,.bool (((((J.2 != 0) || (M.2 != 0)) || (S.2 != 0)) || (X.2 != 0)) || (U.2.2 != 0)))::(69,.bool g)::(70,.bool g)::(74,.bool (g || (!(M.1.Person == 1 && M.1.Station == 0))))::(75,.bool (g || (!(M.1.Person == 1 && M.1.Station == 0))))::(78,.bool ((g || (!(M.1.Person == 1 && M.1.Station == 0))) || (!S.1)))::(79,.bool ((g || (!(M.1.Person == 1 && M.1.Station == 0))) || (!S.1)))::(86,.bool s)::(87,.bool s)::(90,.bool (s || (U.1 != 1)))::(91,.bool (s || (U.1 != 1)))::(94,.bool ((s || (U.1 != 1)) || (U.2.1 != (-1))))::[])) hc ?_ ?_
 ·cases hb:(s || (U.1 != 1))
  ·rw [hb] at hf
   refine sp 3 hf rfl fun a hf=>aL ⟨hf.kp rfl,hc⟩
  ·rw [hb] at hf
   refine stS hf rfl rfl rfl fun a hf=>stS hf rfl rfl rfl fun a hf=>sp 1 hf rfl fun a hf=>aL ⟨hf.kp rfl,hc⟩
 intro a w ⟨hf,hc⟩
 refine zT h ?_
 refine zI hf rfl hF ?_ ?_ <;> clear hF <;> intro hF
 ·refine zS fun K h=>sp 1 hf rfl fun a hf=>zT h ?_
  refine wp_ret ?_
  refine aH ?_
  obtain rfl:=sj hF
  replace hc:=(((hc.drop k3).drop k2).drop k1).drop k0
  exact zO1 Tryz.results15 hf rfl ⟨rfl,hc⟩
 ·refine wp_skip ?_
  refine h7 _ _ ?_
  refine zS fun K h=>?_
  obtain ⟨cr,a9,hF⟩:=aA hF
  refine zC hf aLp rfl (uL 80 hc a9) ?_
  rintro _ w ⟨dm,dr,rfl,hc⟩
  refine ⟨_,rfl,fun a hf=>?_⟩
  obtain ⟨H,a7,hF⟩:=aA hF
  refine zQ (v:=.tuple #[i6 H.1,i6 H.2]) hf hc en_24 rfl (fun w hc=>by obtain ⟨G1,j,Z,hc,d⟩:=lend hc k0; exact (aDf cr Z hc a7).mono fun e w h=>⟨h.1,((d _ _ h.2).unpick k0)⟩) fun a w hf hc=>sp 5 hf rfl fun a hf=>zT h ?_
  refine zS fun K h=>?_
  obtain ⟨b9,bc,hF⟩:=aA hF
  refine zC hf aLt rfl (uE hc bc) ?_
  rintro _ w ⟨dk,d5,rfl,hc⟩
  refine ⟨_,rfl,fun a hf=>?_⟩
  obtain ⟨B,bg,hF⟩:=aA hF
  refine zQ (v:=.tuple #[.agg #[i6 B.1.Lo,i6 B.1.Hi],i6 B.2]) hf hc en_34 rfl (fun w hc=>by obtain ⟨G1,j,Z,hc,d⟩:=lend hc k0; exact (aE2 b9 5 Z hc bg).mono fun e w h=>⟨h.1,((d _ _ h.2).unpick k0)⟩) fun a w hf hc=>sp 3 hf rfl fun a hf=>zA hf hc aKo rfl fun av a w hf hc=>zW hf hc aAi u0 rfl fun w hc=>sp 1 hf rfl fun a hf=>zT h ?_
  refine zS fun K h=>?_
  obtain ⟨cj,bd,hF⟩:=aA hF
  refine zC hf aLt rfl (uE hc bd) ?_
  rintro _ w ⟨dp,d3,rfl,hc⟩
  refine ⟨_,rfl,fun a hf=>?_⟩
  obtain ⟨D,bf,hF⟩:=aA hF
  refine zQ (v:=.tuple #[i6 D.1,i6 D.2.1,i6 D.2.2]) hf hc en_36 rfl (fun w hc=>by obtain ⟨G1,j,Z,hc,d⟩:=lend hc k0; exact (aDe cj Z hc bf).mono fun e w h=>⟨h.1,((d _ _ h.2).unpick k0)⟩) fun a w hf hc=>sp 7 hf rfl fun a hf=>zT h ?_
  refine wp_seq_k fun K13 da=>bW ?_
  obtain ⟨V,bk,hF⟩:=aA hF
  refine zC hf aLt rfl (uE hc bk) ?_
  rintro _ w ⟨a1,a3,rfl,hc⟩
  refine ⟨_,rfl,fun a hf=>?_⟩
  refine zA hf hc aHo rfl fun af a w hf hc=>zW hf hc aF0 u0 rfl fun w hc=>aL ?_
  replace hc:=((((((hc.drop k9).drop k8).drop k7).drop k6).drop k5).drop k4).drop k2
  refine da _ _ ?_
  refine wp_seq_k fun K14 c8=>?_
  obtain ⟨Y,ba,hF⟩:=aA hF
  obtain ⟨un,cy,hF⟩:=aA hF
  replace hc:=hc.nilRow 0 0
  refine mB (fun θ=>[⟨none,none,2,i6 H.2⟩,⟨none,none,4,i6 B.2⟩,⟨none,none,6,i6 D.2.2⟩,⟨none,none,9,i6 D.1⟩,⟨none,none,10,i6 D.2.1⟩,⟨none,none,12,i6 H.1⟩,⟨none,none,13,pq av⟩,⟨none,none,14,pq af⟩,⟨some 0,none,112,.pointer (some ⟨af,4,none⟩)⟩,⟨some 1,none,113,.slice a1 V.Rides.length a3⟩,⟨some 2,none,114,.agg #[i6 Y.Lo,i6 Y.Hi]⟩,⟨some 3,none,115,.agg #[i6 5,i6 5,i6 Y.Lo,i6 Y.Hi]⟩,⟨some 4,none,116,.slice (some ⟨(θ 32).b,0,none⟩) 1 1⟩,⟨some 5,none,117,.slice ((θ 40).p) ((V.Rides++[(⟨5,5,Y⟩:aI)]).length) ((θ 40).c)⟩,⟨some 6,none,118,.pointer (some ⟨af,4,none⟩)⟩]) (fun E θ=>(bif E 4 then .row (some ⟨(θ 32).b,0,none⟩) 1 (([(⟨5,5,Y⟩:aI)]:List aI).map aJ) 72 4 else .row none 0 [] 0 0)::(bif E 7 then .box af [i6 V.Car,i6 V.Wide,i6 V.Sag,i6 V.Most,.slice ((θ 40).p) ((V.Rides++[(⟨5,5,Y⟩:aI)]).length) ((θ 40).c)] 54 else .box af [i6 V.Car,i6 V.Wide,i6 V.Sag,i6 V.Most,.slice a1 V.Rides.length a3] 54)::(bif E 5 then .row ((θ 40).p) ((θ 40).c) ((V.Rides++[(⟨5,5,Y⟩:aI)]).map aJ) 72 4 else .row a1 a3 (V.Rides.map aJ) 72 4)::.box av [i6 B.1.Lo,i6 B.1.Hi] 29::Lf) [(7,1),(7,5)] (fun a w=>∃ (a2:Nat) (ac:Option Addr) (ad:Nat),Has 174 a [(2,i6 H.2),(4,i6 B.2),(6,i6 D.2.2),(9,i6 D.1),(10,i6 D.2.1),(12,i6 H.1),(13,pq av),(14,pq af)]∧Ctx G (.row (some ⟨a2,0,none⟩) 1 (([(⟨5,5,Y⟩:aI)]:List aI).map aJ) 72 4::.box af [i6 V.Car,i6 V.Wide,i6 V.Sag,i6 V.Most,.slice ac ((V.Rides++[(⟨5,5,Y⟩:aI)]).length) ad] 54::.row ac ad ((V.Rides++[(⟨5,5,Y⟩:aI)]).map aJ) 72 4::.box av [i6 B.1.Lo,i6 B.1.Hi] 29::Lf) w) aT (by kernel_rfl) (by kernel_rfl) (iT.of hf ⟨rfl,rfl,rfl,rfl,rfl,rfl,rfl,rfl,trivial,trivial,trivial,trivial,trivial,trivial,trivial,trivial⟩) hc ⟨?_,?_,?_,?_,?_,?_,?_,?_,trivial⟩ ?_ ?_
  ·intro E θ a w hD hi hp he hc
   have hf:=he.h0.mT he 7 rfl
   refine zP hf rfl (pFA mV rfl) fun a hf=>zD θ he hi hf 8 rfl rfl rfl hc
  ·intro E θ a w hD hi hp he hc
   have e0:=hp.o 0 rfl
   have e7:=hD.f 0 rfl hi
   try dsimp only at hc
   rw [e7] at hc
   have hf:=he.h0.mP he 8 rfl e0
   refine zL hf hc vY m1 rfl fun a w hf hc=>zD θ he hi hf 9 rfl rfl rfl ?_
   try dsimp only
   rw [gU 1 e7 rfl]
   exact hc
  ·intro E θ a w hD hi hp he hc
   have hf:=he.h0
   refine zQ (v:=.agg #[i6 Y.Lo,i6 Y.Hi]) hf hc aDo rfl (fun w hc=>lU 90 90 hc ba) fun a w hf hc=>zD θ he hi hf 10 rfl rfl rfl hc
  ·intro E θ a w hD hi hp he hc
   have e2:=hp.o 2 rfl
   have hf:=he.h0.mP he 10 rfl e2
   refine zP hf rfl (cK (cells:=[i6 5,i6 5,i6 Y.Lo,i6 Y.Hi]) aL0 rfl rfl) fun a hf=>zD θ he hi hf 11 rfl rfl rfl hc
  ·intro E θ a w hD hi hp he hc
   have e3:=hp.o 3 rfl
   try dsimp only at hc
   rw [hi] at hc
   have hf:=he.h0.mP he 11 rfl e3
   refine nU (rows:=([(⟨5,5,Y⟩:aI)]:List aI).map aJ) (vs:=[(0,.agg #[i6 5,i6 5,i6 Y.Lo,i6 Y.Hi])]) hf hc rfl rfl aDb rfl ⟨rfl,rfl,rfl,trivial⟩ rfl rfl fun cu a w hf hc=>aL ?_
   refine jV ?_
   intro ds u ay
   replace hc:=hc.drop k1
   refine ⟨(uQ θ 32 ⟨cu,none,0,(fun _=>(none,0))⟩),he.put hi ay hf rfl [] trivial ⟨qq,qq,qq,qq,qq,qq,qq,qq,qq,qq,qq,qq,qq,qq,qq,trivial⟩,?_⟩
   try dsimp only
   rw [bV E 4]
   exact hc
  ·intro E θ a w hD hi hp he hc
   have e1:=hp.o 1 rfl
   have e4:=hp.o 4 rfl
   have e7:=hD.f 1 rfl hi
   try dsimp only at hc
   rw [e4,hi,e7] at hc
   have hf:=(he.h0.mP he 9 rfl e1).mP he 12 rfl e4
   refine pG (xs:=V.Rides) (ys:=([(⟨5,5,Y⟩:aI)]:List aI)) hf hc rfl rfl aDb rfl rfl rfl rfl rfl nS (lL hc m0) (fun _ _=>u2) (by simpa using fA cy) fun ck c7 a w hf hc=>aL ?_
   refine jV ?_
   intro ds u ay
   refine ⟨(uQ θ 40 ⟨0,ck,c7,(fun _=>(none,0))⟩),he.put hi ay hf rfl [] trivial ⟨qq,qq,qq,qq,qq,qq,qq,qq,qq,qq,qq,qq,qq,qq,qq,trivial⟩,?_⟩
   try dsimp only
   rw [mG 5 e4,bV E 5,gU 5 e7 rfl]
   exact hc
  ·intro E θ a w hD hi hp he hc
   have hf:=he.h0.mT he 7 rfl
   refine zP hf rfl (pFA mV rfl) fun a hf=>zD θ he hi hf 14 rfl rfl rfl hc
  ·intro E θ a w hD hi hp he hc
   have e5:=hp.o 5 rfl
   have e6:=hp.o 6 rfl
   try dsimp only at hc
   rw [hi] at hc
   have hf:=(he.h0.mP he 13 rfl e5).mP he 14 rfl e6
   refine zW hf hc aJz u1 rfl fun w hc=>zG θ he hi hf rfl ?_
   try dsimp only
   rw [bV E 7]
   exact hc
  ·intro E θ a w ag he hc
   have hf:=he.h0
   have e4:=ag 4 rfl
   have e5:=ag 5 rfl
   have e7:=ag 7 rfl
   replace hf:=hf.more he 7 rfl (onT)
   replace hf:=hf.more he 6 rfl (onT)
   replace hf:=hf.more he 5 rfl (onT)
   replace hf:=hf.more he 4 rfl (onT)
   replace hf:=hf.more he 3 rfl (onT)
   replace hf:=hf.more he 2 rfl (onT)
   replace hf:=hf.more he 1 rfl (onT)
   replace hf:=hf.more he 0 rfl (onT)
   try dsimp only at hc
   rw [e4,e5,e7] at hc
   exact ⟨(θ 32).b,(θ 40).p,(θ 40).c,hf.kp rfl,hc⟩
  rintro a w ⟨a2,ac,ad,hf,hc⟩
  refine c8 _ _ ?_
  refine zS fun K h=>zN hf hc pF m1 rfl fun a w hf hc=>?_
  obtain ⟨O,bi,hF⟩:=aA hF
  obtain ⟨G1,j,Z,hc,d⟩:=lend hc k2
  refine zC hf en_38 rfl (aDw (⟨V.Car,V.Wide,V.Sag,V.Most,(V.Rides++[(⟨5,5,Y⟩:aI)])⟩:aO) Z hc bi) ?_
  rintro _ w ⟨au,ax,rfl,hc⟩
  refine ⟨_,rfl,fun a hf=>?_⟩
  replace hc:=d _ _ hc
  refine sp 5 hf rfl fun a hf=>zT h ?_
  refine zS fun K h=>zP hf rfl (cK (cells:=[i6 600,i6 480,i6 500]) bt_24 rfl rfl) fun a hf=>nU (rows:=([481]:List Int).map aD) (vs:=[(0,i6 481)]) hf hc rfl rfl jO rfl ⟨rfl,rfl,rfl,trivial⟩ rfl rfl fun a5 a w hf hc=>?_
  obtain ⟨R,a8,hF⟩:=aA hF
  refine zQ (v:=.tuple #[i6 R.1,i6 R.2]) hf hc en_26 rfl (fun w hc=>by obtain ⟨G1,j,Z,hc,d⟩:=lend hc k0; exact (aE0 (⟨600,480,500⟩:vB) ([481]:List Int) Z hc a8).mono fun e w h=>⟨h.1,((d _ _ h.2).unpick k0)⟩) fun a w hf hc=>sp 5 hf rfl fun a hf=>zT h ?_
  refine wp_seq_k fun K17 c0=>?_
  obtain ⟨I,bn,hF⟩:=aA hF
  obtain ⟨i,bm,hF⟩:=aA hF
  replace hc:=hc.nilRow 0 0
  refine mB (fun θ=>(⟨none,none,2,i6 H.2⟩::⟨none,none,4,i6 B.2⟩::⟨none,none,6,i6 D.2.2⟩::⟨none,none,8,i6 O.2⟩::⟨none,none,9,i6 D.1⟩::⟨none,none,10,i6 D.2.1⟩::⟨none,none,11,i6 R.2⟩::⟨none,none,12,i6 H.1⟩::⟨none,none,13,pq av⟩::⟨none,none,15,.slice au O.1.length ax⟩::⟨none,none,16,i6 R.1⟩::⟨some 0,none,130,i6 H.2⟩::⟨some 1,none,131,.bool (H.2 == 0)⟩::⟨some 2,none,132,.bool (H.2 == 0)⟩::⟨some 3,none,133,(bif (H.2 == 0) then i6 B.2 else undef)⟩::⟨some 4,none,134,(bif (H.2 == 0) then .bool (B.2 == 0) else undef)⟩::⟨some 5,none,135,.bool ((H.2 == 0) && (B.2 == 0))⟩::⟨some 6,none,136,.bool ((H.2 == 0) && (B.2 == 0))⟩::⟨some 7,none,137,(bif ((H.2 == 0) && (B.2 == 0)) then i6 D.2.2 else undef)⟩::⟨some 8,none,138,(bif ((H.2 == 0) && (B.2 == 0)) then .bool (D.2.2 == 0) else undef)⟩::⟨some 9,none,139,.bool (((H.2 == 0) && (B.2 == 0)) && (D.2.2 == 0))⟩::⟨some 10,none,140,.bool (((H.2 == 0) && (B.2 == 0)) && (D.2.2 == 0))⟩::⟨some 11,none,141,(bif (((H.2 == 0) && (B.2 == 0)) && (D.2.2 == 0)) then i6 O.2 else undef)⟩::⟨some 12,none,142,(bif (((H.2 == 0) && (B.2 == 0)) && (D.2.2 == 0)) then .bool (O.2 == 0) else undef)⟩::⟨some 13,none,143,.bool ((((H.2 == 0) && (B.2 == 0)) && (D.2.2 == 0)) && (O.2 == 0))⟩::⟨some 14,none,144,.bool ((((H.2 == 0) && (B.2 == 0)) && (D.2.2 == 0)) && (O.2 == 0))⟩::⟨some 15,none,145,(bif ((((H.2 == 0) && (B.2 == 0)) && (D.2.2 == 0)) && (O.2 == 0)) then i6 R.2 else undef)⟩::⟨some 16,none,146,(bif ((((H.2 == 0) && (B.2 == 0)) && (D.2.2 == 0)) && (O.2 == 0)) then .bool (R.2 == 0) else undef)⟩::⟨some 17,none,147,.bool (((((H.2 == 0) && (B.2 == 0)) && (D.2.2 == 0)) && (O.2 == 0)) && (R.2 == 0))⟩::⟨some 18,none,148,.bool (((((H.2 == 0) && (B.2 == 0)) && (D.2.2 == 0)) && (O.2 == 0)) && (R.2 == 0))⟩::⟨some 19,none,149,(bif (((((H.2 == 0) && (B.2 == 0)) && (D.2.2 == 0)) && (O.2 == 0)) && (R.2 == 0)) then i6 H.1 else undef)⟩::⟨some 20,none,150,(bif (((((H.2 == 0) && (B.2 == 0)) && (D.2.2 == 0)) && (O.2 == 0)) && (R.2 == 0)) then .bool (H.1 == 5) else undef)⟩::⟨some 21,none,151,.bool ((((((H.2 == 0) && (B.2 == 0)) && (D.2.2 == 0)) && (O.2 == 0)) && (R.2 == 0)) && (H.1 == 5))⟩::⟨some 22,none,152,.bool ((((((H.2 == 0) && (B.2 == 0)) && (D.2.2 == 0)) && (O.2 == 0)) && (R.2 == 0)) && (H.1 == 5))⟩::⟨some 23,none,153,(bif ((((((H.2 == 0) && (B.2 == 0)) && (D.2.2 == 0)) && (O.2 == 0)) && (R.2 == 0)) && (H.1 == 5)) then .agg #[i6 B.1.Lo,i6 B.1.Hi] else undef)⟩::⟨some 24,none,154,(bif ((((((H.2 == 0) && (B.2 == 0)) && (D.2.2 == 0)) && (O.2 == 0)) && (R.2 == 0)) && (H.1 == 5)) then .agg #[i6 I.Lo,i6 I.Hi] else undef)⟩::⟨some 25,none,155,(bif ((((((H.2 == 0) && (B.2 == 0)) && (D.2.2 == 0)) && (O.2 == 0)) && (R.2 == 0)) && (H.1 == 5)) then .bool (B.1.Lo == I.Lo && B.1.Hi == I.Hi) else undef)⟩::⟨some 26,none,156,.bool (((((((H.2 == 0) && (B.2 == 0)) && (D.2.2 == 0)) && (O.2 == 0)) && (R.2 == 0)) && (H.1 == 5)) && (B.1.Lo == I.Lo && B.1.Hi == I.Hi))⟩::⟨some 27,none,157,.bool (((((((H.2 == 0) && (B.2 == 0)) && (D.2.2 == 0)) && (O.2 == 0)) && (R.2 == 0)) && (H.1 == 5)) && (B.1.Lo == I.Lo && B.1.Hi == I.Hi))⟩::⟨some 28,none,158,(bif (((((((H.2 == 0) && (B.2 == 0)) && (D.2.2 == 0)) && (O.2 == 0)) && (R.2 == 0)) && (H.1 == 5)) && (B.1.Lo == I.Lo && B.1.Hi == I.Hi)) then i6 D.1 else undef)⟩::⟨some 29,none,159,(bif (((((((H.2 == 0) && (B.2 == 0)) && (D.2.2 == 0)) && (O.2 == 0)) && (R.2 == 0)) && (H.1 == 5)) && (B.1.Lo == I.Lo && B.1.Hi == I.Hi)) then .bool (D.1 == 5) else undef)⟩::⟨some 30,none,160,.bool ((((((((H.2 == 0) && (B.2 == 0)) && (D.2.2 == 0)) && (O.2 == 0)) && (R.2 == 0)) && (H.1 == 5)) && (B.1.Lo == I.Lo && B.1.Hi == I.Hi)) && (D.1 == 5))⟩::⟨some 31,none,161,.bool ((((((((H.2 == 0) && (B.2 == 0)) && (D.2.2 == 0)) && (O.2 == 0)) && (R.2 == 0)) && (H.1 == 5)) && (B.1.Lo == I.Lo && B.1.Hi == I.Hi)) && (D.1 == 5))⟩::⟨some 32,none,162,(bif ((((((((H.2 == 0) && (B.2 == 0)) && (D.2.2 == 0)) && (O.2 == 0)) && (R.2 == 0)) && (H.1 == 5)) && (B.1.Lo == I.Lo && B.1.Hi == I.Hi)) && (D.1 == 5)) then i6 D.2.1 else undef)⟩::⟨some 33,none,163,(bif ((((((((H.2 == 0) && (B.2 == 0)) && (D.2.2 == 0)) && (O.2 == 0)) && (R.2 == 0)) && (H.1 == 5)) && (B.1.Lo == I.Lo && B.1.Hi == I.Hi)) && (D.1 == 5)) then .bool (D.2.1 == (-1)) else undef)⟩::⟨some 34,none,164,.bool (((((((((H.2 == 0) && (B.2 == 0)) && (D.2.2 == 0)) && (O.2 == 0)) && (R.2 == 0)) && (H.1 == 5)) && (B.1.Lo == I.Lo && B.1.Hi == I.Hi)) && (D.1 == 5)) && (D.2.1 == (-1)))⟩::⟨some 35,none,165,.bool (((((((((H.2 == 0) && (B.2 == 0)) && (D.2.2 == 0)) && (O.2 == 0)) && (R.2 == 0)) && (H.1 == 5)) && (B.1.Lo == I.Lo && B.1.Hi == I.Hi)) && (D.1 == 5)) && (D.2.1 == (-1)))⟩::⟨some 36,none,166,(bif (((((((((H.2 == 0) && (B.2 == 0)) && (D.2.2 == 0)) && (O.2 == 0)) && (R.2 == 0)) && (H.1 == 5)) && (B.1.Lo == I.Lo && B.1.Hi == I.Hi)) && (D.1 == 5)) && (D.2.1 == (-1))) then .slice au O.1.length ax else undef)⟩::⟨some 37,none,167,(bif (((((((((H.2 == 0) && (B.2 == 0)) && (D.2.2 == 0)) && (O.2 == 0)) && (R.2 == 0)) && (H.1 == 5)) && (B.1.Lo == I.Lo && B.1.Hi == I.Hi)) && (D.1 == 5)) && (D.2.1 == (-1))) then .slice (some ⟨(θ 296).b,0,none⟩) 3 3 else undef)⟩::⟨some 38,none,168,(bif (((((((((H.2 == 0) && (B.2 == 0)) && (D.2.2 == 0)) && (O.2 == 0)) && (R.2 == 0)) && (H.1 == 5)) && (B.1.Lo == I.Lo && B.1.Hi == I.Hi)) && (D.1 == 5)) && (D.2.1 == (-1))) then .bool i else undef)⟩::⟨some 39,none,169,.bool ((((((((((H.2 == 0) && (B.2 == 0)) && (D.2.2 == 0)) && (O.2 == 0)) && (R.2 == 0)) && (H.1 == 5)) && (B.1.Lo == I.Lo && B.1.Hi == I.Hi)) && (D.1 == 5)) && (D.2.1 == (-1))) && i)⟩::⟨some 40,none,170,.bool ((((((((((H.2 == 0) && (B.2 == 0)) && (D.2.2 == 0)) && (O.2 == 0)) && (R.2 == 0)) && (H.1 == 5)) && (B.1.Lo == I.Lo && B.1.Hi == I.Hi)) && (D.1 == 5)) && (D.2.1 == (-1))) && i)⟩::⟨some 41,none,171,(bif ((((((((((H.2 == 0) && (B.2 == 0)) && (D.2.2 == 0)) && (O.2 == 0)) && (R.2 == 0)) && (H.1 == 5)) && (B.1.Lo == I.Lo && B.1.Hi == I.Hi)) && (D.1 == 5)) && (D.2.1 == (-1))) && i) then i6 R.1 else undef)⟩::⟨some 42,none,172,(bif ((((((((((H.2 == 0) && (B.2 == 0)) && (D.2.2 == 0)) && (O.2 == 0)) && (R.2 == 0)) && (H.1 == 5)) && (B.1.Lo == I.Lo && B.1.Hi == I.Hi)) && (D.1 == 5)) && (D.2.1 == (-1))) && i) then .bool (R.1 == 4815) else undef)⟩::⟨some 43,none,173,.bool (((((((((((H.2 == 0) && (B.2 == 0)) && (D.2.2 == 0)) && (O.2 == 0)) && (R.2 == 0)) && (H.1 == 5)) && (B.1.Lo == I.Lo && B.1.Hi == I.Hi)) && (D.1 == 5)) && (D.2.1 == (-1))) && i) && (R.1 == 4815))⟩::⟨some 44,none,0,.bool (((((((((((H.2 == 0) && (B.2 == 0)) && (D.2.2 == 0)) && (O.2 == 0)) && (R.2 == 0)) && (H.1 == 5)) && (B.1.Lo == I.Lo && B.1.Hi == I.Hi)) && (D.1 == 5)) && (D.2.1 == (-1))) && i) && (R.1 == 4815))⟩::[])) (fun E θ=>(bif E 37 then (gE (((((((((H.2 == 0) && (B.2 == 0)) && (D.2.2 == 0)) && (O.2 == 0)) && (R.2 == 0)) && (H.1 == 5)) && (B.1.Lo == I.Lo && B.1.Hi == I.Hi)) && (D.1 == 5)) && (D.2.1 == (-1))) (.row (some ⟨(θ 296).b,0,none⟩) 3 (([0,10,15]:List Int).map aD) 3 1)) else .row none 0 [] 0 0)::.row (some ⟨a5,0,none⟩) 1 (([481]:List Int).map aD) 3 1::.row ac ad ((V.Rides++[(⟨5,5,Y⟩:aI)]).map aJ) 72 4::.row au ax (O.1.map aD) 3 1::.row (some ⟨a2,0,none⟩) 1 (([(⟨5,5,Y⟩:aI)]:List aI).map aJ) 72 4::.box af [i6 V.Car,i6 V.Wide,i6 V.Sag,i6 V.Most,.slice ac ((V.Rides++[(⟨5,5,Y⟩:aI)]).length) ad] 54::.box av [i6 B.1.Lo,i6 B.1.Hi] 29::Lf) [] (fun a w=>Has 174 a [(0,.bool (((((((((((H.2 == 0) && (B.2 == 0)) && (D.2.2 == 0)) && (O.2 == 0)) && (R.2 == 0)) && (H.1 == 5)) && (B.1.Lo == I.Lo && B.1.Hi == I.Hi)) && (D.1 == 5)) && (D.2.1 == (-1))) && i) && (R.1 == 4815)))]∧Ctx G (.row (some ⟨a5,0,none⟩) 1 (([481]:List Int).map aD) 3 1::.row ac ad ((V.Rides++[(⟨5,5,Y⟩:aI)]).map aJ) 72 4::.row au ax (O.1.map aD) 3 1::.row (some ⟨a2,0,none⟩) 1 (([(⟨5,5,Y⟩:aI)]:List aI).map aJ) 72 4::.box af [i6 V.Car,i6 V.Wide,i6 V.Sag,i6 V.Most,.slice ac ((V.Rides++[(⟨5,5,Y⟩:aI)]).length) ad] 54::.box av [i6 B.1.Lo,i6 B.1.Hi] 29::Lf) w) aT (by kernel_rfl) (by kernel_rfl) (iT.of hf ⟨rfl,rfl,rfl,rfl,rfl,rfl,rfl,rfl,rfl,rfl,rfl,trivial,trivial,trivial,trivial,trivial,trivial,trivial,trivial,trivial,trivial,trivial,trivial,trivial,trivial,trivial,trivial,trivial,trivial,trivial,trivial,trivial,trivial,trivial,trivial,trivial,trivial,trivial,trivial,trivial,trivial,trivial,trivial,trivial,trivial,trivial,trivial,trivial,trivial,trivial,trivial,trivial,trivial,trivial,trivial,trivial,trivial⟩) hc ⟨?_,?_,?_,?_,?_,?_,?_,?_,?_,?_,?_,?_,?_,?_,?_,?_,?_,?_,?_,?_,?_,?_,?_,?_,?_,?_,?_,?_,?_,?_,?_,?_,?_,?_,?_,?_,?_,?_,?_,?_,?_,?_,?_,?_,?_,trivial⟩ ?_ ?_
  ·intro E θ a w hD hi hp he hc
   have hf:=he.h0.mT he 0 rfl
   refine sp 1 hf rfl fun a hf=>zD θ he hi hf 11 rfl rfl rfl hc
  ·intro E θ a w hD hi hp he hc
   have e0:=hp.o 0 rfl
   have hf:=he.h0.mP he 11 rfl e0
   refine sp 1 hf rfl fun a hf=>zD θ he hi hf 12 rfl rfl rfl hc
  ·intro E θ a w hD hi hp he hc
   have e1:=hp.o 1 rfl
   have hf:=he.h0.mP he 12 rfl e1
   refine sp 1 hf rfl fun a hf=>zD θ he hi hf 13 rfl rfl rfl hc
  ·intro E θ a w hD hi hp he hc
   have e2:=hp.o 2 rfl
   rcases fP (H.2 == 0) with hb | hb
   ·have hf:=(he.h0.mT he 1 rfl).mP he 13 rfl e2
    replace hf:=cO hb hf
    refine sp 1 hf rfl fun a hf=>?_
    replace hf:=oL (u:=undef) hb hf
    exact zD θ he hi hf 14 rfl rfl rfl hc
   ·have hf:=(he.h0.mT he 1 rfl).mP he 13 rfl e2
    replace hf:=cO hb hf
    refine stS hf rfl rfl rfl fun a hf=>?_
    replace hf:=oK (u:=i6 B.2) hb hf
    exact zD θ he hi hf 14 rfl rfl rfl hc
  ·intro E θ a w hD hi hp he hc
   have e2:=hp.o 2 rfl
   have e3:=hp.o 3 rfl
   rcases fP (H.2 == 0) with hb | hb
   ·have hf:=he.h0.mP he 13 rfl e2
    replace hf:=cO hb hf
    replace hf:=hf.more he 14 rfl (onP e3)
    replace hf:=kZ hb hf
    refine sp 1 hf rfl fun a hf=>?_
    replace hf:=oL (u:=undef) hb hf
    exact zD θ he hi hf 15 rfl rfl rfl hc
   ·have hf:=he.h0.mP he 13 rfl e2
    replace hf:=cO hb hf
    replace hf:=hf.more he 14 rfl (onP e3)
    replace hf:=kY hb hf
    refine stS hf rfl rfl rfl fun a hf=>?_
    replace hf:=oK (u:=.bool (B.2 == 0)) hb hf
    exact zD θ he hi hf 15 rfl rfl rfl hc
  ·intro E θ a w hD hi hp he hc
   have e2:=hp.o 2 rfl
   have e4:=hp.o 4 rfl
   rcases fP (H.2 == 0) with hb | hb
   ·have hf:=he.h0.mP he 13 rfl e2
    replace hf:=cO hb hf
    replace hf:=hf.more he 15 rfl (onP e4)
    replace hf:=kZ hb hf
    refine sp 1 hf rfl fun a hf=>?_
    replace hf:=oG (v':=.bool ((H.2 == 0) && (B.2 == 0))) (congrArg Value.bool (aD0 hb)) hf
    exact zD θ he hi hf 16 rfl rfl rfl hc
   ·have hf:=he.h0.mP he 13 rfl e2
    replace hf:=cO hb hf
    replace hf:=hf.more he 15 rfl (onP e4)
    replace hf:=kY hb hf
    refine sp 1 hf rfl fun a hf=>?_
    replace hf:=oG (v':=.bool ((H.2 == 0) && (B.2 == 0))) (congrArg Value.bool (aDv hb)) hf
    exact zD θ he hi hf 16 rfl rfl rfl hc
  ·intro E θ a w hD hi hp he hc
   have e5:=hp.o 5 rfl
   have hf:=he.h0.mP he 16 rfl e5
   refine sp 1 hf rfl fun a hf=>zD θ he hi hf 17 rfl rfl rfl hc
  ·intro E θ a w hD hi hp he hc
   have e6:=hp.o 6 rfl
   rcases fP ((H.2 == 0) && (B.2 == 0)) with hb | hb
   ·have hf:=(he.h0.mT he 2 rfl).mP he 17 rfl e6
    replace hf:=cO hb hf
    refine sp 1 hf rfl fun a hf=>?_
    replace hf:=oL (u:=undef) hb hf
    exact zD θ he hi hf 18 rfl rfl rfl hc
   ·have hf:=(he.h0.mT he 2 rfl).mP he 17 rfl e6
    replace hf:=cO hb hf
    refine stS hf rfl rfl rfl fun a hf=>?_
    replace hf:=oK (u:=i6 D.2.2) hb hf
    exact zD θ he hi hf 18 rfl rfl rfl hc
  ·intro E θ a w hD hi hp he hc
   have e6:=hp.o 6 rfl
   have e7:=hp.o 7 rfl
   rcases fP ((H.2 == 0) && (B.2 == 0)) with hb | hb
   ·have hf:=he.h0.mP he 17 rfl e6
    replace hf:=cO hb hf
    replace hf:=hf.more he 18 rfl (onP e7)
    replace hf:=kZ hb hf
    refine sp 1 hf rfl fun a hf=>?_
    replace hf:=oL (u:=undef) hb hf
    exact zD θ he hi hf 19 rfl rfl rfl hc
   ·have hf:=he.h0.mP he 17 rfl e6
    replace hf:=cO hb hf
    replace hf:=hf.more he 18 rfl (onP e7)
    replace hf:=kY hb hf
    refine stS hf rfl rfl rfl fun a hf=>?_
    replace hf:=oK (u:=.bool (D.2.2 == 0)) hb hf
    exact zD θ he hi hf 19 rfl rfl rfl hc
  ·intro E θ a w hD hi hp he hc
   have e6:=hp.o 6 rfl
   have e8:=hp.o 8 rfl
   rcases fP ((H.2 == 0) && (B.2 == 0)) with hb | hb
   ·have hf:=he.h0.mP he 17 rfl e6
    replace hf:=cO hb hf
    replace hf:=hf.more he 19 rfl (onP e8)
    replace hf:=kZ hb hf
    refine sp 1 hf rfl fun a hf=>?_
    replace hf:=oG (v':=.bool (((H.2 == 0) && (B.2 == 0)) && (D.2.2 == 0))) (congrArg Value.bool (aD0 hb)) hf
    exact zD θ he hi hf 20 rfl rfl rfl hc
   ·have hf:=he.h0.mP he 17 rfl e6
    replace hf:=cO hb hf
    replace hf:=hf.more he 19 rfl (onP e8)
    replace hf:=kY hb hf
    refine sp 1 hf rfl fun a hf=>?_
    replace hf:=oG (v':=.bool (((H.2 == 0) && (B.2 == 0)) && (D.2.2 == 0))) (congrArg Value.bool (aDv hb)) hf
    exact zD θ he hi hf 20 rfl rfl rfl hc
  ·intro E θ a w hD hi hp he hc
   have e9:=hp.o 9 rfl
   have hf:=he.h0.mP he 20 rfl e9
   refine sp 1 hf rfl fun a hf=>zD θ he hi hf 21 rfl rfl rfl hc
  ·intro E θ a w hD hi hp he hc
   have ap:=hp.o 10 rfl
   rcases fP (((H.2 == 0) && (B.2 == 0)) && (D.2.2 == 0)) with hb | hb
   ·have hf:=(he.h0.mT he 3 rfl).mP he 21 rfl ap
    replace hf:=cO hb hf
    refine sp 1 hf rfl fun a hf=>?_
    replace hf:=oL (u:=undef) hb hf
    exact zD θ he hi hf 22 rfl rfl rfl hc
   ·have hf:=(he.h0.mT he 3 rfl).mP he 21 rfl ap
    replace hf:=cO hb hf
    refine stS hf rfl rfl rfl fun a hf=>?_
    replace hf:=oK (u:=i6 O.2) hb hf
    exact zD θ he hi hf 22 rfl rfl rfl hc
  ·intro E θ a w hD hi hp he hc
   have ap:=hp.o 10 rfl
   have bp:=hp.o 11 rfl
   rcases fP (((H.2 == 0) && (B.2 == 0)) && (D.2.2 == 0)) with hb | hb
   ·have hf:=he.h0.mP he 21 rfl ap
    replace hf:=cO hb hf
    replace hf:=hf.more he 22 rfl (onP bp)
    replace hf:=kZ hb hf
    refine sp 1 hf rfl fun a hf=>?_
    replace hf:=oL (u:=undef) hb hf
    exact zD θ he hi hf 23 rfl rfl rfl hc
   ·have hf:=he.h0.mP he 21 rfl ap
    replace hf:=cO hb hf
    replace hf:=hf.more he 22 rfl (onP bp)
    replace hf:=kY hb hf
    refine stS hf rfl rfl rfl fun a hf=>?_
    replace hf:=oK (u:=.bool (O.2 == 0)) hb hf
    exact zD θ he hi hf 23 rfl rfl rfl hc
  ·intro E θ a w hD hi hp he hc
   have ap:=hp.o 10 rfl
   have bs:=hp.o 12 rfl
   rcases fP (((H.2 == 0) && (B.2 == 0)) && (D.2.2 == 0)) with hb | hb
   ·have hf:=he.h0.mP he 21 rfl ap
    replace hf:=cO hb hf
    replace hf:=hf.more he 23 rfl (onP bs)
    replace hf:=kZ hb hf
    refine sp 1 hf rfl fun a hf=>?_
    replace hf:=oG (v':=.bool ((((H.2 == 0) && (B.2 == 0)) && (D.2.2 == 0)) && (O.2 == 0))) (congrArg Value.bool (aD0 hb)) hf
    exact zD θ he hi hf 24 rfl rfl rfl hc
   ·have hf:=he.h0.mP he 21 rfl ap
    replace hf:=cO hb hf
    replace hf:=hf.more he 23 rfl (onP bs)
    replace hf:=kY hb hf
    refine sp 1 hf rfl fun a hf=>?_
    replace hf:=oG (v':=.bool ((((H.2 == 0) && (B.2 == 0)) && (D.2.2 == 0)) && (O.2 == 0))) (congrArg Value.bool (aDv hb)) hf
    exact zD θ he hi hf 24 rfl rfl rfl hc
  ·intro E θ a w hD hi hp he hc
   have c6:=hp.o 13 rfl
   have hf:=he.h0.mP he 24 rfl c6
   refine sp 1 hf rfl fun a hf=>zD θ he hi hf 25 rfl rfl rfl hc
  ·intro E θ a w hD hi hp he hc
   have ai:=hp.o 14 rfl
   rcases fP ((((H.2 == 0) && (B.2 == 0)) && (D.2.2 == 0)) && (O.2 == 0)) with hb | hb
   ·have hf:=(he.h0.mT he 6 rfl).mP he 25 rfl ai
    replace hf:=cO hb hf
    refine sp 1 hf rfl fun a hf=>?_
    replace hf:=oL (u:=undef) hb hf
    exact zD θ he hi hf 26 rfl rfl rfl hc
   ·have hf:=(he.h0.mT he 6 rfl).mP he 25 rfl ai
    replace hf:=cO hb hf
    refine stS hf rfl rfl rfl fun a hf=>?_
    replace hf:=oK (u:=i6 R.2) hb hf
    exact zD θ he hi hf 26 rfl rfl rfl hc
  ·intro E θ a w hD hi hp he hc
   have ai:=hp.o 14 rfl
   have bx:=hp.o 15 rfl
   rcases fP ((((H.2 == 0) && (B.2 == 0)) && (D.2.2 == 0)) && (O.2 == 0)) with hb | hb
   ·have hf:=he.h0.mP he 25 rfl ai
    replace hf:=cO hb hf
    replace hf:=hf.more he 26 rfl (onP bx)
    replace hf:=kZ hb hf
    refine sp 1 hf rfl fun a hf=>?_
    replace hf:=oL (u:=undef) hb hf
    exact zD θ he hi hf 27 rfl rfl rfl hc
   ·have hf:=he.h0.mP he 25 rfl ai
    replace hf:=cO hb hf
    replace hf:=hf.more he 26 rfl (onP bx)
    replace hf:=kY hb hf
    refine stS hf rfl rfl rfl fun a hf=>?_
    replace hf:=oK (u:=.bool (R.2 == 0)) hb hf
    exact zD θ he hi hf 27 rfl rfl rfl hc
  ·intro E θ a w hD hi hp he hc
   have ai:=hp.o 14 rfl
   have b2:=hp.o 16 rfl
   rcases fP ((((H.2 == 0) && (B.2 == 0)) && (D.2.2 == 0)) && (O.2 == 0)) with hb | hb
   ·have hf:=he.h0.mP he 25 rfl ai
    replace hf:=cO hb hf
    replace hf:=hf.more he 27 rfl (onP b2)
    replace hf:=kZ hb hf
    refine sp 1 hf rfl fun a hf=>?_
    replace hf:=oG (v':=.bool (((((H.2 == 0) && (B.2 == 0)) && (D.2.2 == 0)) && (O.2 == 0)) && (R.2 == 0))) (congrArg Value.bool (aD0 hb)) hf
    exact zD θ he hi hf 28 rfl rfl rfl hc
   ·have hf:=he.h0.mP he 25 rfl ai
    replace hf:=cO hb hf
    replace hf:=hf.more he 27 rfl (onP b2)
    replace hf:=kY hb hf
    refine sp 1 hf rfl fun a hf=>?_
    replace hf:=oG (v':=.bool (((((H.2 == 0) && (B.2 == 0)) && (D.2.2 == 0)) && (O.2 == 0)) && (R.2 == 0))) (congrArg Value.bool (aDv hb)) hf
    exact zD θ he hi hf 28 rfl rfl rfl hc
  ·intro E θ a w hD hi hp he hc
   have cz:=hp.o 17 rfl
   have hf:=he.h0.mP he 28 rfl cz
   refine sp 1 hf rfl fun a hf=>zD θ he hi hf 29 rfl rfl rfl hc
  ·intro E θ a w hD hi hp he hc
   have am:=hp.o 18 rfl
   rcases fP (((((H.2 == 0) && (B.2 == 0)) && (D.2.2 == 0)) && (O.2 == 0)) && (R.2 == 0)) with hb | hb
   ·have hf:=(he.h0.mT he 7 rfl).mP he 29 rfl am
    replace hf:=cO hb hf
    refine sp 1 hf rfl fun a hf=>?_
    replace hf:=oL (u:=undef) hb hf
    exact zD θ he hi hf 30 rfl rfl rfl hc
   ·have hf:=(he.h0.mT he 7 rfl).mP he 29 rfl am
    replace hf:=cO hb hf
    refine stS hf rfl rfl rfl fun a hf=>?_
    replace hf:=oK (u:=i6 H.1) hb hf
    exact zD θ he hi hf 30 rfl rfl rfl hc
  ·intro E θ a w hD hi hp he hc
   have am:=hp.o 18 rfl
   have b0:=hp.o 19 rfl
   rcases fP (((((H.2 == 0) && (B.2 == 0)) && (D.2.2 == 0)) && (O.2 == 0)) && (R.2 == 0)) with hb | hb
   ·have hf:=he.h0.mP he 29 rfl am
    replace hf:=cO hb hf
    replace hf:=hf.more he 30 rfl (onP b0)
    replace hf:=kZ hb hf
    refine sp 1 hf rfl fun a hf=>?_
    replace hf:=oL (u:=undef) hb hf
    exact zD θ he hi hf 31 rfl rfl rfl hc
   ·have hf:=he.h0.mP he 29 rfl am
    replace hf:=cO hb hf
    replace hf:=hf.more he 30 rfl (onP b0)
    replace hf:=kY hb hf
    refine stS hf rfl rfl rfl fun a hf=>?_
    replace hf:=oK (u:=.bool (H.1 == 5)) hb hf
    exact zD θ he hi hf 31 rfl rfl rfl hc
  ·intro E θ a w hD hi hp he hc
   have am:=hp.o 18 rfl
   have b1:=hp.o 20 rfl
   rcases fP (((((H.2 == 0) && (B.2 == 0)) && (D.2.2 == 0)) && (O.2 == 0)) && (R.2 == 0)) with hb | hb
   ·have hf:=he.h0.mP he 29 rfl am
    replace hf:=cO hb hf
    replace hf:=hf.more he 31 rfl (onP b1)
    replace hf:=kZ hb hf
    refine sp 1 hf rfl fun a hf=>?_
    replace hf:=oG (v':=.bool ((((((H.2 == 0) && (B.2 == 0)) && (D.2.2 == 0)) && (O.2 == 0)) && (R.2 == 0)) && (H.1 == 5))) (congrArg Value.bool (aD0 hb)) hf
    exact zD θ he hi hf 32 rfl rfl rfl hc
   ·have hf:=he.h0.mP he 29 rfl am
    replace hf:=cO hb hf
    replace hf:=hf.more he 31 rfl (onP b1)
    replace hf:=kY hb hf
    refine sp 1 hf rfl fun a hf=>?_
    replace hf:=oG (v':=.bool ((((((H.2 == 0) && (B.2 == 0)) && (D.2.2 == 0)) && (O.2 == 0)) && (R.2 == 0)) && (H.1 == 5))) (congrArg Value.bool (aDv hb)) hf
    exact zD θ he hi hf 32 rfl rfl rfl hc
  ·intro E θ a w hD hi hp he hc
   have c4:=hp.o 21 rfl
   have hf:=he.h0.mP he 32 rfl c4
   refine sp 1 hf rfl fun a hf=>zD θ he hi hf 33 rfl rfl rfl hc
  ·intro E θ a w hD hi hp he hc
   have t:=hp.o 22 rfl
   rcases fP ((((((H.2 == 0) && (B.2 == 0)) && (D.2.2 == 0)) && (O.2 == 0)) && (R.2 == 0)) && (H.1 == 5)) with hb | hb
   ·have hf:=(he.h0.mT he 8 rfl).mP he 33 rfl t
    replace hf:=cO hb hf
    refine zN hf hc tK m6 rfl fun a w hf hc=>?_
    replace hf:=oL (u:=undef) hb hf
    exact zD θ he hi hf 34 rfl rfl rfl hc
   ·have hf:=(he.h0.mT he 8 rfl).mP he 33 rfl t
    replace hf:=cO hb hf
    refine stS hf rfl rfl rfl fun a hf=>?_
    replace hf:=oK (u:=.agg #[i6 B.1.Lo,i6 B.1.Hi]) hb hf
    exact zD θ he hi hf 34 rfl rfl rfl hc
  ·intro E θ a w hD hi hp he hc
   have t:=hp.o 22 rfl
   rcases fP ((((((H.2 == 0) && (B.2 == 0)) && (D.2.2 == 0)) && (O.2 == 0)) && (R.2 == 0)) && (H.1 == 5)) with hb | hb
   ·have hf:=he.h0.mP he 33 rfl t
    replace hf:=cO hb hf
    refine zQ (v:=.agg #[i6 I.Lo,i6 I.Hi]) hf hc aDo rfl (fun w hc=>lU 290 320 hc (fU hb bn)) fun a w hf hc=>?_
    replace hf:=oL (u:=undef) hb hf
    exact zD θ he hi hf 35 rfl rfl rfl hc
   ·have hf:=he.h0.mP he 33 rfl t
    replace hf:=cO hb hf
    refine stS hf rfl rfl rfl fun a hf=>?_
    replace hf:=oK (u:=.agg #[i6 I.Lo,i6 I.Hi]) hb hf
    exact zD θ he hi hf 35 rfl rfl rfl hc
  ·intro E θ a w hD hi hp he hc
   have t:=hp.o 22 rfl
   have b5:=hp.o 23 rfl
   have bu:=hp.o 24 rfl
   rcases fP ((((((H.2 == 0) && (B.2 == 0)) && (D.2.2 == 0)) && (O.2 == 0)) && (R.2 == 0)) && (H.1 == 5)) with hb | hb
   ·have hf:=he.h0.mP he 33 rfl t
    replace hf:=cO hb hf
    replace hf:=hf.more he 34 rfl (onP b5)
    replace hf:=kZ hb hf
    replace hf:=hf.more he 35 rfl (onP bu)
    replace hf:=kZ hb hf
    refine zP hf rfl (pEqA aMy rfl rfl (aK5 _ _ _ _)) fun a hf=>?_
    replace hf:=oL (u:=undef) hb hf
    exact zD θ he hi hf 36 rfl rfl rfl hc
   ·have hf:=he.h0.mP he 33 rfl t
    replace hf:=cO hb hf
    replace hf:=hf.more he 34 rfl (onP b5)
    replace hf:=kY hb hf
    replace hf:=hf.more he 35 rfl (onP bu)
    replace hf:=kY hb hf
    refine stS hf rfl rfl rfl fun a hf=>?_
    replace hf:=oK (u:=.bool (B.1.Lo == I.Lo && B.1.Hi == I.Hi)) hb hf
    exact zD θ he hi hf 36 rfl rfl rfl hc
  ·intro E θ a w hD hi hp he hc
   have t:=hp.o 22 rfl
   have bt:=hp.o 25 rfl
   rcases fP ((((((H.2 == 0) && (B.2 == 0)) && (D.2.2 == 0)) && (O.2 == 0)) && (R.2 == 0)) && (H.1 == 5)) with hb | hb
   ·have hf:=he.h0.mP he 33 rfl t
    replace hf:=cO hb hf
    replace hf:=hf.more he 36 rfl (onP bt)
    replace hf:=kZ hb hf
    refine sp 1 hf rfl fun a hf=>?_
    replace hf:=oG (v':=.bool (((((((H.2 == 0) && (B.2 == 0)) && (D.2.2 == 0)) && (O.2 == 0)) && (R.2 == 0)) && (H.1 == 5)) && (B.1.Lo == I.Lo && B.1.Hi == I.Hi))) (congrArg Value.bool (aD0 hb)) hf
    exact zD θ he hi hf 37 rfl rfl rfl hc
   ·have hf:=he.h0.mP he 33 rfl t
    replace hf:=cO hb hf
    replace hf:=hf.more he 36 rfl (onP bt)
    replace hf:=kY hb hf
    refine sp 1 hf rfl fun a hf=>?_
    replace hf:=oG (v':=.bool (((((((H.2 == 0) && (B.2 == 0)) && (D.2.2 == 0)) && (O.2 == 0)) && (R.2 == 0)) && (H.1 == 5)) && (B.1.Lo == I.Lo && B.1.Hi == I.Hi))) (congrArg Value.bool (aDv hb)) hf
    exact zD θ he hi hf 37 rfl rfl rfl hc
  ·intro E θ a w hD hi hp he hc
   have db:=hp.o 26 rfl
   have hf:=he.h0.mP he 37 rfl db
   refine sp 1 hf rfl fun a hf=>zD θ he hi hf 38 rfl rfl rfl hc
  ·intro E θ a w hD hi hp he hc
   have ak:=hp.o 27 rfl
   rcases fP (((((((H.2 == 0) && (B.2 == 0)) && (D.2.2 == 0)) && (O.2 == 0)) && (R.2 == 0)) && (H.1 == 5)) && (B.1.Lo == I.Lo && B.1.Hi == I.Hi)) with hb | hb
   ·have hf:=(he.h0.mT he 4 rfl).mP he 38 rfl ak
    replace hf:=cO hb hf
    refine sp 1 hf rfl fun a hf=>?_
    replace hf:=oL (u:=undef) hb hf
    exact zD θ he hi hf 39 rfl rfl rfl hc
   ·have hf:=(he.h0.mT he 4 rfl).mP he 38 rfl ak
    replace hf:=cO hb hf
    refine stS hf rfl rfl rfl fun a hf=>?_
    replace hf:=oK (u:=i6 D.1) hb hf
    exact zD θ he hi hf 39 rfl rfl rfl hc
  ·intro E θ a w hD hi hp he hc
   have ak:=hp.o 27 rfl
   have b8:=hp.o 28 rfl
   rcases fP (((((((H.2 == 0) && (B.2 == 0)) && (D.2.2 == 0)) && (O.2 == 0)) && (R.2 == 0)) && (H.1 == 5)) && (B.1.Lo == I.Lo && B.1.Hi == I.Hi)) with hb | hb
   ·have hf:=he.h0.mP he 38 rfl ak
    replace hf:=cO hb hf
    replace hf:=hf.more he 39 rfl (onP b8)
    replace hf:=kZ hb hf
    refine sp 1 hf rfl fun a hf=>?_
    replace hf:=oL (u:=undef) hb hf
    exact zD θ he hi hf 40 rfl rfl rfl hc
   ·have hf:=he.h0.mP he 38 rfl ak
    replace hf:=cO hb hf
    replace hf:=hf.more he 39 rfl (onP b8)
    replace hf:=kY hb hf
    refine stS hf rfl rfl rfl fun a hf=>?_
    replace hf:=oK (u:=.bool (D.1 == 5)) hb hf
    exact zD θ he hi hf 40 rfl rfl rfl hc
  ·intro E θ a w hD hi hp he hc
   have ak:=hp.o 27 rfl
   have b4:=hp.o 29 rfl
   rcases fP (((((((H.2 == 0) && (B.2 == 0)) && (D.2.2 == 0)) && (O.2 == 0)) && (R.2 == 0)) && (H.1 == 5)) && (B.1.Lo == I.Lo && B.1.Hi == I.Hi)) with hb | hb
   ·have hf:=he.h0.mP he 38 rfl ak
    replace hf:=cO hb hf
    replace hf:=hf.more he 40 rfl (onP b4)
    replace hf:=kZ hb hf
    refine sp 1 hf rfl fun a hf=>?_
    replace hf:=oG (v':=.bool ((((((((H.2 == 0) && (B.2 == 0)) && (D.2.2 == 0)) && (O.2 == 0)) && (R.2 == 0)) && (H.1 == 5)) && (B.1.Lo == I.Lo && B.1.Hi == I.Hi)) && (D.1 == 5))) (congrArg Value.bool (aD0 hb)) hf
    exact zD θ he hi hf 41 rfl rfl rfl hc
   ·have hf:=he.h0.mP he 38 rfl ak
    replace hf:=cO hb hf
    replace hf:=hf.more he 40 rfl (onP b4)
    replace hf:=kY hb hf
    refine sp 1 hf rfl fun a hf=>?_
    replace hf:=oG (v':=.bool ((((((((H.2 == 0) && (B.2 == 0)) && (D.2.2 == 0)) && (O.2 == 0)) && (R.2 == 0)) && (H.1 == 5)) && (B.1.Lo == I.Lo && B.1.Hi == I.Hi)) && (D.1 == 5))) (congrArg Value.bool (aDv hb)) hf
    exact zD θ he hi hf 41 rfl rfl rfl hc
  ·intro E θ a w hD hi hp he hc
   have cx:=hp.o 30 rfl
   have hf:=he.h0.mP he 41 rfl cx
   refine sp 1 hf rfl fun a hf=>zD θ he hi hf 42 rfl rfl rfl hc
  ·intro E θ a w hD hi hp he hc
   have an:=hp.o 31 rfl
   rcases fP ((((((((H.2 == 0) && (B.2 == 0)) && (D.2.2 == 0)) && (O.2 == 0)) && (R.2 == 0)) && (H.1 == 5)) && (B.1.Lo == I.Lo && B.1.Hi == I.Hi)) && (D.1 == 5)) with hb | hb
   ·have hf:=(he.h0.mT he 5 rfl).mP he 42 rfl an
    replace hf:=cO hb hf
    refine sp 1 hf rfl fun a hf=>?_
    replace hf:=oL (u:=undef) hb hf
    exact zD θ he hi hf 43 rfl rfl rfl hc
   ·have hf:=(he.h0.mT he 5 rfl).mP he 42 rfl an
    replace hf:=cO hb hf
    refine stS hf rfl rfl rfl fun a hf=>?_
    replace hf:=oK (u:=i6 D.2.1) hb hf
    exact zD θ he hi hf 43 rfl rfl rfl hc
  ·intro E θ a w hD hi hp he hc
   have an:=hp.o 31 rfl
   have b3:=hp.o 32 rfl
   rcases fP ((((((((H.2 == 0) && (B.2 == 0)) && (D.2.2 == 0)) && (O.2 == 0)) && (R.2 == 0)) && (H.1 == 5)) && (B.1.Lo == I.Lo && B.1.Hi == I.Hi)) && (D.1 == 5)) with hb | hb
   ·have hf:=he.h0.mP he 42 rfl an
    replace hf:=cO hb hf
    replace hf:=hf.more he 43 rfl (onP b3)
    replace hf:=kZ hb hf
    refine sp 1 hf rfl fun a hf=>?_
    replace hf:=oL (u:=undef) hb hf
    exact zD θ he hi hf 44 rfl rfl rfl hc
   ·have hf:=he.h0.mP he 42 rfl an
    replace hf:=cO hb hf
    replace hf:=hf.more he 43 rfl (onP b3)
    replace hf:=kY hb hf
    refine stS hf rfl rfl rfl fun a hf=>?_
    replace hf:=oK (u:=.bool (D.2.1 == (-1))) hb hf
    exact zD θ he hi hf 44 rfl rfl rfl hc
  ·intro E θ a w hD hi hp he hc
   have an:=hp.o 31 rfl
   have b6:=hp.o 33 rfl
   rcases fP ((((((((H.2 == 0) && (B.2 == 0)) && (D.2.2 == 0)) && (O.2 == 0)) && (R.2 == 0)) && (H.1 == 5)) && (B.1.Lo == I.Lo && B.1.Hi == I.Hi)) && (D.1 == 5)) with hb | hb
   ·have hf:=he.h0.mP he 42 rfl an
    replace hf:=cO hb hf
    replace hf:=hf.more he 44 rfl (onP b6)
    replace hf:=kZ hb hf
    refine sp 1 hf rfl fun a hf=>?_
    replace hf:=oG (v':=.bool (((((((((H.2 == 0) && (B.2 == 0)) && (D.2.2 == 0)) && (O.2 == 0)) && (R.2 == 0)) && (H.1 == 5)) && (B.1.Lo == I.Lo && B.1.Hi == I.Hi)) && (D.1 == 5)) && (D.2.1 == (-1)))) (congrArg Value.bool (aD0 hb)) hf
    exact zD θ he hi hf 45 rfl rfl rfl hc
   ·have hf:=he.h0.mP he 42 rfl an
    replace hf:=cO hb hf
    replace hf:=hf.more he 44 rfl (onP b6)
    replace hf:=kY hb hf
    refine sp 1 hf rfl fun a hf=>?_
    replace hf:=oG (v':=.bool (((((((((H.2 == 0) && (B.2 == 0)) && (D.2.2 == 0)) && (O.2 == 0)) && (R.2 == 0)) && (H.1 == 5)) && (B.1.Lo == I.Lo && B.1.Hi == I.Hi)) && (D.1 == 5)) && (D.2.1 == (-1)))) (congrArg Value.bool (aDv hb)) hf
    exact zD θ he hi hf 45 rfl rfl rfl hc
  ·intro E θ a w hD hi hp he hc
   have c9:=hp.o 34 rfl
   have hf:=he.h0.mP he 45 rfl c9
   refine sp 1 hf rfl fun a hf=>zD θ he hi hf 46 rfl rfl rfl hc
  ·intro E θ a w hD hi hp he hc
   have q:=hp.o 35 rfl
   rcases fP (((((((((H.2 == 0) && (B.2 == 0)) && (D.2.2 == 0)) && (O.2 == 0)) && (R.2 == 0)) && (H.1 == 5)) && (B.1.Lo == I.Lo && B.1.Hi == I.Hi)) && (D.1 == 5)) && (D.2.1 == (-1))) with hb | hb
   ·have hf:=(he.h0.mT he 9 rfl).mP he 46 rfl q
    replace hf:=cO hb hf
    refine sp 1 hf rfl fun a hf=>?_
    replace hf:=oL (u:=undef) hb hf
    exact zD θ he hi hf 47 rfl rfl rfl hc
   ·have hf:=(he.h0.mT he 9 rfl).mP he 46 rfl q
    replace hf:=cO hb hf
    refine stS hf rfl rfl rfl fun a hf=>?_
    replace hf:=oK (u:=.slice au O.1.length ax) hb hf
    exact zD θ he hi hf 47 rfl rfl rfl hc
  ·intro E θ a w hD hi hp he hc
   have q:=hp.o 35 rfl
   try dsimp only at hc
   rw [hi] at hc
   rcases fP (((((((((H.2 == 0) && (B.2 == 0)) && (D.2.2 == 0)) && (O.2 == 0)) && (R.2 == 0)) && (H.1 == 5)) && (B.1.Lo == I.Lo && B.1.Hi == I.Hi)) && (D.1 == 5)) && (D.2.1 == (-1))) with hb | hb
   ·have hf:=he.h0.mP he 46 rfl q
    replace hf:=cO hb hf
    refine nU (rows:=([0,10,15]:List Int).map aD) (vs:=[(0,i6 0),(1,i6 10),(2,i6 15)]) hf hc rfl rfl jO rfl ⟨rfl,rfl,rfl,rfl,rfl,rfl,rfl,rfl,rfl,trivial⟩ rfl rfl fun cf a w hf hc=>?_
    replace hf:=oL (u:=undef) hb hf
    refine aL ?_
    refine jV ?_
    intro ds u ay
    replace hc:=hc.drop k1
    refine ⟨(uQ θ 296 ⟨cf,none,0,(fun _=>(none,0))⟩),he.put hi ay hf rfl [] trivial ⟨qq,qq,qq,qq,qq,qq,qq,qq,qq,qq,qq,qq,qq,qq,qq,qq,qq,qq,qq,qq,qq,qq,qq,qq,qq,qq,qq,qq,qq,qq,qq,qq,qq,qq,qq,qq,qq,qq,qq,qq,qq,qq,qq,qq,qq,qq,qq,qq,qq,qq,qq,qq,qq,qq,qq,qq,trivial⟩,?_⟩
    try dsimp only
    rw [bV E 37]
    rw [gE_T hb]
    exact hc
   ·have hf:=he.h0.mP he 46 rfl q
    replace hf:=cO hb hf
    refine stS hf rfl rfl rfl fun a hf=>?_
    replace hf:=oK (u:=.slice (some ⟨(θ 296).b,0,none⟩) 3 3) hb hf
    refine zD θ he hi hf 48 rfl rfl rfl ?_
    try dsimp only
    rw [bV E 37]
    rw [gE_F hb]
    exact hc
  ·intro E θ a w hD hi hp he hc
   have q:=hp.o 35 rfl
   have bq:=hp.o 36 rfl
   have aq:=hp.o 37 rfl
   try dsimp only at hc
   rw [aq] at hc
   rcases fP (((((((((H.2 == 0) && (B.2 == 0)) && (D.2.2 == 0)) && (O.2 == 0)) && (R.2 == 0)) && (H.1 == 5)) && (B.1.Lo == I.Lo && B.1.Hi == I.Hi)) && (D.1 == 5)) && (D.2.1 == (-1))) with hb | hb
   ·have hf:=he.h0.mP he 46 rfl q
    replace hf:=cO hb hf
    replace hf:=hf.more he 47 rfl (onP bq)
    replace hf:=kZ hb hf
    replace hf:=hf.more he 48 rfl (onP aq)
    replace hf:=kZ hb hf
    rw [gE_T hb] at hc
    refine zQ (v:=.bool i) hf hc aD2 rfl (fun w hc=>by obtain ⟨G1,j,Z,hc,d⟩:=lend hc k3; obtain ⟨G2,m,n,hc,k⟩:=lend hc k0; exact (lB O.1 ([0,10,15]:List Int) (Z.mono m) n hc (fU hb bm)).mono fun e w h=>⟨h.1,((d _ _ ((k _ _ h.2).unpick k0)).unpick k3)⟩) fun a w hf hc=>?_
    replace hf:=oL (u:=undef) hb hf
    refine zD θ he hi hf 49 rfl rfl rfl ?_
    try dsimp only
    rw [mG 38 aq]
    rw [gE_T hb]
    exact hc
   ·have hf:=he.h0.mP he 46 rfl q
    replace hf:=cO hb hf
    replace hf:=hf.more he 47 rfl (onP bq)
    replace hf:=kY hb hf
    replace hf:=hf.more he 48 rfl (onP aq)
    replace hf:=kY hb hf
    rw [gE_F hb] at hc
    refine stS hf rfl rfl rfl fun a hf=>?_
    replace hf:=oK (u:=.bool i) hb hf
    refine zD θ he hi hf 49 rfl rfl rfl ?_
    try dsimp only
    rw [mG 38 aq]
    rw [gE_F hb]
    exact hc
  ·intro E θ a w hD hi hp he hc
   have q:=hp.o 35 rfl
   have b7:=hp.o 38 rfl
   rcases fP (((((((((H.2 == 0) && (B.2 == 0)) && (D.2.2 == 0)) && (O.2 == 0)) && (R.2 == 0)) && (H.1 == 5)) && (B.1.Lo == I.Lo && B.1.Hi == I.Hi)) && (D.1 == 5)) && (D.2.1 == (-1))) with hb | hb
   ·have hf:=he.h0.mP he 46 rfl q
    replace hf:=cO hb hf
    replace hf:=hf.more he 49 rfl (onP b7)
    replace hf:=kZ hb hf
    refine sp 1 hf rfl fun a hf=>?_
    replace hf:=oG (v':=.bool ((((((((((H.2 == 0) && (B.2 == 0)) && (D.2.2 == 0)) && (O.2 == 0)) && (R.2 == 0)) && (H.1 == 5)) && (B.1.Lo == I.Lo && B.1.Hi == I.Hi)) && (D.1 == 5)) && (D.2.1 == (-1))) && i)) (congrArg Value.bool (aD0 hb)) hf
    exact zD θ he hi hf 50 rfl rfl rfl hc
   ·have hf:=he.h0.mP he 46 rfl q
    replace hf:=cO hb hf
    replace hf:=hf.more he 49 rfl (onP b7)
    replace hf:=kY hb hf
    refine sp 1 hf rfl fun a hf=>?_
    replace hf:=oG (v':=.bool ((((((((((H.2 == 0) && (B.2 == 0)) && (D.2.2 == 0)) && (O.2 == 0)) && (R.2 == 0)) && (H.1 == 5)) && (B.1.Lo == I.Lo && B.1.Hi == I.Hi)) && (D.1 == 5)) && (D.2.1 == (-1))) && i)) (congrArg Value.bool (aDv hb)) hf
    exact zD θ he hi hf 50 rfl rfl rfl hc
  ·intro E θ a w hD hi hp he hc
   have c1:=hp.o 39 rfl
   have hf:=he.h0.mP he 50 rfl c1
   refine sp 1 hf rfl fun a hf=>zD θ he hi hf 51 rfl rfl rfl hc
  ·intro E θ a w hD hi hp he hc
   have aj:=hp.o 40 rfl
   rcases fP ((((((((((H.2 == 0) && (B.2 == 0)) && (D.2.2 == 0)) && (O.2 == 0)) && (R.2 == 0)) && (H.1 == 5)) && (B.1.Lo == I.Lo && B.1.Hi == I.Hi)) && (D.1 == 5)) && (D.2.1 == (-1))) && i) with hb | hb
   ·have hf:=(he.h0.mT he 10 rfl).mP he 51 rfl aj
    replace hf:=cO hb hf
    refine sp 1 hf rfl fun a hf=>?_
    replace hf:=oL (u:=undef) hb hf
    exact zD θ he hi hf 52 rfl rfl rfl hc
   ·have hf:=(he.h0.mT he 10 rfl).mP he 51 rfl aj
    replace hf:=cO hb hf
    refine stS hf rfl rfl rfl fun a hf=>?_
    replace hf:=oK (u:=i6 R.1) hb hf
    exact zD θ he hi hf 52 rfl rfl rfl hc
  ·intro E θ a w hD hi hp he hc
   have aj:=hp.o 40 rfl
   have bz:=hp.o 41 rfl
   rcases fP ((((((((((H.2 == 0) && (B.2 == 0)) && (D.2.2 == 0)) && (O.2 == 0)) && (R.2 == 0)) && (H.1 == 5)) && (B.1.Lo == I.Lo && B.1.Hi == I.Hi)) && (D.1 == 5)) && (D.2.1 == (-1))) && i) with hb | hb
   ·have hf:=he.h0.mP he 51 rfl aj
    replace hf:=cO hb hf
    replace hf:=hf.more he 52 rfl (onP bz)
    replace hf:=kZ hb hf
    refine sp 1 hf rfl fun a hf=>?_
    replace hf:=oL (u:=undef) hb hf
    exact zD θ he hi hf 53 rfl rfl rfl hc
   ·have hf:=he.h0.mP he 51 rfl aj
    replace hf:=cO hb hf
    replace hf:=hf.more he 52 rfl (onP bz)
    replace hf:=kY hb hf
    refine stS hf rfl rfl rfl fun a hf=>?_
    replace hf:=oK (u:=.bool (R.1 == 4815)) hb hf
    exact zD θ he hi hf 53 rfl rfl rfl hc
  ·intro E θ a w hD hi hp he hc
   have aj:=hp.o 40 rfl
   have br:=hp.o 42 rfl
   rcases fP ((((((((((H.2 == 0) && (B.2 == 0)) && (D.2.2 == 0)) && (O.2 == 0)) && (R.2 == 0)) && (H.1 == 5)) && (B.1.Lo == I.Lo && B.1.Hi == I.Hi)) && (D.1 == 5)) && (D.2.1 == (-1))) && i) with hb | hb
   ·have hf:=he.h0.mP he 51 rfl aj
    replace hf:=cO hb hf
    replace hf:=hf.more he 53 rfl (onP br)
    replace hf:=kZ hb hf
    refine sp 1 hf rfl fun a hf=>?_
    replace hf:=oG (v':=.bool (((((((((((H.2 == 0) && (B.2 == 0)) && (D.2.2 == 0)) && (O.2 == 0)) && (R.2 == 0)) && (H.1 == 5)) && (B.1.Lo == I.Lo && B.1.Hi == I.Hi)) && (D.1 == 5)) && (D.2.1 == (-1))) && i) && (R.1 == 4815))) (congrArg Value.bool (aD0 hb)) hf
    exact zD θ he hi hf 54 rfl rfl rfl hc
   ·have hf:=he.h0.mP he 51 rfl aj
    replace hf:=cO hb hf
    replace hf:=hf.more he 53 rfl (onP br)
    replace hf:=kY hb hf
    refine sp 1 hf rfl fun a hf=>?_
    replace hf:=oG (v':=.bool (((((((((((H.2 == 0) && (B.2 == 0)) && (D.2.2 == 0)) && (O.2 == 0)) && (R.2 == 0)) && (H.1 == 5)) && (B.1.Lo == I.Lo && B.1.Hi == I.Hi)) && (D.1 == 5)) && (D.2.1 == (-1))) && i) && (R.1 == 4815))) (congrArg Value.bool (aDv hb)) hf
    exact zD θ he hi hf 54 rfl rfl rfl hc
  ·intro E θ a w hD hi hp he hc
   have c5:=hp.o 43 rfl
   have hf:=he.h0.mP he 54 rfl c5
   refine sp 1 hf rfl fun a hf=>zD θ he hi hf 55 rfl rfl rfl hc
  ·intro E θ a w ag he hc
   have hf:=he.h0
   have aq:=ag 37 rfl
   have c3:=ag 44 rfl
   replace hf:=hf.more he 55 rfl (onP c3)
   try dsimp only at hc
   rw [aq] at hc
   replace hc:=hc.drop k0
   exact ⟨hf.kp rfl,hc⟩
  rintro a w ⟨hf,hc⟩
  refine c0 _ _ ?_
  refine wp_ret ?_
  obtain rfl:=sj hF
  replace hc:=(((((hc.drop k5).drop k4).drop k3).drop k2).drop k1).drop k0
  exact zO1 Tryz.results15 hf rfl ⟨rfl,hc⟩

def hZ (N:Nat) (l:List Int):Option ((List Int)) :=
 Option.bind (room (l).length) fun un=>
 some l
theorem oW {N:Nat} {G:aQ} {Lf:List Ent} {w:World} (l:List Int) {J:Option Addr} {I:Nat} (R:Rd G 1 J I (l.map aD)) (hc:Ctx G (Lf) w) {B:(List Int)} (hF:hZ N l=some B):Calls Tryz.prog 17 #[.slice J l.length I] w (fun e w=>∃ (D:Option Addr) (H:Nat),e=.returned (.slice D B.length H)∧Ctx G (.row D H (B.map aD) 3 1::Lf) w):=by
 unfold hZ at hF
 refine bN Tryz.func17 rfl Tryz.ntmps17 rfl fun a hf=>zS fun K h=>sp 1 hf rfl fun a hf=>zT h ?_
 refine zS fun K h=>sp 1 hf rfl fun a hf=>zT h ?_
 refine zS fun K h=>sp 2 hf rfl fun a hf=>?_
 replace hc:=hc.nilRow 3 1
 obtain ⟨un,M,hF⟩:=aA hF
 refine pG (xs:=([]:List Int)) (ys:=l) hf hc rfl rfl jO rfl rfl rfl rfl rfl bP (aCt hc R) (fun _ _=>u0) (by simpa using fA M) fun S O a w hf hc=>sp 1 hf rfl fun a hf=>zT h ?_
 refine wp_ret ?_
 obtain rfl:=sj hF
 exact zO1 Tryz.results17 hf rfl ⟨S,O,rfl,hc⟩

def dW (N:Nat) (l:List (List Int)) (out:List (List Int)) (B:Int):Option (bK ((List (List Int)) × Int) ((List (List Int)))) :=
 cond (decide (B < ((l.length:Nat):Int)))
 (Option.bind (aU l B) fun D=>
 Option.bind (hZ N D) fun r=>
 Option.bind (room ((out++[r])).length) fun un=>
 some (.cont ((out++[r]),W (B + 1))))
 (some (.brk (out,B)))
def jP (N:Nat) (l:List (List Int)):Option ((List (List Int))) :=
 Option.bind (aS (fun s5=>dW N l s5.1 s5.2) N (([]:List (List Int)),0)) fun x5=>
 exK x5 (fun s5=>some s5.1) some
theorem rP {N:Nat} {G:aQ} {Lf:List Ent} {w:World} (l:List (List Int)) {Y:Option Addr} {V:Nat} (n:RdT aM G 1 Y V l) (hc:Ctx G (Lf) w) {I:(List (List Int))} (hF:jP N l=some I):Calls Tryz.prog 115 #[.slice Y l.length V] w (fun e w=>∃ (Z:Option Addr) (D:vP),e=.returned (.slice Z I.length D.1)∧Ctx G (.row Z D.1 ((aK D.2 I).map (Kd.v aM)) 25 1::bZ aM (aK D.2 I)::Lf) w):=by
 unfold jP at hF
 refine bN Tryz.func115 rfl Tryz.ntmps115 rfl fun a hf=>zS fun K h=>sp 1 hf rfl fun a hf=>zT h ?_
 refine zS fun K h=>sp 1 hf rfl fun a hf=>zT h ?_
 refine wp_seq_k fun K3 h3=>zS fun K h=>sp 1 hf rfl fun a hf=>zT h ?_
 refine wp_block ?_
 obtain ⟨x5,i,hF⟩:=aA hF
 let S5:((List (List Int)) × Int)→Act→World→Prop:=(fun (zz:(List (List Int)) × Int) a w=>∃ (H:Option Addr) (B:vP),Has 20 a [(0,.slice Y l.length V),(3,.slice H zz.1.length B.1),(4,i6 zz.2)]∧Ctx G (.row H B.1 ((aK B.2 zz.1).map (Kd.v aM)) 25 1::bZ aM (aK B.2 zz.1)::Lf) w)
 have p:∀ (zz:(List (List Int)) × Int) a w,x5=.go zz→S5 zz a w→K3 a w:=by
  rintro ⟨out,b⟩ a w rfl ⟨H,B,hf,hc⟩
  replace hF:=bH hF
  refine h3 _ _ ?_
  refine zS fun K h=>sp 2 hf rfl fun a hf=>zT h ?_
  refine wp_ret ?_
  obtain rfl:=sj hF
  exact zO1 Tryz.results115 hf rfl ⟨H,B,rfl,hc⟩
 have u:∀ r,x5=.out r→r=I:=by
  rintro r rfl
  exact sj hF
 replace hc:=hc.nilRow 25 1
 replace hc:=aE3 (K:=aM) (hs:=(noH 0)) hc
 replace hc:=(hc.pick k0).pick k1
 refine bY N (bX (S:=S5) (x:=x5) ?_ N (([]:List (List Int)),0) _ _ ⟨none,(0,(noH 0)),hf.kp rfl,hc⟩ i)
 clear hF hf hc
 rintro ⟨out,b⟩ t a w KB5 ⟨H,B,hf,hc⟩ hF J k
 unfold dW at hF
 refine wp_seq_k fun K7 h7=>zS fun K h=>sp 2 hf rfl fun a hf=>zP hf rfl (aW Tryz.underlying75 rfl) fun a hf=>sp 1 hf rfl fun a hf=>zT h ?_
 refine zI hf rfl hF ?_ ?_ <;> clear hF <;> intro hF
 ·refine wp_skip ?_
  refine h7 _ _ ?_
  refine wp_seq_k fun K9 h9=>wp_block ?_
  refine bW ?_
  refine sp 3 hf rfl fun a hf=>?_
  obtain ⟨g,d,hF⟩:=aA hF
  obtain ⟨s,o,hd,qa,qp,qr⟩:=n.atm d
  refine zP hf rfl (pIA Tryz.underlying75 kX rfl rfl qa) fun a hf=>zE hf hc rfl (bF fB rfl (aR (j:=0) qp rfl)) fun a w hf hc=>?_
  obtain ⟨r,hr,hF⟩:=aA hF
  refine zC hf aHl rfl (oW g qr hc hr) ?_
  rintro _ w ⟨O,M,rfl,hc⟩
  refine ⟨_,rfl,fun a hf=>?_⟩
  refine nU (rows:=([((O,M),r)]:List (H2 × (List Int))).map (Kd.v aM)) (vs:=[(0,.slice O r.length M)]) hf hc rfl rfl aLc rfl ⟨rfl,rfl,rfl,trivial⟩ rfl rfl fun q a w hf hc=>?_
  obtain ⟨un,m,hF⟩:=aA hF
  refine pG (xs:=(aK B.2 out)) (ys:=([((O,M),r)]:List (H2 × (List Int)))) hf hc rfl rfl aLc rfl rfl (hU _ _).symm rfl rfl dA (lL hc m0) (fun _ _=>u2) (by simpa [hU] using fA m) fun X R a w hf hc=>?_
  replace hf:=oG (v':=.slice X (out++[r]).length R) (by simp [hU]) hf
  refine sp 1 hf rfl fun a hf=>aL ?_
  replace hc:=(((hc.drop k0).pick k0).pick k2).pick k2
  obtain ⟨U,hc⟩:=aA7 (K:=aM) ([((O,M),r)]:List (H2 × (List Int))) hc
  replace hc:Ctx G (.row X R ((aK U (out++[r])).map (Kd.v aM)) 25 1::bZ aM (aK U (out++[r]))::Lf) w:=hc
  refine h9 _ _ ?_
  refine bW ?_
  refine sp 3 hf rfl fun a hf=>aL ?_
  exact k ((out++[r]),W (b + 1)) _ _ (sj hF).symm ⟨X,(R,U),hf.kp rfl,hc⟩
 ·refine wp_exit ?_
  refine aN ?_
  refine aN ?_
  have he:=sj hF
  rw [← he] at J
  refine cT ?_
  exact p _ _ _ J ⟨H,B,hf.kp rfl,hc⟩

def eP (N:Nat) (r:aB) (x:Int) (B:List aG):Option (bK (Int × (List aG)) (aB)) :=
 cond (decide (x < ((r.Stations.length:Nat):Int)))
 (Option.bind (aU r.Stations x) fun D=>
 Option.bind (hZ N D.Order) fun H=>
 Option.bind (room ((B++[(⟨D.Places,H⟩:aG)])).length) fun un=>
 some (.cont (W (x + 1),(B++[(⟨D.Places,H⟩:aG)]))))
 (some (.brk (x,B)))
def kI (N:Nat) (r:aB):Option (aB) :=
 Option.bind (jP N r.People) fun B=>
 Option.bind (aS (fun s5=>eP N r s5.1 s5.2) N (0,([]:List aG))) fun x5=>
 exK x5 (fun s5=>some (⟨B,s5.2⟩:aB)) some
theorem yA {N:Nat} {G:aQ} {Lf:List Ent} {w:World} (r:aB) {Y:Option Addr} {Z:Nat} {H:Option Addr} {I:Nat} (aa:RdT aM G 1 Y Z r.People) (m:RdT bA G 2 H I r.Stations) (hc:Ctx G (Lf) w) {d:aB} (hF:kI N r=some d):Calls Tryz.prog 53 #[.agg #[.slice Y r.People.length Z,.slice H r.Stations.length I]] w (fun e w=>∃ (an:Option Addr) (i:vP) (am:Option Addr) (g:vP),e=.returned (.agg #[.slice an d.People.length i.1,.slice am d.Stations.length g.1])∧Ctx G (.row an i.1 ((aK i.2 d.People).map (Kd.v aM)) 25 1::bZ aM (aK i.2 d.People)::.row am g.1 ((aK g.2 d.Stations).map (Kd.v bA)) 101 2::bZ bA (aK g.2 d.Stations)::Lf) w):=by
 unfold kI at hF
 refine bN Tryz.func53 rfl Tryz.ntmps53 rfl fun a hf=>zS fun K h=>zB hf hc rfl fun a3 a w hf hc=>zA hf hc aHq rfl fun j a w hf hc=>zT h ?_
 refine zS fun K h=>zP hf rfl (pFA iK rfl) fun a hf=>zL hf hc gB m1 rfl fun a w hf hc=>?_
 obtain ⟨R,ar,hF⟩:=aA hF
 refine zC hf aLo rfl (rP r.People aa hc ar) ?_
 rintro _ w ⟨U,M,rfl,hc⟩
 refine ⟨_,rfl,fun a hf=>?_⟩
 refine zP hf rfl (cK (cells:=[.slice U R.length M.1,.slice none 0 0]) aMr rfl rfl) fun a hf=>zA hf hc aHq rfl fun V a w hf hc=>zW hf hc aHy u0 rfl fun w hc=>zT h ?_
 refine wp_seq_k fun K3 h3=>zS fun K h=>zP hf rfl (pFA fJ rfl) fun a hf=>zL hf hc mR m4 rfl fun a w hf hc=>zP hf rfl (aW Tryz.underlying76 rfl) fun a hf=>sp 1 hf rfl fun a hf=>zT h ?_
 refine wp_block ?_
 obtain ⟨x5,az,hF⟩:=aA hF
 let S5:(Int × (List aG))→Act→World→Prop:=(fun (zz:Int × (List aG)) a w=>∃ (X:Option Addr) (B:vP),Has 30 a [(2,pq j),(3,pq V),(11,.slice H r.Stations.length I),(12,i6 ((r.Stations.length:Nat):Int)),(13,i6 zz.1)]∧Ctx G (.row X B.1 ((aK B.2 zz.2).map (Kd.v bA)) 101 2::bZ bA (aK B.2 zz.2)::.box V [.slice U R.length M.1,.slice X zz.2.length B.1] 78::.row U M.1 ((aK M.2 R).map (Kd.v aM)) 25 1::bZ aM (aK M.2 R)::.box j [.slice none 0 0,.slice none 0 0] 78::Lf) w)
 have av:∀ (zz:Int × (List aG)) a w,x5=.go zz→S5 zz a w→K3 a w:=by
  rintro ⟨x,O⟩ a w rfl ⟨X,B,hf,hc⟩
  replace hF:=bH hF
  refine h3 _ _ ?_
  refine zS fun K h=>zN hf hc nY m2 rfl fun a w hf hc=>zW hf hc aHy u5 rfl fun w hc=>zT h ?_
  refine wp_ret ?_
  obtain rfl:=sj hF
  replace hc:=((((hc.drop k2).pick k1).pick k1).pick k3).pick k3
  exact vQ (by simp) rfl Tryz.results53 hf hc (eG (vs:=[.slice U R.length M.1,.slice X O.length B.1]) nY rfl rfl (bM (n:=2) m4 rfl)) ⟨U,M,X,B,rfl,(hc.drop k4)⟩
 have a5:∀ r,x5=.out r→r=d:=by
  rintro r rfl
  exact sj hF
 replace hc:=hc.nilRow 101 2
 replace hc:=aE3 (K:=bA) (hs:=(noH 0)) hc
 replace hc:=((hc.drop k6).pick k0).pick k1
 refine bY N (bX (S:=S5) (x:=x5) ?_ N (0,([]:List aG)) _ _ ⟨none,(0,(noH 0)),hf.kp rfl,hc⟩ az)
 clear hF hf hc
 rintro ⟨x,O⟩ a4 a w KB5 ⟨X,B,hf,hc⟩ hF af a0
 unfold eP at hF
 refine zS fun K h=>sp 1 hf rfl fun a hf=>zT h ?_
 refine wp_seq_k fun K8 h8=>zI hf rfl hF ?_ ?_ <;> clear hF <;> intro hF
 ·refine wp_skip ?_
  refine h8 _ _ ?_
  refine wp_seq_k fun K9 h9=>wp_block ?_
  refine zS fun K h=>?_
  obtain ⟨D,aq,hF⟩:=aA hF
  obtain ⟨a6,o,hd,qa,qp,qr⟩:=m.atm aq
  refine zP hf rfl (pIA Tryz.underlying76 mK rfl rfl qa) fun a hf=>zE hf hc rfl (kG (vs:=[i6 D.Places,.slice hd.1 D.Order.length hd.2]) xI rfl rfl (dF qp (n:=2) (o':=0) rfl)) fun a w hf hc=>zA hf hc aEv rfl fun s a w hf hc=>zW hf hc mK u0 rfl fun w hc=>zT h ?_
  obtain ⟨J,ap,hF⟩:=aA hF
  obtain ⟨un,au,hF⟩:=aA hF
  replace hc:=hc.nilRow 0 0
  replace hc:=hc.nilRow 0 0
  refine mB (fun θ=>[⟨none,none,2,pq j⟩,⟨none,none,3,pq V⟩,⟨none,none,5,pq s⟩,⟨none,none,11,.slice H r.Stations.length I⟩,⟨none,none,12,i6 ((r.Stations.length:Nat):Int)⟩,⟨none,none,13,i6 x⟩,⟨some 0,none,17,.pointer (some ⟨V,1,none⟩)⟩,⟨some 1,none,18,.slice X O.length B.1⟩,⟨some 2,none,19,pq s⟩,⟨some 3,none,20,i6 D.Places⟩,⟨some 4,none,21,.pointer (some ⟨s,1,none⟩)⟩,⟨some 5,none,22,.slice hd.1 D.Order.length hd.2⟩,⟨some 6,none,23,.slice ((θ 48).p) J.length ((θ 48).c)⟩,⟨some 7,none,24,.agg #[i6 D.Places,.slice ((θ 48).p) J.length ((θ 48).c)]⟩,⟨some 8,none,25,.slice (some ⟨(θ 64).b,0,none⟩) 1 1⟩,⟨some 9,none,26,.slice ((θ 72).p) ((O++[(⟨D.Places,J⟩:aG)]).length) ((θ 72).c)⟩,⟨some 10,none,27,.pointer (some ⟨V,1,none⟩)⟩]) (fun E θ=>(bif E 8 then .row (some ⟨(θ 64).b,0,none⟩) 1 (([(((θ 48).p,(θ 48).c),(⟨D.Places,J⟩:aG))]:List (H2 × aG)).map (Kd.v bA)) 101 2 else .row none 0 [] 0 0)::(bif E 6 then .row ((θ 48).p) ((θ 48).c) (J.map aD) 3 1 else .row none 0 [] 0 0)::.box s [i6 D.Places,.slice hd.1 D.Order.length hd.2] 101::(bif E 9 then .row ((θ 72).p) ((θ 72).c) (((aK B.2 O)++([(((θ 48).p,(θ 48).c),(⟨D.Places,J⟩:aG))]:List (H2 × aG))).map (Kd.v bA)) 101 2 else .row X B.1 ((aK B.2 O).map (Kd.v bA)) 101 2)::bZ bA (aK B.2 O)::(bif E 11 then .box V [.slice U R.length M.1,.slice ((θ 72).p) ((O++[(⟨D.Places,J⟩:aG)]).length) ((θ 72).c)] 78 else .box V [.slice U R.length M.1,.slice X O.length B.1] 78)::.row U M.1 ((aK M.2 R).map (Kd.v aM)) 25 1::bZ aM (aK M.2 R)::.box j [.slice none 0 0,.slice none 0 0] 78::Lf) [(7,6),(11,1),(9,6),(8,7),(11,9)] (fun a w=>∃ (ak:Nat) (ad:Option Addr) (ab:Nat) (y:Option Addr) (q:Nat),Has 30 a [(2,pq j),(3,pq V),(11,.slice H r.Stations.length I),(12,i6 ((r.Stations.length:Nat):Int)),(13,i6 x)]∧Ctx G (.row (some ⟨ak,0,none⟩) 1 (([((ad,ab),(⟨D.Places,J⟩:aG))]:List (H2 × aG)).map (Kd.v bA)) 101 2::.row ad ab (J.map aD) 3 1::.box s [i6 D.Places,.slice hd.1 D.Order.length hd.2] 101::.row y q (((aK B.2 O)++([((ad,ab),(⟨D.Places,J⟩:aG))]:List (H2 × aG))).map (Kd.v bA)) 101 2::bZ bA (aK B.2 O)::.box V [.slice U R.length M.1,.slice y ((O++[(⟨D.Places,J⟩:aG)]).length) q] 78::.row U M.1 ((aK M.2 R).map (Kd.v aM)) 25 1::bZ aM (aK M.2 R)::.box j [.slice none 0 0,.slice none 0 0] 78::Lf) w) aT (by kernel_rfl) (by kernel_rfl) (iT.of hf ⟨rfl,rfl,rfl,rfl,rfl,rfl,trivial,trivial,trivial,trivial,trivial,trivial,trivial,trivial,trivial,trivial,trivial,trivial⟩) hc ⟨?_,?_,?_,?_,?_,?_,?_,?_,?_,?_,?_,?_,trivial⟩ ?_ ?_
  ·intro E θ a w hD hi hp he hc
   have hf:=he.h0.mT he 1 rfl
   refine zP hf rfl (pFA fJ rfl) fun a hf=>zD θ he hi hf 6 rfl rfl rfl hc
  ·intro E θ a w hD hi hp he hc
   have e0:=hp.o 0 rfl
   have k:=hD.f 1 rfl hi
   try dsimp only at hc
   rw [k] at hc
   have hf:=he.h0.mP he 6 rfl e0
   refine zL hf hc mR m5 rfl fun a w hf hc=>zD θ he hi hf 7 rfl rfl rfl ?_
   try dsimp only
   rw [gU 1 k rfl]
   exact hc
  ·intro E θ a w hD hi hp he hc
   have hf:=he.h0.mT he 2 rfl
   refine zP hf rfl (pFA oU rfl) fun a hf=>zD θ he hi hf 8 rfl rfl rfl hc
  ·intro E θ a w hD hi hp he hc
   have e2:=hp.o 2 rfl
   have hf:=he.h0.mP he 8 rfl e2
   refine zL hf hc bG m2 rfl fun a w hf hc=>zD θ he hi hf 9 rfl rfl rfl hc
  ·intro E θ a w hD hi hp he hc
   have hf:=he.h0.mT he 2 rfl
   refine zP hf rfl (pFA pR rfl) fun a hf=>zD θ he hi hf 10 rfl rfl rfl hc
  ·intro E θ a w hD hi hp he hc
   have e4:=hp.o 4 rfl
   have hf:=he.h0.mP he 10 rfl e4
   refine zL hf hc fB m2 rfl fun a w hf hc=>zD θ he hi hf 11 rfl rfl rfl hc
  ·intro E θ a w hD hi hp he hc
   have e5:=hp.o 5 rfl
   have e9:=hD.f 2 rfl hi
   have e7:=hD.f 0 rfl hi
   have e8:=hD.f 3 rfl e7
   try dsimp only at hc
   rw [hi,e9,e8] at hc
   have hf:=he.h0.mP he 11 rfl e5
   refine zC hf aHl rfl (oW D.Order qr hc ap) ?_
   rintro _ w ⟨a2,ay,rfl,hc⟩
   refine ⟨_,rfl,fun a hf=>?_⟩
   refine aL ?_
   refine jV ?_
   intro ds u ac
   replace hc:=((hc.drop k2).pick k0).pick k1
   refine ⟨(uQ θ 48 ⟨0,a2,ay,(fun _=>(none,0))⟩),he.put hi ac hf rfl [7] ⟨⟨e7,rfl⟩,trivial⟩ ⟨qq,qq,qq,qq,qq,qq,qq,qq,qq,qq,qq,qq,qq,trivial,qq,qq,qq,trivial⟩,?_⟩
   try dsimp only
   rw [bV E 6,gU 6 e9 rfl,gU 6 e8 rfl]
   exact hc
  ·intro E θ a w hD hi hp he hc
   have e3:=hp.o 3 rfl
   have e6:=hp.o 6 rfl
   have hf:=(he.h0.mP he 9 rfl e3).mP he 12 rfl e6
   refine zP hf rfl (cK (cells:=[i6 D.Places,.slice ((θ 48).p) J.length ((θ 48).c)]) aGp rfl rfl) fun a hf=>zD θ he hi hf 13 rfl rfl rfl hc
  ·intro E θ a w hD hi hp he hc
   have e7:=hp.o 7 rfl
   have e6:=hD.t 0 rfl e7
   try dsimp only at hc
   rw [hi,e6] at hc
   have hf:=he.h0.mP he 13 rfl e7
   refine nU (rows:=([(((θ 48).p,(θ 48).c),(⟨D.Places,J⟩:aG))]:List (H2 × aG)).map (Kd.v bA)) (vs:=[(0,.agg #[i6 D.Places,.slice ((θ 48).p) J.length ((θ 48).c)])]) hf hc rfl rfl aKs rfl ⟨rfl,rfl,rfl,trivial⟩ rfl rfl fun ax a w hf hc=>aL ?_
   refine jV ?_
   intro ds u ac
   replace hc:=hc.drop k1
   refine ⟨(uQ θ 64 ⟨ax,none,0,(fun _=>(none,0))⟩),he.put hi ac hf rfl [] trivial ⟨qq,qq,qq,qq,qq,qq,qq,qq,qq,qq,qq,qq,qq,qq,qq,qq,qq,trivial⟩,?_⟩
   try dsimp only
   rw [bV E 8,mG 8 e6]
   exact hc
  ·intro E θ a w hD hi hp he hc
   have e1:=hp.o 1 rfl
   have e8:=hp.o 8 rfl
   have k:=hD.f 4 rfl hi
   try dsimp only at hc
   rw [e8,hi,k] at hc
   have hf:=(he.h0.mP he 7 rfl e1).mP he 14 rfl e8
   refine pG (xs:=(aK B.2 O)) (ys:=([(((θ 48).p,(θ 48).c),(⟨D.Places,J⟩:aG))]:List (H2 × aG))) hf hc rfl rfl aKs rfl rfl (hU _ _).symm rfl rfl aGx (lL hc m0) (fun _ _=>u3) (by simpa [hU] using fA au) fun aj ai a w hf hc=>?_
   replace hf:=oG (v':=.slice aj (O++[(⟨D.Places,J⟩:aG)]).length ai) (by simp [hU]) hf
   refine aL ?_
   refine jV ?_
   intro ds u ac
   refine ⟨(uQ θ 72 ⟨0,aj,ai,(fun _=>(none,0))⟩),he.put hi ac hf rfl [] trivial ⟨qq,qq,qq,qq,qq,qq,qq,qq,qq,qq,qq,qq,qq,qq,qq,qq,qq,trivial⟩,?_⟩
   try dsimp only
   rw [mG 9 e8,bV E 9,gU 9 k rfl]
   exact hc
  ·intro E θ a w hD hi hp he hc
   have hf:=he.h0.mT he 1 rfl
   refine zP hf rfl (pFA fJ rfl) fun a hf=>zD θ he hi hf 16 rfl rfl rfl hc
  ·intro E θ a w hD hi hp he hc
   have e9:=hp.o 9 rfl
   have a1:=hp.o 10 rfl
   try dsimp only at hc
   rw [hi] at hc
   have hf:=(he.h0.mP he 15 rfl e9).mP he 16 rfl a1
   refine zW hf hc sz_76 u5 rfl fun w hc=>zG θ he hi hf rfl ?_
   try dsimp only
   rw [bV E 11]
   exact hc
  ·intro E θ a w z he hc
   have hf:=he.h0
   have e6:=z 6 rfl
   have e8:=z 8 rfl
   have e9:=z 9 rfl
   have k:=z 11 rfl
   replace hf:=hf.more he 5 rfl (onT)
   replace hf:=hf.more he 4 rfl (onT)
   replace hf:=hf.more he 3 rfl (onT)
   replace hf:=hf.more he 1 rfl (onT)
   replace hf:=hf.more he 0 rfl (onT)
   try dsimp only at hc
   rw [e6,e8,e9,k] at hc
   exact ⟨(θ 64).b,(θ 48).p,(θ 48).c,(θ 72).p,(θ 72).c,hf.kp rfl,hc⟩
  rintro a w ⟨ak,ad,ab,y,q,hf,hc⟩
  replace hc:=((((hc.drop k0).pick k1).pick k1).pick k3).pick k3
  obtain ⟨ag,hc⟩:=aA7 (K:=bA) ([((ad,ab),(⟨D.Places,J⟩:aG))]:List (H2 × aG)) hc
  replace hc:Ctx G (.row y q ((aK ag (O++[(⟨D.Places,J⟩:aG)])).map (Kd.v bA)) 101 2::bZ bA (aK ag (O++[(⟨D.Places,J⟩:aG)]))::.box s [i6 D.Places,.slice hd.1 D.Order.length hd.2] 101::.box V [.slice U R.length M.1,.slice y ((O++[(⟨D.Places,J⟩:aG)]).length) q] 78::.row U M.1 ((aK M.2 R).map (Kd.v aM)) 25 1::bZ aM (aK M.2 R)::.box j [.slice none 0 0,.slice none 0 0] 78::Lf) w:=hc
  refine h9 _ _ ?_
  refine bW ?_
  refine sp 2 hf rfl fun a hf=>aL ?_
  replace hc:=hc.drop k2
  exact a0 (W (x + 1),(O++[(⟨D.Places,J⟩:aG)])) _ _ (sj hF).symm ⟨y,(q,ag),hf.kp rfl,hc⟩
 ·refine wp_exit ?_
  refine aN ?_
  refine aN ?_
  have he:=sj hF
  rw [← he] at af
  refine cT ?_
  exact av _ _ _ af ⟨X,B,hf.kp rfl,hc⟩

def iN (N:Nat) (l:List aC):Option ((List aC)) :=
 Option.bind (room (l).length) fun un=>
 some l
theorem uH {N:Nat} {G:aQ} {Lf:List Ent} {w:World} (l:List aC) {J:Option Addr} {I:Nat} (R:Rd G 2 J I (l.map aF)) (hc:Ctx G (Lf) w) {B:(List aC)} (hF:iN N l=some B):Calls Tryz.prog 54 #[.slice J l.length I] w (fun e w=>∃ (D:Option Addr) (H:Nat),e=.returned (.slice D B.length H)∧Ctx G (.row D H (B.map aF) 86 2::Lf) w):=by
 unfold iN at hF
 refine bN Tryz.func54 rfl Tryz.ntmps54 rfl fun a hf=>zS fun K h=>sp 1 hf rfl fun a hf=>zT h ?_
 refine zS fun K h=>sp 1 hf rfl fun a hf=>zT h ?_
 refine zS fun K h=>sp 2 hf rfl fun a hf=>?_
 replace hc:=hc.nilRow 86 2
 obtain ⟨un,M,hF⟩:=aA hF
 refine pG (xs:=([]:List aC)) (ys:=l) hf hc rfl rfl aIa rfl rfl rfl rfl rfl rQ (aCt hc R) (fun _ _=>u0) (by simpa using fA M) fun S O a w hf hc=>sp 1 hf rfl fun a hf=>zT h ?_
 refine wp_ret ?_
 obtain rfl:=sj hF
 exact zO1 Tryz.results54 hf rfl ⟨S,O,rfl,hc⟩

def iE (N:Nat) (r:aB) (x:Int) (B:List aY):Option (bK (Int × (List aY)) (bE)) :=
 cond (decide (x < ((r.Stations.length:Nat):Int)))
 (Option.bind (aU r.Stations x) fun D=>
 Option.bind (hZ N D.Order) fun H=>
 Option.bind (room ((B++[(⟨D.Places,H⟩:aY)])).length) fun un=>
 some (.cont (W (x + 1),(B++[(⟨D.Places,H⟩:aY)]))))
 (some (.brk (x,B)))
def fM (N:Nat) (r:aB):Option (bE) :=
 Option.bind (jP N r.People) fun B=>
 Option.bind (aS (fun s5=>iE N r s5.1 s5.2) N (0,([]:List aY))) fun x5=>
 exK x5 (fun s5=>some (⟨B,s5.2⟩:bE)) some
theorem nJ {N:Nat} {G:aQ} {Lf:List Ent} {w:World} (r:aB) {Y:Option Addr} {Z:Nat} {H:Option Addr} {I:Nat} (aa:RdT aM G 1 Y Z r.People) (m:RdT bA G 2 H I r.Stations) (hc:Ctx G (Lf) w) {d:bE} (hF:fM N r=some d):Calls Tryz.prog 57 #[.agg #[.slice Y r.People.length Z,.slice H r.Stations.length I]] w (fun e w=>∃ (an:Option Addr) (i:vP) (am:Option Addr) (g:vP),e=.returned (.agg #[.slice an d.People.length i.1,.slice am d.Stations.length g.1])∧Ctx G (.row an i.1 ((aK i.2 d.People).map (Kd.v aM)) 25 1::bZ aM (aK i.2 d.People)::.row am g.1 ((aK g.2 d.Stations).map (Kd.v hL)) 188 2::bZ hL (aK g.2 d.Stations)::Lf) w):=by
 unfold fM at hF
 refine bN Tryz.func57 rfl Tryz.ntmps57 rfl fun a hf=>zS fun K h=>zB hf hc rfl fun a3 a w hf hc=>zA hf hc aLv rfl fun j a w hf hc=>zT h ?_
 refine zS fun K h=>zP hf rfl (pFA iK rfl) fun a hf=>zL hf hc gB m1 rfl fun a w hf hc=>?_
 obtain ⟨R,ar,hF⟩:=aA hF
 refine zC hf aLo rfl (rP r.People aa hc ar) ?_
 rintro _ w ⟨U,M,rfl,hc⟩
 refine ⟨_,rfl,fun a hf=>?_⟩
 refine zP hf rfl (cK (cells:=[.slice U R.length M.1,.slice none 0 0]) aNw rfl rfl) fun a hf=>zA hf hc aLv rfl fun V a w hf hc=>zW hf hc aLw u0 rfl fun w hc=>zT h ?_
 refine wp_seq_k fun K3 h3=>zS fun K h=>zP hf rfl (pFA fJ rfl) fun a hf=>zL hf hc mR m4 rfl fun a w hf hc=>zP hf rfl (aW Tryz.underlying76 rfl) fun a hf=>sp 1 hf rfl fun a hf=>zT h ?_
 refine wp_block ?_
 obtain ⟨x5,az,hF⟩:=aA hF
 let S5:(Int × (List aY))→Act→World→Prop:=(fun (zz:Int × (List aY)) a w=>∃ (X:Option Addr) (B:vP),Has 30 a [(2,pq j),(3,pq V),(11,.slice H r.Stations.length I),(12,i6 ((r.Stations.length:Nat):Int)),(13,i6 zz.1)]∧Ctx G (.row X B.1 ((aK B.2 zz.2).map (Kd.v hL)) 188 2::bZ hL (aK B.2 zz.2)::.box V [.slice U R.length M.1,.slice X zz.2.length B.1] 108::.row U M.1 ((aK M.2 R).map (Kd.v aM)) 25 1::bZ aM (aK M.2 R)::.box j [.slice none 0 0,.slice none 0 0] 108::Lf) w)
 have av:∀ (zz:Int × (List aY)) a w,x5=.go zz→S5 zz a w→K3 a w:=by
  rintro ⟨x,O⟩ a w rfl ⟨X,B,hf,hc⟩
  replace hF:=bH hF
  refine h3 _ _ ?_
  refine zS fun K h=>zN hf hc sI m2 rfl fun a w hf hc=>zW hf hc aLw u5 rfl fun w hc=>zT h ?_
  refine wp_ret ?_
  obtain rfl:=sj hF
  replace hc:=((((hc.drop k2).pick k1).pick k1).pick k3).pick k3
  exact vQ (by simp) rfl Tryz.results57 hf hc (eG (vs:=[.slice U R.length M.1,.slice X O.length B.1]) sI rfl rfl (bM (n:=2) m4 rfl)) ⟨U,M,X,B,rfl,(hc.drop k4)⟩
 have a5:∀ r,x5=.out r→r=d:=by
  rintro r rfl
  exact sj hF
 replace hc:=hc.nilRow 188 2
 replace hc:=aE3 (K:=hL) (hs:=(noH 0)) hc
 replace hc:=((hc.drop k6).pick k0).pick k1
 refine bY N (bX (S:=S5) (x:=x5) ?_ N (0,([]:List aY)) _ _ ⟨none,(0,(noH 0)),hf.kp rfl,hc⟩ az)
 clear hF hf hc
 rintro ⟨x,O⟩ a4 a w KB5 ⟨X,B,hf,hc⟩ hF af a0
 unfold iE at hF
 refine zS fun K h=>sp 1 hf rfl fun a hf=>zT h ?_
 refine wp_seq_k fun K8 h8=>zI hf rfl hF ?_ ?_ <;> clear hF <;> intro hF
 ·refine wp_skip ?_
  refine h8 _ _ ?_
  refine wp_seq_k fun K9 h9=>wp_block ?_
  refine zS fun K h=>?_
  obtain ⟨D,aq,hF⟩:=aA hF
  obtain ⟨a6,o,hd,qa,qp,qr⟩:=m.atm aq
  refine zP hf rfl (pIA Tryz.underlying76 mK rfl rfl qa) fun a hf=>zE hf hc rfl (kG (vs:=[i6 D.Places,.slice hd.1 D.Order.length hd.2]) xI rfl rfl (dF qp (n:=2) (o':=0) rfl)) fun a w hf hc=>zA hf hc aEv rfl fun s a w hf hc=>zW hf hc mK u0 rfl fun w hc=>zT h ?_
  obtain ⟨J,ap,hF⟩:=aA hF
  obtain ⟨un,au,hF⟩:=aA hF
  replace hc:=hc.nilRow 0 0
  replace hc:=hc.nilRow 0 0
  refine mB (fun θ=>[⟨none,none,2,pq j⟩,⟨none,none,3,pq V⟩,⟨none,none,5,pq s⟩,⟨none,none,11,.slice H r.Stations.length I⟩,⟨none,none,12,i6 ((r.Stations.length:Nat):Int)⟩,⟨none,none,13,i6 x⟩,⟨some 0,none,17,.pointer (some ⟨V,1,none⟩)⟩,⟨some 1,none,18,.slice X O.length B.1⟩,⟨some 2,none,19,pq s⟩,⟨some 3,none,20,i6 D.Places⟩,⟨some 4,none,21,.pointer (some ⟨s,1,none⟩)⟩,⟨some 5,none,22,.slice hd.1 D.Order.length hd.2⟩,⟨some 6,none,23,.slice ((θ 48).p) J.length ((θ 48).c)⟩,⟨some 7,none,24,.agg #[i6 D.Places,.slice ((θ 48).p) J.length ((θ 48).c)]⟩,⟨some 8,none,25,.slice (some ⟨(θ 64).b,0,none⟩) 1 1⟩,⟨some 9,none,26,.slice ((θ 72).p) ((O++[(⟨D.Places,J⟩:aY)]).length) ((θ 72).c)⟩,⟨some 10,none,27,.pointer (some ⟨V,1,none⟩)⟩]) (fun E θ=>(bif E 8 then .row (some ⟨(θ 64).b,0,none⟩) 1 (([(((θ 48).p,(θ 48).c),(⟨D.Places,J⟩:aY))]:List (H2 × aY)).map (Kd.v hL)) 188 2 else .row none 0 [] 0 0)::(bif E 6 then .row ((θ 48).p) ((θ 48).c) (J.map aD) 3 1 else .row none 0 [] 0 0)::.box s [i6 D.Places,.slice hd.1 D.Order.length hd.2] 101::(bif E 9 then .row ((θ 72).p) ((θ 72).c) (((aK B.2 O)++([(((θ 48).p,(θ 48).c),(⟨D.Places,J⟩:aY))]:List (H2 × aY))).map (Kd.v hL)) 188 2 else .row X B.1 ((aK B.2 O).map (Kd.v hL)) 188 2)::bZ hL (aK B.2 O)::(bif E 11 then .box V [.slice U R.length M.1,.slice ((θ 72).p) ((O++[(⟨D.Places,J⟩:aY)]).length) ((θ 72).c)] 108 else .box V [.slice U R.length M.1,.slice X O.length B.1] 108)::.row U M.1 ((aK M.2 R).map (Kd.v aM)) 25 1::bZ aM (aK M.2 R)::.box j [.slice none 0 0,.slice none 0 0] 108::Lf) [(7,6),(11,1),(9,6),(8,7),(11,9)] (fun a w=>∃ (ak:Nat) (ad:Option Addr) (ab:Nat) (y:Option Addr) (q:Nat),Has 30 a [(2,pq j),(3,pq V),(11,.slice H r.Stations.length I),(12,i6 ((r.Stations.length:Nat):Int)),(13,i6 x)]∧Ctx G (.row (some ⟨ak,0,none⟩) 1 (([((ad,ab),(⟨D.Places,J⟩:aY))]:List (H2 × aY)).map (Kd.v hL)) 188 2::.row ad ab (J.map aD) 3 1::.box s [i6 D.Places,.slice hd.1 D.Order.length hd.2] 101::.row y q (((aK B.2 O)++([((ad,ab),(⟨D.Places,J⟩:aY))]:List (H2 × aY))).map (Kd.v hL)) 188 2::bZ hL (aK B.2 O)::.box V [.slice U R.length M.1,.slice y ((O++[(⟨D.Places,J⟩:aY)]).length) q] 108::.row U M.1 ((aK M.2 R).map (Kd.v aM)) 25 1::bZ aM (aK M.2 R)::.box j [.slice none 0 0,.slice none 0 0] 108::Lf) w) aT (by kernel_rfl) (by kernel_rfl) (iT.of hf ⟨rfl,rfl,rfl,rfl,rfl,rfl,trivial,trivial,trivial,trivial,trivial,trivial,trivial,trivial,trivial,trivial,trivial,trivial⟩) hc ⟨?_,?_,?_,?_,?_,?_,?_,?_,?_,?_,?_,?_,trivial⟩ ?_ ?_
  ·intro E θ a w hD hi hp he hc
   have hf:=he.h0.mT he 1 rfl
   refine zP hf rfl (pFA gC rfl) fun a hf=>zD θ he hi hf 6 rfl rfl rfl hc
  ·intro E θ a w hD hi hp he hc
   have e0:=hp.o 0 rfl
   have k:=hD.f 1 rfl hi
   try dsimp only at hc
   rw [k] at hc
   have hf:=he.h0.mP he 6 rfl e0
   refine zL hf hc mI m5 rfl fun a w hf hc=>zD θ he hi hf 7 rfl rfl rfl ?_
   try dsimp only
   rw [gU 1 k rfl]
   exact hc
  ·intro E θ a w hD hi hp he hc
   have hf:=he.h0.mT he 2 rfl
   refine zP hf rfl (pFA oU rfl) fun a hf=>zD θ he hi hf 8 rfl rfl rfl hc
  ·intro E θ a w hD hi hp he hc
   have e2:=hp.o 2 rfl
   have hf:=he.h0.mP he 8 rfl e2
   refine zL hf hc bG m2 rfl fun a w hf hc=>zD θ he hi hf 9 rfl rfl rfl hc
  ·intro E θ a w hD hi hp he hc
   have hf:=he.h0.mT he 2 rfl
   refine zP hf rfl (pFA pR rfl) fun a hf=>zD θ he hi hf 10 rfl rfl rfl hc
  ·intro E θ a w hD hi hp he hc
   have e4:=hp.o 4 rfl
   have hf:=he.h0.mP he 10 rfl e4
   refine zL hf hc fB m2 rfl fun a w hf hc=>zD θ he hi hf 11 rfl rfl rfl hc
  ·intro E θ a w hD hi hp he hc
   have e5:=hp.o 5 rfl
   have e9:=hD.f 2 rfl hi
   have e7:=hD.f 0 rfl hi
   have e8:=hD.f 3 rfl e7
   try dsimp only at hc
   rw [hi,e9,e8] at hc
   have hf:=he.h0.mP he 11 rfl e5
   refine zC hf aHl rfl (oW D.Order qr hc ap) ?_
   rintro _ w ⟨a2,ay,rfl,hc⟩
   refine ⟨_,rfl,fun a hf=>?_⟩
   refine aL ?_
   refine jV ?_
   intro ds u ac
   replace hc:=((hc.drop k2).pick k0).pick k1
   refine ⟨(uQ θ 48 ⟨0,a2,ay,(fun _=>(none,0))⟩),he.put hi ac hf rfl [7] ⟨⟨e7,rfl⟩,trivial⟩ ⟨qq,qq,qq,qq,qq,qq,qq,qq,qq,qq,qq,qq,qq,trivial,qq,qq,qq,trivial⟩,?_⟩
   try dsimp only
   rw [bV E 6,gU 6 e9 rfl,gU 6 e8 rfl]
   exact hc
  ·intro E θ a w hD hi hp he hc
   have e3:=hp.o 3 rfl
   have e6:=hp.o 6 rfl
   have hf:=(he.h0.mP he 9 rfl e3).mP he 12 rfl e6
   refine zP hf rfl (cK (cells:=[i6 D.Places,.slice ((θ 48).p) J.length ((θ 48).c)]) aNn rfl rfl) fun a hf=>zD θ he hi hf 13 rfl rfl rfl hc
  ·intro E θ a w hD hi hp he hc
   have e7:=hp.o 7 rfl
   have e6:=hD.t 0 rfl e7
   try dsimp only at hc
   rw [hi,e6] at hc
   have hf:=he.h0.mP he 13 rfl e7
   refine nU (rows:=([(((θ 48).p,(θ 48).c),(⟨D.Places,J⟩:aY))]:List (H2 × aY)).map (Kd.v hL)) (vs:=[(0,.agg #[i6 D.Places,.slice ((θ 48).p) J.length ((θ 48).c)])]) hf hc rfl rfl aKi rfl ⟨rfl,rfl,rfl,trivial⟩ rfl rfl fun ax a w hf hc=>aL ?_
   refine jV ?_
   intro ds u ac
   replace hc:=hc.drop k1
   refine ⟨(uQ θ 64 ⟨ax,none,0,(fun _=>(none,0))⟩),he.put hi ac hf rfl [] trivial ⟨qq,qq,qq,qq,qq,qq,qq,qq,qq,qq,qq,qq,qq,qq,qq,qq,qq,trivial⟩,?_⟩
   try dsimp only
   rw [bV E 8,mG 8 e6]
   exact hc
  ·intro E θ a w hD hi hp he hc
   have e1:=hp.o 1 rfl
   have e8:=hp.o 8 rfl
   have k:=hD.f 4 rfl hi
   try dsimp only at hc
   rw [e8,hi,k] at hc
   have hf:=(he.h0.mP he 7 rfl e1).mP he 14 rfl e8
   refine pG (xs:=(aK B.2 O)) (ys:=([(((θ 48).p,(θ 48).c),(⟨D.Places,J⟩:aY))]:List (H2 × aY))) hf hc rfl rfl aKi rfl rfl (hU _ _).symm rfl rfl aGs (lL hc m0) (fun _ _=>u3) (by simpa [hU] using fA au) fun aj ai a w hf hc=>?_
   replace hf:=oG (v':=.slice aj (O++[(⟨D.Places,J⟩:aY)]).length ai) (by simp [hU]) hf
   refine aL ?_
   refine jV ?_
   intro ds u ac
   refine ⟨(uQ θ 72 ⟨0,aj,ai,(fun _=>(none,0))⟩),he.put hi ac hf rfl [] trivial ⟨qq,qq,qq,qq,qq,qq,qq,qq,qq,qq,qq,qq,qq,qq,qq,qq,qq,trivial⟩,?_⟩
   try dsimp only
   rw [mG 9 e8,bV E 9,gU 9 k rfl]
   exact hc
  ·intro E θ a w hD hi hp he hc
   have hf:=he.h0.mT he 1 rfl
   refine zP hf rfl (pFA gC rfl) fun a hf=>zD θ he hi hf 16 rfl rfl rfl hc
  ·intro E θ a w hD hi hp he hc
   have e9:=hp.o 9 rfl
   have a1:=hp.o 10 rfl
   try dsimp only at hc
   rw [hi] at hc
   have hf:=(he.h0.mP he 15 rfl e9).mP he 16 rfl a1
   refine zW hf hc aOf u5 rfl fun w hc=>zG θ he hi hf rfl ?_
   try dsimp only
   rw [bV E 11]
   exact hc
  ·intro E θ a w z he hc
   have hf:=he.h0
   have e6:=z 6 rfl
   have e8:=z 8 rfl
   have e9:=z 9 rfl
   have k:=z 11 rfl
   replace hf:=hf.more he 5 rfl (onT)
   replace hf:=hf.more he 4 rfl (onT)
   replace hf:=hf.more he 3 rfl (onT)
   replace hf:=hf.more he 1 rfl (onT)
   replace hf:=hf.more he 0 rfl (onT)
   try dsimp only at hc
   rw [e6,e8,e9,k] at hc
   exact ⟨(θ 64).b,(θ 48).p,(θ 48).c,(θ 72).p,(θ 72).c,hf.kp rfl,hc⟩
  rintro a w ⟨ak,ad,ab,y,q,hf,hc⟩
  replace hc:=((((hc.drop k0).pick k1).pick k1).pick k3).pick k3
  obtain ⟨ag,hc⟩:=aA7 (K:=hL) ([((ad,ab),(⟨D.Places,J⟩:aY))]:List (H2 × aY)) hc
  replace hc:Ctx G (.row y q ((aK ag (O++[(⟨D.Places,J⟩:aY)])).map (Kd.v hL)) 188 2::bZ hL (aK ag (O++[(⟨D.Places,J⟩:aY)]))::.box s [i6 D.Places,.slice hd.1 D.Order.length hd.2] 101::.box V [.slice U R.length M.1,.slice y ((O++[(⟨D.Places,J⟩:aY)]).length) q] 108::.row U M.1 ((aK M.2 R).map (Kd.v aM)) 25 1::bZ aM (aK M.2 R)::.box j [.slice none 0 0,.slice none 0 0] 108::Lf) w:=hc
  refine h9 _ _ ?_
  refine bW ?_
  refine sp 2 hf rfl fun a hf=>aL ?_
  replace hc:=hc.drop k2
  exact a0 (W (x + 1),(O++[(⟨D.Places,J⟩:aY)])) _ _ (sj hF).symm ⟨y,(q,ag),hf.kp rfl,hc⟩
 ·refine wp_exit ?_
  refine aN ?_
  refine aN ?_
  have he:=sj hF
  rw [← he] at af
  refine cT ?_
  exact av _ _ _ af ⟨X,B,hf.kp rfl,hc⟩

def cB (n:Int) (a_:Int) (b_:Int):Bool :=
 ((decide (n < a_)) || (decide (b_ < n)))
theorem mJ {G:aQ} {Lf:List Ent} {w:World} (n:Int) (a_:Int) (b_:Int)   (hc:Ctx G (Lf) w) {B:Bool} (hF:cB n a_ b_=B):Calls Tryz.prog 85 #[i6 n,i6 a_,i6 b_] w (fun e w=>e=.returned (.bool B)∧Ctx G (Lf) w):=by
 unfold cB at hF
 refine bN Tryz.func85 rfl Tryz.ntmps85 rfl fun a hf=>zS fun K h=>sp 1 hf rfl fun a hf=>zT h ?_
 refine zS fun K h=>sp 4 hf rfl fun a hf=>fV 4 (fun a=>Has 15 a [(0,i6 n),(1,i6 a_),(2,i6 b_),(6,.bool false),(7,i6 n),(8,i6 a_),(9,.bool (decide (n < a_))),(10,.bool (decide (n < a_))),(14,.bool ((decide (n < a_)) || (decide (b_ < n))))]) hc ?_ ?_
 ·cases hb:(decide (n < a_))
  ·rw [hb] at hf
   refine sp 4 hf rfl fun a hf=>aL ⟨hf.kp rfl,hc⟩
  ·rw [hb] at hf
   refine stS hf rfl rfl rfl fun a hf=>stS hf rfl rfl rfl fun a hf=>stS hf rfl rfl rfl fun a hf=>sp 1 hf rfl fun a hf=>aL ⟨hf.kp rfl,hc⟩
 intro a w ⟨hf,hc⟩
 refine sp 1 hf rfl fun a hf=>zT h ?_
 refine wp_ret ?_
 obtain rfl:=hF
 exact zO1 Tryz.results85 hf rfl ⟨rfl,hc⟩

def tH (N:Nat) (l:List Int) (n:Int) (B:Int):Option (bK (Int) (Int)) :=
 cond (decide (B < ((l.length:Nat):Int)))
 (Option.bind (aU l B) fun D=>
 cond (D == n)
 (some (.ret B))
 (some (.cont (W (B + 1)))))
 (some (.brk B))
def dB (N:Nat) (l:List Int) (n:Int):Option (Int) :=
 Option.bind (aS (fun s4=>tH N l n s4) N 0) fun x4=>
 exK x4 (fun s4=>some (-1)) some
theorem gD {N:Nat} {G:aQ} {Lf:List Ent} {w:World} (l:List Int) (n:Int) {I:Option Addr} {H:Nat} (U:Rd G 1 I H (l.map aD)) (hc:Ctx G (Lf) w) {D:Int} (hF:dB N l n=some D):Calls Tryz.prog 131 #[.slice I l.length H,i6 n] w (fun e w=>e=.returned (i6 D)∧Ctx G (Lf) w):=by
 unfold dB at hF
 refine bN Tryz.func131 rfl Tryz.ntmps131 rfl fun a hf=>zS fun K h=>sp 1 hf rfl fun a hf=>zT h ?_
 refine wp_seq_k fun K2 h2=>zS fun K h=>sp 1 hf rfl fun a hf=>zT h ?_
 refine wp_block ?_
 obtain ⟨x4,V,hF⟩:=aA hF
 let S4:Int→Act→World→Prop:=(fun (zz:Int) a w=>Has 19 a [(0,.slice I l.length H),(1,i6 n),(5,i6 zz)]∧Ctx G (Lf) w)
 have X:∀ (zz:Int) a w,x4=.go zz→S4 zz a w→K2 a w:=by
  rintro J a w rfl ⟨hf,hc⟩
  replace hF:=bH hF
  refine h2 _ _ ?_
  refine zS fun K h=>sp 1 hf rfl fun a hf=>zT h ?_
  refine wp_ret ?_
  obtain rfl:=sj hF
  exact zO1 Tryz.results131 hf rfl ⟨rfl,hc⟩
 have O:∀ r,x4=.out r→r=D:=by
  rintro r rfl
  exact sj hF
 refine bY N (bX (S:=S4) (x:=x4) ?_ N 0 _ _ ⟨hf.kp rfl,hc⟩ V)
 clear hF hf hc
 rintro J b a w KB4 ⟨hf,hc⟩ hF B R
 unfold tH at hF
 refine wp_seq_k fun K6 h6=>zS fun K h=>sp 2 hf rfl fun a hf=>zP hf rfl (aW Tryz.underlying25 rfl) fun a hf=>sp 1 hf rfl fun a hf=>zT h ?_
 refine zI hf rfl hF ?_ ?_ <;> clear hF <;> intro hF
 ·refine wp_skip ?_
  refine h6 _ _ ?_
  refine wp_seq_k fun K8 h8=>wp_block ?_
  refine zS fun K h=>sp 2 hf rfl fun a hf=>?_
  obtain ⟨Y,M,hF⟩:=aA hF
  obtain ⟨Z,o,qa,qp⟩:=U.atm M
  refine zP hf rfl (pIA Tryz.underlying25 eH rfl rfl qa) fun a hf=>zE hf hc rfl (bF bG rfl (aR (j:=0) qp rfl)) fun a w hf hc=>sp 2 hf rfl fun a hf=>zT h ?_
  refine zI hf rfl hF ?_ ?_ <;> clear hF <;> intro hF
  ·refine zS fun K h=>sp 2 hf rfl fun a hf=>zT h ?_
   refine wp_ret ?_
   refine bB ?_
   refine aH ?_
   refine aH ?_
   have he:=sj hF
   rw [← he] at B
   replace hF:=O _ B
   refine bB ?_
   refine aH ?_
   obtain rfl:=hF
   exact zO1 Tryz.results131 hf rfl ⟨rfl,hc⟩
  ·refine wp_skip ?_
   refine h8 _ _ ?_
   refine bW ?_
   refine sp 3 hf rfl fun a hf=>aL ?_
   exact R (W (J + 1)) _ _ (sj hF).symm ⟨hf.kp rfl,hc⟩
 ·refine wp_exit ?_
  refine aN ?_
  refine aN ?_
  have he:=sj hF
  rw [← he] at B
  refine cT ?_
  exact X _ _ _ B ⟨hf.kp rfl,hc⟩

def nE (N:Nat) (D:Int) (B:Int):Option (bK (Int × Int) (Int)) :=
 some (.cont (B,W (D + 1)))
def iG (N:Nat) (l:List Int) (D:Int) (out:Int) (B:Int):Option (bK (Int × Int) (Int)) :=
 cond (decide (B < ((l.length:Nat):Int)))
 (Option.bind (aU l B) fun I=>
 cond (cB I 0 (W (D - 1)))
 (some (.ret 1))
 (Option.bind (aU l B) fun H=>
 Option.bind (dB N l H) fun r=>
 cond (decide (r < B))
 (nE N B 2)
 (nE N B out)))
 (some (.brk (out,B)))
def mU (N:Nat) (l:List Int) (B:Int):Option (Int) :=
 Option.bind (aS (fun s5=>iG N l B s5.1 s5.2) N (0,0)) fun x5=>
 exK x5 (fun s5=>some s5.1) some
theorem wA {N:Nat} {G:aQ} {Lf:List Ent} {w:World} (l:List Int) (B:Int) {M:Option Addr} {J:Nat} (R:Rd G 1 M J (l.map aD)) (hc:Ctx G (Lf) w) {O:Int} (hF:mU N l B=some O):Calls Tryz.prog 124 #[.slice M l.length J,i6 B] w (fun e w=>e=.returned (i6 O)∧Ctx G (Lf) w):=by
 unfold mU at hF
 refine bN Tryz.func124 rfl Tryz.ntmps124 rfl fun a hf=>zS fun K h=>sp 1 hf rfl fun a hf=>zT h ?_
 refine zS fun K h=>sp 1 hf rfl fun a hf=>zT h ?_
 refine wp_seq_k fun K3 h3=>zS fun K h=>sp 1 hf rfl fun a hf=>zT h ?_
 refine wp_block ?_
 obtain ⟨x5,g,hF⟩:=aA hF
 let S5:(Int × Int)→Act→World→Prop:=(fun (zz:Int × Int) a w=>Has 29 a [(0,.slice M l.length J),(1,i6 B),(5,i6 zz.1),(6,i6 zz.2)]∧Ctx G (Lf) w)
 have p:∀ (zz:Int × Int) a w,x5=.go zz→S5 zz a w→K3 a w:=by
  rintro ⟨out,I⟩ a w rfl ⟨hf,hc⟩
  replace hF:=bH hF
  refine h3 _ _ ?_
  refine zS fun K h=>sp 2 hf rfl fun a hf=>zT h ?_
  refine wp_ret ?_
  obtain rfl:=sj hF
  exact zO1 Tryz.results124 hf rfl ⟨rfl,hc⟩
 have d:∀ r,x5=.out r→r=O:=by
  rintro r rfl
  exact sj hF
 refine bY N (bX (S:=S5) (x:=x5) ?_ N (0,0) _ _ ⟨hf.kp rfl,hc⟩ g)
 clear hF hf hc
 rintro ⟨out,I⟩ n a w KB5 ⟨hf,hc⟩ hF D k
 unfold iG at hF
 refine wp_seq_k fun K7 h7=>zS fun K h=>sp 2 hf rfl fun a hf=>zP hf rfl (aW Tryz.underlying25 rfl) fun a hf=>sp 1 hf rfl fun a hf=>zT h ?_
 refine zI hf rfl hF ?_ ?_ <;> clear hF <;> intro hF
 ·refine wp_skip ?_
  refine h7 _ _ ?_
  refine wp_seq_k fun K9 h9=>?_
  have V:∀ (H:Int) a w,Has 29 a [(0,.slice M l.length J),(1,i6 B),(5,i6 H),(6,i6 I)]→Ctx G (Lf) w→nE N I H=some n→K9 a w:=by
   repeat (clear hF)
   repeat (clear hc)
   repeat (clear hf)
   intro H a w hf hc hF
   unfold nE at hF
   refine h9 _ _ ?_
   refine bW ?_
   refine sp 3 hf rfl fun a hf=>aL ?_
   exact k (H,W (I + 1)) _ _ (sj hF).symm ⟨hf.kp rfl,hc⟩
  refine wp_block ?_
  refine wp_seq_k fun K10 m=>zS fun K h=>sp 2 hf rfl fun a hf=>?_
  obtain ⟨U,Z,hF⟩:=aA hF
  obtain ⟨s,o,qa,qp⟩:=R.atm Z
  refine zP hf rfl (pIA Tryz.underlying25 eH rfl rfl qa) fun a hf=>zE hf hc rfl (bF bG rfl (aR (j:=0) qp rfl)) fun a w hf hc=>sp 2 hf rfl fun a hf=>zQ (v:=.bool (cB U 0 (W (B - 1)))) hf hc aFf rfl (fun w hc=>mJ U 0 (W (B - 1)) hc rfl) fun a w hf hc=>zT h ?_
  refine zI hf rfl hF ?_ ?_ <;> clear hF <;> intro hF
  ·refine zS fun K h=>sp 1 hf rfl fun a hf=>zT h ?_
   refine wp_ret ?_
   refine aH ?_
   refine bB ?_
   refine aH ?_
   refine aH ?_
   have he:=sj hF
   rw [← he] at D
   replace hF:=d _ D
   refine bB ?_
   refine aH ?_
   obtain rfl:=hF
   exact zO1 Tryz.results124 hf rfl ⟨rfl,hc⟩
  ·refine wp_skip ?_
   refine m _ _ ?_
   refine zS fun K h=>sp 3 hf rfl fun a hf=>?_
   obtain ⟨i,b,hF⟩:=aA hF
   obtain ⟨q,t,X,Y⟩:=R.atm b
   refine zP hf rfl (pIA Tryz.underlying25 eH rfl rfl X) fun a hf=>zE hf hc rfl (bF bG rfl (aR (j:=0) Y rfl)) fun a w hf hc=>?_
   obtain ⟨r,hr,hF⟩:=aA hF
   refine zQ (v:=i6 r) hf hc uN rfl (fun w hc=>gD l i R hc hr) fun a w hf hc=>sp 2 hf rfl fun a hf=>zT h ?_
   refine zI hf rfl hF ?_ ?_ <;> clear hF <;> intro hF
   ·refine bW ?_
    refine sp 1 hf rfl fun a hf=>aL ?_
    exact V 2 _ _  (hf.kp rfl) hc hF
   ·refine wp_skip ?_
    exact V out _ _  (hf.kp rfl) hc hF
 ·refine wp_exit ?_
  refine aN ?_
  refine aN ?_
  have he:=sj hF
  rw [← he] at D
  refine cT ?_
  exact p _ _ _ D ⟨hf.kp rfl,hc⟩

def gH (N:Nat) (r:bE) (B:Bool) (D:Int):Option (bK (Bool × Int) (Int)) :=
 cond (decide (D < ((r.Stations.length:Nat):Int)))
 (Option.bind (aU r.Stations D) fun J=>
 Option.bind (mU N J.Order ((r.People.length:Nat):Int)) fun H=>
 Option.bind (cond (H == 1) (some true) (Option.bind (aU r.Stations D) fun I=>
 some (cB I.Places 1 12))) fun M=>
 cond M
 (some (.ret 120))
 (some (.cont ((B || (H == 2)),W (D + 1)))))
 (some (.brk (B,D)))
def jI (N:Nat) (r:bE) (D:Bool) (B:Int):Option (bK (Bool × Int) (Int)) :=
 cond (decide (B < ((r.People.length:Nat):Int)))
 (Option.bind (aU r.People B) fun I=>
 Option.bind (mU N I ((r.Stations.length:Nat):Int)) fun H=>
 cond (H == 1)
 (some (.ret 120))
 (some (.cont ((D || (H == 2)),W (B + 1)))))
 (some (.brk (D,B)))
def lF (N:Nat) (r:bE):Option (Int) :=
 cond ((((decide (((r.People.length:Nat):Int) < 1)) || (decide (12 < ((r.People.length:Nat):Int)))) || (decide (((r.Stations.length:Nat):Int) < 1))) || (decide (12 < ((r.Stations.length:Nat):Int))))
 (some 3)
 (Option.bind (aS (fun s8=>jI N r s8.1 s8.2) N (false,0)) fun x8=>
 exK x8 (fun s8=>Option.bind (aS (fun B=>gH N r B.1 B.2) N (s8.1,0)) fun D=>
 exK D (fun B=>cond B.1
 (some 10)
 (some 0)) some) some)
theorem pQ {N:Nat} {G:aQ} {Lf:List Ent} {w:World} (r:bE) {B:Option Addr} {D:Nat} {I:Option Addr} {J:Nat} (Y:RdT aM G 1 B D r.People) (R:RdT hL G 2 I J r.Stations) (hc:Ctx G (Lf) w) {b:Int} (hF:lF N r=some b):Calls Tryz.prog 56 #[.agg #[.slice B r.People.length D,.slice I r.Stations.length J]] w (fun e w=>e=.returned (i6 b)∧Ctx G (Lf) w):=by
 unfold lF at hF
 refine bN Tryz.func56 rfl Tryz.ntmps56 rfl fun a hf=>zS fun K h=>zB hf hc rfl fun O a w hf hc=>sp 1 hf rfl fun a hf=>zT h ?_
 refine wp_seq_k fun K2 h2=>zS fun K h=>zP hf rfl (pFA gA rfl) fun a hf=>zL hf hc gB m0 rfl fun a w hf hc=>zP hf rfl (aW Tryz.underlying75 rfl) fun a hf=>sp 2 hf rfl fun a hf=>fV 5 (fun a=>Has 87 a [(1,pq O),(8,pq O),(9,.slice B r.People.length D),(10,i6 ((r.People.length:Nat):Int)),(11,.bool (decide (((r.People.length:Nat):Int) < 1))),(12,.bool (decide (((r.People.length:Nat):Int) < 1))),(17,.bool ((decide (((r.People.length:Nat):Int) < 1)) || (decide (12 < ((r.People.length:Nat):Int)))))]) hc ?_ ?_
 ·cases hb:(decide (((r.People.length:Nat):Int) < 1))
  ·rw [hb] at hf
   refine zP hf rfl (pFA gA rfl) fun a hf=>zL hf hc gB m0 rfl fun a w hf hc=>zP hf rfl (aW Tryz.underlying75 rfl) fun a hf=>sp 2 hf rfl fun a hf=>aL ⟨hf.kp rfl,hc⟩
  ·rw [hb] at hf
   refine stS hf rfl rfl rfl fun a hf=>stS hf rfl rfl rfl fun a hf=>stS hf rfl rfl rfl fun a hf=>stS hf rfl rfl rfl fun a hf=>sp 1 hf rfl fun a hf=>aL ⟨hf.kp rfl,hc⟩
 intro a w ⟨hf,hc⟩
 refine sp 1 hf rfl fun a hf=>fV 5 (fun a=>Has 87 a [(1,pq O),(8,pq O),(9,.slice B r.People.length D),(10,i6 ((r.People.length:Nat):Int)),(11,.bool (decide (((r.People.length:Nat):Int) < 1))),(12,.bool (decide (((r.People.length:Nat):Int) < 1))),(17,.bool ((decide (((r.People.length:Nat):Int) < 1)) || (decide (12 < ((r.People.length:Nat):Int))))),(18,.bool ((decide (((r.People.length:Nat):Int) < 1)) || (decide (12 < ((r.People.length:Nat):Int))))),(23,.bool (((decide (((r.People.length:Nat):Int) < 1)) || (decide (12 < ((r.People.length:Nat):Int)))) || (decide (((r.Stations.length:Nat):Int) < 1))))]) hc ?_ ?_
 ·cases hb:((decide (((r.People.length:Nat):Int) < 1)) || (decide (12 < ((r.People.length:Nat):Int))))
  ·rw [hb] at hf
   refine zP hf rfl (pFA gC rfl) fun a hf=>zL hf hc mI m0 rfl fun a w hf hc=>zP hf rfl (aW Tryz.underlying106 rfl) fun a hf=>sp 2 hf rfl fun a hf=>aL ⟨hf.kp rfl,hc⟩
  ·rw [hb] at hf
   refine stS hf rfl rfl rfl fun a hf=>stS hf rfl rfl rfl fun a hf=>stS hf rfl rfl rfl fun a hf=>stS hf rfl rfl rfl fun a hf=>sp 1 hf rfl fun a hf=>aL ⟨hf.kp rfl,hc⟩
 intro a w ⟨hf,hc⟩
 refine sp 1 hf rfl fun a hf=>fV 5 (fun a=>Has 87 a [(1,pq O),(8,pq O),(9,.slice B r.People.length D),(10,i6 ((r.People.length:Nat):Int)),(11,.bool (decide (((r.People.length:Nat):Int) < 1))),(12,.bool (decide (((r.People.length:Nat):Int) < 1))),(17,.bool ((decide (((r.People.length:Nat):Int) < 1)) || (decide (12 < ((r.People.length:Nat):Int))))),(18,.bool ((decide (((r.People.length:Nat):Int) < 1)) || (decide (12 < ((r.People.length:Nat):Int))))),(23,.bool (((decide (((r.People.length:Nat):Int) < 1)) || (decide (12 < ((r.People.length:Nat):Int)))) || (decide (((r.Stations.length:Nat):Int) < 1)))),(24,.bool (((decide (((r.People.length:Nat):Int) < 1)) || (decide (12 < ((r.People.length:Nat):Int)))) || (decide (((r.Stations.length:Nat):Int) < 1)))),(29,.bool ((((decide (((r.People.length:Nat):Int) < 1)) || (decide (12 < ((r.People.length:Nat):Int)))) || (decide (((r.Stations.length:Nat):Int) < 1))) || (decide (12 < ((r.Stations.length:Nat):Int)))))]) hc ?_ ?_
 ·cases hb:(((decide (((r.People.length:Nat):Int) < 1)) || (decide (12 < ((r.People.length:Nat):Int)))) || (decide (((r.Stations.length:Nat):Int) < 1)))
  ·rw [hb] at hf
   refine zP hf rfl (pFA gC rfl) fun a hf=>zL hf hc mI m0 rfl fun a w hf hc=>zP hf rfl (aW Tryz.underlying106 rfl) fun a hf=>sp 2 hf rfl fun a hf=>aL ⟨hf.kp rfl,hc⟩
  ·rw [hb] at hf
   refine stS hf rfl rfl rfl fun a hf=>stS hf rfl rfl rfl fun a hf=>stS hf rfl rfl rfl fun a hf=>stS hf rfl rfl rfl fun a hf=>sp 1 hf rfl fun a hf=>aL ⟨hf.kp rfl,hc⟩
 intro a w ⟨hf,hc⟩
 refine zT h ?_
 refine zI hf rfl hF ?_ ?_ <;> clear hF <;> intro hF
 ·refine zS fun K h=>sp 1 hf rfl fun a hf=>zT h ?_
  refine wp_ret ?_
  refine aH ?_
  obtain rfl:=sj hF
  replace hc:=hc.drop k0
  exact zO1 Tryz.results56 hf rfl ⟨rfl,hc⟩
 ·refine wp_skip ?_
  refine h2 _ _ ?_
  refine zS fun K h=>sp 1 hf rfl fun a hf=>zT h ?_
  refine wp_seq_k fun K6 h6=>zS fun K h=>sp 1 hf rfl fun a hf=>zT h ?_
  refine wp_block ?_
  obtain ⟨x8,a2,hF⟩:=aA hF
  let S8:(Bool × Int)→Act→World→Prop:=(fun (zz:Bool × Int) a w=>Has 87 a [(1,pq O),(3,.bool zz.1),(4,i6 zz.2)]∧Ctx G (.box O [.slice B r.People.length D,.slice I r.Stations.length J] 108::Lf) w)
  have av:∀ (zz:Bool × Int) a w,x8=.go zz→S8 zz a w→K6 a w:=by
   rintro ⟨M,m⟩ a w rfl ⟨hf,hc⟩
   replace hF:=bH hF
   refine h6 _ _ ?_
   refine wp_seq_k fun K9 h9=>zS fun K h=>sp 1 hf rfl fun a hf=>zT h ?_
   refine wp_block ?_
   obtain ⟨i,ac,hF⟩:=aA hF
   let S11:(Bool × Int)→Act→World→Prop:=(fun (zz:Bool × Int) a w=>Has 87 a [(1,pq O),(3,.bool zz.1),(6,i6 zz.2)]∧Ctx G (.box O [.slice B r.People.length D,.slice I r.Stations.length J] 108::Lf) w)
   have z:∀ (zz:Bool × Int) a w,i=.go zz→S11 zz a w→K9 a w:=by
    rintro ⟨H,d⟩ a w rfl ⟨hf,hc⟩
    replace hF:=bH hF
    refine h9 _ _ ?_
    refine wp_seq_k fun K12 ar=>zS fun K h=>sp 1 hf rfl fun a hf=>zT h ?_
    refine zI hf rfl hF ?_ ?_ <;> clear hF <;> intro hF
    ·refine zS fun K h=>sp 1 hf rfl fun a hf=>zT h ?_
     refine wp_ret ?_
     refine aH ?_
     obtain rfl:=sj hF
     replace hc:=hc.drop k0
     exact zO1 Tryz.results56 hf rfl ⟨rfl,hc⟩
    ·refine wp_skip ?_
     refine ar _ _ ?_
     refine zS fun K h=>sp 1 hf rfl fun a hf=>zT h ?_
     refine wp_ret ?_
     obtain rfl:=sj hF
     replace hc:=hc.drop k0
     exact zO1 Tryz.results56 hf rfl ⟨rfl,hc⟩
   have t:∀ r,i=.out r→r=b:=by
    rintro r rfl
    exact sj hF
   refine bY N (bX (S:=S11) (x:=i) ?_ N (M,0) _ _ ⟨hf.kp rfl,hc⟩ ac)
   clear hF hf hc
   rintro ⟨H,d⟩ a5 a w KB11 ⟨hf,hc⟩ hF U ak
   unfold gH at hF
   refine wp_seq_k fun K16 ay=>zS fun K h=>sp 1 hf rfl fun a hf=>zP hf rfl (pFA gC rfl) fun a hf=>zL hf hc mI m0 rfl fun a w hf hc=>zP hf rfl (aW Tryz.underlying106 rfl) fun a hf=>sp 1 hf rfl fun a hf=>zT h ?_
   refine zI hf rfl hF ?_ ?_ <;> clear hF <;> intro hF
   ·refine wp_skip ?_
    refine ay _ _ ?_
    refine wp_seq_k fun K18 az=>wp_block ?_
    refine wp_seq_k fun K19 aq=>?_
    obtain ⟨p,ab,hF⟩:=aA hF
    obtain ⟨a7,o,hd,qa,qp,qr⟩:=R.atm ab
    obtain ⟨V,ad,hF⟩:=aA hF
    refine cQ hc aT (by kernel_rfl) ?_
    refine qE hf rfl rfl rfl (Pu.ev (pFA gC rfl)) fun a hf=>qE hf rfl rfl rfl (bF mI rfl (bL m0 rfl)) fun a hf=>qE hf rfl rfl rfl (Pu.ev (pM rfl)) fun a hf=>qE hf rfl rfl rfl (Pu.ev (pIA Tryz.underlying106 rA rfl rfl qa)) fun a hf=>qE hf rfl rfl rfl (Pu.ev (pFA rZ rfl)) fun a hf=>qE hf rfl rfl rfl (bF fB rfl (aR (j:=1) qp rfl)) fun a hf=>qE hf rfl rfl rfl (Pu.ev (pFA gA rfl)) fun a hf=>qE hf rfl rfl rfl (bF gB rfl (bL m0 rfl)) fun a hf=>qE hf rfl rfl rfl (Pu.ev (aW Tryz.underlying75 rfl)) fun a hf=>qE hf rfl rfl rfl (eC (v:=i6 V) (vs:=[.slice hd.1 p.Order.length hd.2,i6 ((r.People.length:Nat):Int)]) (caps:=[]) aJm rfl rfl rfl rfl (fun w hc=>wA p.Order ((r.People.length:Nat):Int) qr hc ad)) fun a hf=>qE hf rfl rfl rfl (Pu.ev (pA rfl)) fun a hf=>?_
    intro w hc
    refine aq _ _ ?_
    refine wp_seq_k fun K20 au=>zS fun K h=>sp 3 hf rfl fun a hf=>?_
    obtain ⟨a1,k,hF⟩:=aA hF
    refine fV 8 (fun a=>Has 87 a [(1,pq O),(3,.bool H),(6,i6 d),(7,i6 V),(70,i6 V),(71,.bool (V == 1)),(72,.bool (V == 1)),(80,.bool a1)]) hc ?_ ?_
    ·cases hb:(V == 1)
     ·rw [hb] at hf
      have hF:=gN hb k
      refine zP hf rfl (pFA gC rfl) fun a hf=>zL hf hc mI m0 rfl fun a w hf hc=>sp 1 hf rfl fun a hf=>?_
      obtain ⟨n,aj,hF⟩:=aA hF
      obtain ⟨a8,bc,a6,af,u,a4⟩:=R.atm aj
      refine zP hf rfl (pIA Tryz.underlying106 rA rfl rfl af) fun a hf=>zP hf rfl (pFA wK rfl) fun a hf=>zE hf hc rfl (bF bG rfl (aR (j:=0) u rfl)) fun a w hf hc=>zQ (v:=.bool (cB n.Places 1 12)) hf hc aFf rfl (fun w hc=>mJ n.Places 1 12 hc rfl) fun a w hf hc=>sp 1 hf rfl fun a hf=>?_
      obtain rfl:=sj hF
      exact aL ⟨hf.kp rfl,hc⟩
     ·rw [hb] at hf
      have hF:=fU hb k
      obtain rfl:=sj hF
      refine stS hf rfl rfl rfl fun a hf=>stS hf rfl rfl rfl fun a hf=>stS hf rfl rfl rfl fun a hf=>stS hf rfl rfl rfl fun a hf=>stS hf rfl rfl rfl fun a hf=>stS hf rfl rfl rfl fun a hf=>stS hf rfl rfl rfl fun a hf=>sp 1 hf rfl fun a hf=>aL ⟨hf.kp rfl,hc⟩
    intro a w ⟨hf,hc⟩
    refine zT h ?_
    refine zI hf rfl hF ?_ ?_ <;> clear hF <;> intro hF
    ·refine zS fun K h=>sp 1 hf rfl fun a hf=>zT h ?_
     refine wp_ret ?_
     refine aH ?_
     refine bB ?_
     refine aH ?_
     refine aH ?_
     have he:=sj hF
     rw [← he] at U
     replace hF:=t _ U
     refine bB ?_
     refine aH ?_
     obtain rfl:=hF
     replace hc:=hc.drop k0
     exact zO1 Tryz.results56 hf rfl ⟨rfl,hc⟩
    ·refine wp_skip ?_
     refine au _ _ ?_
     refine bW ?_
     refine sp 2 hf rfl fun a hf=>fV 3 (fun a=>Has 87 a [(1,pq O),(3,.bool H),(6,i6 d),(7,i6 V),(81,.bool H),(82,.bool H),(85,.bool (H || (V == 2)))]) hc ?_ ?_
     ·cases hb:H
      ·rw [hb] at hf
       try rw [hb] at hc
       refine sp 3 hf rfl fun a hf=>aL ⟨hf.kp rfl,hc⟩
      ·rw [hb] at hf
       try rw [hb] at hc
       refine stS hf rfl rfl rfl fun a hf=>stS hf rfl rfl rfl fun a hf=>sp 1 hf rfl fun a hf=>aL ⟨hf.kp rfl,hc⟩
     intro a w ⟨hf,hc⟩
     refine sp 1 hf rfl fun a hf=>aL ?_
     refine az _ _ ?_
     refine bW ?_
     refine sp 3 hf rfl fun a hf=>aL ?_
     exact ak ((H || (V == 2)),W (d + 1)) _ _ (sj hF).symm ⟨hf.kp rfl,hc⟩
   ·refine wp_exit ?_
    refine aN ?_
    refine aN ?_
    have he:=sj hF
    rw [← he] at U
    refine cT ?_
    exact z _ _ _ U ⟨hf.kp rfl,hc⟩
  have a0:∀ r,x8=.out r→r=b:=by
   rintro r rfl
   exact sj hF
  refine bY N (bX (S:=S8) (x:=x8) ?_ N (false,0) _ _ ⟨hf.kp rfl,hc⟩ a2)
  clear hF hf hc
  rintro ⟨M,m⟩ ba a w KB8 ⟨hf,hc⟩ hF X am
  unfold jI at hF
  refine wp_seq_k fun K23 a3=>zS fun K h=>sp 1 hf rfl fun a hf=>zP hf rfl (pFA gA rfl) fun a hf=>zL hf hc gB m0 rfl fun a w hf hc=>zP hf rfl (aW Tryz.underlying75 rfl) fun a hf=>sp 1 hf rfl fun a hf=>zT h ?_
  refine zI hf rfl hF ?_ ?_ <;> clear hF <;> intro hF
  ·refine wp_skip ?_
   refine a3 _ _ ?_
   refine wp_seq_k fun K25 ap=>wp_block ?_
   refine wp_seq_k fun K26 ax=>?_
   obtain ⟨q,ai,hF⟩:=aA hF
   obtain ⟨bb,a9,g,y,s,ag⟩:=Y.atm ai
   obtain ⟨Z,aa,hF⟩:=aA hF
   refine cQ hc aT (by kernel_rfl) ?_
   refine qE hf rfl rfl rfl (Pu.ev (pFA gA rfl)) fun a hf=>qE hf rfl rfl rfl (bF gB rfl (bL m0 rfl)) fun a hf=>qE hf rfl rfl rfl (Pu.ev (pM rfl)) fun a hf=>qE hf rfl rfl rfl (Pu.ev (pIA Tryz.underlying75 kX rfl rfl y)) fun a hf=>qE hf rfl rfl rfl (bF fB rfl (aR (j:=0) s rfl)) fun a hf=>qE hf rfl rfl rfl (Pu.ev (pFA gC rfl)) fun a hf=>qE hf rfl rfl rfl (bF mI rfl (bL m0 rfl)) fun a hf=>qE hf rfl rfl rfl (Pu.ev (aW Tryz.underlying106 rfl)) fun a hf=>qE hf rfl rfl rfl (eC (v:=i6 Z) (vs:=[.slice g.1 q.length g.2,i6 ((r.Stations.length:Nat):Int)]) (caps:=[]) aJm rfl rfl rfl rfl (fun w hc=>wA q ((r.Stations.length:Nat):Int) ag hc aa)) fun a hf=>qE hf rfl rfl rfl (Pu.ev (pA rfl)) fun a hf=>?_
   intro w hc
   refine ax _ _ ?_
   refine wp_seq_k fun K27 an=>zS fun K h=>sp 2 hf rfl fun a hf=>zT h ?_
   refine zI hf rfl hF ?_ ?_ <;> clear hF <;> intro hF
   ·refine zS fun K h=>sp 1 hf rfl fun a hf=>zT h ?_
    refine wp_ret ?_
    refine aH ?_
    refine bB ?_
    refine aH ?_
    refine aH ?_
    have he:=sj hF
    rw [← he] at X
    replace hF:=a0 _ X
    refine bB ?_
    refine aH ?_
    obtain rfl:=hF
    replace hc:=hc.drop k0
    exact zO1 Tryz.results56 hf rfl ⟨rfl,hc⟩
   ·refine wp_skip ?_
    refine an _ _ ?_
    refine bW ?_
    refine sp 2 hf rfl fun a hf=>fV 3 (fun a=>Has 87 a [(1,pq O),(3,.bool M),(4,i6 m),(5,i6 Z),(48,.bool M),(49,.bool M),(52,.bool (M || (Z == 2)))]) hc ?_ ?_
    ·cases hb:M
     ·rw [hb] at hf
      try rw [hb] at hc
      refine sp 3 hf rfl fun a hf=>aL ⟨hf.kp rfl,hc⟩
     ·rw [hb] at hf
      try rw [hb] at hc
      refine stS hf rfl rfl rfl fun a hf=>stS hf rfl rfl rfl fun a hf=>sp 1 hf rfl fun a hf=>aL ⟨hf.kp rfl,hc⟩
    intro a w ⟨hf,hc⟩
    refine sp 1 hf rfl fun a hf=>aL ?_
    refine ap _ _ ?_
    refine bW ?_
    refine sp 3 hf rfl fun a hf=>aL ?_
    exact am ((M || (Z == 2)),W (m + 1)) _ _ (sj hF).symm ⟨hf.kp rfl,hc⟩
  ·refine wp_exit ?_
   refine aN ?_
   refine aN ?_
   have he:=sj hF
   rw [← he] at X
   refine cT ?_
   exact av _ _ _ X ⟨hf.kp rfl,hc⟩

def eF (N:Nat) (r:bE) (p_:Int) (s_:Int):Option (Bool) :=
 Option.bind (aU r.People p_) fun H=>
 Option.bind (dB N H s_) fun B=>
 Option.bind (cond (B != (-1)) (Option.bind (aU r.Stations s_) fun D=>
 Option.bind (dB N D.Order p_) fun I=>
 some (I != (-1))) (some false)) fun J=>
 some J
theorem jL {N:Nat} {G:aQ} {Lf:List Ent} {w:World} (r:bE) (p_:Int) (s_:Int) {B:Option Addr} {D:Nat} {I:Option Addr} {H:Nat} (M:RdT aM G 1 B D r.People) (J:RdT hL G 2 I H r.Stations) (hc:Ctx G (Lf) w) {U:Bool} (hF:eF N r p_ s_=some U):Calls Tryz.prog 125 #[.agg #[.slice B r.People.length D,.slice I r.Stations.length H],i6 p_,i6 s_] w (fun e w=>e=.returned (.bool U)∧Ctx G (Lf) w):=by
 unfold eF at hF
 refine bN Tryz.func125 rfl Tryz.ntmps125 rfl fun a hf=>zS fun K h=>zB hf hc rfl fun V a w hf hc=>sp 1 hf rfl fun a hf=>zT h ?_
 refine zS fun K h=>zP hf rfl (pFA gA rfl) fun a hf=>zL hf hc gB m0 rfl fun a w hf hc=>sp 1 hf rfl fun a hf=>?_
 obtain ⟨S,g,hF⟩:=aA hF
 obtain ⟨k,o,hd,qa,qp,qr⟩:=M.atm g
 refine zP hf rfl (pIA Tryz.underlying75 kX rfl rfl qa) fun a hf=>zE hf hc rfl (bF fB rfl (aR (j:=0) qp rfl)) fun a w hf hc=>sp 1 hf rfl fun a hf=>?_
 obtain ⟨O,X,hF⟩:=aA hF
 refine zQ (v:=i6 O) hf hc uN rfl (fun w hc=>gD S s_ qr hc X) fun a w hf hc=>sp 2 hf rfl fun a hf=>?_
 obtain ⟨n,R,hF⟩:=aA hF
 refine fV 10 (fun a=>Has 26 a [(1,i6 p_),(2,i6 s_),(3,pq V),(6,.bool false),(7,pq V),(8,.slice B r.People.length D),(9,i6 p_),(10,.pointer (some ⟨k,o,none⟩)),(11,.slice hd.1 S.length hd.2),(12,i6 s_),(13,i6 O),(14,.bool (O != (-1))),(15,.bool (O != (-1))),(25,.bool n)]) hc ?_ ?_
 ·cases hb:(O != (-1))
  ·rw [hb] at hf
   have hF:=gN hb R
   obtain rfl:=sj hF
   refine stS hf rfl rfl rfl fun a hf=>stS hf rfl rfl rfl fun a hf=>stS hf rfl rfl rfl fun a hf=>stS hf rfl rfl rfl fun a hf=>stS hf rfl rfl rfl fun a hf=>stS hf rfl rfl rfl fun a hf=>stS hf rfl rfl rfl fun a hf=>stS hf rfl rfl rfl fun a hf=>stS hf rfl rfl rfl fun a hf=>sp 1 hf rfl fun a hf=>aL ⟨hf.kp rfl,hc⟩
  ·rw [hb] at hf
   have hF:=fU hb R
   refine zP hf rfl (pFA gC rfl) fun a hf=>zL hf hc mI m0 rfl fun a w hf hc=>sp 1 hf rfl fun a hf=>?_
   obtain ⟨m,i,hF⟩:=aA hF
   obtain ⟨s,t,q,Y,Z,b⟩:=J.atm i
   refine zP hf rfl (pIA Tryz.underlying106 rA rfl rfl Y) fun a hf=>zP hf rfl (pFA rZ rfl) fun a hf=>zE hf hc rfl (bF fB rfl (aR (j:=1) Z rfl)) fun a w hf hc=>sp 1 hf rfl fun a hf=>?_
   obtain ⟨p,d,hF⟩:=aA hF
   refine zQ (v:=i6 p) hf hc uN rfl (fun w hc=>gD m.Order p_ b hc d) fun a w hf hc=>sp 2 hf rfl fun a hf=>?_
   obtain rfl:=sj hF
   exact aL ⟨hf.kp rfl,hc⟩
 intro a w ⟨hf,hc⟩
 refine sp 1 hf rfl fun a hf=>zT h ?_
 refine wp_ret ?_
 obtain rfl:=sj hF
 replace hc:=hc.drop k0
 exact zO1 Tryz.results125 hf rfl ⟨rfl,hc⟩

def oH (N:Nat) (D:Int) (B:Int):Option (bK (Int × Int) (Int)) :=
 some (.cont (B,W (D + 1)))
def iZ (N:Nat) (B:List Int) (s_:Int) (n:Int) (D:Int):Option (bK (Int × Int) (Int)) :=
 cond (decide (D < ((B.length:Nat):Int)))
 (Option.bind (aU B D) fun H=>
 cond (H == s_)
 (oH N D (W (n + 1)))
 (oH N D n))
 (some (.brk (n,D)))
def oB (N:Nat) (B:List Int) (s_:Int):Option (Int) :=
 Option.bind (aS (fun s5=>iZ N B s_ s5.1 s5.2) N (0,0)) fun x5=>
 exK x5 (fun s5=>some s5.1) some
theorem sY {N:Nat} {G:aQ} {Lf:List Ent} {w:World} (D:List Int) (s_:Int) {B:Option Addr} {H:Nat} (I:Rd G 1 B H (D.map aD)) (hc:Ctx G (Lf) w) {R:Int} (hF:oB N D s_=some R):Calls Tryz.prog 126 #[.slice B D.length H,i6 s_] w (fun e w=>e=.returned (i6 R)∧Ctx G (Lf) w):=by
 unfold oB at hF
 refine bN Tryz.func126 rfl Tryz.ntmps126 rfl fun a hf=>zS fun K h=>sp 1 hf rfl fun a hf=>zT h ?_
 refine zS fun K h=>sp 1 hf rfl fun a hf=>zT h ?_
 refine wp_seq_k fun K3 h3=>zS fun K h=>sp 1 hf rfl fun a hf=>zT h ?_
 refine wp_block ?_
 obtain ⟨x5,X,hF⟩:=aA hF
 let S5:(Int × Int)→Act→World→Prop:=(fun (zz:Int × Int) a w=>Has 22 a [(0,.slice B D.length H),(1,i6 s_),(5,i6 zz.1),(6,i6 zz.2)]∧Ctx G (Lf) w)
 have b:∀ (zz:Int × Int) a w,x5=.go zz→S5 zz a w→K3 a w:=by
  rintro ⟨n,O⟩ a w rfl ⟨hf,hc⟩
  replace hF:=bH hF
  refine h3 _ _ ?_
  refine zS fun K h=>sp 2 hf rfl fun a hf=>zT h ?_
  refine wp_ret ?_
  obtain rfl:=sj hF
  exact zO1 Tryz.results126 hf rfl ⟨rfl,hc⟩
 have i:∀ r,x5=.out r→r=R:=by
  rintro r rfl
  exact sj hF
 refine bY N (bX (S:=S5) (x:=x5) ?_ N (0,0) _ _ ⟨hf.kp rfl,hc⟩ X)
 clear hF hf hc
 rintro ⟨n,O⟩ Z a w KB5 ⟨hf,hc⟩ hF J Y
 unfold iZ at hF
 refine wp_seq_k fun K7 h7=>zS fun K h=>sp 2 hf rfl fun a hf=>zP hf rfl (aW Tryz.underlying25 rfl) fun a hf=>sp 1 hf rfl fun a hf=>zT h ?_
 refine zI hf rfl hF ?_ ?_ <;> clear hF <;> intro hF
 ·refine wp_skip ?_
  refine h7 _ _ ?_
  refine wp_seq_k fun K9 h9=>?_
  have U:∀ (M:Int) a w,Has 22 a [(0,.slice B D.length H),(1,i6 s_),(5,i6 M),(6,i6 O)]→Ctx G (Lf) w→oH N O M=some Z→K9 a w:=by
   repeat (clear hF)
   repeat (clear hc)
   repeat (clear hf)
   intro M a w hf hc hF
   unfold oH at hF
   refine h9 _ _ ?_
   refine bW ?_
   refine sp 3 hf rfl fun a hf=>aL ?_
   exact Y (M,W (O + 1)) _ _ (sj hF).symm ⟨hf.kp rfl,hc⟩
  refine wp_block ?_
  refine zS fun K h=>sp 2 hf rfl fun a hf=>?_
  obtain ⟨d,V,hF⟩:=aA hF
  obtain ⟨g,o,qa,qp⟩:=I.atm V
  refine zP hf rfl (pIA Tryz.underlying25 eH rfl rfl qa) fun a hf=>zE hf hc rfl (bF bG rfl (aR (j:=0) qp rfl)) fun a w hf hc=>sp 2 hf rfl fun a hf=>zT h ?_
  refine zI hf rfl hF ?_ ?_ <;> clear hF <;> intro hF
  ·refine bW ?_
   refine sp 3 hf rfl fun a hf=>aL ?_
   exact U (W (n + 1)) _ _  (hf.kp rfl) hc hF
  ·refine wp_skip ?_
   exact U n _ _  (hf.kp rfl) hc hF
 ·refine wp_exit ?_
  refine aN ?_
  refine aN ?_
  have he:=sj hF
  rw [← he] at J
  refine cT ?_
  exact b _ _ _ J ⟨hf.kp rfl,hc⟩

def jG (N:Nat) (r:bE) (B:List Int) (p_:Int) (s_:Int) (q:Int):Option (bK (Int) (Bool)) :=
 cond (decide (q < ((B.length:Nat):Int)))
 (Option.bind (aU B q) fun J=>
 Option.bind (cond (J == s_) (Option.bind (aU r.Stations s_) fun D=>
 Option.bind (dB N D.Order q) fun I=>
 Option.bind (aU r.Stations s_) fun O=>
 Option.bind (dB N O.Order p_) fun H=>
 some (decide (H < I))) (some false)) fun M=>
 cond M
 (some (.ret true))
 (some (.cont (W (q + 1)))))
 (some (.brk q))
def sA (N:Nat) (r:bE) (B:List Int) (p_:Int) (s_:Int):Option (Bool) :=
 Option.bind (oB N B s_) fun D=>
 Option.bind (aU r.Stations s_) fun H=>
 cond (decide (D < H.Places))
 (some true)
 (Option.bind (aS (fun s7=>jG N r B p_ s_ s7) N 0) fun x7=>
 exK x7 (fun s7=>some false) some)
theorem aCq {N:Nat} {G:aQ} {Lf:List Ent} {w:World} (r:bE) (B:List Int) (p_:Int) (s_:Int) {O:Option Addr} {R:Nat} {I:Option Addr} {J:Nat} {D:Option Addr} {H:Nat} (i:RdT aM G 1 O R r.People) (M:RdT hL G 2 I J r.Stations) (U:Rd G 1 D H (B.map aD)) (hc:Ctx G (Lf) w) {b:Bool} (hF:sA N r B p_ s_=some b):Calls Tryz.prog 127 #[.agg #[.slice O r.People.length R,.slice I r.Stations.length J],.slice D B.length H,i6 p_,i6 s_] w (fun e w=>e=.returned (.bool b)∧Ctx G (Lf) w):=by
 unfold sA at hF
 refine bN Tryz.func127 rfl Tryz.ntmps127 rfl fun a hf=>zS fun K h=>zB hf hc rfl fun Z a w hf hc=>sp 1 hf rfl fun a hf=>zT h ?_
 refine wp_seq_k fun K2 h2=>wp_seq_k fun K3 h3=>?_
 obtain ⟨ar,ab,hF⟩:=aA hF
 obtain ⟨a5,aa,hF⟩:=aA hF
 obtain ⟨a2,o,hd,qa,qp,qr⟩:=M.atm aa
 refine cQ hc aT (by kernel_rfl) ?_
 refine qE hf rfl rfl rfl (Pu.ev (pM rfl)) fun a hf=>qE hf rfl rfl rfl (Pu.ev (pM rfl)) fun a hf=>qE hf rfl rfl rfl (eC (v:=i6 ar) (vs:=[.slice D B.length H,i6 s_]) (caps:=[]) aGk rfl rfl rfl rfl (fun w hc=>sY B s_ U hc ab)) fun a hf=>qE hf rfl rfl rfl (Pu.ev (pFA gC rfl)) fun a hf=>qE hf rfl rfl rfl (bF mI rfl (bL m0 rfl)) fun a hf=>qE hf rfl rfl rfl (Pu.ev (pM rfl)) fun a hf=>qE hf rfl rfl rfl (Pu.ev (pIA Tryz.underlying106 rA rfl rfl qa)) fun a hf=>qE hf rfl rfl rfl (Pu.ev (pFA wK rfl)) fun a hf=>qE hf rfl rfl rfl (bF bG rfl (aR (j:=0) qp rfl)) fun a hf=>qE hf rfl rfl rfl (Pu.ev (pLt rfl rfl)) fun a hf=>?_
 intro w hc
 refine h3 _ _ ?_
 refine zI hf rfl hF ?_ ?_ <;> clear hF <;> intro hF
 ·refine zS fun K h=>sp 1 hf rfl fun a hf=>zT h ?_
  refine wp_ret ?_
  refine aH ?_
  obtain rfl:=sj hF
  replace hc:=hc.drop k0
  exact zO1 Tryz.results127 hf rfl ⟨rfl,hc⟩
 ·refine wp_skip ?_
  refine h2 _ _ ?_
  refine wp_seq_k fun K5 h5=>zS fun K h=>sp 1 hf rfl fun a hf=>zT h ?_
  refine wp_block ?_
  obtain ⟨x7,ap,hF⟩:=aA hF
  let S7:Int→Act→World→Prop:=(fun (zz:Int) a w=>Has 51 a [(1,.slice D B.length H),(2,i6 p_),(3,i6 s_),(4,pq Z),(9,i6 zz)]∧Ctx G (.box Z [.slice O r.People.length R,.slice I r.Stations.length J] 108::Lf) w)
  have ak:∀ (zz:Int) a w,x7=.go zz→S7 zz a w→K5 a w:=by
   rintro q a w rfl ⟨hf,hc⟩
   replace hF:=bH hF
   refine h5 _ _ ?_
   refine zS fun K h=>sp 1 hf rfl fun a hf=>zT h ?_
   refine wp_ret ?_
   obtain rfl:=sj hF
   replace hc:=hc.drop k0
   exact zO1 Tryz.results127 hf rfl ⟨rfl,hc⟩
  have ay:∀ r,x7=.out r→r=b:=by
   rintro r rfl
   exact sj hF
  refine bY N (bX (S:=S7) (x:=x7) ?_ N 0 _ _ ⟨hf.kp rfl,hc⟩ ap)
  clear hF hf hc
  rintro q a6 a w KB7 ⟨hf,hc⟩ hF V au
  unfold jG at hF
  refine wp_seq_k fun K9 h9=>zS fun K h=>sp 2 hf rfl fun a hf=>zP hf rfl (aW Tryz.underlying25 rfl) fun a hf=>sp 1 hf rfl fun a hf=>zT h ?_
  refine zI hf rfl hF ?_ ?_ <;> clear hF <;> intro hF
  ·refine wp_skip ?_
   refine h9 _ _ ?_
   refine wp_seq_k fun K11 a0=>wp_block ?_
   refine wp_seq_k fun K12 an=>?_
   obtain ⟨X,aj,hF⟩:=aA hF
   obtain ⟨am,av,ac,p⟩:=U.atm aj
   obtain ⟨ax,d,hF⟩:=aA hF
   refine cQ hc aT (by kernel_rfl) ?_
   refine qE hf rfl rfl rfl (Pu.ev (pM rfl)) fun a hf=>qE hf rfl rfl rfl (Pu.ev (pM rfl)) fun a hf=>qE hf rfl rfl rfl (Pu.ev (pIA Tryz.underlying25 eH rfl rfl ac)) fun a hf=>qE hf rfl rfl rfl (bF bG rfl (aR (j:=0) p rfl)) fun a hf=>qE hf rfl rfl rfl (Pu.ev (pM rfl)) fun a hf=>qE hf rfl rfl rfl (Pu.ev (pEq rfl rfl)) fun a hf=>qE hf rfl rfl rfl (Pu.ev (pM rfl)) fun a hf=>aBc 18 (fun a=>Has 51 a [(1,.slice D B.length H),(2,i6 p_),(3,i6 s_),(4,pq Z),(9,i6 q),(26,.slice D B.length H),(27,i6 q),(28,.pointer (some ⟨am,av,none⟩)),(29,i6 X),(30,i6 s_),(31,.bool (X == s_)),(32,.bool (X == s_)),(50,.bool ax)]) ?_ ?_
   ·cases hb:(X == s_)
    ·rw [hb] at hf
     have hF:=gN hb d
     obtain rfl:=sj hF
     refine qS hf rfl rfl rfl fun a hf=>qS hf rfl rfl rfl fun a hf=>qS hf rfl rfl rfl fun a hf=>qS hf rfl rfl rfl fun a hf=>qS hf rfl rfl rfl fun a hf=>qS hf rfl rfl rfl fun a hf=>qS hf rfl rfl rfl fun a hf=>qS hf rfl rfl rfl fun a hf=>qS hf rfl rfl rfl fun a hf=>qS hf rfl rfl rfl fun a hf=>qS hf rfl rfl rfl fun a hf=>qS hf rfl rfl rfl fun a hf=>qS hf rfl rfl rfl fun a hf=>?_
     refine qS hf rfl rfl rfl fun a hf=>qS hf rfl rfl rfl fun a hf=>qS hf rfl rfl rfl fun a hf=>qS hf rfl rfl rfl fun a hf=>qE hf rfl rfl rfl (Pu.ev (pPf rfl rfl)) fun a hf=>rV (hf.kp rfl)
    ·rw [hb] at hf
     have hF:=fU hb d
     obtain ⟨m,ag,hF⟩:=aA hF
     obtain ⟨a4,a3,g,s,n,u⟩:=M.atm ag
     obtain ⟨aq,y,hF⟩:=aA hF
     obtain ⟨k,ai,hF⟩:=aA hF
     obtain ⟨a7,a1,Y,t,af,ad⟩:=M.atm ai
     obtain ⟨az,z,hF⟩:=aA hF
     refine qE hf rfl rfl rfl (Pu.ev (pFA gC rfl)) fun a hf=>qE hf rfl rfl rfl (bF mI rfl (bL m0 rfl)) fun a hf=>qE hf rfl rfl rfl (Pu.ev (pM rfl)) fun a hf=>qE hf rfl rfl rfl (Pu.ev (pIA Tryz.underlying106 rA rfl rfl s)) fun a hf=>qE hf rfl rfl rfl (Pu.ev (pFA rZ rfl)) fun a hf=>qE hf rfl rfl rfl (bF fB rfl (aR (j:=1) n rfl)) fun a hf=>qE hf rfl rfl rfl (Pu.ev (pM rfl)) fun a hf=>qE hf rfl rfl rfl (eC (v:=i6 aq) (vs:=[.slice g.1 m.Order.length g.2,i6 q]) (caps:=[]) uN rfl rfl rfl rfl (fun w hc=>gD m.Order q u hc y)) fun a hf=>qE hf rfl rfl rfl (Pu.ev (pFA gC rfl)) fun a hf=>qE hf rfl rfl rfl (bF mI rfl (bL m0 rfl)) fun a hf=>qE hf rfl rfl rfl (Pu.ev (pM rfl)) fun a hf=>qE hf rfl rfl rfl (Pu.ev (pIA Tryz.underlying106 rA rfl rfl t)) fun a hf=>qE hf rfl rfl rfl (Pu.ev (pFA rZ rfl)) fun a hf=>?_
     refine qE hf rfl rfl rfl (bF fB rfl (aR (j:=1) af rfl)) fun a hf=>qE hf rfl rfl rfl (Pu.ev (pM rfl)) fun a hf=>qE hf rfl rfl rfl (eC (v:=i6 az) (vs:=[.slice Y.1 k.Order.length Y.2,i6 p_]) (caps:=[]) uN rfl rfl rfl rfl (fun w hc=>gD k.Order p_ ad hc z)) fun a hf=>qE hf rfl rfl rfl (Pu.ev (pGt rfl rfl)) fun a hf=>qE hf rfl rfl rfl (Pu.ev (pPt rfl rfl)) fun a hf=>?_
     obtain rfl:=sj hF
     exact rV (hf.kp rfl)
   intro a hf
   intro w hc
   refine an _ _ ?_
   refine zI hf rfl hF ?_ ?_ <;> clear hF <;> intro hF
   ·refine zS fun K h=>sp 1 hf rfl fun a hf=>zT h ?_
    refine wp_ret ?_
    refine bB ?_
    refine aH ?_
    refine aH ?_
    have he:=sj hF
    rw [← he] at V
    replace hF:=ay _ V
    refine bB ?_
    refine aH ?_
    obtain rfl:=hF
    replace hc:=hc.drop k0
    exact zO1 Tryz.results127 hf rfl ⟨rfl,hc⟩
   ·refine wp_skip ?_
    refine a0 _ _ ?_
    refine bW ?_
    refine sp 3 hf rfl fun a hf=>aL ?_
    exact au (W (q + 1)) _ _ (sj hF).symm ⟨hf.kp rfl,hc⟩
  ·refine wp_exit ?_
   refine aN ?_
   refine aN ?_
   have he:=sj hF
   rw [← he] at V
   refine cT ?_
   exact ak _ _ _ V ⟨hf.kp rfl,hc⟩

end Go.Nilo
