/-
 What functions of the Go text compute, as plain functions, and that they do, part 3 of 4. Conditions: what each theorem names.
-/
import Derived.Test.YtakhbnnlhoninacGreatCm2
import Derived.Test.YtakhbnnlhoninacGreatProg
set_option linter.unusedVariables false
set_option linter.unusedSimpArgs false
set_option maxRecDepth 100000
set_option maxHeartbeats 4000000
namespace Go.Nilo
open Go.Proofs


def cH (N:Nat) (s_:List aE) (f_:aB):Option (Bool) :=
 Option.bind (cO N s_ f_) fun r=>
 some (decide (0≤r))
theorem gV {N:Nat} {G:aO} {Lf:List Ent} {w:World} (s_:List aE) (f_:aB) {R:Option Addr} {S:Nat} {b_:Nat} {O:Nat} {I:Option Addr} {H:Nat} {D:Option Addr} {B:Nat} (V:Rd G 2 R S (s_.map aJ)) (M:RdT aG G 1 I H f_.People) (J:RdT aL G 2 D B f_.Stations) (hc:Ctx G (.box b_ [.func (.func 52) #[] #[pq O]] 103::.box O [.slice I f_.People.length H,.slice D f_.Stations.length B] 26::Lf) w) {U:Bool} (hF:cH N s_ f_=some U):Calls Tryz.prog 41 #[.slice R s_.length S,.func (.func 86) #[] #[pq b_]] w (fun e w=>e=.returned (.bool U)∧Ctx G (.box b_ [.func (.func 52) #[] #[pq O]] 103::.box O [.slice I f_.People.length H,.slice D f_.Stations.length B] 26::Lf) w):=by
 unfold cH at hF
 refine bI Tryz.func41 rfl Tryz.ntmps41 rfl fun a hf=>zS fun K h=>sp 1 hf rfl fun a hf=>zT h ?_
 refine zS fun K h=>sp 2 hf rfl fun a hf=>?_
 obtain ⟨r,hr,hF⟩:=aA hF
 refine zQ (v:=i6 r) hf hc aKh rfl (fun w hc=>(hZ s_ f_ V M J ((hc.pick k1).pick k1) hr).mono fun e w h=>⟨h.1,((h.2.unpick k1).unpick k1)⟩) fun a w hf hc=>sp 2 hf rfl fun a hf=>zT h ?_
 refine wp_ret ?_
 obtain rfl:=sj hF
 exact zO1 Tryz.results41 hf rfl ⟨rfl,hc⟩

def gI (N:Nat) (l:List aE) (so:aB):Option (Bool) :=
 Option.bind (cH N l so) fun r=>
 some (!r)
theorem lE {N:Nat} {G:aO} {Lf:List Ent} {w:World} (l:List aE) (so:aB) {O:Option Addr} {R:Nat} {b_:Nat} {H:Option Addr} {I:Nat} {D:Option Addr} {B:Nat} (U:Rd G 2 O R (l.map aJ)) (M:RdT aG G 1 H I so.People) (J:RdT aL G 2 D B so.Stations) (hc:Ctx G (.box b_ [.slice H so.People.length I,.slice D so.Stations.length B] 26::Lf) w) {S:Bool} (hF:gI N l so=some S):Calls Tryz.prog 51 #[.slice O l.length R,.func (.func 52) #[] #[pq b_]] w (fun e w=>e=.returned (.bool S)∧Ctx G (.box b_ [.slice H so.People.length I,.slice D so.Stations.length B] 26::Lf) w):=by
 unfold gI at hF
 refine bI Tryz.func51 rfl Tryz.ntmps51 rfl fun a hf=>zS fun K h=>zB hf hc rfl fun V a w hf hc=>sp 1 hf rfl fun a hf=>zT h ?_
 refine zS fun K h=>sp 1 hf rfl fun a hf=>zP hf rfl (pMF (us:=[pq V]) rfl rfl) fun a hf=>?_
 obtain ⟨r,hr,hF⟩:=aA hF
 refine zQ (v:=.bool r) hf hc aJ9 rfl (fun w hc=>(gV l so U M J ((hc.pick k1).pick k1) hr).mono fun e w h=>⟨h.1,((h.2.unpick k1).unpick k1)⟩) fun a w hf hc=>sp 2 hf rfl fun a hf=>zT h ?_
 refine wp_ret ?_
 obtain rfl:=sj hF
 replace hc:=hc.drop k0
 exact zO1 Tryz.results51 hf rfl ⟨rfl,hc⟩

def fF (N:Nat) (s_:List aE) (v:aE) (x:Int):Option (cK (Int) (Int)) :=
 cond (decide (x < ((s_.length:Nat):Int)))
 (Option.bind (bH s_ x) fun B=>
 cond (v.Person == B.Person && v.Station == B.Station)
 (some (.ret x))
 (some (.cont (W (x + 1)))))
 (some (.brk x))
def dL (N:Nat) (s_:List aE) (v:aE):Option (Int) :=
 Option.bind (bE (fun s4=>fF N s_ v s4) N 0) fun x4=>
 exK x4 (fun s4=>some (-1)) some
theorem kI {N:Nat} {G:aO} {Lf:List Ent} {w:World} (s_:List aE) (v:aE) {D:Option Addr} {H:Nat} (R:Rd G 2 D H (s_.map aJ)) (hc:Ctx G (Lf) w) {I:Int} (hF:dL N s_ v=some I):Calls Tryz.prog 106 #[.slice D s_.length H,.agg #[i6 v.Person,i6 v.Station]] w (fun e w=>e=.returned (i6 I)∧Ctx G (Lf) w):=by
 unfold dL at hF
 refine bI Tryz.func106 rfl Tryz.ntmps106 rfl fun a hf=>zS fun K h=>zB hf hc rfl fun M a w hf hc=>sp 1 hf rfl fun a hf=>zT h ?_
 refine wp_seq_k fun K2 h2=>zS fun K h=>sp 1 hf rfl fun a hf=>zP hf rfl (bC Tryz.underlying50 rfl) fun a hf=>sp 1 hf rfl fun a hf=>zT h ?_
 refine wp_block ?_
 obtain ⟨x4,V,hF⟩:=aA hF
 let S4:Int→Act→World→Prop:=(fun (zz:Int) a w=>Has 19 a [(0,.slice D s_.length H),(3,pq M),(7,i6 ((s_.length:Nat):Int)),(8,i6 zz)]∧Ctx G (.box M [i6 v.Person,i6 v.Station] 59::Lf) w)
 have X:∀ (zz:Int) a w,x4=.go zz→S4 zz a w→K2 a w:=by
  rintro x a w rfl ⟨hf,hc⟩
  replace hF:=bP hF
  refine h2 _ _ ?_
  refine zS fun K h=>sp 1 hf rfl fun a hf=>zT h ?_
  refine wp_ret ?_
  obtain rfl:=sj hF
  replace hc:=hc.drop k0
  exact zO1 Tryz.results106 hf rfl ⟨rfl,hc⟩
 have Y:∀ r,x4=.out r→r=I:=by
  rintro r rfl
  exact sj hF
 refine cR N (cL (S:=S4) (x:=x4) ?_ N 0 _ _ ⟨hf.kp rfl,hc⟩ V)
 clear hF hf hc
 rintro x b a w KB4 ⟨hf,hc⟩ hF B U
 unfold fF at hF
 refine zS fun K h=>sp 1 hf rfl fun a hf=>zT h ?_
 refine wp_seq_k fun K7 h7=>zI hf rfl hF ?_ ?_ <;> clear hF <;> intro hF
 ·refine wp_skip ?_
  refine h7 _ _ ?_
  refine wp_seq_k fun K8 h8=>wp_block ?_
  refine zS fun K h=>sp 2 hf rfl fun a hf=>zT h ?_
  refine wp_seq_k fun K10 Z=>?_
  obtain ⟨J,O,hF⟩:=aA hF
  obtain ⟨d,o,qa,qp⟩:=R.atm O
  refine cQ hc aU (by kernel_rfl) ?_
  refine qE hf rfl rfl rfl (jN (vs:=[i6 v.Person,i6 v.Station]) mV rfl rfl (bM (n:=2) m0 rfl)) fun a hf=>qE hf rfl rfl rfl (Pu.ev (pM rfl)) fun a hf=>qE hf rfl rfl rfl (Pu.ev (pM rfl)) fun a hf=>qE hf rfl rfl rfl (Pu.ev (pIA Tryz.underlying50 nF rfl rfl qa)) fun a hf=>qE hf rfl rfl rfl (jN (vs:=[i6 J.Person,i6 J.Station]) mV rfl rfl (eX qp (n:=2) (o':=0) rfl)) fun a hf=>qE hf rfl rfl rfl (Pu.ev (pEqA aHv rfl rfl (aEp _ _ _ _))) fun a hf=>?_
  intro w hc
  refine Z _ _ ?_
  refine zI hf rfl hF ?_ ?_ <;> clear hF <;> intro hF
  ·refine zS fun K h=>sp 2 hf rfl fun a hf=>zT h ?_
   refine wp_ret ?_
   refine bN ?_
   refine aN ?_
   refine aN ?_
   have he:=sj hF
   rw [← he] at B
   replace hF:=Y _ B
   refine bN ?_
   refine aN ?_
   obtain rfl:=hF
   replace hc:=hc.drop k0
   exact zO1 Tryz.results106 hf rfl ⟨rfl,hc⟩
  ·refine wp_skip ?_
   refine h8 _ _ ?_
   refine cJ ?_
   refine sp 2 hf rfl fun a hf=>aP ?_
   exact U (W (x + 1)) _ _ (sj hF).symm ⟨hf.kp rfl,hc⟩
 ·refine wp_exit ?_
  refine aW ?_
  refine aW ?_
  have he:=sj hF
  rw [← he] at B
  refine eV ?_
  exact X _ _ _ B ⟨hf.kp rfl,hc⟩

def dA (N:Nat) (s_:List aE) (v:aE):Option (Bool) :=
 Option.bind (dL N s_ v) fun r=>
 some (decide (0≤r))
theorem jC {N:Nat} {G:aO} {Lf:List Ent} {w:World} (s_:List aE) (v:aE) {B:Option Addr} {D:Nat} (I:Rd G 2 B D (s_.map aJ)) (hc:Ctx G (Lf) w) {H:Bool} (hF:dA N s_ v=some H):Calls Tryz.prog 87 #[.slice B s_.length D,.agg #[i6 v.Person,i6 v.Station]] w (fun e w=>e=.returned (.bool H)∧Ctx G (Lf) w):=by
 unfold dA at hF
 refine bI Tryz.func87 rfl Tryz.ntmps87 rfl fun a hf=>zS fun K h=>zB hf hc rfl fun J a w hf hc=>sp 1 hf rfl fun a hf=>zT h ?_
 refine zS fun K h=>sp 1 hf rfl fun a hf=>zN hf hc mV m0 rfl fun a w hf hc=>?_
 obtain ⟨r,hr,hF⟩:=aA hF
 refine zQ (v:=i6 r) hf hc aKw rfl (fun w hc=>kI s_ v I hc hr) fun a w hf hc=>sp 2 hf rfl fun a hf=>zT h ?_
 refine wp_ret ?_
 obtain rfl:=sj hF
 replace hc:=hc.drop k0
 exact zO1 Tryz.results87 hf rfl ⟨rfl,hc⟩

def eF (N:Nat) (D:Int) (B:Int):Option (cK (Int × Int) (Bool)) :=
 some (.cont (B,W (D + 1)))
def jF (N:Nat) (B:List aE) (J:Int) (D:Bool) (xv:Int):Option (Rs (Bool)) :=
 Option.bind (cond D (Option.bind (dA N B (⟨J,xv⟩:aE)) fun H=>
 some H) (some false)) fun I=>
 some (.go I)
def qP (N:Nat) (w_:aT) (x:aE) (I:List aE) (D:Int) (B:Int):Option (cK (Int × Int) (Bool)) :=
 cond (decide (B < ((w_.Roster.People.length:Nat):Int)))
 (Option.bind (dP N w_ B x.Station) fun R=>
 Option.bind (cond (!R) (some true) (Option.bind (inR x.Station 12) fun un=>
 Option.bind (inR B 12) fun V=>
 Option.bind (inR x.Station 12) fun X=>
 Option.bind (inR x.Person 12) fun U=>
 some (decide ((w_.rank (x.Station * 12 + x.Person).toNat)≤(w_.rank (x.Station * 12 + B).toNat))))) fun S=>
 cond S
 (eF N B D)
 (Option.bind (gA N w_ B x.Station) fun J=>
 Option.bind (dQ N w_ J.1 J.2 (rY (fun (zz:Bool) (O:Int)=>jF N I B zz O)) (.go true)) fun M=>
 rsK M (fun H=>cond H
 (eF N B (W (D + 1)))
 (eF N B D)) (fun H=>none)))
 (some (.brk (D,B)))
def oX (N:Nat) (w_:aT) (x:aE) (B:List aE):Option (Bool) :=
 Option.bind (dP N w_ x.Person x.Station) fun r=>
 cond (!r)
 (some true)
 (Option.bind (bE (fun s8=>qP N w_ x B s8.1 s8.2) N (0,0)) fun x8=>
 exK x8 (fun s8=>Option.bind (bH w_.Roster.Stations x.Station) fun D=>
 some (decide (D.Places≤s8.1))) some)
theorem vX {N:Nat} {G:aO} {Lf:List Ent} {w:World} (w_:aT) (x:aE) (I:List aE) {b_:Nat} {d:Option Addr} {b:Nat} {Y:Option Addr} {Z:Nat} {H:Option Addr} {D:Nat} (O:RdT aG G 1 d b w_.Roster.People) (B:RdT aL G 2 Y Z w_.Roster.Stations) (V:PC G b_ 0 (sQ [.slice d w_.Roster.People.length b,.slice Y w_.Roster.Stations.length Z] 144 aD w_.rank [])) (ag:Rd G 2 H D (I.map aJ)) (hc:Ctx G (Lf) w) {ak:Bool} (hF:oX N w_ x I=some ak):Calls Tryz.prog 53 #[pq b_,.agg #[i6 x.Person,i6 x.Station],.slice H I.length D] w (fun e w=>e=.returned (.bool ak)∧Ctx G (Lf) w):=by
 unfold oX at hF
 refine aH9 Tryz.func53 rfl Tryz.ntmps53 rfl fun a hf=>zS fun K h=>zB hf hc rfl fun U a w hf hc=>zB hf hc rfl fun X a w hf hc=>sp 1 hf rfl fun a hf=>zT h ?_
 refine wp_seq_k fun K2 h2=>zS fun K h=>sp 1 hf rfl fun a hf=>zP hf rfl (pFA aCh rfl) fun a hf=>zL hf hc bA m1 rfl fun a w hf hc=>zP hf rfl (pFA sY rfl) fun a hf=>zL hf hc bA m1 rfl fun a w hf hc=>?_
 obtain ⟨r,hr,hF⟩:=aA hF
 refine zQ (v:=.bool r) hf hc aDf rfl (fun w hc=>fV w_ x.Person x.Station O B V hc hr) fun a w hf hc=>sp 1 hf rfl fun a hf=>zT h ?_
 refine zI hf rfl hF ?_ ?_ <;> clear hF <;> intro hF
 ·refine zS fun K h=>sp 1 hf rfl fun a hf=>zT h ?_
  refine wp_ret ?_
  refine aN ?_
  obtain rfl:=sj hF
  replace hc:=(hc.drop k1).drop k0
  refine zZ hf ?_
  exact aJr Tryz.results53 hf hc (show gY _ 6=_ from rfl) ⟨rfl,hc⟩
 ·refine wp_skip ?_
  refine h2 _ _ ?_
  refine zS fun K h=>sp 1 hf rfl fun a hf=>zT h ?_
  refine wp_seq_k fun K6 h6=>zS fun K h=>sp 2 hf rfl fun a hf=>zP hf rfl (pFA pI rfl) fun a hf=>zP hf rfl (pFA eZ rfl) fun a hf=>zE hf hc rfl (bT mA rfl (bL (j:=0) V rfl)) fun a w hf hc=>zP hf rfl (bC Tryz.underlying23 rfl) fun a hf=>sp 1 hf rfl fun a hf=>zT h ?_
  refine wp_block ?_
  obtain ⟨x8,a4,hF⟩:=aA hF
  let S8:(Int × Int)→Act→World→Prop:=(fun (zz:Int × Int) a w=>∃ (Ds:List Nat),Has ⟨85,rG Ds⟩ a [(0,pq b_),(4,pq U),(5,pq X),(7,i6 zz.1),(23,i6 ((w_.Roster.People.length:Nat):Int)),(24,i6 zz.2)]∧Ctx G (.box X [.slice H I.length D] 50::.box U [i6 x.Person,i6 x.Station] 59::(vN Ds++Lf)) w)
  have az:∀ (zz:Int × Int) a w,x8=.go zz→S8 zz a w→K6 a w:=by
   rintro ⟨g,R⟩ a w rfl ⟨Ds,hf,hc⟩
   replace hF:=bP hF
   refine h6 _ _ ?_
   refine wp_seq_k fun K9 h9=>?_
   obtain ⟨bf,ar,hF⟩:=aA hF
   obtain ⟨bi,o,hd,qa,qp,qr⟩:=B.atm ar
   refine cQ hc aU (by kernel_rfl) ?_
   refine qE hf rfl rfl rfl (Pu.ev (pM rfl)) fun a hf=>qE hf rfl rfl rfl (Pu.ev (pM rfl)) fun a hf=>qE hf rfl rfl rfl (Pu.ev (pNC rfl)) fun a hf=>qE hf rfl rfl rfl (Pu.ev (pFA pI rfl)) fun a hf=>qE hf rfl rfl rfl (Pu.ev (pFA eG rfl)) fun a hf=>qE hf rfl rfl rfl (bT lN rfl (bL (j:=1) V rfl)) fun a hf=>qE hf rfl rfl rfl (Pu.ev (pFA sY rfl)) fun a hf=>qE hf rfl rfl rfl (bT bA rfl (bU m1 rfl)) fun a hf=>qE hf rfl rfl rfl (Pu.ev (pIA Tryz.underlying24 pF rfl rfl qa)) fun a hf=>qE hf rfl rfl rfl (Pu.ev (pFA pW rfl)) fun a hf=>qE hf rfl rfl rfl (bT bA rfl (bL (j:=0) qp rfl)) fun a hf=>qE hf rfl rfl rfl (Pu.ev (pGe rfl rfl)) fun a hf=>qE hf rfl rfl rfl (Pu.ev (pA rfl)) fun a hf=>?_
   intro w hc
   refine h9 _ _ ?_
   refine wp_ret ?_
   obtain rfl:=sj hF
   replace hc:=(hc.drop k1).drop k0
   refine zZ hf ?_
   refine aDs [] Ds hc fun w hc=>?_
   replace hc:Ctx G (Lf) w:=hc
   exact aJr Tryz.results53 hf hc (show gY _ 6=_ from rfl) ⟨rfl,hc⟩
  have bj:∀ r,x8=.out r→r=ak:=by
   rintro r rfl
   exact sj hF
  replace hf:=aJ1 hf
  replace hc:Ctx G (.box X [.slice H I.length D] 50::.box U [i6 x.Person,i6 x.Station] 59::(vN []++Lf)) w:=hc
  refine cR N (cL (S:=S8) (x:=x8) ?_ N (0,0) _ _ ⟨[],hf.kp rfl,hc⟩ a4)
  clear hF hf hc
  rintro ⟨g,R⟩ an a w KB8 ⟨Ds,hf,hc⟩ hF ad a0
  unfold qP at hF
  refine zS fun K h=>sp 1 hf rfl fun a hf=>zT h ?_
  refine wp_seq_k fun K11 a6=>zI hf rfl hF ?_ ?_ <;> clear hF <;> intro hF
  ·refine wp_skip ?_
   refine a6 _ _ ?_
   refine wp_seq_k fun K12 a8=>?_
   have ac:∀ (q:Int) (Ds_1:List Nat) a w,Has ⟨85,rG Ds_1⟩ a [(0,pq b_),(4,pq U),(5,pq X),(7,i6 q),(23,i6 ((w_.Roster.People.length:Nat):Int)),(24,i6 R)]→Ctx G (.box X [.slice H I.length D] 50::.box U [i6 x.Person,i6 x.Station] 59::(vN Ds_1++Lf)) w→eF N R q=some an→K12 a w:=by
    repeat (clear hF)
    repeat (clear hc)
    repeat (clear hf)
    intro q Ds_1 a w hf hc hF
    unfold eF at hF
    refine a8 _ _ ?_
    refine cJ ?_
    refine sp 2 hf rfl fun a hf=>aP ?_
    exact a0 (q,W (R + 1)) _ _ (sj hF).symm ⟨Ds_1,hf.kp rfl,hc⟩
   refine wp_block ?_
   refine zS fun K h=>sp 1 hf rfl fun a hf=>zA hf hc aG3 rfl fun i a w hf hc=>zW hf hc eL u0 rfl fun w hc=>zT h ?_
   refine wp_seq_k fun K14 a2=>wp_seq_k fun K15 a9=>?_
   obtain ⟨ab,av,hF⟩:=aA hF
   obtain ⟨ba,am,hF⟩:=aA hF
   refine cQ hc aU (by kernel_rfl) ?_
   refine qE hf rfl rfl rfl (Pu.ev (pM rfl)) fun a hf=>qE hf rfl rfl rfl (bT bA rfl (bU m0 rfl)) fun a hf=>qE hf rfl rfl rfl (Pu.ev (pFA sY rfl)) fun a hf=>qE hf rfl rfl rfl (bT bA rfl (bU m2 rfl)) fun a hf=>qE hf rfl rfl rfl (eC (v:=.bool ab) (vs:=[pq b_,i6 R,i6 x.Station]) (caps:=[]) aDf rfl rfl rfl rfl (fun w hc=>fV w_ R x.Station O B V hc av)) fun a hf=>qE hf rfl rfl rfl (Pu.ev (pNot rfl)) fun a hf=>qE hf rfl rfl rfl (Pu.ev (pM rfl)) fun a hf=>qCut 21 (fun a=>Has ⟨85,rG Ds⟩ a [(0,pq b_),(4,pq U),(5,pq X),(7,i6 g),(23,i6 ((w_.Roster.People.length:Nat):Int)),(24,i6 R),(8,pq i),(27,pq b_),(28,i6 R),(29,.pointer (some ⟨U,1,none⟩)),(30,i6 x.Station),(31,.bool ab),(32,.bool (!ab)),(33,.bool (!ab)),(54,.bool ba)]) ?_ ?_
   ·cases hb:(!ab)
    ·rw [hb] at hf
     have hF:=jM hb am
     obtain ⟨un,af,hF⟩:=aA hF
     obtain ⟨bb,u,hF⟩:=aA hF
     obtain ⟨bd,s,hF⟩:=aA hF
     obtain ⟨bc,t,hF⟩:=aA hF
     refine qE hf rfl rfl rfl (Pu.ev (pM rfl)) fun a hf=>qE hf rfl rfl rfl (Pu.ev (pFA sY rfl)) fun a hf=>qE hf rfl rfl rfl (bT bA rfl (bU m2 rfl)) fun a hf=>qE hf rfl rfl rfl (bT bA rfl (bU m0 rfl)) fun a hf=>qE hf rfl rfl rfl (Pu.ev (pNC rfl)) fun a hf=>qE hf rfl rfl rfl (Pu.ev (pFA rB rfl)) fun a hf=>qE hf rfl rfl rfl (Pu.ev (pS Tryz.underlying92 yO rfl rfl (aZ af).1 (aZ af).2)) fun a hf=>qE hf rfl rfl rfl (Pu.ev (Pu.cast (pS Tryz.underlying91 eL rfl rfl (aZ u).1 (aZ u).2) (congrArg (fun k=>Value.pointer (some ⟨b_,k,none⟩)) (oO (M:=12) (0 + 2) af u rfl)))) fun a hf=>qE hf rfl rfl rfl (bT bA rfl (qU (j:=0) V (fun x=>(bF x).1) rfl (aCz af u rfl) rfl)) fun a hf=>qE hf rfl rfl rfl (Pu.ev (pM rfl)) fun a hf=>qE hf rfl rfl rfl (Pu.ev (pFA sY rfl)) fun a hf=>qE hf rfl rfl rfl (bT bA rfl (bU m2 rfl)) fun a hf=>qE hf rfl rfl rfl (Pu.ev (pFA aCh rfl)) fun a hf=>?_
     refine qE hf rfl rfl rfl (bT bA rfl (bU m2 rfl)) fun a hf=>qE hf rfl rfl rfl (Pu.ev (pNC rfl)) fun a hf=>qE hf rfl rfl rfl (Pu.ev (pFA rB rfl)) fun a hf=>qE hf rfl rfl rfl (Pu.ev (pS Tryz.underlying92 yO rfl rfl (aZ s).1 (aZ s).2)) fun a hf=>qE hf rfl rfl rfl (Pu.ev (Pu.cast (pS Tryz.underlying91 eL rfl rfl (aZ t).1 (aZ t).2) (congrArg (fun k=>Value.pointer (some ⟨b_,k,none⟩)) (oO (M:=12) (0 + 2) s t rfl)))) fun a hf=>qE hf rfl rfl rfl (bT bA rfl (qU (j:=0) V (fun x=>(bF x).1) rfl (aCz s t rfl) rfl)) fun a hf=>qE hf rfl rfl rfl (Pu.ev (pGe rfl rfl)) fun a hf=>qE hf rfl rfl rfl (Pu.ev (pPf rfl rfl)) fun a hf=>?_
     obtain rfl:=sj hF
     exact aDi (hf.kp rfl)
    ·rw [hb] at hf
     have hF:=iL hb am
     obtain rfl:=sj hF
     refine qS hf rfl rfl rfl fun a hf=>qS hf rfl rfl rfl fun a hf=>qS hf rfl rfl rfl fun a hf=>qS hf rfl rfl rfl fun a hf=>qS hf rfl rfl rfl fun a hf=>qS hf rfl rfl rfl fun a hf=>qS hf rfl rfl rfl fun a hf=>qS hf rfl rfl rfl fun a hf=>qS hf rfl rfl rfl fun a hf=>qS hf rfl rfl rfl fun a hf=>qS hf rfl rfl rfl fun a hf=>qS hf rfl rfl rfl fun a hf=>qS hf rfl rfl rfl fun a hf=>?_
     refine qS hf rfl rfl rfl fun a hf=>qS hf rfl rfl rfl fun a hf=>qS hf rfl rfl rfl fun a hf=>qS hf rfl rfl rfl fun a hf=>qS hf rfl rfl rfl fun a hf=>qS hf rfl rfl rfl fun a hf=>qS hf rfl rfl rfl fun a hf=>qE hf rfl rfl rfl (Pu.ev (pPt rfl rfl)) fun a hf=>aDi (hf.kp rfl)
   intro a hf
   intro w hc
   refine a9 _ _ ?_
   refine zI hf rfl hF ?_ ?_ <;> clear hF <;> intro hF
   ·refine wp_exit ?_
    refine aW ?_
    refine eV ?_
    replace hc:=hc.drop k0
    exact ac g Ds _ _  (hf.kp rfl) hc hF
   ·refine wp_skip ?_
    refine a2 _ _ ?_
    refine zS fun K h=>zA hf hc zr_4 rfl fun p a w hf hc=>zW hf hc sz_4 u0 rfl fun w hc=>zT h ?_
    refine wp_seq_k fun K17 a5=>zS fun K h=>sp 1 hf rfl fun a hf=>zL hf hc bA m1 rfl fun a w hf hc=>zP hf rfl (pFA sY rfl) fun a hf=>zL hf hc bA m3 rfl fun a w hf hc=>?_
    obtain ⟨m,aq,hF⟩:=aA hF
    refine zC hf aE2 rfl (lV w_ R x.Station O B V hc aq) ?_
    rintro _ w ⟨z,aa,y,rfl,hc⟩
    refine ⟨_,rfl,fun a hf=>?_⟩
    refine zT h ?_
    obtain ⟨ay,ax,hF⟩:=aA hF
    refine aGr (C:=[.box z [pq b_] 47,.box aa [i6 m.1] 3,.box y [i6 m.2] 3]) (C2:=[.box z [pq b_] 47,.box aa [i6 m.1] 3,.box y [i6 m.2] 3]) (L0:=[.box p [.bool true] 4,.box i [i6 R] 3,.box X [.slice H I.length D] 50,.box U [i6 x.Person,i6 x.Station] 59]) (Lf:=(vN Ds++Lf)) (encs:=fun x:Int=>[i6 x]) (fun (zz:Bool) L=>L=[.box p [.bool zz] 4,.box i [i6 R] 3,.box X [.slice H I.length D] 50,.box U [i6 x.Person,i6 x.Station] 59]) (fun (zz:Bool) (a7:Int)=>jF N I R zz a7) true ay hf hc rfl aIs (fun _=>rfl) rfl rfl ?_ ?_ ?_ ?_
    ·intro lq mq J L Lx w hy hJ hc
     exact kT w_ m.1 m.2 O B V J _ hy _ hJ hc ax
    ·clear hF hf hc
     rintro lq mq n xv oq _ Lr Lb a w bg rfl hF hf hc hK
     replace hf:Has 85 a [(0,pq b_),(4,pq U),(5,pq X),(7,i6 g),(8,pq i),(9,pq p),(23,i6 ((w_.Roster.People.length:Nat):Int)),(24,i6 R),(60,i6 xv)]:=hf.kp rfl
     replace hc:Ctx G (.box p [.bool n] 4::.box i [i6 R] 3::.box X [.slice H I.length D] 50::.box U [i6 x.Person,i6 x.Station] 59::Lr) w:=hc
     replace hF:jF N I R n xv=some oq:=hF
     unfold jF at hF
     refine tS (fun _ _ h=>h) rfl ?_
     refine sp 1 hf rfl fun a hf=>aP ?_
     refine hK _ _ [.box p [.bool n] 4,.box i [i6 R] 3,.box X [.slice H I.length D] 50,.box U [i6 x.Person,i6 x.Station] 59] hc fun w hc=>?_
     replace hc:Ctx G (.box p [.bool n] 4::.box i [i6 R] 3::.box X [.slice H I.length D] 50::.box U [i6 x.Person,i6 x.Station] 59::Lb) w:=hc
     refine aEk fun K20 a3=>aAj ?_
     refine tS (fun _ _ h=>h) rfl ?_
     refine zL hf hc sc_4 m0 rfl fun a w hf hc=>sp 1 hf rfl fun a hf=>?_
     obtain ⟨ap,aj,hF⟩:=aA hF
     refine gX 6 (fun a=>Has 85 a [(0,pq b_),(4,pq U),(5,pq X),(7,i6 g),(8,pq i),(9,pq p),(23,i6 ((w_.Roster.People.length:Nat):Int)),(24,i6 R),(10,i6 xv),(61,.bool n),(62,.bool n),(68,.bool ap)]) hc ?_ ?_
     ·cases hb:n
      ·rw [hb] at hf
       try rw [hb] at hc
       have hF:=jM hb aj
       obtain rfl:=sj hF
       refine stS hf rfl rfl rfl fun a hf=>stS hf rfl rfl rfl fun a hf=>stS hf rfl rfl rfl fun a hf=>stS hf rfl rfl rfl fun a hf=>stS hf rfl rfl rfl fun a hf=>sp 1 hf rfl fun a hf=>aP ⟨hf.kp rfl,hc⟩
      ·rw [hb] at hf
       try rw [hb] at hc
       have hF:=iL hb aj
       refine zL hf hc aEr m2 rfl fun a w hf hc=>zL hf hc bA m1 rfl fun a w hf hc=>sp 1 hf rfl fun a hf=>zP hf rfl (cF (cells:=[i6 R,i6 xv]) sK rfl rfl) fun a hf=>?_
       obtain ⟨a1,au,hF⟩:=aA hF
       refine zQ (v:=.bool a1) hf hc en_87 rfl (fun w hc=>jC I (⟨R,xv⟩:aE) ag hc au) fun a w hf hc=>sp 1 hf rfl fun a hf=>?_
       obtain rfl:=sj hF
       exact aP ⟨hf.kp rfl,hc⟩
     intro a w ⟨hf,hc⟩
     refine zW hf hc sz_4 u0 rfl fun w hc=>aP ?_
     refine a3 _ _ ?_
     exact ⟨ap,_,(sj hF).symm,rfl,hc⟩
    ·rintro D_1 n _ a w ai rfl hf hc
     replace hf:Has ⟨85,rG (D_1::Ds)⟩ a [(0,pq b_),(4,pq U),(5,pq X),(7,i6 g),(8,pq i),(9,pq p),(23,i6 ((w_.Roster.People.length:Nat):Int)),(24,i6 R)]:=hf.kp rfl
     replace hc:Ctx G (.box z [pq b_] 47::.box aa [i6 m.1] 3::.box y [i6 m.2] 3::.box p [.bool n] 4::.box i [i6 R] 3::.box X [.slice H I.length D] 50::.box U [i6 x.Person,i6 x.Station] 59::(vN (D_1::Ds)++Lf)) w:=xV (C:=[.box z [pq b_] 47,.box aa [i6 m.1] 3,.box y [i6 m.2] 3]) (L:=[.box p [.bool n] 4,.box i [i6 R] 3,.box X [.slice H I.length D] 50,.box U [i6 x.Person,i6 x.Station] 59]) hc
     replace hF:(cond n (eF N R (W (g + 1))) (eF N R g))=some an:=by rcases ai with rfl | rfl <;> exact hF
     refine a5 _ _ ?_
     refine zS fun K h=>zL hf hc sc_4 m3 rfl fun a w hf hc=>zT h ?_
     refine zI hf rfl hF ?_ ?_ <;> clear hF <;> intro hF
     ·refine cJ ?_
      refine sp 3 hf rfl fun a hf=>aP ?_
      replace hc:=((((hc.drop k4).drop k3).drop k2).drop k1).drop k0
      exact ac (W (g + 1)) (D_1::Ds) _ _  (hf.kp rfl) hc hF
     ·refine wp_skip ?_
      replace hc:=((((hc.drop k4).drop k3).drop k2).drop k1).drop k0
      exact ac g (D_1::Ds) _ _  (hf.kp rfl) hc hF
    ·rintro D_1 n _ a w ai rfl hf hc
     replace hf:Has ⟨85,rG (D_1::Ds)⟩ a [(0,pq b_),(4,pq U),(5,pq X),(7,i6 g),(8,pq i),(9,pq p),(23,i6 ((w_.Roster.People.length:Nat):Int)),(24,i6 R)]:=hf.kp rfl
     replace hc:Ctx G (.box z [pq b_] 47::.box aa [i6 m.1] 3::.box y [i6 m.2] 3::.box p [.bool n] 4::.box i [i6 R] 3::.box X [.slice H I.length D] 50::.box U [i6 x.Person,i6 x.Station] 59::(vN (D_1::Ds)++Lf)) w:=xV (C:=[.box z [pq b_] 47,.box aa [i6 m.1] 3,.box y [i6 m.2] 3]) (L:=[.box p [.bool n] 4,.box i [i6 R] 3,.box X [.slice H I.length D] 50,.box U [i6 x.Person,i6 x.Station] 59]) hc
     replace hF:(none)=some an:=by subst ai; exact hF
     cases hF
  ·refine wp_exit ?_
   refine aW ?_
   refine aW ?_
   have he:=sj hF
   rw [← he] at ad
   refine eV ?_
   exact az _ _ _ ad ⟨Ds,hf.kp rfl,hc⟩

def uS (N:Nat) (l:List aE):Option (cK (Unit) (Bool × Int)) :=
 cond (decide (0 < ((l.length:Nat):Int)))
 (Option.bind (bH l 0) fun B=>
 none)
 (some (.brk ()))
def uJ (N:Nat) (r:aB) (l:List aE) (D:(Nat→Int) × Int) (x:Int):Option (cK (Int) (Bool × Int)) :=
 cond (decide (x < ((l.length:Nat):Int)))
 (Option.bind (bH l x) fun B=>
 Option.bind (xE l 0 x) fun sub=>
 Option.bind (oX N (⟨r,D.1⟩:aT) B sub) fun H=>
 cond (!H)
 (some (.ret (false,0)))
 (some (.cont (W (x + 1)))))
 (some (.brk x))
def vR (N:Nat) (r:aB) (l:List aE):Option (Bool × Int) :=
 Option.bind (lH N r) (aEi (fun H=>cond (H != 0)
 (some (false,H))
 (cond (decide (144 < ((l.length:Nat):Int)))
 (some (false,3))
 (Option.bind (gI N l r) fun J=>
 cond (!J)
 (some (false,2))
 (Option.bind (bE (fun (_:Unit)=>uS N l) N ()) fun M=>
 exK M (fun (_:Unit)=>some (true,0)) some))))
 (fun B=>cond (B.2 != 0)
 (some (false,B.2))
 (cond (decide (144 < ((l.length:Nat):Int)))
 (some (false,3))
 (Option.bind (gI N l r) fun I=>
 cond (!I)
 (some (false,2))
 (Option.bind (bE (fun D=>uJ N r l B D) N 0) fun O=>
 exK O (fun D=>some (true,0)) some)))))
theorem aBe {N:Nat} {G:aO} {Lf:List Ent} {w:World} (r:aB) (l:List aE) {R:Option Addr} {O:Nat} {I:Option Addr} {J:Nat} {X:Option Addr} {U:Nat} (H:RdT aG G 1 R O r.People) (D:RdT aL G 2 I J r.Stations) (Y:Rd G 2 X U (l.map aJ)) (hc:Ctx G (Lf) w) {d:Bool × Int} (hF:vR N r l=some d):Calls Tryz.prog 25 #[.agg #[.slice R r.People.length O,.slice I r.Stations.length J],.slice X l.length U] w (fun e w=>e=.returned (.tuple #[.bool d.1,i6 d.2])∧Ctx G (Lf) w):=by
 unfold vR at hF
 refine bI Tryz.func25 rfl Tryz.ntmps25 rfl fun a hf=>zS fun K h=>zB hf hc rfl fun p a w hf hc=>sp 2 hf rfl fun a hf=>zT h ?_
 refine wp_seq_k fun K2 h2=>cJ ?_
 refine zN hf hc mD m0 rfl fun a w hf hc=>?_
 obtain ⟨s,g,hF⟩:=aA hF
 cases s with
 | inl s=>
  replace hF:=aId hF
  refine zC hf aBv rfl (jL r H D hc g) ?_
  rintro _ w ⟨rfl,hc⟩
  refine ⟨_,rfl,fun a hf=>?_⟩
  refine sp 5 hf rfl fun a hf=>aP ?_
  refine h2 _ _ ?_
  refine wp_seq_k fun K3 h3=>wp_block ?_
  refine zS fun K h=>sp 3 hf rfl fun a hf=>zT h ?_
  refine zI hf rfl hF ?_ ?_ <;> clear hF <;> intro hF
  ·refine zS fun K h=>sp 3 hf rfl fun a hf=>zT h ?_
   refine wp_ret ?_
   refine bN ?_
   refine aN ?_
   obtain rfl:=sj hF
   replace hc:=hc.drop k0
   exact zO2 Tryz.results25 hf rfl rfl ⟨rfl,hc⟩
  ·refine zS fun K h=>sp 1 hf rfl fun a hf=>zP hf rfl (bC Tryz.underlying50 rfl) fun a hf=>sp 2 hf rfl fun a hf=>zT h ?_
   refine zI hf rfl hF ?_ ?_ <;> clear hF <;> intro hF
   ·refine zS fun K h=>sp 2 hf rfl fun a hf=>zT h ?_
    refine wp_ret ?_
    refine bN ?_
    refine aN ?_
    obtain rfl:=sj hF
    replace hc:=hc.drop k0
    exact zO2 Tryz.results25 hf rfl rfl ⟨rfl,hc⟩
   ·refine zS fun K h=>sp 1 hf rfl fun a hf=>zP hf rfl (pMF (us:=[pq p]) rfl rfl) fun a hf=>?_
    obtain ⟨av,ai,hF⟩:=aA hF
    refine zQ (v:=.bool av) hf hc aKd rfl (fun w hc=>(lE l r Y H D (hc.pick k0) ai).mono fun e w h=>⟨h.1,(h.2.unpick k0)⟩) fun a w hf hc=>sp 2 hf rfl fun a hf=>zT h ?_
    refine zI hf rfl hF ?_ ?_ <;> clear hF <;> intro hF
    ·refine zS fun K h=>sp 2 hf rfl fun a hf=>zT h ?_
     refine wp_ret ?_
     refine bN ?_
     refine aN ?_
     obtain rfl:=sj hF
     replace hc:=hc.drop k0
     exact zO2 Tryz.results25 hf rfl rfl ⟨rfl,hc⟩
    ·refine wp_skip ?_
     refine h3 _ _ ?_
     refine wp_seq_k fun K10 a0=>zS fun K h=>sp 1 hf rfl fun a hf=>zP hf rfl (bC Tryz.underlying50 rfl) fun a hf=>sp 1 hf rfl fun a hf=>zT h ?_
     refine wp_block ?_
     obtain ⟨i,ab,hF⟩:=aA hF
     let S12:Unit→Act→World→Prop:=(fun (zz:Unit) a w=>Has 43 a [(1,.slice X l.length U),(6,.pointer none),(28,.slice X l.length U),(29,i6 ((l.length:Nat):Int)),(30,i6 0)]∧Ctx G (Lf) w)
     have ad:∀ (zz:Unit) a w,i=.go zz→S12 zz a w→K10 a w:=by
      rintro ⟨⟩ a w rfl ⟨hf,hc⟩
      replace hF:=bP hF
      refine a0 _ _ ?_
      refine zS fun K h=>sp 2 hf rfl fun a hf=>zT h ?_
      refine wp_ret ?_
      obtain rfl:=sj hF
      exact zO2 Tryz.results25 hf rfl rfl ⟨rfl,hc⟩
     have a3:∀ r,i=.out r→r=d:=by
      rintro r rfl
      exact sj hF
     replace hc:=hc.drop k0
     refine cR N (cL (S:=S12) (x:=i) ?_ N () _ _ ⟨hf.kp rfl,hc⟩ ab)
     clear hF hf hc
     rintro ⟨⟩ a2 a w KB12 ⟨hf,hc⟩ hF b a5
     unfold uS at hF
     refine zS fun K h=>sp 1 hf rfl fun a hf=>zT h ?_
     refine wp_seq_k fun K15 az=>zI hf rfl hF ?_ ?_ <;> clear hF <;> intro hF
     ·refine wp_skip ?_
      refine az _ _ ?_
      refine wp_seq_k fun K16 a8=>wp_block ?_
      refine zS fun K h=>sp 1 hf rfl fun a hf=>?_
      obtain ⟨m,aa,hF⟩:=aA hF
      obtain ⟨a6,o,qa,qp⟩:=Y.atm aa
      refine zP hf rfl (pIA Tryz.underlying50 nF rfl rfl qa) fun a hf=>zE hf hc rfl (jN (vs:=[i6 m.Person,i6 m.Station]) mV rfl rfl (eX qp (n:=2) (o':=0) rfl)) fun a w hf hc=>zA hf hc aB4 rfl fun a9 a w hf hc=>sp 1 hf rfl fun a hf=>zW hf hc nF u0 rfl fun w hc=>zT h ?_
      refine wp_seq_k fun K18 bb=>aAb hF
     ·refine wp_exit ?_
      refine aW ?_
      refine aW ?_
      have he:=sj hF
      rw [← he] at b
      refine eV ?_
      exact ad _ _ _ b ⟨hf.kp rfl,hc⟩
 | inr a1=>
  replace hF:=aIl hF
  have u:=g
  refine zC hf aBv rfl (jL r H D hc u) ?_
  rintro _ w ⟨q,rfl,hc⟩
  refine ⟨_,rfl,fun a hf=>?_⟩
  refine sp 5 hf rfl fun a hf=>aP ?_
  obtain ⟨G,B,Z,hc,-⟩:=aGu hc k0
  replace Z:=aG8 Z
  refine h2 _ _ ?_
  refine wp_seq_k fun K19 ay=>wp_block ?_
  refine zS fun K h=>sp 3 hf rfl fun a hf=>zT h ?_
  refine zI hf rfl hF ?_ ?_ <;> clear hF <;> intro hF
  ·refine zS fun K h=>sp 3 hf rfl fun a hf=>zT h ?_
   refine wp_ret ?_
   refine bN ?_
   refine aN ?_
   obtain rfl:=sj hF
   replace hc:=hc.down B
   replace hc:=hc.drop k0
   exact zO2 Tryz.results25 hf rfl rfl ⟨rfl,hc⟩
  ·refine zS fun K h=>sp 1 hf rfl fun a hf=>zP hf rfl (bC Tryz.underlying50 rfl) fun a hf=>sp 2 hf rfl fun a hf=>zT h ?_
   refine zI hf rfl hF ?_ ?_ <;> clear hF <;> intro hF
   ·refine zS fun K h=>sp 2 hf rfl fun a hf=>zT h ?_
    refine wp_ret ?_
    refine bN ?_
    refine aN ?_
    obtain rfl:=sj hF
    replace hc:=hc.down B
    replace hc:=hc.drop k0
    exact zO2 Tryz.results25 hf rfl rfl ⟨rfl,hc⟩
   ·refine zS fun K h=>sp 1 hf rfl fun a hf=>zP hf rfl (pMF (us:=[pq p]) rfl rfl) fun a hf=>?_
    obtain ⟨au,af,hF⟩:=aA hF
    refine zQ (v:=.bool au) hf hc aKd rfl (fun w hc=>(lE l r (Y.mono B) (H.mono B) (D.mono B) (hc.pick k0) af).mono fun e w h=>⟨h.1,(h.2.unpick k0)⟩) fun a w hf hc=>sp 2 hf rfl fun a hf=>zT h ?_
    refine zI hf rfl hF ?_ ?_ <;> clear hF <;> intro hF
    ·refine zS fun K h=>sp 2 hf rfl fun a hf=>zT h ?_
     refine wp_ret ?_
     refine bN ?_
     refine aN ?_
     obtain rfl:=sj hF
     replace hc:=hc.down B
     replace hc:=hc.drop k0
     exact zO2 Tryz.results25 hf rfl rfl ⟨rfl,hc⟩
    ·refine wp_skip ?_
     refine ay _ _ ?_
     refine wp_seq_k fun K26 ax=>zS fun K h=>sp 1 hf rfl fun a hf=>zP hf rfl (bC Tryz.underlying50 rfl) fun a hf=>sp 1 hf rfl fun a hf=>zT h ?_
     refine wp_block ?_
     obtain ⟨k,aj,hF⟩:=aA hF
     let S28:Int→Act→World→Prop:=(fun (zz:Int) a w=>Has 43 a [(1,.slice X l.length U),(6,pq q),(28,.slice X l.length U),(29,i6 ((l.length:Nat):Int)),(30,i6 zz)]∧Ctx G (Lf) w)
     have ak:∀ (zz:Int) a w,k=.go zz→S28 zz a w→K26 a w:=by
      rintro x a w rfl ⟨hf,hc⟩
      replace hF:=bP hF
      refine ax _ _ ?_
      refine zS fun K h=>sp 2 hf rfl fun a hf=>zT h ?_
      refine wp_ret ?_
      obtain rfl:=sj hF
      replace hc:=hc.down B
      exact zO2 Tryz.results25 hf rfl rfl ⟨rfl,hc⟩
     have t:∀ r,k=.out r→r=d:=by
      rintro r rfl
      exact sj hF
     replace hc:=hc.drop k0
     refine cR N (cL (S:=S28) (x:=k) ?_ N 0 _ _ ⟨hf.kp rfl,hc⟩ aj)
     clear hF hf hc
     rintro x a4 a w KB28 ⟨hf,hc⟩ hF M ag
     unfold uJ at hF
     refine zS fun K h=>sp 1 hf rfl fun a hf=>zT h ?_
     refine wp_seq_k fun K31 ar=>zI hf rfl hF ?_ ?_ <;> clear hF <;> intro hF
     ·refine wp_skip ?_
      refine ar _ _ ?_
      refine wp_seq_k fun K32 aq=>wp_block ?_
      refine zS fun K h=>sp 1 hf rfl fun a hf=>?_
      obtain ⟨V,ac,hF⟩:=aA hF
      obtain ⟨a7,bc,am,z⟩:=(Y.mono B).atm ac
      refine zP hf rfl (pIA Tryz.underlying50 nF rfl rfl am) fun a hf=>zE hf hc rfl (jN (vs:=[i6 V.Person,i6 V.Station]) mV rfl rfl (eX z (n:=2) (o':=0) rfl)) fun a w hf hc=>zA hf hc aB4 rfl fun ba a w hf hc=>sp 1 hf rfl fun a hf=>zW hf hc nF u0 rfl fun w hc=>zT h ?_
      refine wp_seq_k fun K34 ap=>?_
      obtain ⟨sub,j,hF⟩:=aA hF
      have qs:=Rd.sub (Y.mono B) j
      obtain ⟨an,y,hF⟩:=aA hF
      refine cQ hc aU (by kernel_rfl) ?_
      refine qE hf rfl rfl rfl (Pu.ev (pM rfl)) fun a hf=>qE hf rfl rfl rfl (jN (vs:=[i6 V.Person,i6 V.Station]) mV rfl rfl (bM (n:=2) m0 rfl)) fun a hf=>qE hf rfl rfl rfl (Pu.ev (pM rfl)) fun a hf=>qE hf rfl rfl rfl (Pu.ev (pM rfl)) fun a hf=>qE hf rfl rfl rfl (Pu.ev (pSl Tryz.underlying50 nF rfl rfl (by simpa using (Y.mono B).1) rfl rfl j)) fun a hf=>qE hf rfl rfl rfl (eC (v:=.bool an) (vs:=[pq q,.agg #[i6 V.Person,i6 V.Station],.slice (yU X U (0:Int).toNat 2) sub.length (U - (0:Int).toNat)]) (caps:=[]) en_53 rfl rfl rfl rfl (fun w hc=>vX (⟨r,a1.1⟩:aT) V sub (H.mono B) (D.mono B) Z qs hc y)) fun a hf=>qE hf rfl rfl rfl (Pu.ev (pNot rfl)) fun a hf=>?_
      intro w hc
      refine ap _ _ ?_
      refine zI hf rfl hF ?_ ?_ <;> clear hF <;> intro hF
      ·refine zS fun K h=>sp 2 hf rfl fun a hf=>zT h ?_
       refine wp_ret ?_
       refine bN ?_
       refine aN ?_
       refine aN ?_
       have he:=sj hF
       rw [← he] at M
       replace hF:=t _ M
       refine bN ?_
       refine aN ?_
       obtain rfl:=hF
       replace hc:=hc.down B
       replace hc:=hc.drop k0
       exact zO2 Tryz.results25 hf rfl rfl ⟨rfl,hc⟩
      ·refine wp_skip ?_
       refine aq _ _ ?_
       refine cJ ?_
       refine sp 2 hf rfl fun a hf=>aP ?_
       replace hc:=hc.drop k0
       exact ag (W (x + 1)) _ _ (sj hF).symm ⟨hf.kp rfl,hc⟩
     ·refine wp_exit ?_
      refine aW ?_
      refine aW ?_
      have he:=sj hF
      rw [← he] at M
      refine eV ?_
      exact ak _ _ _ M ⟨hf.kp rfl,hc⟩

def jY (N:Nat) (lo:Int) (B:Int):Option (aS) :=
 some (⟨lo,B⟩:aS)
theorem iR {N:Nat} {G:aO} {Lf:List Ent} {w:World} (lo:Int) (B:Int)   (hc:Ctx G (Lf) w) {D:aS} (hF:jY N lo B=some D):Calls Tryz.prog 34 #[i6 lo,i6 B] w (fun e w=>e=.returned (.agg #[i6 D.Lo,i6 D.Hi])∧Ctx G (Lf) w):=by
 unfold jY at hF
 refine bI Tryz.func34 rfl Tryz.ntmps34 rfl fun a hf=>zS fun K h=>zA hf hc aHm rfl fun H a w hf hc=>zT h ?_
 refine zS fun K h=>sp 2 hf rfl fun a hf=>zP hf rfl (cF (cells:=[i6 lo,i6 B]) aAf rfl rfl) fun a hf=>zW hf hc wD u0 rfl fun w hc=>zT h ?_
 refine wp_ret ?_
 obtain rfl:=sj hF
 exact tC (by simp) rfl Tryz.results34 hf hc (fK (vs:=[i6 lo,i6 B]) qG rfl rfl (bM (n:=2) m0 rfl)) ⟨rfl,(hc.drop k0)⟩

def qC (N:Nat) (B:Int):Option ((List aY)) :=
 Option.bind (jY N 30 40) fun r=>
 Option.bind (jY N 20 25) fun D=>
 Option.bind (jY N 10 10) fun H=>
 some ([(⟨r,D,35,60⟩:aY),(⟨H,(⟨0,0⟩:aS),0,B⟩:aY)]:List aY)
theorem rP {N:Nat} {G:aO} {Lf:List Ent} {w:World} (D:Int)   (hc:Ctx G (Lf) w) {I:(List aY)} (hF:qC N D=some I):Calls Tryz.prog 27 #[i6 D] w (fun e w=>∃ (M:Option Addr) (J:Nat),e=.returned (.slice M I.length J)∧Ctx G (.row M J (I.map cU) 118 6::Lf) w):=by
 unfold qC at hF
 refine bI Tryz.func27 rfl Tryz.ntmps27 rfl fun a hf=>zS fun K h=>sp 1 hf rfl fun a hf=>zT h ?_
 refine zS fun K h=>?_
 obtain ⟨r,hr,hF⟩:=aA hF
 refine zQ (v:=.agg #[i6 r.Lo,i6 r.Hi]) hf hc aAr rfl (fun w hc=>iR 30 40 hc hr) fun a w hf hc=>?_
 obtain ⟨H,O,hF⟩:=aA hF
 refine zQ (v:=.agg #[i6 H.Lo,i6 H.Hi]) hf hc aAr rfl (fun w hc=>iR 20 25 hc O) fun a w hf hc=>zP hf rfl (cF (cells:=[i6 r.Lo,i6 r.Hi,i6 H.Lo,i6 H.Hi,i6 35,i6 60]) aHa rfl rfl) fun a hf=>?_
 obtain ⟨B,R,hF⟩:=aA hF
 refine zQ (v:=.agg #[i6 B.Lo,i6 B.Hi]) hf hc aAr rfl (fun w hc=>iR 10 10 hc R) fun a w hf hc=>sp 1 hf rfl fun a hf=>zP hf rfl (cF (cells:=[i6 B.Lo,i6 B.Hi,i6 0,i6 0,i6 0,i6 D]) aHa rfl rfl) fun a hf=>jD (rows:=([(⟨r,H,35,60⟩:aY),(⟨B,(⟨0,0⟩:aS),0,D⟩:aY)]:List aY).map cU) (vs:=[(0,.agg #[i6 r.Lo,i6 r.Hi,i6 H.Lo,i6 H.Hi,i6 35,i6 60]),(1,.agg #[i6 B.Lo,i6 B.Hi,i6 0,i6 0,i6 0,i6 D])]) hf hc rfl rfl sl_67 rfl ⟨rfl,rfl,rfl,rfl,rfl,rfl,trivial⟩ rfl rfl fun S a w hf hc=>sp 1 hf rfl fun a hf=>zT h ?_
 refine wp_ret ?_
 obtain rfl:=sj hF
 exact zO1 Tryz.results27 hf rfl ⟨(some ⟨S,0,none⟩),2,rfl,hc⟩

def bG (n:Int):Bool :=
 (aH n 0 100000)
theorem nE {G:aO} {Lf:List Ent} {w:World} (n:Int)   (hc:Ctx G (Lf) w) {B:Bool} (hF:bG n=B):Calls Tryz.prog 55 #[i6 n] w (fun e w=>e=.returned (.bool B)∧Ctx G (Lf) w):=by
 unfold bG at hF
 refine bI Tryz.func55 rfl Tryz.ntmps55 rfl fun a hf=>zS fun K h=>sp 1 hf rfl fun a hf=>zT h ?_
 refine zS fun K h=>sp 1 hf rfl fun a hf=>zQ (v:=.bool (aH n 0 100000)) hf hc lJ rfl (fun w hc=>cG n 0 100000 hc rfl) fun a w hf hc=>sp 1 hf rfl fun a hf=>zT h ?_
 refine wp_ret ?_
 obtain rfl:=hF
 exact zO1 Tryz.results55 hf rfl ⟨rfl,hc⟩

def aX (s_:aS):Bool :=
 ((aH s_.Lo 0 s_.Hi) && (bG s_.Hi))
theorem tP {G:aO} {Lf:List Ent} {w:World} (s_:aS)   (hc:Ctx G (Lf) w) {D:Bool} (hF:aX s_=D):Calls Tryz.prog 90 #[.agg #[i6 s_.Lo,i6 s_.Hi]] w (fun e w=>e=.returned (.bool D)∧Ctx G (Lf) w):=by
 unfold aX at hF
 refine bI Tryz.func90 rfl Tryz.ntmps90 rfl fun a hf=>zS fun K h=>zB hf hc rfl fun B a w hf hc=>sp 1 hf rfl fun a hf=>zT h ?_
 refine zS fun K h=>zP hf rfl (pFA zU rfl) fun a hf=>zL hf hc bA m0 rfl fun a w hf hc=>zP hf rfl (pFA pQ rfl) fun a hf=>zL hf hc bA m0 rfl fun a w hf hc=>zQ (v:=.bool (aH s_.Lo 0 s_.Hi)) hf hc lJ rfl (fun w hc=>cG s_.Lo 0 s_.Hi hc rfl) fun a w hf hc=>sp 1 hf rfl fun a hf=>gX 4 (fun a=>Has 13 a [(1,pq B),(2,.bool false),(3,pq B),(4,i6 s_.Lo),(5,.pointer (some ⟨B,1,none⟩)),(6,i6 s_.Hi),(7,.bool (aH s_.Lo 0 s_.Hi)),(8,.bool (aH s_.Lo 0 s_.Hi)),(12,.bool ((aH s_.Lo 0 s_.Hi) && (bG s_.Hi)))]) hc ?_ ?_
 ·cases hb:(aH s_.Lo 0 s_.Hi)
  ·rw [hb] at hf
   refine stS hf rfl rfl rfl fun a hf=>stS hf rfl rfl rfl fun a hf=>stS hf rfl rfl rfl fun a hf=>sp 1 hf rfl fun a hf=>aP ⟨hf.kp rfl,hc⟩
  ·rw [hb] at hf
   refine zP hf rfl (pFA pQ rfl) fun a hf=>zL hf hc bA m0 rfl fun a w hf hc=>zQ (v:=.bool (bG s_.Hi)) hf hc aFg rfl (fun w hc=>nE s_.Hi hc rfl) fun a w hf hc=>sp 1 hf rfl fun a hf=>aP ⟨hf.kp rfl,hc⟩
 intro a w ⟨hf,hc⟩
 refine sp 1 hf rfl fun a hf=>zT h ?_
 refine wp_ret ?_
 obtain rfl:=hF
 replace hc:=hc.drop k0
 exact zO1 Tryz.results90 hf rfl ⟨rfl,hc⟩

def nC (v:aY):Bool :=
 ((((aX v.Way) && (aX v.Work)) && (aH v.Open 0 v.Close)) && (bG v.Close))
theorem wP {G:aO} {Lf:List Ent} {w:World} (v:aY)   (hc:Ctx G (Lf) w) {D:Bool} (hF:nC v=D):Calls Tryz.prog 89 #[.agg #[i6 v.Way.Lo,i6 v.Way.Hi,i6 v.Work.Lo,i6 v.Work.Hi,i6 v.Open,i6 v.Close]] w (fun e w=>e=.returned (.bool D)∧Ctx G (Lf) w):=by
 unfold nC at hF
 refine bI Tryz.func89 rfl Tryz.ntmps89 rfl fun a hf=>zS fun K h=>zB hf hc rfl fun B a w hf hc=>sp 1 hf rfl fun a hf=>zT h ?_
 refine zS fun K h=>zP hf rfl (pFA wN rfl) fun a hf=>zN hf hc qG m0 rfl fun a w hf hc=>zQ (v:=.bool (aX v.Way)) hf hc aJj rfl (fun w hc=>tP v.Way hc rfl) fun a w hf hc=>sp 1 hf rfl fun a hf=>gX 4 (fun a=>Has 23 a [(1,pq B),(2,.bool false),(3,pq B),(4,.agg #[i6 v.Way.Lo,i6 v.Way.Hi]),(5,.bool (aX v.Way)),(6,.bool (aX v.Way)),(10,.bool ((aX v.Way) && (aX v.Work)))]) hc ?_ ?_
 ·cases hb:(aX v.Way)
  ·rw [hb] at hf
   refine stS hf rfl rfl rfl fun a hf=>stS hf rfl rfl rfl fun a hf=>stS hf rfl rfl rfl fun a hf=>sp 1 hf rfl fun a hf=>aP ⟨hf.kp rfl,hc⟩
  ·rw [hb] at hf
   refine zP hf rfl (pFA wK rfl) fun a hf=>zN hf hc qG m0 rfl fun a w hf hc=>zQ (v:=.bool (aX v.Work)) hf hc aJj rfl (fun w hc=>tP v.Work hc rfl) fun a w hf hc=>sp 1 hf rfl fun a hf=>aP ⟨hf.kp rfl,hc⟩
 intro a w ⟨hf,hc⟩
 refine sp 1 hf rfl fun a hf=>gX 6 (fun a=>Has 23 a [(1,pq B),(2,.bool false),(3,pq B),(4,.agg #[i6 v.Way.Lo,i6 v.Way.Hi]),(5,.bool (aX v.Way)),(6,.bool (aX v.Way)),(10,.bool ((aX v.Way) && (aX v.Work))),(11,.bool ((aX v.Way) && (aX v.Work))),(17,.bool (((aX v.Way) && (aX v.Work)) && (aH v.Open 0 v.Close)))]) hc ?_ ?_
 ·cases hb:((aX v.Way) && (aX v.Work))
  ·rw [hb] at hf
   refine stS hf rfl rfl rfl fun a hf=>stS hf rfl rfl rfl fun a hf=>stS hf rfl rfl rfl fun a hf=>stS hf rfl rfl rfl fun a hf=>stS hf rfl rfl rfl fun a hf=>sp 1 hf rfl fun a hf=>aP ⟨hf.kp rfl,hc⟩
  ·rw [hb] at hf
   refine zP hf rfl (pFA wS rfl) fun a hf=>zL hf hc bA m0 rfl fun a w hf hc=>zP hf rfl (pFA uC rfl) fun a hf=>zL hf hc bA m0 rfl fun a w hf hc=>zQ (v:=.bool (aH v.Open 0 v.Close)) hf hc lJ rfl (fun w hc=>cG v.Open 0 v.Close hc rfl) fun a w hf hc=>sp 1 hf rfl fun a hf=>aP ⟨hf.kp rfl,hc⟩
 intro a w ⟨hf,hc⟩
 refine sp 1 hf rfl fun a hf=>gX 4 (fun a=>Has 23 a [(1,pq B),(2,.bool false),(3,pq B),(4,.agg #[i6 v.Way.Lo,i6 v.Way.Hi]),(5,.bool (aX v.Way)),(6,.bool (aX v.Way)),(10,.bool ((aX v.Way) && (aX v.Work))),(11,.bool ((aX v.Way) && (aX v.Work))),(17,.bool (((aX v.Way) && (aX v.Work)) && (aH v.Open 0 v.Close))),(18,.bool (((aX v.Way) && (aX v.Work)) && (aH v.Open 0 v.Close))),(22,.bool ((((aX v.Way) && (aX v.Work)) && (aH v.Open 0 v.Close)) && (bG v.Close)))]) hc ?_ ?_
 ·cases hb:(((aX v.Way) && (aX v.Work)) && (aH v.Open 0 v.Close))
  ·rw [hb] at hf
   refine stS hf rfl rfl rfl fun a hf=>stS hf rfl rfl rfl fun a hf=>stS hf rfl rfl rfl fun a hf=>sp 1 hf rfl fun a hf=>aP ⟨hf.kp rfl,hc⟩
  ·rw [hb] at hf
   refine zP hf rfl (pFA uC rfl) fun a hf=>zL hf hc bA m0 rfl fun a w hf hc=>zQ (v:=.bool (bG v.Close)) hf hc aFg rfl (fun w hc=>nE v.Close hc rfl) fun a w hf hc=>sp 1 hf rfl fun a hf=>aP ⟨hf.kp rfl,hc⟩
 intro a w ⟨hf,hc⟩
 refine sp 1 hf rfl fun a hf=>zT h ?_
 refine wp_ret ?_
 obtain rfl:=hF
 replace hc:=hc.drop k0
 exact zO1 Tryz.results89 hf rfl ⟨rfl,hc⟩

def gJ (x:aY):Bool :=
 (!(nC (⟨x.Way,x.Work,x.Open,x.Close⟩:aY)))
theorem qJ {G:aO} {Lf:List Ent} {w:World} (x:aY) {b_:Nat}  (hc:Ctx G (.box b_ [.func (.func 89) #[] #[]] 140::Lf) w) {B:Bool} (hF:gJ x=B):Calls Tryz.prog 108 #[.agg #[i6 x.Way.Lo,i6 x.Way.Hi,i6 x.Work.Lo,i6 x.Work.Hi,i6 x.Open,i6 x.Close],pq b_] w (fun e w=>e=.returned (.bool B)∧Ctx G (.box b_ [.func (.func 89) #[] #[]] 140::Lf) w):=by
 unfold gJ at hF
 refine bI Tryz.func108 rfl Tryz.ntmps108 rfl fun a hf=>zS fun K h=>zB hf hc rfl fun D a w hf hc=>sp 1 hf rfl fun a hf=>zT h ?_
 refine zS fun K h=>zL hf hc aKp m1 rfl fun a w hf hc=>zN hf hc aCm m0 rfl fun a w hf hc=>zQ (v:=.bool (nC (⟨x.Way,x.Work,x.Open,x.Close⟩:aY))) hf hc en_89 rfl (fun w hc=>wP (⟨x.Way,x.Work,x.Open,x.Close⟩:aY) hc rfl) fun a w hf hc=>sp 2 hf rfl fun a hf=>zT h ?_
 refine wp_ret ?_
 obtain rfl:=hF
 replace hc:=hc.drop k0
 exact zO1 Tryz.results108 hf rfl ⟨rfl,hc⟩

def fE (N:Nat) (s_:List aY) (x:Int):Option (cK (Int) (Int)) :=
 cond (decide (x < ((s_.length:Nat):Int)))
 (Option.bind (bH s_ x) fun B=>
 cond (gJ B)
 (some (.ret x))
 (some (.cont (W (x + 1)))))
 (some (.brk x))
def dM (N:Nat) (s_:List aY):Option (Int) :=
 Option.bind (bE (fun s4=>fE N s_ s4) N 0) fun x4=>
 exK x4 (fun s4=>some (-1)) some
theorem kC {N:Nat} {G:aO} {Lf:List Ent} {w:World} (s_:List aY) {H:Option Addr} {I:Nat} {b_:Nat} (O:Rd G 6 H I (s_.map cU)) (hc:Ctx G (.box b_ [.func (.func 89) #[] #[]] 140::Lf) w) {J:Int} (hF:dM N s_=some J):Calls Tryz.prog 114 #[.slice H s_.length I,.func (.func 108) #[] #[pq b_]] w (fun e w=>e=.returned (i6 J)∧Ctx G (.box b_ [.func (.func 89) #[] #[]] 140::Lf) w):=by
 unfold dM at hF
 refine bI Tryz.func114 rfl Tryz.ntmps114 rfl fun a hf=>zS fun K h=>sp 1 hf rfl fun a hf=>zT h ?_
 refine wp_seq_k fun K2 h2=>zS fun K h=>sp 1 hf rfl fun a hf=>zP hf rfl (bC Tryz.underlying67 rfl) fun a hf=>sp 1 hf rfl fun a hf=>zT h ?_
 refine wp_block ?_
 obtain ⟨x4,U,hF⟩:=aA hF
 let S4:Int→Act→World→Prop:=(fun (zz:Int) a w=>Has 19 a [(0,.slice H s_.length I),(1,.func (.func 108) #[] #[pq b_]),(7,i6 ((s_.length:Nat):Int)),(8,i6 zz)]∧Ctx G (.box b_ [.func (.func 89) #[] #[]] 140::Lf) w)
 have V:∀ (zz:Int) a w,x4=.go zz→S4 zz a w→K2 a w:=by
  rintro x a w rfl ⟨hf,hc⟩
  replace hF:=bP hF
  refine h2 _ _ ?_
  refine zS fun K h=>sp 1 hf rfl fun a hf=>zT h ?_
  refine wp_ret ?_
  obtain rfl:=sj hF
  exact zO1 Tryz.results114 hf rfl ⟨rfl,hc⟩
 have X:∀ r,x4=.out r→r=J:=by
  rintro r rfl
  exact sj hF
 refine cR N (cL (S:=S4) (x:=x4) ?_ N 0 _ _ ⟨hf.kp rfl,hc⟩ U)
 clear hF hf hc
 rintro x Y a w KB4 ⟨hf,hc⟩ hF D R
 unfold fE at hF
 refine zS fun K h=>sp 1 hf rfl fun a hf=>zT h ?_
 refine wp_seq_k fun K7 h7=>zI hf rfl hF ?_ ?_ <;> clear hF <;> intro hF
 ·refine wp_skip ?_
  refine h7 _ _ ?_
  refine wp_seq_k fun K8 h8=>wp_block ?_
  refine zS fun K h=>sp 2 hf rfl fun a hf=>zT h ?_
  refine zS fun K h=>sp 3 hf rfl fun a hf=>?_
  obtain ⟨B,M,hF⟩:=aA hF
  obtain ⟨Z,o,qa,qp⟩:=O.atm M
  refine zP hf rfl (pIA Tryz.underlying67 qL rfl rfl qa) fun a hf=>zE hf hc rfl (jN (vs:=[i6 B.Way.Lo,i6 B.Way.Hi,i6 B.Work.Lo,i6 B.Work.Hi,i6 B.Open,i6 B.Close]) aCm rfl rfl (eX qp (n:=6) (o':=0) rfl)) fun a w hf hc=>zQ (v:=.bool (gJ B)) hf hc aKj rfl (fun w hc=>(qJ B (hc.pick k0) rfl).mono fun e w h=>⟨h.1,(h.2.unpick k0)⟩) fun a w hf hc=>zT h ?_
  refine zI hf rfl hF ?_ ?_ <;> clear hF <;> intro hF
  ·refine zS fun K h=>sp 2 hf rfl fun a hf=>zT h ?_
   refine wp_ret ?_
   refine bN ?_
   refine aN ?_
   refine aN ?_
   have he:=sj hF
   rw [← he] at D
   replace hF:=X _ D
   refine bN ?_
   refine aN ?_
   obtain rfl:=hF
   exact zO1 Tryz.results114 hf rfl ⟨rfl,hc⟩
  ·refine wp_skip ?_
   refine h8 _ _ ?_
   refine cJ ?_
   refine sp 2 hf rfl fun a hf=>aP ?_
   exact R (W (x + 1)) _ _ (sj hF).symm ⟨hf.kp rfl,hc⟩
 ·refine wp_exit ?_
  refine aW ?_
  refine aW ?_
  have he:=sj hF
  rw [← he] at D
  refine eV ?_
  exact V _ _ _ D ⟨hf.kp rfl,hc⟩

def cZ (N:Nat) (s_:List aY):Option (Bool) :=
 Option.bind (dM N s_) fun r=>
 some (decide (0≤r))
theorem jB {N:Nat} {G:aO} {Lf:List Ent} {w:World} (s_:List aY) {B:Option Addr} {D:Nat} {b_:Nat} (I:Rd G 6 B D (s_.map cU)) (hc:Ctx G (.box b_ [.func (.func 89) #[] #[]] 140::Lf) w) {H:Bool} (hF:cZ N s_=some H):Calls Tryz.prog 107 #[.slice B s_.length D,.func (.func 108) #[] #[pq b_]] w (fun e w=>e=.returned (.bool H)∧Ctx G (.box b_ [.func (.func 89) #[] #[]] 140::Lf) w):=by
 unfold cZ at hF
 refine bI Tryz.func107 rfl Tryz.ntmps107 rfl fun a hf=>zS fun K h=>sp 1 hf rfl fun a hf=>zT h ?_
 refine zS fun K h=>sp 2 hf rfl fun a hf=>?_
 obtain ⟨r,hr,hF⟩:=aA hF
 refine zQ (v:=i6 r) hf hc aKm rfl (fun w hc=>(kC s_ I (hc.pick k0) hr).mono fun e w h=>⟨h.1,(h.2.unpick k0)⟩) fun a w hf hc=>sp 2 hf rfl fun a hf=>zT h ?_
 refine wp_ret ?_
 obtain rfl:=sj hF
 exact zO1 Tryz.results107 hf rfl ⟨rfl,hc⟩

def kR (N:Nat) (l:List aY):Option (Bool) :=
 Option.bind (cZ N l) fun r=>
 some (!r)
theorem rJ {N:Nat} {G:aO} {Lf:List Ent} {w:World} (l:List aY) {B:Option Addr} {D:Nat} (I:Rd G 6 B D (l.map cU)) (hc:Ctx G (Lf) w) {H:Bool} (hF:kR N l=some H):Calls Tryz.prog 88 #[.slice B l.length D,.func (.func 89) #[] #[]] w (fun e w=>e=.returned (.bool H)∧Ctx G (Lf) w):=by
 unfold kR at hF
 refine bI Tryz.func88 rfl Tryz.ntmps88 rfl fun a hf=>zS fun K h=>zB hf hc rfl fun J a w hf hc=>sp 1 hf rfl fun a hf=>zT h ?_
 refine zS fun K h=>sp 1 hf rfl fun a hf=>zP hf rfl (pMF (us:=[pq J]) rfl rfl) fun a hf=>?_
 obtain ⟨r,hr,hF⟩:=aA hF
 refine zQ (v:=.bool r) hf hc aKs rfl (fun w hc=>(jB l I (hc.pick k0) hr).mono fun e w h=>⟨h.1,(h.2.unpick k0)⟩) fun a w hf hc=>sp 2 hf rfl fun a hf=>zT h ?_
 refine wp_ret ?_
 obtain rfl:=sj hF
 replace hc:=hc.drop k0
 exact zO1 Tryz.results88 hf rfl ⟨rfl,hc⟩

def pP (N:Nat) (l:List aY):Option (Int) :=
 cond (!(aH ((l.length:Nat):Int) 1 20))
 (some 3)
 (Option.bind (kR N l) fun r=>
 cond (!r)
 (some 120)
 (some 0))
theorem tL {N:Nat} {G:aO} {Lf:List Ent} {w:World} (l:List aY) {B:Option Addr} {D:Nat} (I:Rd G 6 B D (l.map cU)) (hc:Ctx G (Lf) w) {H:Int} (hF:pP N l=some H):Calls Tryz.prog 54 #[.slice B l.length D] w (fun e w=>e=.returned (i6 H)∧Ctx G (Lf) w):=by
 unfold pP at hF
 refine bI Tryz.func54 rfl Tryz.ntmps54 rfl fun a hf=>zS fun K h=>sp 1 hf rfl fun a hf=>zT h ?_
 refine wp_seq_k fun K2 h2=>wp_block ?_
 refine zS fun K h=>sp 1 hf rfl fun a hf=>zP hf rfl (bC Tryz.underlying67 rfl) fun a hf=>zQ (v:=.bool (aH ((l.length:Nat):Int) 1 20)) hf hc lJ rfl (fun w hc=>cG ((l.length:Nat):Int) 1 20 hc rfl) fun a w hf hc=>sp 2 hf rfl fun a hf=>zT h ?_
 refine zI hf rfl hF ?_ ?_ <;> clear hF <;> intro hF
 ·refine zS fun K h=>sp 1 hf rfl fun a hf=>zT h ?_
  refine wp_ret ?_
  refine bN ?_
  refine aN ?_
  obtain rfl:=sj hF
  exact zO1 Tryz.results54 hf rfl ⟨rfl,hc⟩
 ·refine zS fun K h=>sp 1 hf rfl fun a hf=>?_
  obtain ⟨r,hr,hF⟩:=aA hF
  refine zQ (v:=.bool r) hf hc en_88 rfl (fun w hc=>rJ l I hc hr) fun a w hf hc=>sp 2 hf rfl fun a hf=>zT h ?_
  refine zI hf rfl hF ?_ ?_ <;> clear hF <;> intro hF
  ·refine zS fun K h=>sp 1 hf rfl fun a hf=>zT h ?_
   refine wp_ret ?_
   refine bN ?_
   refine aN ?_
   obtain rfl:=sj hF
   exact zO1 Tryz.results54 hf rfl ⟨rfl,hc⟩
  ·refine wp_skip ?_
   refine h2 _ _ ?_
   refine zS fun K h=>sp 1 hf rfl fun a hf=>zT h ?_
   refine wp_ret ?_
   obtain rfl:=sj hF
   exact zO1 Tryz.results54 hf rfl ⟨rfl,hc⟩

def aC6  : Unit :=
 ()
theorem uM {G:aO} {Lf:List Ent} {w:World}    (hc:Ctx G (Lf) w) {B:Unit} (hF:aC6=B):Calls Tryz.prog 57 #[] w (fun e w=>e=.returned (.agg #[.func (.func 91) #[] #[]])∧Ctx G (Lf) w):=by
 unfold aC6 at hF
 refine bI Tryz.func57 rfl Tryz.ntmps57 rfl fun a hf=>zS fun K h=>zA hf hc aG6 rfl fun D a w hf hc=>zT h ?_
 refine zS fun K h=>zP hf rfl (cF (cells:=[.func (.func 91) #[] #[]]) aHz rfl rfl) fun a hf=>zW hf hc aHq u0 rfl fun w hc=>zT h ?_
 refine wp_ret ?_
 obtain rfl:=hF
 exact tC (by simp) rfl Tryz.results57 hf hc (fK (vs:=[.func (.func 91) #[] #[]]) aB7 rfl rfl (bM (n:=1) m0 rfl)) ⟨rfl,(hc.drop k0)⟩

def cN (s_:aS):Int :=
 s_.Lo
theorem rS {G:aO} {Lf:List Ent} {w:World} (s_:aS)   (hc:Ctx G (Lf) w) {B:Int} (hF:cN s_=B):Calls Tryz.prog 91 #[.agg #[i6 s_.Lo,i6 s_.Hi]] w (fun e w=>e=.returned (i6 B)∧Ctx G (Lf) w):=by
 unfold cN at hF
 refine bI Tryz.func91 rfl Tryz.ntmps91 rfl fun a hf=>zS fun K h=>zB hf hc rfl fun D a w hf hc=>sp 1 hf rfl fun a hf=>zT h ?_
 refine zS fun K h=>zP hf rfl (pFA zU rfl) fun a hf=>zL hf hc bA m0 rfl fun a w hf hc=>sp 1 hf rfl fun a hf=>zT h ?_
 refine wp_ret ?_
 obtain rfl:=hF
 replace hc:=hc.drop k0
 exact zO1 Tryz.results91 hf rfl ⟨rfl,hc⟩

def tW (N:Nat) (l:List aY) (B:Int) (out:List Int) (x:Int):Option (cK (Int × (List Int) × Int) ((List Int))) :=
 cond (decide (x < ((l.length:Nat):Int)))
 (Option.bind (bH l x) fun D=>
 Option.bind (room ((out++[max (W (B + (cN D.Way))) D.Open])).length) fun un=>
 some (.cont (W ((max (W (B + (cN D.Way))) D.Open) + (cN D.Work)),(out++[max (W (B + (cN D.Way))) D.Open]),W (x + 1))))
 (some (.brk (B,out,x)))
def uE (N:Nat) (B:Int) (l:List aY):Option ((List Int)) :=
 Option.bind (bE (fun s5=>tW N l s5.1 s5.2.1 s5.2.2) N (B,([]:List Int),0)) fun x5=>
 exK x5 (fun s5=>some s5.2.1) some
theorem aAd {N:Nat} {G:aO} {Lf:List Ent} {w:World} (J:Int) (l:List aY) {R:Option Addr} {U:Nat} (g:Rd G 6 R U (l.map cU)) (hc:Ctx G (Lf) w) {O:(List Int)} (hF:uE N J l=some O):Calls Tryz.prog 56 #[i6 J,.slice R l.length U,.agg #[.func (.func 91) #[] #[]]] w (fun e w=>∃ (X:Option Addr) (V:Nat),e=.returned (.slice X O.length V)∧Ctx G (.row X V (O.map aD) 3 1::Lf) w):=by
 unfold uE at hF
 refine bI Tryz.func56 rfl Tryz.ntmps56 rfl fun a hf=>zS fun K h=>zB hf hc rfl fun Y a w hf hc=>sp 1 hf rfl fun a hf=>zT h ?_
 refine zS fun K h=>sp 1 hf rfl fun a hf=>zT h ?_
 refine wp_seq_k fun K3 h3=>zS fun K h=>sp 1 hf rfl fun a hf=>zP hf rfl (bC Tryz.underlying67 rfl) fun a hf=>sp 1 hf rfl fun a hf=>zT h ?_
 refine wp_block ?_
 obtain ⟨x5,d,hF⟩:=aA hF
 let S5:(Int × (List Int) × Int)→Act→World→Prop:=(fun (zz:Int × (List Int) × Int) a w=>∃ (H:Option Addr) (I:Nat),Has 40 a [(0,i6 zz.1),(5,pq Y),(7,.slice H zz.2.1.length I),(11,.slice R l.length U),(12,i6 ((l.length:Nat):Int)),(13,i6 zz.2.2)]∧Ctx G (.row H I (zz.2.1.map aD) 3 1::.box Y [.func (.func 91) #[] #[]] 115::Lf) w)
 have k:∀ (zz:Int × (List Int) × Int) a w,x5=.go zz→S5 zz a w→K3 a w:=by
  rintro ⟨D,out,x⟩ a w rfl ⟨H,I,hf,hc⟩
  replace hF:=bP hF
  refine h3 _ _ ?_
  refine zS fun K h=>sp 2 hf rfl fun a hf=>zT h ?_
  refine wp_ret ?_
  obtain rfl:=sj hF
  replace hc:=hc.drop k1
  exact zO1 Tryz.results56 hf rfl ⟨H,I,rfl,hc⟩
 have t:∀ r,x5=.out r→r=O:=by
  rintro r rfl
  exact sj hF
 replace hc:=hc.nilRow 3 1
 refine cR N (cL (S:=S5) (x:=x5) ?_ N (J,([]:List Int),0) _ _ ⟨none,0,hf.kp rfl,hc⟩ d)
 clear hF hf hc
 rintro ⟨D,out,x⟩ s a w KB5 ⟨H,I,hf,hc⟩ hF M m
 unfold tW at hF
 refine zS fun K h=>sp 1 hf rfl fun a hf=>zT h ?_
 refine wp_seq_k fun K8 h8=>zI hf rfl hF ?_ ?_ <;> clear hF <;> intro hF
 ·refine wp_skip ?_
  refine h8 _ _ ?_
  refine wp_seq_k fun K9 h9=>wp_block ?_
  refine zS fun K h=>?_
  obtain ⟨B,Z,hF⟩:=aA hF
  obtain ⟨u,o,qa,qp⟩:=g.atm Z
  refine zP hf rfl (pIA Tryz.underlying67 qL rfl rfl qa) fun a hf=>zE hf hc rfl (jN (vs:=[i6 B.Way.Lo,i6 B.Way.Hi,i6 B.Work.Lo,i6 B.Work.Hi,i6 B.Open,i6 B.Close]) aCm rfl rfl (eX qp (n:=6) (o':=0) rfl)) fun a w hf hc=>zA hf hc aHw rfl fun y a w hf hc=>zW hf hc qL u0 rfl fun w hc=>zT h ?_
  refine wp_seq_k fun K11 j=>cQ hc aU (by kernel_rfl) ?_
  refine qE hf rfl rfl rfl (Pu.ev (pM rfl)) fun a hf=>qE hf rfl rfl rfl (Pu.ev (pFA sM rfl)) fun a hf=>qE hf rfl rfl rfl (bT yG rfl (bU m2 rfl)) fun a hf=>qE hf rfl rfl rfl (Pu.ev (pFA wN rfl)) fun a hf=>qE hf rfl rfl rfl (jN (vs:=[i6 B.Way.Lo,i6 B.Way.Hi]) qG rfl rfl (bM (n:=2) m0 rfl)) fun a hf=>qE hf rfl rfl rfl (eC (v:=i6 (cN B.Way)) (vs:=[.agg #[i6 B.Way.Lo,i6 B.Way.Hi]]) (caps:=[]) aGz rfl rfl rfl rfl (fun w hc=>rS B.Way hc rfl)) fun a hf=>qE hf rfl rfl rfl (Pu.ev (aIm rfl rfl)) fun a hf=>qE hf rfl rfl rfl (Pu.ev (pFA wS rfl)) fun a hf=>qE hf rfl rfl rfl (bT bA rfl (bU m0 rfl)) fun a hf=>qE hf rfl rfl rfl (Pu.ev (aFl rfl rfl)) fun a hf=>qE hf rfl rfl rfl (Pu.ev (pA rfl)) fun a hf=>?_
  intro w hc
  refine j _ _ ?_
  refine zS fun K h=>sp 2 hf rfl fun a hf=>jD (rows:=([max (W (D + (cN B.Way))) B.Open]:List Int).map aD) (vs:=[(0,i6 (max (W (D + (cN B.Way))) B.Open))]) hf hc rfl rfl fN rfl ⟨rfl,rfl,rfl,trivial⟩ rfl rfl fun q a w hf hc=>?_
  obtain ⟨un,p,hF⟩:=aA hF
  refine kY (xs:=out) (ys:=([max (W (D + (cN B.Way))) B.Open]:List Int)) hf hc rfl rfl fN rfl rfl rfl rfl rfl bF (fG hc m0) (fun _ _=>u2) (by simpa using cP p) fun b i a w hf hc=>sp 1 hf rfl fun a hf=>zT h ?_
  refine cJ ?_
  refine sp 1 hf rfl fun a hf=>zP hf rfl (pFA sM rfl) fun a hf=>zL hf hc yG m3 rfl fun a w hf hc=>zP hf rfl (pFA wK rfl) fun a hf=>zN hf hc qG m1 rfl fun a w hf hc=>zQ (v:=i6 (cN B.Work)) hf hc aGz rfl (fun w hc=>rS B.Work hc rfl) fun a w hf hc=>sp 2 hf rfl fun a hf=>aP ?_
  refine h9 _ _ ?_
  refine cJ ?_
  refine sp 2 hf rfl fun a hf=>aP ?_
  replace hc:=(hc.drop k1).drop k0
  exact m (W ((max (W (D + (cN B.Way))) B.Open) + (cN B.Work)),(out++[max (W (D + (cN B.Way))) B.Open]),W (x + 1)) _ _ (sj hF).symm ⟨b,i,hf.kp rfl,hc⟩
 ·refine wp_exit ?_
  refine aW ?_
  refine aW ?_
  have he:=sj hF
  rw [← he] at M
  refine eV ?_
  exact k _ _ _ M ⟨H,I,hf.kp rfl,hc⟩

def aBx  : Unit :=
 ()
theorem pK {G:aO} {Lf:List Ent} {w:World}    (hc:Ctx G (Lf) w) {B:Unit} (hF:aBx=B):Calls Tryz.prog 58 #[] w (fun e w=>e=.returned (.agg #[.func (.func 92) #[] #[]])∧Ctx G (Lf) w):=by
 unfold aBx at hF
 refine bI Tryz.func58 rfl Tryz.ntmps58 rfl fun a hf=>zS fun K h=>zA hf hc aG6 rfl fun D a w hf hc=>zT h ?_
 refine zS fun K h=>zP hf rfl (cF (cells:=[.func (.func 92) #[] #[]]) aHz rfl rfl) fun a hf=>zW hf hc aHq u0 rfl fun w hc=>zT h ?_
 refine wp_ret ?_
 obtain rfl:=hF
 exact tC (by simp) rfl Tryz.results58 hf hc (fK (vs:=[.func (.func 92) #[] #[]]) aB7 rfl rfl (bM (n:=1) m0 rfl)) ⟨rfl,(hc.drop k0)⟩

def cE (s_:aS):Int :=
 s_.Hi
theorem qQ {G:aO} {Lf:List Ent} {w:World} (s_:aS)   (hc:Ctx G (Lf) w) {B:Int} (hF:cE s_=B):Calls Tryz.prog 92 #[.agg #[i6 s_.Lo,i6 s_.Hi]] w (fun e w=>e=.returned (i6 B)∧Ctx G (Lf) w):=by
 unfold cE at hF
 refine bI Tryz.func92 rfl Tryz.ntmps92 rfl fun a hf=>zS fun K h=>zB hf hc rfl fun D a w hf hc=>sp 1 hf rfl fun a hf=>zT h ?_
 refine zS fun K h=>zP hf rfl (pFA pQ rfl) fun a hf=>zL hf hc bA m0 rfl fun a w hf hc=>sp 1 hf rfl fun a hf=>zT h ?_
 refine wp_ret ?_
 obtain rfl:=hF
 replace hc:=hc.drop k0
 exact zO1 Tryz.results92 hf rfl ⟨rfl,hc⟩

def rC (N:Nat) (l:List aY) (B:Int) (out:List Int) (x:Int):Option (cK (Int × (List Int) × Int) ((List Int))) :=
 cond (decide (x < ((l.length:Nat):Int)))
 (Option.bind (bH l x) fun D=>
 Option.bind (room ((out++[max (W (B + (cE D.Way))) D.Open])).length) fun un=>
 some (.cont (W ((max (W (B + (cE D.Way))) D.Open) + (cE D.Work)),(out++[max (W (B + (cE D.Way))) D.Open]),W (x + 1))))
 (some (.brk (B,out,x)))
def qD (N:Nat) (B:Int) (l:List aY):Option ((List Int)) :=
 Option.bind (bE (fun s5=>rC N l s5.1 s5.2.1 s5.2.2) N (B,([]:List Int),0)) fun x5=>
 exK x5 (fun s5=>some s5.2.1) some
theorem xK {N:Nat} {G:aO} {Lf:List Ent} {w:World} (J:Int) (l:List aY) {R:Option Addr} {U:Nat} (g:Rd G 6 R U (l.map cU)) (hc:Ctx G (Lf) w) {O:(List Int)} (hF:qD N J l=some O):Calls Tryz.prog 56 #[i6 J,.slice R l.length U,.agg #[.func (.func 92) #[] #[]]] w (fun e w=>∃ (X:Option Addr) (V:Nat),e=.returned (.slice X O.length V)∧Ctx G (.row X V (O.map aD) 3 1::Lf) w):=by
 unfold qD at hF
 refine bI Tryz.func56 rfl Tryz.ntmps56 rfl fun a hf=>zS fun K h=>zB hf hc rfl fun Y a w hf hc=>sp 1 hf rfl fun a hf=>zT h ?_
 refine zS fun K h=>sp 1 hf rfl fun a hf=>zT h ?_
 refine wp_seq_k fun K3 h3=>zS fun K h=>sp 1 hf rfl fun a hf=>zP hf rfl (bC Tryz.underlying67 rfl) fun a hf=>sp 1 hf rfl fun a hf=>zT h ?_
 refine wp_block ?_
 obtain ⟨x5,d,hF⟩:=aA hF
 let S5:(Int × (List Int) × Int)→Act→World→Prop:=(fun (zz:Int × (List Int) × Int) a w=>∃ (H:Option Addr) (I:Nat),Has 40 a [(0,i6 zz.1),(5,pq Y),(7,.slice H zz.2.1.length I),(11,.slice R l.length U),(12,i6 ((l.length:Nat):Int)),(13,i6 zz.2.2)]∧Ctx G (.row H I (zz.2.1.map aD) 3 1::.box Y [.func (.func 92) #[] #[]] 115::Lf) w)
 have k:∀ (zz:Int × (List Int) × Int) a w,x5=.go zz→S5 zz a w→K3 a w:=by
  rintro ⟨D,out,x⟩ a w rfl ⟨H,I,hf,hc⟩
  replace hF:=bP hF
  refine h3 _ _ ?_
  refine zS fun K h=>sp 2 hf rfl fun a hf=>zT h ?_
  refine wp_ret ?_
  obtain rfl:=sj hF
  replace hc:=hc.drop k1
  exact zO1 Tryz.results56 hf rfl ⟨H,I,rfl,hc⟩
 have t:∀ r,x5=.out r→r=O:=by
  rintro r rfl
  exact sj hF
 replace hc:=hc.nilRow 3 1
 refine cR N (cL (S:=S5) (x:=x5) ?_ N (J,([]:List Int),0) _ _ ⟨none,0,hf.kp rfl,hc⟩ d)
 clear hF hf hc
 rintro ⟨D,out,x⟩ s a w KB5 ⟨H,I,hf,hc⟩ hF M m
 unfold rC at hF
 refine zS fun K h=>sp 1 hf rfl fun a hf=>zT h ?_
 refine wp_seq_k fun K8 h8=>zI hf rfl hF ?_ ?_ <;> clear hF <;> intro hF
 ·refine wp_skip ?_
  refine h8 _ _ ?_
  refine wp_seq_k fun K9 h9=>wp_block ?_
  refine zS fun K h=>?_
  obtain ⟨B,Z,hF⟩:=aA hF
  obtain ⟨u,o,qa,qp⟩:=g.atm Z
  refine zP hf rfl (pIA Tryz.underlying67 qL rfl rfl qa) fun a hf=>zE hf hc rfl (jN (vs:=[i6 B.Way.Lo,i6 B.Way.Hi,i6 B.Work.Lo,i6 B.Work.Hi,i6 B.Open,i6 B.Close]) aCm rfl rfl (eX qp (n:=6) (o':=0) rfl)) fun a w hf hc=>zA hf hc aHw rfl fun y a w hf hc=>zW hf hc qL u0 rfl fun w hc=>zT h ?_
  refine wp_seq_k fun K11 j=>cQ hc aU (by kernel_rfl) ?_
  refine qE hf rfl rfl rfl (Pu.ev (pM rfl)) fun a hf=>qE hf rfl rfl rfl (Pu.ev (pFA sM rfl)) fun a hf=>qE hf rfl rfl rfl (bT yG rfl (bU m2 rfl)) fun a hf=>qE hf rfl rfl rfl (Pu.ev (pFA wN rfl)) fun a hf=>qE hf rfl rfl rfl (jN (vs:=[i6 B.Way.Lo,i6 B.Way.Hi]) qG rfl rfl (bM (n:=2) m0 rfl)) fun a hf=>qE hf rfl rfl rfl (eC (v:=i6 (cE B.Way)) (vs:=[.agg #[i6 B.Way.Lo,i6 B.Way.Hi]]) (caps:=[]) aHf rfl rfl rfl rfl (fun w hc=>qQ B.Way hc rfl)) fun a hf=>qE hf rfl rfl rfl (Pu.ev (aIm rfl rfl)) fun a hf=>qE hf rfl rfl rfl (Pu.ev (pFA wS rfl)) fun a hf=>qE hf rfl rfl rfl (bT bA rfl (bU m0 rfl)) fun a hf=>qE hf rfl rfl rfl (Pu.ev (aFl rfl rfl)) fun a hf=>qE hf rfl rfl rfl (Pu.ev (pA rfl)) fun a hf=>?_
  intro w hc
  refine j _ _ ?_
  refine zS fun K h=>sp 2 hf rfl fun a hf=>jD (rows:=([max (W (D + (cE B.Way))) B.Open]:List Int).map aD) (vs:=[(0,i6 (max (W (D + (cE B.Way))) B.Open))]) hf hc rfl rfl fN rfl ⟨rfl,rfl,rfl,trivial⟩ rfl rfl fun q a w hf hc=>?_
  obtain ⟨un,p,hF⟩:=aA hF
  refine kY (xs:=out) (ys:=([max (W (D + (cE B.Way))) B.Open]:List Int)) hf hc rfl rfl fN rfl rfl rfl rfl rfl bF (fG hc m0) (fun _ _=>u2) (by simpa using cP p) fun b i a w hf hc=>sp 1 hf rfl fun a hf=>zT h ?_
  refine cJ ?_
  refine sp 1 hf rfl fun a hf=>zP hf rfl (pFA sM rfl) fun a hf=>zL hf hc yG m3 rfl fun a w hf hc=>zP hf rfl (pFA wK rfl) fun a hf=>zN hf hc qG m1 rfl fun a w hf hc=>zQ (v:=i6 (cE B.Work)) hf hc aHf rfl (fun w hc=>qQ B.Work hc rfl) fun a w hf hc=>sp 2 hf rfl fun a hf=>aP ?_
  refine h9 _ _ ?_
  refine cJ ?_
  refine sp 2 hf rfl fun a hf=>aP ?_
  replace hc:=(hc.drop k1).drop k0
  exact m (W ((max (W (D + (cE B.Way))) B.Open) + (cE B.Work)),(out++[max (W (D + (cE B.Way))) B.Open]),W (x + 1)) _ _ (sj hF).symm ⟨b,i,hf.kp rfl,hc⟩
 ·refine wp_exit ?_
  refine aW ?_
  refine aW ?_
  have he:=sj hF
  rw [← he] at M
  refine eV ?_
  exact k _ _ _ M ⟨H,I,hf.kp rfl,hc⟩

def tY (N:Nat) (l:List aY) (H:(List Int)) (I:(List Int)) (out:List aS) (x:Int):Option (cK ((List aS) × Int) ((List aS) × Int)) :=
 cond (decide (x < ((l.length:Nat):Int)))
 (Option.bind (bH H x) fun B=>
 Option.bind (bH I x) fun D=>
 Option.bind (room ((out++[(⟨B,D⟩:aS)])).length) fun un=>
 some (.cont ((out++[(⟨B,D⟩:aS)]),W (x + 1))))
 (some (.brk (out,x)))
def sS (N:Nat) (B:Int) (l:List aY):Option ((List aS) × Int) :=
 Option.bind (pP N l) fun r=>
 cond (r != 0)
 (some (([]:List aS),r))
 (cond (!(bG B))
 (some (([]:List aS),4))
 (Option.bind (uE N B l) fun H=>
 Option.bind (qD N B l) fun J=>
 Option.bind (bE (fun D=>tY N l H J D.1 D.2) N (([]:List aS),0)) fun I=>
 exK I (fun D=>some (D.1,0)) some))
theorem vQ {N:Nat} {G:aO} {Lf:List Ent} {w:World} (J:Int) (l:List aY) {af:Option Addr} {ag:Nat} (z:Rd G 6 af ag (l.map cU)) (hc:Ctx G (Lf) w) {d:(List aS) × Int} (hF:sS N J l=some d):Calls Tryz.prog 26 #[i6 J,.slice af l.length ag] w (fun e w=>∃ (ac:Option Addr) (ab:Nat),e=.returned (.tuple #[.slice ac d.1.length ab,i6 d.2])∧Ctx G (.row ac ab (d.1.map cS) 73 2::Lf) w):=by
 unfold sS at hF
 refine bI Tryz.func26 rfl Tryz.ntmps26 rfl fun a hf=>zS fun K h=>sp 2 hf rfl fun a hf=>zT h ?_
 refine zS fun K h=>sp 1 hf rfl fun a hf=>?_
 obtain ⟨r,hr,hF⟩:=aA hF
 refine zQ (v:=i6 r) hf hc aJ2 rfl (fun w hc=>tL l z hc hr) fun a w hf hc=>sp 1 hf rfl fun a hf=>zT h ?_
 refine wp_seq_k fun K3 h3=>wp_block ?_
 refine zS fun K h=>sp 3 hf rfl fun a hf=>zT h ?_
 refine zI hf rfl hF ?_ ?_ <;> clear hF <;> intro hF
 ·refine zS fun K h=>sp 3 hf rfl fun a hf=>zT h ?_
  refine wp_ret ?_
  refine bN ?_
  refine aN ?_
  obtain rfl:=sj hF
  replace hc:=hc.nilRow 73 2
  exact zO2 Tryz.results26 hf rfl rfl ⟨none,0,rfl,hc⟩
 ·refine zS fun K h=>sp 1 hf rfl fun a hf=>zQ (v:=.bool (bG J)) hf hc aFg rfl (fun w hc=>nE J hc rfl) fun a w hf hc=>sp 2 hf rfl fun a hf=>zT h ?_
  refine zI hf rfl hF ?_ ?_ <;> clear hF <;> intro hF
  ·refine zS fun K h=>sp 2 hf rfl fun a hf=>zT h ?_
   refine wp_ret ?_
   refine bN ?_
   refine aN ?_
   obtain rfl:=sj hF
   replace hc:=hc.nilRow 73 2
   exact zO2 Tryz.results26 hf rfl rfl ⟨none,0,rfl,hc⟩
  ·refine wp_skip ?_
   refine h3 _ _ ?_
   refine zS fun K h=>sp 2 hf rfl fun a hf=>zQ (v:=.agg #[.func (.func 91) #[] #[]]) hf hc aHi rfl (fun w hc=>uM hc rfl) fun a w hf hc=>?_
   obtain ⟨R,aq,hF⟩:=aA hF
   refine zC hf aJt rfl (aAd J l z hc aq) ?_
   rintro _ w ⟨ax,a1,rfl,hc⟩
   refine ⟨_,rfl,fun a hf=>?_⟩
   refine sp 2 hf rfl fun a hf=>zQ (v:=.agg #[.func (.func 92) #[] #[]]) hf hc aFh rfl (fun w hc=>pK hc rfl) fun a w hf hc=>?_
   obtain ⟨V,aj,hF⟩:=aA hF
   refine zC hf aJt rfl (xK J l z hc aj) ?_
   rintro _ w ⟨av,ay,rfl,hc⟩
   refine ⟨_,rfl,fun a hf=>?_⟩
   refine sp 2 hf rfl fun a hf=>zT h ?_
   refine zS fun K h=>sp 1 hf rfl fun a hf=>zT h ?_
   refine wp_seq_k fun K10 a5=>zS fun K h=>sp 1 hf rfl fun a hf=>zP hf rfl (bC Tryz.underlying67 rfl) fun a hf=>sp 1 hf rfl fun a hf=>zT h ?_
   refine wp_block ?_
   obtain ⟨t,am,hF⟩:=aA hF
   let S12:((List aS) × Int)→Act→World→Prop:=(fun (zz:(List aS) × Int) a w=>∃ (X:Option Addr) (H:Nat) (m:Option Addr) (I:Nat) (M:Option Addr) (O:Nat),Has 48 a [(7,.slice X R.length H),(8,.slice m V.length I),(9,.slice M zz.1.length O),(30,i6 ((l.length:Nat):Int)),(31,i6 zz.2)]∧Ctx G (.row M O (zz.1.map cS) 73 2::.row m I (V.map aD) 3 1::.row X H (R.map aD) 3 1::Lf) w)
   have ap:∀ (zz:(List aS) × Int) a w,t=.go zz→S12 zz a w→K10 a w:=by
    rintro ⟨out,x⟩ a w rfl ⟨X,H,m,I,M,O,hf,hc⟩
    replace hF:=bP hF
    refine a5 _ _ ?_
    refine zS fun K h=>sp 3 hf rfl fun a hf=>zT h ?_
    refine wp_ret ?_
    obtain rfl:=sj hF
    replace hc:=(hc.drop k2).drop k1
    exact zO2 Tryz.results26 hf rfl rfl ⟨M,O,rfl,hc⟩
   have a8:∀ r,t=.out r→r=d:=by
    rintro r rfl
    exact sj hF
   replace hc:=hc.nilRow 73 2
   refine cR N (cL (S:=S12) (x:=t) ?_ N (([]:List aS),0) _ _ ⟨ax,a1,av,ay,none,0,hf.kp rfl,hc⟩ am)
   clear hF hf hc
   rintro ⟨out,x⟩ a7 a w KB12 ⟨X,H,m,I,M,O,hf,hc⟩ hF Y au
   unfold tY at hF
   refine zS fun K h=>sp 1 hf rfl fun a hf=>zT h ?_
   refine wp_seq_k fun K15 a4=>zI hf rfl hF ?_ ?_ <;> clear hF <;> intro hF
   ·refine wp_skip ?_
    refine a4 _ _ ?_
    refine wp_seq_k fun K16 a2=>wp_block ?_
    refine zS fun K h=>sp 2 hf rfl fun a hf=>zT h ?_
    obtain ⟨B,ak,hF⟩:=aA hF
    obtain ⟨g,rfl,qa,qr⟩:=hU hc m2 ak
    obtain ⟨D,an,hF⟩:=aA hF
    obtain ⟨U,rfl,ar,ai⟩:=hU hc m1 an
    obtain ⟨un,a6,hF⟩:=aA hF
    replace hc:=hc.nilRow 0 0
    refine gK (fun θ=>[⟨none,none,7,.slice (some ⟨g,0,none⟩) R.length H⟩,⟨none,none,8,.slice (some ⟨U,0,none⟩) V.length I⟩,⟨none,some 12,9,.slice M out.length O⟩,⟨none,none,10,i6 x⟩,⟨none,none,30,i6 ((l.length:Nat):Int)⟩,⟨none,none,31,i6 x⟩,⟨some 0,none,34,.slice M out.length O⟩,⟨some 1,none,35,.slice (some ⟨g,0,none⟩) R.length H⟩,⟨some 2,none,36,i6 x⟩,⟨some 3,none,37,.pointer (some ⟨g,x.toNat * 1,none⟩)⟩,⟨some 4,none,38,i6 B⟩,⟨some 5,none,39,.slice (some ⟨U,0,none⟩) V.length I⟩,⟨some 6,none,40,i6 x⟩,⟨some 7,none,41,.pointer (some ⟨U,x.toNat * 1,none⟩)⟩,⟨some 8,none,42,i6 D⟩,⟨some 9,none,43,.agg #[i6 B,i6 D]⟩,⟨some 10,none,44,.slice (some ⟨(θ 80).b,0,none⟩) 1 1⟩,⟨some 11,none,45,.slice ((θ 88).p) ((out++[(⟨B,D⟩:aS)]).length) ((θ 88).c)⟩,⟨some 12,none,9,.slice ((θ 88).p) ((out++[(⟨B,D⟩:aS)]).length) ((θ 88).c)⟩]) (fun E θ=>(bif E 10 then .row (some ⟨(θ 80).b,0,none⟩) 1 (([(⟨B,D⟩:aS)]:List aS).map cS) 73 2 else .row none 0 [] 0 0)::(bif E 11 then .row ((θ 88).p) ((θ 88).c) ((out++[(⟨B,D⟩:aS)]).map cS) 73 2 else .row M O (out.map cS) 73 2)::.row (some ⟨U,0,none⟩) I (V.map aD) 3 1::.row (some ⟨g,0,none⟩) H (R.map aD) 3 1::Lf) [(12,0),(12,11)] (fun a w=>∃ (s:Option Addr) (q:Nat) (ad:Nat),Has 48 a [(7,.slice (some ⟨g,0,none⟩) R.length H),(8,.slice (some ⟨U,0,none⟩) V.length I),(30,i6 ((l.length:Nat):Int)),(31,i6 x),(9,.slice s ((out++[(⟨B,D⟩:aS)]).length) q)]∧Ctx G (.row (some ⟨ad,0,none⟩) 1 (([(⟨B,D⟩:aS)]:List aS).map cS) 73 2::.row s q ((out++[(⟨B,D⟩:aS)]).map cS) 73 2::.row (some ⟨U,0,none⟩) I (V.map aD) 3 1::.row (some ⟨g,0,none⟩) H (R.map aD) 3 1::Lf) w) aU (by kernel_rfl) (by kernel_rfl) (fB.of hf ⟨rfl,rfl,rfl,rfl,rfl,rfl,trivial,trivial,trivial,trivial,trivial,trivial,trivial,trivial,trivial,trivial,trivial,trivial,trivial,trivial⟩) hc ⟨?_,?_,?_,?_,?_,?_,?_,?_,?_,?_,?_,?_,?_,trivial⟩ ?_ ?_
    ·intro E θ a w hD hi hp he hc
     have Z:=hD.f 0 rfl hi
     have hf:=he.h0.mN he 2 rfl Z
     refine sp 1 hf rfl fun a hf=>zD θ he hi hf 6 rfl rfl rfl hc
    ·intro E θ a w hD hi hp he hc
     have hf:=he.h0.mT he 0 rfl
     refine sp 1 hf rfl fun a hf=>zD θ he hi hf 7 rfl rfl rfl hc
    ·intro E θ a w hD hi hp he hc
     have hf:=he.h0.mT he 3 rfl
     refine sp 1 hf rfl fun a hf=>zD θ he hi hf 8 rfl rfl rfl hc
    ·intro E θ a w hD hi hp he hc
     have e1:=hp.o 1 rfl
     have e2:=hp.o 2 rfl
     have hf:=(he.h0.mP he 7 rfl e1).mP he 8 rfl e2
     refine zP hf rfl (pIA Tryz.underlying30 eL rfl rfl qa) fun a hf=>zD θ he hi hf 9 rfl rfl rfl hc
    ·intro E θ a w hD hi hp he hc
     have e3:=hp.o 3 rfl
     have hf:=he.h0.mP he 9 rfl e3
     refine zE hf hc rfl (bT bA rfl (eJ (sz:=1) (i:=x.toNat) (j:=0) m3 qr rfl)) fun a w hf hc=>zD θ he hi hf 10 rfl rfl rfl hc
    ·intro E θ a w hD hi hp he hc
     have hf:=he.h0.mT he 1 rfl
     refine sp 1 hf rfl fun a hf=>zD θ he hi hf 11 rfl rfl rfl hc
    ·intro E θ a w hD hi hp he hc
     have hf:=he.h0.mT he 3 rfl
     refine sp 1 hf rfl fun a hf=>zD θ he hi hf 12 rfl rfl rfl hc
    ·intro E θ a w hD hi hp he hc
     have e5:=hp.o 5 rfl
     have e6:=hp.o 6 rfl
     have hf:=(he.h0.mP he 11 rfl e5).mP he 12 rfl e6
     refine zP hf rfl (pIA Tryz.underlying30 eL rfl rfl ar) fun a hf=>zD θ he hi hf 13 rfl rfl rfl hc
    ·intro E θ a w hD hi hp he hc
     have e7:=hp.o 7 rfl
     have hf:=he.h0.mP he 13 rfl e7
     refine zE hf hc rfl (bT bA rfl (eJ (sz:=1) (i:=x.toNat) (j:=0) m2 ai rfl)) fun a w hf hc=>zD θ he hi hf 14 rfl rfl rfl hc
    ·intro E θ a w hD hi hp he hc
     have e4:=hp.o 4 rfl
     have e8:=hp.o 8 rfl
     have hf:=(he.h0.mP he 10 rfl e4).mP he 14 rfl e8
     refine zP hf rfl (cF (cells:=[i6 B,i6 D]) aAf rfl rfl) fun a hf=>zD θ he hi hf 15 rfl rfl rfl hc
    ·intro E θ a w hD hi hp he hc
     have e9:=hp.o 9 rfl
     try dsimp only at hc
     rw [hi] at hc
     have hf:=he.h0.mP he 15 rfl e9
     refine jD (rows:=([(⟨B,D⟩:aS)]:List aS).map cS) (vs:=[(0,.agg #[i6 B,i6 D])]) hf hc rfl rfl aGp rfl ⟨rfl,rfl,rfl,trivial⟩ rfl rfl fun az a w hf hc=>aP ?_
     refine cV ?_
     intro ds u aa
     replace hc:=hc.drop k1
     refine ⟨(lA θ 80 ⟨az,none,0,(fun _=>(none,0))⟩),he.put hi aa hf rfl [] trivial ⟨qq,qq,qq,qq,qq,qq,qq,qq,qq,qq,qq,qq,qq,qq,qq,qq,qq,qq,qq,trivial⟩,?_⟩
     try dsimp only
     rw [aR E 10]
     exact hc
    ·intro E θ a w hD hi hp he hc
     have e0:=hp.o 0 rfl
     have k:=hp.o 10 rfl
     have Z:=hD.f 1 rfl hi
     try dsimp only at hc
     rw [k,hi] at hc
     have hf:=(he.h0.mP he 6 rfl e0).mP he 16 rfl k
     refine kY (xs:=out) (ys:=([(⟨B,D⟩:aS)]:List aS)) hf hc rfl rfl aGp rfl rfl rfl rfl rfl xP (fG hc m0) (fun _ _=>u1) (by simpa using cP a6) fun a0 a3 a w hf hc=>aP ?_
     refine cV ?_
     intro ds u aa
     refine ⟨(lA θ 88 ⟨0,a0,a3,(fun _=>(none,0))⟩),he.put hi aa hf rfl [12] ⟨⟨Z,rfl⟩,trivial⟩ ⟨qq,qq,qq,qq,qq,qq,qq,qq,qq,qq,qq,qq,qq,qq,qq,qq,qq,qq,trivial,trivial⟩,?_⟩
     try dsimp only
     rw [dK 11 k,aR E 11]
     exact hc
    ·intro E θ a w hD hi hp he hc
     have y:=hp.o 11 rfl
     have hf:=he.h0.mP he 17 rfl y
     refine sp 1 hf rfl fun a hf=>zD θ he hi hf 18 rfl rfl rfl hc
    ·intro E θ a w n he hc
     have hf:=he.h0
     have k:=n 10 rfl
     have y:=n 11 rfl
     have Z:=n 12 rfl
     replace hf:=hf.more he 18 rfl (onP Z)
     replace hf:=hf.more he 5 rfl (onT)
     replace hf:=hf.more he 4 rfl (onT)
     replace hf:=hf.more he 1 rfl (onT)
     replace hf:=hf.more he 0 rfl (onT)
     try dsimp only at hc
     rw [k,y] at hc
     exact ⟨(θ 88).p,(θ 88).c,(θ 80).b,hf.kp rfl,hc⟩
    rintro a w ⟨s,q,ad,hf,hc⟩
    refine a2 _ _ ?_
    refine cJ ?_
    refine sp 2 hf rfl fun a hf=>aP ?_
    replace hc:=hc.drop k0
    exact au ((out++[(⟨B,D⟩:aS)]),W (x + 1)) _ _ (sj hF).symm ⟨(some ⟨g,0,none⟩),H,(some ⟨U,0,none⟩),I,s,q,hf.kp rfl,hc⟩
   ·refine wp_exit ?_
    refine aW ?_
    refine aW ?_
    have he:=sj hF
    rw [← he] at Y
    refine eV ?_
    exact ap _ _ _ Y ⟨X,H,m,I,M,O,hf.kp rfl,hc⟩

def oI (N:Nat) (H:Int) (D:Int) (B:Int):Option (cK (Int × Int × Int) (Int × Int × Int)) :=
 some (.cont (D,B,W (H - 1)))
def oJ (N:Nat) (l:List aY) (r:(List aS) × Int) (H:Int) (B:Int) (D:Int):Option (cK (Int × Int × Int) (Int × Int × Int)) :=
 Option.bind (bH r.1 B) fun I=>
 Option.bind (bH l B) fun J=>
 cond (decide (J.Close < I.Lo))
 (oI N B D B)
 (oI N B D H)
def xF (N:Nat) (l:List aY) (r:(List aS) × Int) (H:Int) (D:Int) (B:Int):Option (cK (Int × Int × Int) (Int × Int × Int)) :=
 cond (decide (0≤B))
 (Option.bind (bH r.1 B) fun I=>
 Option.bind (bH l B) fun J=>
 cond (decide (J.Close < I.Hi))
 (oJ N l r D B B)
 (oJ N l r D B H))
 (some (.brk (H,D,B)))
def yD (N:Nat) (B:Int) (l:List aY):Option (Int × Int × Int) :=
 Option.bind (sS N B l) fun r=>
 cond (r.2 != 0)
 (some (0,0,r.2))
 (Option.bind (bE (fun s9=>xF N l r s9.1 s9.2.1 s9.2.2) N ((-1),(-1),W (((l.length:Nat):Int) - 1))) fun x9=>
 exK x9 (fun s9=>some (s9.1,s9.2.1,0)) some)
theorem aCv {N:Nat} {G:aO} {Lf:List Ent} {w:World} (O:Int) (l:List aY) {V:Option Addr} {Y:Nat} (m:Rd G 6 V Y (l.map cU)) (hc:Ctx G (Lf) w) {X:Int × Int × Int} (hF:yD N O l=some X):Calls Tryz.prog 28 #[i6 O,.slice V l.length Y] w (fun e w=>e=.returned (.tuple #[i6 X.1,i6 X.2.1,i6 X.2.2])∧Ctx G (Lf) w):=by
 unfold yD at hF
 refine bI Tryz.func28 rfl Tryz.ntmps28 rfl fun a hf=>zS fun K h=>sp 3 hf rfl fun a hf=>zT h ?_
 refine zS fun K h=>sp 2 hf rfl fun a hf=>?_
 obtain ⟨r,hr,hF⟩:=aA hF
 refine zC hf aJw rfl (vQ O l m hc hr) ?_
 rintro _ w ⟨ag,ai,rfl,hc⟩
 refine ⟨_,rfl,fun a hf=>?_⟩
 refine sp 5 hf rfl fun a hf=>zT h ?_
 refine wp_seq_k fun K3 h3=>zS fun K h=>sp 2 hf rfl fun a hf=>zT h ?_
 refine zI hf rfl hF ?_ ?_ <;> clear hF <;> intro hF
 ·refine zS fun K h=>sp 4 hf rfl fun a hf=>zT h ?_
  refine wp_ret ?_
  refine aN ?_
  obtain rfl:=sj hF
  replace hc:=hc.drop k0
  exact zO3 Tryz.results28 hf rfl rfl rfl ⟨rfl,hc⟩
 ·refine wp_skip ?_
  refine h3 _ _ ?_
  refine zS fun K h=>sp 2 hf rfl fun a hf=>zT h ?_
  refine wp_seq_k fun K7 h7=>zS fun K h=>sp 1 hf rfl fun a hf=>zP hf rfl (bC Tryz.underlying67 rfl) fun a hf=>sp 2 hf rfl fun a hf=>zT h ?_
  refine wp_block ?_
  obtain ⟨x9,an,hF⟩:=aA hF
  let S9:(Int × Int × Int)→Act→World→Prop:=(fun (zz:Int × Int × Int) a w=>∃ (R:Option Addr) (M:Nat),Has 51 a [(1,.slice V l.length Y),(4,i6 zz.1),(5,i6 zz.2.1),(7,.slice R r.1.length M),(8,i6 zz.2.2)]∧Ctx G (.row R M (r.1.map cS) 73 2::Lf) w)
  have au:∀ (zz:Int × Int × Int) a w,x9=.go zz→S9 zz a w→K7 a w:=by
   rintro ⟨q,H,D⟩ a w rfl ⟨R,M,hf,hc⟩
   replace hF:=bP hF
   refine h7 _ _ ?_
   refine zS fun K h=>sp 5 hf rfl fun a hf=>zT h ?_
   refine wp_ret ?_
   obtain rfl:=sj hF
   replace hc:=hc.drop k0
   exact zO3 Tryz.results28 hf rfl rfl rfl ⟨rfl,hc⟩
  have a2:∀ r,x9=.out r→r=X:=by
   rintro r rfl
   exact sj hF
  refine cR N (cL (S:=S9) (x:=x9) ?_ N ((-1),(-1),W (((l.length:Nat):Int) - 1)) _ _ ⟨ag,ai,hf.kp rfl,hc⟩ an)
  clear hF hf hc
  rintro ⟨q,H,D⟩ t a w KB9 ⟨R,M,hf,hc⟩ hF d aq
  unfold xF at hF
  refine wp_seq_k fun K11 ap=>zS fun K h=>sp 2 hf rfl fun a hf=>zT h ?_
  refine zI hf rfl hF ?_ ?_ <;> clear hF <;> intro hF
  ·refine wp_skip ?_
   refine ap _ _ ?_
   refine wp_seq_k fun K13 ak=>?_
   have n:∀ (J:Int) (B:Int) (b:Option Addr) (Z:Nat) a w,Has 51 a [(1,.slice V l.length Y),(4,i6 J),(5,i6 B),(7,.slice b r.1.length Z),(8,i6 D)]→Ctx G (.row b Z (r.1.map cS) 73 2::Lf) w→oI N D J B=some t→K13 a w:=by
    repeat (clear hF)
    repeat (clear hc)
    repeat (clear hf)
    intro J B b Z a w hf hc hF
    unfold oI at hF
    refine ak _ _ ?_
    refine cJ ?_
    refine sp 3 hf rfl fun a hf=>aP ?_
    exact aq (J,B,W (D - 1)) _ _ (sj hF).symm ⟨b,Z,hf.kp rfl,hc⟩
   refine wp_block ?_
   refine wp_seq_k fun K14 am=>?_
   have k:∀ (I:Int) (p:Option Addr) (U:Nat) a w,Has 51 a [(1,.slice V l.length Y),(4,i6 I),(5,i6 H),(7,.slice p r.1.length U),(8,i6 D)]→Ctx G (.row p U (r.1.map cS) 73 2::Lf) w→oJ N l r H D I=some t→K14 a w:=by
    repeat (clear hF)
    repeat (clear hc)
    repeat (clear hf)
    intro I p U a w hf hc hF
    unfold oJ at hF
    refine am _ _ ?_
    refine wp_seq_k fun K15 ar=>?_
    obtain ⟨ax,y,hF⟩:=aA hF
    obtain ⟨g,rfl,qa,qr⟩:=hU hc m0 y
    obtain ⟨ay,z,hF⟩:=aA hF
    obtain ⟨a0,o,ad,qp⟩:=m.atm z
    refine cQ hc aU (by kernel_rfl) ?_
    refine qE hf rfl rfl rfl (Pu.ev (pM rfl)) fun a hf=>qE hf rfl rfl rfl (Pu.ev (pM rfl)) fun a hf=>qE hf rfl rfl rfl (Pu.ev (pIA Tryz.underlying64 wD rfl rfl qa)) fun a hf=>qE hf rfl rfl rfl (Pu.ev (pFA zU rfl)) fun a hf=>qE hf rfl rfl rfl (bT bA rfl (eJ (sz:=2) (i:=D.toNat) (j:=0) m0 qr rfl)) fun a hf=>qE hf rfl rfl rfl (Pu.ev (pM rfl)) fun a hf=>qE hf rfl rfl rfl (Pu.ev (pM rfl)) fun a hf=>qE hf rfl rfl rfl (Pu.ev (pIA Tryz.underlying67 qL rfl rfl ad)) fun a hf=>qE hf rfl rfl rfl (Pu.ev (pFA uC rfl)) fun a hf=>qE hf rfl rfl rfl (bT bA rfl (bL (j:=5) qp rfl)) fun a hf=>qE hf rfl rfl rfl (Pu.ev (pGt rfl rfl)) fun a hf=>?_
    intro w hc
    refine ar _ _ ?_
    refine zI hf rfl hF ?_ ?_ <;> clear hF <;> intro hF
    ·refine cJ ?_
     refine sp 2 hf rfl fun a hf=>aP ?_
     exact n I D (some ⟨g,0,none⟩) U _ _  (hf.kp rfl) hc hF
    ·refine wp_skip ?_
     exact n I H (some ⟨g,0,none⟩) U _ _  (hf.kp rfl) hc hF
   refine wp_seq_k fun K16 aj=>?_
   obtain ⟨az,aa,hF⟩:=aA hF
   obtain ⟨s,rfl,af,u⟩:=hU hc m0 aa
   obtain ⟨av,ac,hF⟩:=aA hF
   obtain ⟨a1,a3,ab,v⟩:=m.atm ac
   refine cQ hc aU (by kernel_rfl) ?_
   refine qE hf rfl rfl rfl (Pu.ev (pM rfl)) fun a hf=>qE hf rfl rfl rfl (Pu.ev (pM rfl)) fun a hf=>qE hf rfl rfl rfl (Pu.ev (pIA Tryz.underlying64 wD rfl rfl af)) fun a hf=>qE hf rfl rfl rfl (Pu.ev (pFA pQ rfl)) fun a hf=>qE hf rfl rfl rfl (bT bA rfl (eJ (sz:=2) (i:=D.toNat) (j:=1) m0 u rfl)) fun a hf=>qE hf rfl rfl rfl (Pu.ev (pM rfl)) fun a hf=>qE hf rfl rfl rfl (Pu.ev (pM rfl)) fun a hf=>qE hf rfl rfl rfl (Pu.ev (pIA Tryz.underlying67 qL rfl rfl ab)) fun a hf=>qE hf rfl rfl rfl (Pu.ev (pFA uC rfl)) fun a hf=>qE hf rfl rfl rfl (bT bA rfl (bL (j:=5) v rfl)) fun a hf=>qE hf rfl rfl rfl (Pu.ev (pGt rfl rfl)) fun a hf=>?_
   intro w hc
   refine aj _ _ ?_
   refine zI hf rfl hF ?_ ?_ <;> clear hF <;> intro hF
   ·refine cJ ?_
    refine sp 2 hf rfl fun a hf=>aP ?_
    exact k D (some ⟨s,0,none⟩) M _ _  (hf.kp rfl) hc hF
   ·refine wp_skip ?_
    exact k q (some ⟨s,0,none⟩) M _ _  (hf.kp rfl) hc hF
  ·refine wp_exit ?_
   refine aW ?_
   refine aW ?_
   have he:=sj hF
   rw [← he] at d
   refine eV ?_
   exact au _ _ _ d ⟨R,M,hf.kp rfl,hc⟩

def oN (N:Nat) (a_:List aS) (b_:List aS) (B:Int):Option (cK (Int) (Bool)) :=
 cond (decide (B < ((a_.length:Nat):Int)))
 (Option.bind (bH a_ B) fun D=>
 Option.bind (bH b_ B) fun H=>
 cond (!(D.Lo == H.Lo && D.Hi == H.Hi))
 (some (.ret false))
 (some (.cont (W (B + 1)))))
 (some (.brk B))
def nD (N:Nat) (a_:List aS) (b_:List aS):Option (Bool) :=
 cond (((a_.length:Nat):Int) != ((b_.length:Nat):Int))
 (some false)
 (Option.bind (bE (fun s7=>oN N a_ b_ s7) N 0) fun x7=>
 exK x7 (fun s7=>some true) some)
theorem uL {N:Nat} {G:aO} {Lf:List Ent} {w:World} (a_:List aS) (b_:List aS) {D:Option Addr} {I:Nat} {J:Option Addr} {H:Nat} (V:Rd G 2 D I (a_.map cS)) (d:Rd G 2 J H (b_.map cS)) (hc:Ctx G (Lf) w) {M:Bool} (hF:nD N a_ b_=some M):Calls Tryz.prog 29 #[.slice D a_.length I,.slice J b_.length H] w (fun e w=>e=.returned (.bool M)∧Ctx G (Lf) w):=by
 unfold nD at hF
 refine bI Tryz.func29 rfl Tryz.ntmps29 rfl fun a hf=>zS fun K h=>sp 1 hf rfl fun a hf=>zT h ?_
 refine wp_seq_k fun K2 h2=>zS fun K h=>sp 1 hf rfl fun a hf=>zP hf rfl (bC Tryz.underlying64 rfl) fun a hf=>sp 1 hf rfl fun a hf=>zP hf rfl (bC Tryz.underlying64 rfl) fun a hf=>sp 1 hf rfl fun a hf=>zT h ?_
 refine zI hf rfl hF ?_ ?_ <;> clear hF <;> intro hF
 ·refine zS fun K h=>sp 1 hf rfl fun a hf=>zT h ?_
  refine wp_ret ?_
  refine aN ?_
  obtain rfl:=sj hF
  exact zO1 Tryz.results29 hf rfl ⟨rfl,hc⟩
 ·refine wp_skip ?_
  refine h2 _ _ ?_
  refine wp_seq_k fun K5 h5=>zS fun K h=>sp 1 hf rfl fun a hf=>zT h ?_
  refine wp_block ?_
  obtain ⟨x7,p,hF⟩:=aA hF
  let S7:Int→Act→World→Prop:=(fun (zz:Int) a w=>Has 26 a [(0,.slice D a_.length I),(1,.slice J b_.length H),(5,i6 zz)]∧Ctx G (Lf) w)
  have m:∀ (zz:Int) a w,x7=.go zz→S7 zz a w→K5 a w:=by
   rintro U a w rfl ⟨hf,hc⟩
   replace hF:=bP hF
   refine h5 _ _ ?_
   refine zS fun K h=>sp 1 hf rfl fun a hf=>zT h ?_
   refine wp_ret ?_
   obtain rfl:=sj hF
   exact zO1 Tryz.results29 hf rfl ⟨rfl,hc⟩
  have g:∀ r,x7=.out r→r=M:=by
   rintro r rfl
   exact sj hF
  refine cR N (cL (S:=S7) (x:=x7) ?_ N 0 _ _ ⟨hf.kp rfl,hc⟩ p)
  clear hF hf hc
  rintro U q a w KB7 ⟨hf,hc⟩ hF B i
  unfold oN at hF
  refine wp_seq_k fun K9 h9=>zS fun K h=>sp 2 hf rfl fun a hf=>zP hf rfl (bC Tryz.underlying64 rfl) fun a hf=>sp 1 hf rfl fun a hf=>zT h ?_
  refine zI hf rfl hF ?_ ?_ <;> clear hF <;> intro hF
  ·refine wp_skip ?_
   refine h9 _ _ ?_
   refine wp_seq_k fun K11 j=>wp_block ?_
   refine wp_seq_k fun K12 k=>?_
   obtain ⟨O,Y,hF⟩:=aA hF
   obtain ⟨s,o,qa,qp⟩:=V.atm Y
   obtain ⟨R,Z,hF⟩:=aA hF
   obtain ⟨t,u,b,X⟩:=d.atm Z
   refine cQ hc aU (by kernel_rfl) ?_
   refine qE hf rfl rfl rfl (Pu.ev (pM rfl)) fun a hf=>qE hf rfl rfl rfl (Pu.ev (pM rfl)) fun a hf=>qE hf rfl rfl rfl (Pu.ev (pIA Tryz.underlying64 wD rfl rfl qa)) fun a hf=>qE hf rfl rfl rfl (jN (vs:=[i6 O.Lo,i6 O.Hi]) qG rfl rfl (eX qp (n:=2) (o':=0) rfl)) fun a hf=>qE hf rfl rfl rfl (Pu.ev (pM rfl)) fun a hf=>qE hf rfl rfl rfl (Pu.ev (pM rfl)) fun a hf=>qE hf rfl rfl rfl (Pu.ev (pIA Tryz.underlying64 wD rfl rfl b)) fun a hf=>qE hf rfl rfl rfl (jN (vs:=[i6 R.Lo,i6 R.Hi]) qG rfl rfl (eX X (n:=2) (o':=0) rfl)) fun a hf=>qE hf rfl rfl rfl (Pu.ev (pNeA aJx rfl rfl (aHe _ _ _ _))) fun a hf=>?_
   intro w hc
   refine k _ _ ?_
   refine zI hf rfl hF ?_ ?_ <;> clear hF <;> intro hF
   ·refine zS fun K h=>sp 1 hf rfl fun a hf=>zT h ?_
    refine wp_ret ?_
    refine bN ?_
    refine aN ?_
    refine aN ?_
    have he:=sj hF
    rw [← he] at B
    replace hF:=g _ B
    refine bN ?_
    refine aN ?_
    obtain rfl:=hF
    exact zO1 Tryz.results29 hf rfl ⟨rfl,hc⟩
   ·refine wp_skip ?_
    refine j _ _ ?_
    refine cJ ?_
    refine sp 3 hf rfl fun a hf=>aP ?_
    exact i (W (U + 1)) _ _ (sj hF).symm ⟨hf.kp rfl,hc⟩
  ·refine wp_exit ?_
   refine aW ?_
   refine aW ?_
   have he:=sj hF
   rw [← he] at B
   refine eV ?_
   exact m _ _ _ B ⟨hf.kp rfl,hc⟩

def uK (N:Nat) (l:List aY) (D:Int) (B:Int):Option (cK (Int × Int) (Int × Int)) :=
 cond (decide (0≤B))
 (Option.bind (bH l B) fun H=>
 Option.bind (bH l B) fun I=>
 Option.bind (bH l B) fun J=>
 cond (decide ((min H.Close (W (D - I.Work.Hi))) < J.Open))
 (some (.ret (0,5)))
 (Option.bind (bH l B) fun M=>
 some (.cont (W ((min H.Close (W (D - I.Work.Hi))) - M.Way.Hi),W (B - 1)))))
 (some (.brk (D,B)))
def uG (N:Nat) (l:List aY):Option (Int × Int) :=
 Option.bind (pP N l) fun r=>
 cond (r != 0)
 (some (0,r))
 (Option.bind (bE (fun s9=>uK N l s9.1 s9.2) N (200000,W (((l.length:Nat):Int) - 1))) fun x9=>
 exK x9 (fun s9=>cond (decide (s9.1 < 0))
 (some (0,5))
 (some (s9.1,0))) some)
theorem aAq {N:Nat} {G:aO} {Lf:List Ent} {w:World} (l:List aY) {I:Option Addr} {J:Nat} (D:Rd G 6 I J (l.map cU)) (hc:Ctx G (Lf) w) {H:Int × Int} (hF:uG N l=some H):Calls Tryz.prog 30 #[.slice I l.length J] w (fun e w=>e=.returned (.tuple #[i6 H.1,i6 H.2])∧Ctx G (Lf) w):=by
 unfold uG at hF
 refine bI Tryz.func30 rfl Tryz.ntmps30 rfl fun a hf=>zS fun K h=>sp 2 hf rfl fun a hf=>zT h ?_
 refine wp_seq_k fun K2 h2=>zS fun K h=>sp 1 hf rfl fun a hf=>?_
 obtain ⟨r,hr,hF⟩:=aA hF
 refine zQ (v:=i6 r) hf hc aJ2 rfl (fun w hc=>tL l D hc hr) fun a w hf hc=>sp 1 hf rfl fun a hf=>zT h ?_
 refine zS fun K h=>sp 2 hf rfl fun a hf=>zT h ?_
 refine zI hf rfl hF ?_ ?_ <;> clear hF <;> intro hF
 ·refine zS fun K h=>sp 3 hf rfl fun a hf=>zT h ?_
  refine wp_ret ?_
  refine aN ?_
  obtain rfl:=sj hF
  exact zO2 Tryz.results30 hf rfl rfl ⟨rfl,hc⟩
 ·refine wp_skip ?_
  refine h2 _ _ ?_
  refine zS fun K h=>sp 1 hf rfl fun a hf=>zT h ?_
  refine wp_seq_k fun K7 h7=>zS fun K h=>sp 1 hf rfl fun a hf=>zP hf rfl (bC Tryz.underlying67 rfl) fun a hf=>sp 2 hf rfl fun a hf=>zT h ?_
  refine wp_block ?_
  obtain ⟨x9,k,hF⟩:=aA hF
  let S9:(Int × Int)→Act→World→Prop:=(fun (zz:Int × Int) a w=>Has 51 a [(0,.slice I l.length J),(5,i6 zz.1),(6,i6 zz.2)]∧Ctx G (Lf) w)
  have ab:∀ (zz:Int × Int) a w,x9=.go zz→S9 zz a w→K7 a w:=by
   rintro ⟨O,M⟩ a w rfl ⟨hf,hc⟩
   replace hF:=bP hF
   refine h7 _ _ ?_
   refine wp_seq_k fun K10 u=>zS fun K h=>sp 2 hf rfl fun a hf=>zT h ?_
   refine zI hf rfl hF ?_ ?_ <;> clear hF <;> intro hF
   ·refine zS fun K h=>sp 2 hf rfl fun a hf=>zT h ?_
    refine wp_ret ?_
    refine aN ?_
    obtain rfl:=sj hF
    exact zO2 Tryz.results30 hf rfl rfl ⟨rfl,hc⟩
   ·refine wp_skip ?_
    refine u _ _ ?_
    refine zS fun K h=>sp 3 hf rfl fun a hf=>zT h ?_
    refine wp_ret ?_
    obtain rfl:=sj hF
    exact zO2 Tryz.results30 hf rfl rfl ⟨rfl,hc⟩
  have m:∀ r,x9=.out r→r=H:=by
   rintro r rfl
   exact sj hF
  refine cR N (cL (S:=S9) (x:=x9) ?_ N (200000,W (((l.length:Nat):Int) - 1)) _ _ ⟨hf.kp rfl,hc⟩ k)
  clear hF hf hc
  rintro ⟨O,M⟩ am a w KB9 ⟨hf,hc⟩ hF B t
  unfold uK at hF
  refine wp_seq_k fun K14 z=>zS fun K h=>sp 2 hf rfl fun a hf=>zT h ?_
  refine zI hf rfl hF ?_ ?_ <;> clear hF <;> intro hF
  ·refine wp_skip ?_
   refine z _ _ ?_
   refine wp_seq_k fun K16 y=>wp_block ?_
   refine wp_seq_k fun K17 p=>?_
   obtain ⟨q,Y,hF⟩:=aA hF
   obtain ⟨ai,o,qa,qp⟩:=D.atm Y
   obtain ⟨s,b,hF⟩:=aA hF
   obtain ⟨aj,ak,d,X⟩:=D.atm b
   refine cQ hc aU (by kernel_rfl) ?_
   refine qE hf rfl rfl rfl (Pu.ev (pM rfl)) fun a hf=>qE hf rfl rfl rfl (Pu.ev (pM rfl)) fun a hf=>qE hf rfl rfl rfl (Pu.ev (pIA Tryz.underlying67 qL rfl rfl qa)) fun a hf=>qE hf rfl rfl rfl (Pu.ev (pFA uC rfl)) fun a hf=>qE hf rfl rfl rfl (bT bA rfl (bL (j:=5) qp rfl)) fun a hf=>qE hf rfl rfl rfl (Pu.ev (pM rfl)) fun a hf=>qE hf rfl rfl rfl (Pu.ev (pM rfl)) fun a hf=>qE hf rfl rfl rfl (Pu.ev (pM rfl)) fun a hf=>qE hf rfl rfl rfl (Pu.ev (pIA Tryz.underlying67 qL rfl rfl d)) fun a hf=>qE hf rfl rfl rfl (Pu.ev (pFA wK rfl)) fun a hf=>qE hf rfl rfl rfl (Pu.ev (pFA pQ rfl)) fun a hf=>qE hf rfl rfl rfl (bT bA rfl (bL (j:=3) X rfl)) fun a hf=>qE hf rfl rfl rfl (Pu.ev (pSub rfl rfl)) fun a hf=>?_
   refine qE hf rfl rfl rfl (Pu.ev (pMin2 rfl rfl)) fun a hf=>qE hf rfl rfl rfl (Pu.ev (pA rfl)) fun a hf=>?_
   intro w hc
   refine p _ _ ?_
   refine wp_seq_k fun K18 aa=>zS fun K h=>sp 3 hf rfl fun a hf=>?_
   obtain ⟨ag,g,hF⟩:=aA hF
   obtain ⟨an,ac,i,R⟩:=D.atm g
   refine zP hf rfl (pIA Tryz.underlying67 qL rfl rfl i) fun a hf=>zP hf rfl (pFA wS rfl) fun a hf=>zE hf hc rfl (bT bA rfl (bL (j:=4) R rfl)) fun a w hf hc=>sp 1 hf rfl fun a hf=>zT h ?_
   refine zI hf rfl hF ?_ ?_ <;> clear hF <;> intro hF
   ·refine zS fun K h=>sp 2 hf rfl fun a hf=>zT h ?_
    refine wp_ret ?_
    refine aN ?_
    refine bN ?_
    refine aN ?_
    refine aN ?_
    have he:=sj hF
    rw [← he] at B
    replace hF:=m _ B
    refine bN ?_
    refine aN ?_
    obtain rfl:=hF
    exact zO2 Tryz.results30 hf rfl rfl ⟨rfl,hc⟩
   ·refine wp_skip ?_
    refine aa _ _ ?_
    refine cJ ?_
    refine sp 3 hf rfl fun a hf=>?_
    obtain ⟨n,U,hF⟩:=aA hF
    obtain ⟨ad,af,Z,V⟩:=D.atm U
    refine zP hf rfl (pIA Tryz.underlying67 qL rfl rfl Z) fun a hf=>zP hf rfl (pFA wN rfl) fun a hf=>zP hf rfl (pFA pQ rfl) fun a hf=>zE hf hc rfl (bT bA rfl (bL (j:=1) V rfl)) fun a w hf hc=>sp 2 hf rfl fun a hf=>aP ?_
    refine y _ _ ?_
    refine cJ ?_
    refine sp 3 hf rfl fun a hf=>aP ?_
    exact t (W ((min q.Close (W (O - s.Work.Hi))) - n.Way.Hi),W (M - 1)) _ _ (sj hF).symm ⟨hf.kp rfl,hc⟩
  ·refine wp_exit ?_
   refine aW ?_
   refine aW ?_
   have he:=sj hF
   rw [← he] at B
   refine eV ?_
   exact ab _ _ _ B ⟨hf.kp rfl,hc⟩

def nX (N:Nat)  : Option (aM) :=
 Option.bind (jY N 80 90) fun r=>
 Option.bind (jY N 160 180) fun B=>
 some (⟨50,100,250,3000,([(⟨0,10,r⟩:aI),(⟨5,5,B⟩:aI)]:List aI)⟩:aM)
theorem rI {N:Nat} {G:aO} {Lf:List Ent} {w:World}    (hc:Ctx G (Lf) w) {B:aM} (hF:nX N=some B):Calls Tryz.prog 32 #[] w (fun e w=>∃ (J:Option Addr) (I:Nat),e=.returned (.agg #[i6 B.Car,i6 B.Wide,i6 B.Sag,i6 B.Most,.slice J B.Rides.length I])∧Ctx G (.row J I (B.Rides.map aK) 85 4::Lf) w):=by
 unfold nX at hF
 refine bI Tryz.func32 rfl Tryz.ntmps32 rfl fun a hf=>zS fun K h=>zA hf hc aEz rfl fun O a w hf hc=>zT h ?_
 refine zS fun K h=>?_
 obtain ⟨r,hr,hF⟩:=aA hF
 refine zQ (v:=.agg #[i6 r.Lo,i6 r.Hi]) hf hc aAr rfl (fun w hc=>iR 80 90 hc hr) fun a w hf hc=>zP hf rfl (cF (cells:=[i6 0,i6 10,i6 r.Lo,i6 r.Hi]) aHy rfl rfl) fun a hf=>?_
 obtain ⟨D,M,hF⟩:=aA hF
 refine zQ (v:=.agg #[i6 D.Lo,i6 D.Hi]) hf hc aAr rfl (fun w hc=>iR 160 180 hc M) fun a w hf hc=>zP hf rfl (cF (cells:=[i6 5,i6 5,i6 D.Lo,i6 D.Hi]) aHy rfl rfl) fun a hf=>jD (rows:=([(⟨0,10,r⟩:aI),(⟨5,5,D⟩:aI)]:List aI).map aK) (vs:=[(0,.agg #[i6 0,i6 10,i6 r.Lo,i6 r.Hi]),(1,.agg #[i6 5,i6 5,i6 D.Lo,i6 D.Hi])]) hf hc rfl rfl aAi rfl ⟨rfl,rfl,rfl,rfl,rfl,rfl,trivial⟩ rfl rfl fun H a w hf hc=>zP hf rfl (cF (cells:=[i6 50,i6 100,i6 250,i6 3000,.slice (some ⟨H,0,none⟩) 2 2]) bt_80 rfl rfl) fun a hf=>zW hf hc aDk u1 rfl fun w hc=>zT h ?_
 refine wp_ret ?_
 obtain rfl:=sj hF
 exact tC (by simp) rfl Tryz.results32 hf hc (fK (vs:=[i6 50,i6 100,i6 250,i6 3000,.slice (some ⟨H,0,none⟩) 2 2]) mW rfl rfl (bM (n:=5) m1 rfl)) ⟨(some ⟨H,0,none⟩),2,rfl,(hc.drop k1)⟩

def kZ (r:aI):Bool :=
 ((((bG r.From) && (aH r.Long 1 100000)) && (aH r.Weight.Lo 0 r.Weight.Hi)) && (decide (r.Weight.Hi≤1000)))
theorem uR {G:aO} {Lf:List Ent} {w:World} (r:aI)   (hc:Ctx G (Lf) w) {D:Bool} (hF:kZ r=D):Calls Tryz.prog 93 #[.agg #[i6 r.From,i6 r.Long,i6 r.Weight.Lo,i6 r.Weight.Hi]] w (fun e w=>e=.returned (.bool D)∧Ctx G (Lf) w):=by
 unfold kZ at hF
 refine bI Tryz.func93 rfl Tryz.ntmps93 rfl fun a hf=>zS fun K h=>zB hf hc rfl fun B a w hf hc=>sp 1 hf rfl fun a hf=>zT h ?_
 refine zS fun K h=>zP hf rfl (pFA oG rfl) fun a hf=>zL hf hc bA m0 rfl fun a w hf hc=>zQ (v:=.bool (bG r.From)) hf hc aFg rfl (fun w hc=>nE r.From hc rfl) fun a w hf hc=>sp 1 hf rfl fun a hf=>gX 4 (fun a=>Has 26 a [(1,pq B),(2,.bool false),(3,pq B),(4,i6 r.From),(5,.bool (bG r.From)),(6,.bool (bG r.From)),(10,.bool ((bG r.From) && (aH r.Long 1 100000)))]) hc ?_ ?_
 ·cases hb:(bG r.From)
  ·rw [hb] at hf
   refine stS hf rfl rfl rfl fun a hf=>stS hf rfl rfl rfl fun a hf=>stS hf rfl rfl rfl fun a hf=>sp 1 hf rfl fun a hf=>aP ⟨hf.kp rfl,hc⟩
  ·rw [hb] at hf
   refine zP hf rfl (pFA zJ rfl) fun a hf=>zL hf hc bA m0 rfl fun a w hf hc=>zQ (v:=.bool (aH r.Long 1 100000)) hf hc lJ rfl (fun w hc=>cG r.Long 1 100000 hc rfl) fun a w hf hc=>sp 1 hf rfl fun a hf=>aP ⟨hf.kp rfl,hc⟩
 intro a w ⟨hf,hc⟩
 refine sp 1 hf rfl fun a hf=>gX 8 (fun a=>Has 26 a [(1,pq B),(2,.bool false),(3,pq B),(4,i6 r.From),(5,.bool (bG r.From)),(6,.bool (bG r.From)),(10,.bool ((bG r.From) && (aH r.Long 1 100000))),(11,.bool ((bG r.From) && (aH r.Long 1 100000))),(19,.bool (((bG r.From) && (aH r.Long 1 100000)) && (aH r.Weight.Lo 0 r.Weight.Hi)))]) hc ?_ ?_
 ·cases hb:((bG r.From) && (aH r.Long 1 100000))
  ·rw [hb] at hf
   refine stS hf rfl rfl rfl fun a hf=>stS hf rfl rfl rfl fun a hf=>stS hf rfl rfl rfl fun a hf=>stS hf rfl rfl rfl fun a hf=>stS hf rfl rfl rfl fun a hf=>stS hf rfl rfl rfl fun a hf=>stS hf rfl rfl rfl fun a hf=>sp 1 hf rfl fun a hf=>aP ⟨hf.kp rfl,hc⟩
  ·rw [hb] at hf
   refine zP hf rfl (pFA vA rfl) fun a hf=>zP hf rfl (pFA zU rfl) fun a hf=>zL hf hc bA m0 rfl fun a w hf hc=>zP hf rfl (pFA vA rfl) fun a hf=>zP hf rfl (pFA pQ rfl) fun a hf=>zL hf hc bA m0 rfl fun a w hf hc=>zQ (v:=.bool (aH r.Weight.Lo 0 r.Weight.Hi)) hf hc lJ rfl (fun w hc=>cG r.Weight.Lo 0 r.Weight.Hi hc rfl) fun a w hf hc=>sp 1 hf rfl fun a hf=>aP ⟨hf.kp rfl,hc⟩
 intro a w ⟨hf,hc⟩
 refine sp 1 hf rfl fun a hf=>gX 5 (fun a=>Has 26 a [(1,pq B),(2,.bool false),(3,pq B),(4,i6 r.From),(5,.bool (bG r.From)),(6,.bool (bG r.From)),(10,.bool ((bG r.From) && (aH r.Long 1 100000))),(11,.bool ((bG r.From) && (aH r.Long 1 100000))),(19,.bool (((bG r.From) && (aH r.Long 1 100000)) && (aH r.Weight.Lo 0 r.Weight.Hi))),(20,.bool (((bG r.From) && (aH r.Long 1 100000)) && (aH r.Weight.Lo 0 r.Weight.Hi))),(25,.bool ((((bG r.From) && (aH r.Long 1 100000)) && (aH r.Weight.Lo 0 r.Weight.Hi)) && (decide (r.Weight.Hi≤1000))))]) hc ?_ ?_
 ·cases hb:(((bG r.From) && (aH r.Long 1 100000)) && (aH r.Weight.Lo 0 r.Weight.Hi))
  ·rw [hb] at hf
   refine stS hf rfl rfl rfl fun a hf=>stS hf rfl rfl rfl fun a hf=>stS hf rfl rfl rfl fun a hf=>stS hf rfl rfl rfl fun a hf=>sp 1 hf rfl fun a hf=>aP ⟨hf.kp rfl,hc⟩
  ·rw [hb] at hf
   refine zP hf rfl (pFA vA rfl) fun a hf=>zP hf rfl (pFA pQ rfl) fun a hf=>zL hf hc bA m0 rfl fun a w hf hc=>sp 2 hf rfl fun a hf=>aP ⟨hf.kp rfl,hc⟩
 intro a w ⟨hf,hc⟩
 refine sp 1 hf rfl fun a hf=>zT h ?_
 refine wp_ret ?_
 obtain rfl:=hF
 replace hc:=hc.drop k0
 exact zO1 Tryz.results93 hf rfl ⟨rfl,hc⟩

def gU (x:aI):Bool :=
 (!(kZ (⟨x.From,x.Long,x.Weight⟩:aI)))
theorem qZ {G:aO} {Lf:List Ent} {w:World} (x:aI) {b_:Nat}  (hc:Ctx G (.box b_ [.func (.func 93) #[] #[]] 125::Lf) w) {B:Bool} (hF:gU x=B):Calls Tryz.prog 99 #[.agg #[i6 x.From,i6 x.Long,i6 x.Weight.Lo,i6 x.Weight.Hi],pq b_] w (fun e w=>e=.returned (.bool B)∧Ctx G (.box b_ [.func (.func 93) #[] #[]] 125::Lf) w):=by
 unfold gU at hF
 refine bI Tryz.func99 rfl Tryz.ntmps99 rfl fun a hf=>zS fun K h=>zB hf hc rfl fun D a w hf hc=>sp 1 hf rfl fun a hf=>zT h ?_
 refine zS fun K h=>zL hf hc aGs m1 rfl fun a w hf hc=>zN hf hc qI m0 rfl fun a w hf hc=>zQ (v:=.bool (kZ (⟨x.From,x.Long,x.Weight⟩:aI))) hf hc en_93 rfl (fun w hc=>uR (⟨x.From,x.Long,x.Weight⟩:aI) hc rfl) fun a w hf hc=>sp 2 hf rfl fun a hf=>zT h ?_
 refine wp_ret ?_
 obtain rfl:=hF
 replace hc:=hc.drop k0
 exact zO1 Tryz.results99 hf rfl ⟨rfl,hc⟩

def fX (N:Nat) (s_:List aI) (x:Int):Option (cK (Int) (Int)) :=
 cond (decide (x < ((s_.length:Nat):Int)))
 (Option.bind (bH s_ x) fun B=>
 cond (gU B)
 (some (.ret x))
 (some (.cont (W (x + 1)))))
 (some (.brk x))
def eD (N:Nat) (s_:List aI):Option (Int) :=
 Option.bind (bE (fun s4=>fX N s_ s4) N 0) fun x4=>
 exK x4 (fun s4=>some (-1)) some
theorem kQ {N:Nat} {G:aO} {Lf:List Ent} {w:World} (s_:List aI) {H:Option Addr} {I:Nat} {b_:Nat} (O:Rd G 4 H I (s_.map aK)) (hc:Ctx G (.box b_ [.func (.func 93) #[] #[]] 125::Lf) w) {J:Int} (hF:eD N s_=some J):Calls Tryz.prog 111 #[.slice H s_.length I,.func (.func 99) #[] #[pq b_]] w (fun e w=>e=.returned (i6 J)∧Ctx G (.box b_ [.func (.func 93) #[] #[]] 125::Lf) w):=by
 unfold eD at hF
 refine bI Tryz.func111 rfl Tryz.ntmps111 rfl fun a hf=>zS fun K h=>sp 1 hf rfl fun a hf=>zT h ?_
 refine wp_seq_k fun K2 h2=>zS fun K h=>sp 1 hf rfl fun a hf=>zP hf rfl (bC Tryz.underlying78 rfl) fun a hf=>sp 1 hf rfl fun a hf=>zT h ?_
 refine wp_block ?_
 obtain ⟨x4,U,hF⟩:=aA hF
 let S4:Int→Act→World→Prop:=(fun (zz:Int) a w=>Has 19 a [(0,.slice H s_.length I),(1,.func (.func 99) #[] #[pq b_]),(7,i6 ((s_.length:Nat):Int)),(8,i6 zz)]∧Ctx G (.box b_ [.func (.func 93) #[] #[]] 125::Lf) w)
 have V:∀ (zz:Int) a w,x4=.go zz→S4 zz a w→K2 a w:=by
  rintro x a w rfl ⟨hf,hc⟩
  replace hF:=bP hF
  refine h2 _ _ ?_
  refine zS fun K h=>sp 1 hf rfl fun a hf=>zT h ?_
  refine wp_ret ?_
  obtain rfl:=sj hF
  exact zO1 Tryz.results111 hf rfl ⟨rfl,hc⟩
 have X:∀ r,x4=.out r→r=J:=by
  rintro r rfl
  exact sj hF
 refine cR N (cL (S:=S4) (x:=x4) ?_ N 0 _ _ ⟨hf.kp rfl,hc⟩ U)
 clear hF hf hc
 rintro x Y a w KB4 ⟨hf,hc⟩ hF B R
 unfold fX at hF
 refine zS fun K h=>sp 1 hf rfl fun a hf=>zT h ?_
 refine wp_seq_k fun K7 h7=>zI hf rfl hF ?_ ?_ <;> clear hF <;> intro hF
 ·refine wp_skip ?_
  refine h7 _ _ ?_
  refine wp_seq_k fun K8 h8=>wp_block ?_
  refine zS fun K h=>sp 2 hf rfl fun a hf=>zT h ?_
  refine zS fun K h=>sp 3 hf rfl fun a hf=>?_
  obtain ⟨D,M,hF⟩:=aA hF
  obtain ⟨Z,o,qa,qp⟩:=O.atm M
  refine zP hf rfl (pIA Tryz.underlying78 rD rfl rfl qa) fun a hf=>zE hf hc rfl (jN (vs:=[i6 D.From,i6 D.Long,i6 D.Weight.Lo,i6 D.Weight.Hi]) qI rfl rfl (eX qp (n:=4) (o':=0) rfl)) fun a w hf hc=>zQ (v:=.bool (gU D)) hf hc aJz rfl (fun w hc=>(qZ D (hc.pick k0) rfl).mono fun e w h=>⟨h.1,(h.2.unpick k0)⟩) fun a w hf hc=>zT h ?_
  refine zI hf rfl hF ?_ ?_ <;> clear hF <;> intro hF
  ·refine zS fun K h=>sp 2 hf rfl fun a hf=>zT h ?_
   refine wp_ret ?_
   refine bN ?_
   refine aN ?_
   refine aN ?_
   have he:=sj hF
   rw [← he] at B
   replace hF:=X _ B
   refine bN ?_
   refine aN ?_
   obtain rfl:=hF
   exact zO1 Tryz.results111 hf rfl ⟨rfl,hc⟩
  ·refine wp_skip ?_
   refine h8 _ _ ?_
   refine cJ ?_
   refine sp 2 hf rfl fun a hf=>aP ?_
   exact R (W (x + 1)) _ _ (sj hF).symm ⟨hf.kp rfl,hc⟩
 ·refine wp_exit ?_
  refine aW ?_
  refine aW ?_
  have he:=sj hF
  rw [← he] at B
  refine eV ?_
  exact V _ _ _ B ⟨hf.kp rfl,hc⟩

def dH (N:Nat) (s_:List aI):Option (Bool) :=
 Option.bind (eD N s_) fun r=>
 some (decide (0≤r))
theorem jS {N:Nat} {G:aO} {Lf:List Ent} {w:World} (s_:List aI) {B:Option Addr} {D:Nat} {b_:Nat} (I:Rd G 4 B D (s_.map aK)) (hc:Ctx G (.box b_ [.func (.func 93) #[] #[]] 125::Lf) w) {H:Bool} (hF:dH N s_=some H):Calls Tryz.prog 98 #[.slice B s_.length D,.func (.func 99) #[] #[pq b_]] w (fun e w=>e=.returned (.bool H)∧Ctx G (.box b_ [.func (.func 93) #[] #[]] 125::Lf) w):=by
 unfold dH at hF
 refine bI Tryz.func98 rfl Tryz.ntmps98 rfl fun a hf=>zS fun K h=>sp 1 hf rfl fun a hf=>zT h ?_
 refine zS fun K h=>sp 2 hf rfl fun a hf=>?_
 obtain ⟨r,hr,hF⟩:=aA hF
 refine zQ (v:=i6 r) hf hc aHl rfl (fun w hc=>(kQ s_ I (hc.pick k0) hr).mono fun e w h=>⟨h.1,(h.2.unpick k0)⟩) fun a w hf hc=>sp 2 hf rfl fun a hf=>zT h ?_
 refine wp_ret ?_
 obtain rfl:=sj hF
 exact zO1 Tryz.results98 hf rfl ⟨rfl,hc⟩

def lB (N:Nat) (l:List aI):Option (Bool) :=
 Option.bind (dH N l) fun r=>
 some (!r)
theorem sN {N:Nat} {G:aO} {Lf:List Ent} {w:World} (l:List aI) {B:Option Addr} {D:Nat} (I:Rd G 4 B D (l.map aK)) (hc:Ctx G (Lf) w) {H:Bool} (hF:lB N l=some H):Calls Tryz.prog 66 #[.slice B l.length D,.func (.func 93) #[] #[]] w (fun e w=>e=.returned (.bool H)∧Ctx G (Lf) w):=by
 unfold lB at hF
 refine bI Tryz.func66 rfl Tryz.ntmps66 rfl fun a hf=>zS fun K h=>zB hf hc rfl fun J a w hf hc=>sp 1 hf rfl fun a hf=>zT h ?_
 refine zS fun K h=>sp 1 hf rfl fun a hf=>zP hf rfl (pMF (us:=[pq J]) rfl rfl) fun a hf=>?_
 obtain ⟨r,hr,hF⟩:=aA hF
 refine zQ (v:=.bool r) hf hc aJn rfl (fun w hc=>(jS l I (hc.pick k0) hr).mono fun e w h=>⟨h.1,(h.2.unpick k0)⟩) fun a w hf hc=>sp 2 hf rfl fun a hf=>zT h ?_
 refine wp_ret ?_
 obtain rfl:=sj hF
 replace hc:=hc.drop k0
 exact zO1 Tryz.results66 hf rfl ⟨rfl,hc⟩

def iF (N:Nat) (c_:aM):Option (Int) :=
 cond (decide (30 < ((c_.Rides.length:Nat):Int)))
 (some 3)
 (Option.bind (cond ((((!(aH c_.Car 0 1000)) || (!(aH c_.Wide 1 1000))) || (!(aH c_.Sag 1 10000))) || (!(aH c_.Most 0 10000000))) (some true) (Option.bind (lB N c_.Rides) fun r=>
 some (!r))) fun B=>
 cond B
 (some 120)
 (some 0))
theorem mM {N:Nat} {G:aO} {Lf:List Ent} {w:World} (c_:aM) {D:Option Addr} {B:Nat} (I:Rd G 4 D B (c_.Rides.map aK)) (hc:Ctx G (Lf) w) {M:Int} (hF:iF N c_=some M):Calls Tryz.prog 59 #[.agg #[i6 c_.Car,i6 c_.Wide,i6 c_.Sag,i6 c_.Most,.slice D c_.Rides.length B]] w (fun e w=>e=.returned (i6 M)∧Ctx G (Lf) w):=by
 unfold iF at hF
 refine bI Tryz.func59 rfl Tryz.ntmps59 rfl fun a hf=>zS fun K h=>zB hf hc rfl fun H a w hf hc=>sp 1 hf rfl fun a hf=>zT h ?_
 refine wp_seq_k fun K2 h2=>wp_block ?_
 refine zS fun K h=>zP hf rfl (pFA jU rfl) fun a hf=>zL hf hc tI m0 rfl fun a w hf hc=>zP hf rfl (bC Tryz.underlying78 rfl) fun a hf=>sp 2 hf rfl fun a hf=>zT h ?_
 refine zI hf rfl hF ?_ ?_ <;> clear hF <;> intro hF
 ·refine zS fun K h=>sp 1 hf rfl fun a hf=>zT h ?_
  refine wp_ret ?_
  refine bN ?_
  refine aN ?_
  obtain rfl:=sj hF
  replace hc:=hc.drop k0
  exact zO1 Tryz.results59 hf rfl ⟨rfl,hc⟩
 ·refine zS fun K h=>zP hf rfl (pFA wL rfl) fun a hf=>zL hf hc bA m0 rfl fun a w hf hc=>zQ (v:=.bool (aH c_.Car 0 1000)) hf hc lJ rfl (fun w hc=>cG c_.Car 0 1000 hc rfl) fun a w hf hc=>sp 2 hf rfl fun a hf=>gX 5 (fun a=>Has 37 a [(1,pq H),(9,pq H),(10,i6 c_.Car),(11,.bool (aH c_.Car 0 1000)),(12,.bool (!(aH c_.Car 0 1000))),(13,.bool (!(aH c_.Car 0 1000))),(18,.bool ((!(aH c_.Car 0 1000)) || (!(aH c_.Wide 1 1000))))]) hc ?_ ?_
  ·cases hb:(!(aH c_.Car 0 1000))
   ·rw [hb] at hf
    refine zP hf rfl (pFA aEw rfl) fun a hf=>zL hf hc bA m0 rfl fun a w hf hc=>zQ (v:=.bool (aH c_.Wide 1 1000)) hf hc lJ rfl (fun w hc=>cG c_.Wide 1 1000 hc rfl) fun a w hf hc=>sp 2 hf rfl fun a hf=>aP ⟨hf.kp rfl,hc⟩
   ·rw [hb] at hf
    refine stS hf rfl rfl rfl fun a hf=>stS hf rfl rfl rfl fun a hf=>stS hf rfl rfl rfl fun a hf=>stS hf rfl rfl rfl fun a hf=>sp 1 hf rfl fun a hf=>aP ⟨hf.kp rfl,hc⟩
  intro a w ⟨hf,hc⟩
  refine sp 1 hf rfl fun a hf=>gX 5 (fun a=>Has 37 a [(1,pq H),(9,pq H),(10,i6 c_.Car),(11,.bool (aH c_.Car 0 1000)),(12,.bool (!(aH c_.Car 0 1000))),(13,.bool (!(aH c_.Car 0 1000))),(18,.bool ((!(aH c_.Car 0 1000)) || (!(aH c_.Wide 1 1000)))),(19,.bool ((!(aH c_.Car 0 1000)) || (!(aH c_.Wide 1 1000)))),(24,.bool (((!(aH c_.Car 0 1000)) || (!(aH c_.Wide 1 1000))) || (!(aH c_.Sag 1 10000))))]) hc ?_ ?_
  ·cases hb:((!(aH c_.Car 0 1000)) || (!(aH c_.Wide 1 1000)))
   ·rw [hb] at hf
    refine zP hf rfl (pFA aFo rfl) fun a hf=>zL hf hc bA m0 rfl fun a w hf hc=>zQ (v:=.bool (aH c_.Sag 1 10000)) hf hc lJ rfl (fun w hc=>cG c_.Sag 1 10000 hc rfl) fun a w hf hc=>sp 2 hf rfl fun a hf=>aP ⟨hf.kp rfl,hc⟩
   ·rw [hb] at hf
    refine stS hf rfl rfl rfl fun a hf=>stS hf rfl rfl rfl fun a hf=>stS hf rfl rfl rfl fun a hf=>stS hf rfl rfl rfl fun a hf=>sp 1 hf rfl fun a hf=>aP ⟨hf.kp rfl,hc⟩
  intro a w ⟨hf,hc⟩
  refine sp 1 hf rfl fun a hf=>gX 5 (fun a=>Has 37 a [(1,pq H),(9,pq H),(10,i6 c_.Car),(11,.bool (aH c_.Car 0 1000)),(12,.bool (!(aH c_.Car 0 1000))),(13,.bool (!(aH c_.Car 0 1000))),(18,.bool ((!(aH c_.Car 0 1000)) || (!(aH c_.Wide 1 1000)))),(19,.bool ((!(aH c_.Car 0 1000)) || (!(aH c_.Wide 1 1000)))),(24,.bool (((!(aH c_.Car 0 1000)) || (!(aH c_.Wide 1 1000))) || (!(aH c_.Sag 1 10000)))),(25,.bool (((!(aH c_.Car 0 1000)) || (!(aH c_.Wide 1 1000))) || (!(aH c_.Sag 1 10000)))),(30,.bool ((((!(aH c_.Car 0 1000)) || (!(aH c_.Wide 1 1000))) || (!(aH c_.Sag 1 10000))) || (!(aH c_.Most 0 10000000))))]) hc ?_ ?_
  ·cases hb:(((!(aH c_.Car 0 1000)) || (!(aH c_.Wide 1 1000))) || (!(aH c_.Sag 1 10000)))
   ·rw [hb] at hf
    refine zP hf rfl (pFA aEq rfl) fun a hf=>zL hf hc bA m0 rfl fun a w hf hc=>zQ (v:=.bool (aH c_.Most 0 10000000)) hf hc lJ rfl (fun w hc=>cG c_.Most 0 10000000 hc rfl) fun a w hf hc=>sp 2 hf rfl fun a hf=>aP ⟨hf.kp rfl,hc⟩
   ·rw [hb] at hf
    refine stS hf rfl rfl rfl fun a hf=>stS hf rfl rfl rfl fun a hf=>stS hf rfl rfl rfl fun a hf=>stS hf rfl rfl rfl fun a hf=>sp 1 hf rfl fun a hf=>aP ⟨hf.kp rfl,hc⟩
  intro a w ⟨hf,hc⟩
  refine sp 1 hf rfl fun a hf=>?_
  obtain ⟨O,J,hF⟩:=aA hF
  refine gX 5 (fun a=>Has 37 a [(1,pq H),(9,pq H),(10,i6 c_.Car),(11,.bool (aH c_.Car 0 1000)),(12,.bool (!(aH c_.Car 0 1000))),(13,.bool (!(aH c_.Car 0 1000))),(18,.bool ((!(aH c_.Car 0 1000)) || (!(aH c_.Wide 1 1000)))),(19,.bool ((!(aH c_.Car 0 1000)) || (!(aH c_.Wide 1 1000)))),(24,.bool (((!(aH c_.Car 0 1000)) || (!(aH c_.Wide 1 1000))) || (!(aH c_.Sag 1 10000)))),(25,.bool (((!(aH c_.Car 0 1000)) || (!(aH c_.Wide 1 1000))) || (!(aH c_.Sag 1 10000)))),(30,.bool ((((!(aH c_.Car 0 1000)) || (!(aH c_.Wide 1 1000))) || (!(aH c_.Sag 1 10000))) || (!(aH c_.Most 0 10000000)))),(31,.bool ((((!(aH c_.Car 0 1000)) || (!(aH c_.Wide 1 1000))) || (!(aH c_.Sag 1 10000))) || (!(aH c_.Most 0 10000000)))),(36,.bool O)]) hc ?_ ?_
  ·cases hb:((((!(aH c_.Car 0 1000)) || (!(aH c_.Wide 1 1000))) || (!(aH c_.Sag 1 10000))) || (!(aH c_.Most 0 10000000)))
   ·rw [hb] at hf
    have hF:=jM hb J
    refine zP hf rfl (pFA jU rfl) fun a hf=>zL hf hc tI m0 rfl fun a w hf hc=>?_
    obtain ⟨r,hr,hF⟩:=aA hF
    refine zQ (v:=.bool r) hf hc aJ5 rfl (fun w hc=>sN c_.Rides I hc hr) fun a w hf hc=>sp 2 hf rfl fun a hf=>?_
    obtain rfl:=sj hF
    exact aP ⟨hf.kp rfl,hc⟩
   ·rw [hb] at hf
    have hF:=iL hb J
    obtain rfl:=sj hF
    refine stS hf rfl rfl rfl fun a hf=>stS hf rfl rfl rfl fun a hf=>stS hf rfl rfl rfl fun a hf=>stS hf rfl rfl rfl fun a hf=>sp 1 hf rfl fun a hf=>aP ⟨hf.kp rfl,hc⟩
  intro a w ⟨hf,hc⟩
  refine sp 1 hf rfl fun a hf=>zT h ?_
  refine zI hf rfl hF ?_ ?_ <;> clear hF <;> intro hF
  ·refine zS fun K h=>sp 1 hf rfl fun a hf=>zT h ?_
   refine wp_ret ?_
   refine bN ?_
   refine aN ?_
   obtain rfl:=sj hF
   replace hc:=hc.drop k0
   exact zO1 Tryz.results59 hf rfl ⟨rfl,hc⟩
  ·refine wp_skip ?_
   refine h2 _ _ ?_
   refine zS fun K h=>sp 1 hf rfl fun a hf=>zT h ?_
   refine wp_ret ?_
   obtain rfl:=sj hF
   replace hc:=hc.drop k0
   exact zO1 Tryz.results59 hf rfl ⟨rfl,hc⟩

def eN (r:aI) (n:Int):Bool :=
 ((decide (r.From≤n)) && (decide ((W (n - r.From)) < r.Long)))
theorem oY {G:aO} {Lf:List Ent} {w:World} (r:aI) (n:Int)   (hc:Ctx G (Lf) w) {B:Bool} (hF:eN r n=B):Calls Tryz.prog 70 #[.agg #[i6 r.From,i6 r.Long,i6 r.Weight.Lo,i6 r.Weight.Hi],i6 n] w (fun e w=>e=.returned (.bool B)∧Ctx G (Lf) w):=by
 unfold eN at hF
 refine bI Tryz.func70 rfl Tryz.ntmps70 rfl fun a hf=>zS fun K h=>zB hf hc rfl fun D a w hf hc=>sp 1 hf rfl fun a hf=>zT h ?_
 refine zS fun K h=>sp 1 hf rfl fun a hf=>zP hf rfl (pFA oG rfl) fun a hf=>zL hf hc bA m0 rfl fun a w hf hc=>sp 2 hf rfl fun a hf=>gX 8 (fun a=>Has 18 a [(1,i6 n),(2,pq D),(4,.bool false),(5,i6 n),(6,pq D),(7,i6 r.From),(8,.bool (decide (r.From≤n))),(9,.bool (decide (r.From≤n))),(17,.bool ((decide (r.From≤n)) && (decide ((W (n - r.From)) < r.Long))))]) hc ?_ ?_
 ·cases hb:(decide (r.From≤n))
  ·rw [hb] at hf
   refine stS hf rfl rfl rfl fun a hf=>stS hf rfl rfl rfl fun a hf=>stS hf rfl rfl rfl fun a hf=>stS hf rfl rfl rfl fun a hf=>stS hf rfl rfl rfl fun a hf=>stS hf rfl rfl rfl fun a hf=>stS hf rfl rfl rfl fun a hf=>sp 1 hf rfl fun a hf=>aP ⟨hf.kp rfl,hc⟩
  ·rw [hb] at hf
   refine sp 1 hf rfl fun a hf=>zP hf rfl (pFA oG rfl) fun a hf=>zL hf hc bA m0 rfl fun a w hf hc=>sp 1 hf rfl fun a hf=>zP hf rfl (pFA zJ rfl) fun a hf=>zL hf hc bA m0 rfl fun a w hf hc=>sp 2 hf rfl fun a hf=>aP ⟨hf.kp rfl,hc⟩
 intro a w ⟨hf,hc⟩
 refine sp 1 hf rfl fun a hf=>zT h ?_
 refine wp_ret ?_
 obtain rfl:=hF
 replace hc:=hc.drop k0
 exact zO1 Tryz.results70 hf rfl ⟨rfl,hc⟩

def yN (N:Nat) (l:List Int) (out:Int) (x:Int):Option (cK (Int × Int) (Int)) :=
 cond (decide (x < ((l.length:Nat):Int)))
 (Option.bind (bH l x) fun B=>
 some (.cont (W (out + B),W (x + 1))))
 (some (.brk (out,x)))
def wV (N:Nat) (l:List Int):Option (Int) :=
 Option.bind (bE (fun s5=>yN N l s5.1 s5.2) N (0,0)) fun x5=>
 exK x5 (fun s5=>some s5.1) some
theorem yR {N:Nat} {G:aO} {Lf:List Ent} {w:World} (l:List Int) {D:Option Addr} {H:Nat} (O:Rd G 1 D H (l.map aD)) (hc:Ctx G (Lf) w) {I:Int} (hF:wV N l=some I):Calls Tryz.prog 94 #[.slice D l.length H] w (fun e w=>e=.returned (i6 I)∧Ctx G (Lf) w):=by
 unfold wV at hF
 refine bI Tryz.func94 rfl Tryz.ntmps94 rfl fun a hf=>zS fun K h=>sp 1 hf rfl fun a hf=>zT h ?_
 refine zS fun K h=>sp 1 hf rfl fun a hf=>zT h ?_
 refine wp_seq_k fun K3 h3=>zS fun K h=>sp 1 hf rfl fun a hf=>zP hf rfl (bC Tryz.underlying30 rfl) fun a hf=>sp 1 hf rfl fun a hf=>zT h ?_
 refine wp_block ?_
 obtain ⟨x5,M,hF⟩:=aA hF
 let S5:(Int × Int)→Act→World→Prop:=(fun (zz:Int × Int) a w=>Has 17 a [(3,i6 zz.1),(6,.slice D l.length H),(7,i6 ((l.length:Nat):Int)),(8,i6 zz.2)]∧Ctx G (Lf) w)
 have U:∀ (zz:Int × Int) a w,x5=.go zz→S5 zz a w→K3 a w:=by
  rintro ⟨out,x⟩ a w rfl ⟨hf,hc⟩
  replace hF:=bP hF
  refine h3 _ _ ?_
  refine zS fun K h=>sp 2 hf rfl fun a hf=>zT h ?_
  refine wp_ret ?_
  obtain rfl:=sj hF
  exact zO1 Tryz.results94 hf rfl ⟨rfl,hc⟩
 have Y:∀ r,x5=.out r→r=I:=by
  rintro r rfl
  exact sj hF
 refine cR N (cL (S:=S5) (x:=x5) ?_ N (0,0) _ _ ⟨hf.kp rfl,hc⟩ M)
 clear hF hf hc
 rintro ⟨out,x⟩ X a w KB5 ⟨hf,hc⟩ hF B V
 unfold yN at hF
 refine zS fun K h=>sp 1 hf rfl fun a hf=>zT h ?_
 refine wp_seq_k fun K8 h8=>zI hf rfl hF ?_ ?_ <;> clear hF <;> intro hF
 ·refine wp_skip ?_
  refine h8 _ _ ?_
  refine wp_seq_k fun K9 h9=>wp_block ?_
  refine zS fun K h=>?_
  obtain ⟨R,J,hF⟩:=aA hF
  obtain ⟨Z,o,qa,qp⟩:=O.atm J
  refine zP hf rfl (pIA Tryz.underlying30 eL rfl rfl qa) fun a hf=>zE hf hc rfl (bT bA rfl (bL (j:=0) qp rfl)) fun a w hf hc=>sp 1 hf rfl fun a hf=>zT h ?_
  refine cJ ?_
  refine sp 4 hf rfl fun a hf=>aP ?_
  refine h9 _ _ ?_
  refine cJ ?_
  refine sp 2 hf rfl fun a hf=>aP ?_
  exact V (W (out + R),W (x + 1)) _ _ (sj hF).symm ⟨hf.kp rfl,hc⟩
 ·refine wp_exit ?_
  refine aW ?_
  refine aW ?_
  have he:=sj hF
  rw [← he] at B
  refine eV ?_
  exact U _ _ _ B ⟨hf.kp rfl,hc⟩

def kD (N:Nat) (x:Int) (B:List Int):Option (cK ((List Int) × Int) (Int)) :=
 some (.cont (B,W (x + 1)))
def qO (N:Nat) (c_:aM) (n:Int) (l:List Int) (x:Int):Option (cK ((List Int) × Int) (Int)) :=
 cond (decide (x < ((c_.Rides.length:Nat):Int)))
 (Option.bind (bH c_.Rides x) fun B=>
 cond (eN B n)
 (Option.bind (room ((l++[(cN B.Weight)])).length) fun un=>
 kD N x (l++[(cN B.Weight)]))
 (kD N x l))
 (some (.brk (l,x)))
def mG (N:Nat) (c_:aM) (n:Int):Option (Int) :=
 Option.bind (bE (fun s5=>qO N c_ n s5.1 s5.2) N (([c_.Car]:List Int),0)) fun x5=>
 exK x5 (fun s5=>Option.bind (wV N s5.1) fun r=>
 some r) some
theorem qV {N:Nat} {G:aO} {Lf:List Ent} {w:World} (c_:aM) (n:Int) {D:Option Addr} {B:Nat} (M:Rd G 4 D B (c_.Rides.map aK)) (hc:Ctx G (Lf) w) {Y:Int} (hF:mG N c_ n=some Y):Calls Tryz.prog 60 #[.agg #[i6 c_.Car,i6 c_.Wide,i6 c_.Sag,i6 c_.Most,.slice D c_.Rides.length B],i6 n,.agg #[.func (.func 91) #[] #[]]] w (fun e w=>e=.returned (i6 Y)∧Ctx G (Lf) w):=by
 unfold mG at hF
 refine bI Tryz.func60 rfl Tryz.ntmps60 rfl fun a hf=>zS fun K h=>zB hf hc rfl fun ab a w hf hc=>zB hf hc rfl fun X a w hf hc=>sp 1 hf rfl fun a hf=>zT h ?_
 refine zS fun K h=>zP hf rfl (pFA wL rfl) fun a hf=>zL hf hc bA m1 rfl fun a w hf hc=>jD (rows:=([c_.Car]:List Int).map aD) (vs:=[(0,i6 c_.Car)]) hf hc rfl rfl fN rfl ⟨rfl,rfl,rfl,trivial⟩ rfl rfl fun s a w hf hc=>sp 1 hf rfl fun a hf=>zT h ?_
 refine wp_seq_k fun K3 h3=>zS fun K h=>zP hf rfl (pFA jU rfl) fun a hf=>zL hf hc tI m2 rfl fun a w hf hc=>zP hf rfl (bC Tryz.underlying78 rfl) fun a hf=>sp 1 hf rfl fun a hf=>zT h ?_
 refine wp_block ?_
 obtain ⟨x5,i,hF⟩:=aA hF
 let S5:((List Int) × Int)→Act→World→Prop:=(fun (zz:(List Int) × Int) a w=>∃ (I:Option Addr) (J:Nat),Has 34 a [(1,i6 n),(5,pq X),(7,.slice I zz.1.length J),(14,.slice D c_.Rides.length B),(15,i6 ((c_.Rides.length:Nat):Int)),(16,i6 zz.2)]∧Ctx G (.row I J (zz.1.map aD) 3 1::.box X [.func (.func 91) #[] #[]] 115::Lf) w)
 have p:∀ (zz:(List Int) × Int) a w,x5=.go zz→S5 zz a w→K3 a w:=by
  rintro ⟨l,x⟩ a w rfl ⟨I,J,hf,hc⟩
  replace hF:=bP hF
  refine h3 _ _ ?_
  refine zS fun K h=>sp 1 hf rfl fun a hf=>?_
  obtain ⟨r,hr,hF⟩:=aA hF
  refine zQ (v:=i6 r) hf hc aJl rfl (fun w hc=>by obtain ⟨G1,u,g,hc,b⟩:=lend hc k0; exact (yR l g hc hr).mono fun e w h=>⟨h.1,((b _ _ h.2).unpick k0)⟩) fun a w hf hc=>sp 1 hf rfl fun a hf=>zT h ?_
  refine wp_ret ?_
  obtain rfl:=sj hF
  replace hc:=(hc.drop k1).drop k0
  exact zO1 Tryz.results60 hf rfl ⟨rfl,hc⟩
 have aa:∀ r,x5=.out r→r=Y:=by
  rintro r rfl
  exact sj hF
 replace hc:=hc.drop k2
 refine cR N (cL (S:=S5) (x:=x5) ?_ N (([c_.Car]:List Int),0) _ _ ⟨(some ⟨s,0,none⟩),1,hf.kp rfl,hc⟩ i)
 clear hF hf hc
 rintro ⟨l,x⟩ j a w KB5 ⟨I,J,hf,hc⟩ hF R q
 unfold qO at hF
 refine zS fun K h=>sp 1 hf rfl fun a hf=>zT h ?_
 refine wp_seq_k fun K8 h8=>zI hf rfl hF ?_ ?_ <;> clear hF <;> intro hF
 ·refine wp_skip ?_
  refine h8 _ _ ?_
  refine wp_seq_k fun K9 h9=>?_
  have Z:∀ (O:List Int) (U:Option Addr) (V:Nat) a w,Has 34 a [(1,i6 n),(5,pq X),(7,.slice U O.length V),(14,.slice D c_.Rides.length B),(15,i6 ((c_.Rides.length:Nat):Int)),(16,i6 x)]→Ctx G (.row U V (O.map aD) 3 1::.box X [.func (.func 91) #[] #[]] 115::Lf) w→kD N x O=some j→K9 a w:=by
   repeat (clear hF)
   repeat (clear hc)
   repeat (clear hf)
   intro O U V a w hf hc hF
   unfold kD at hF
   refine h9 _ _ ?_
   refine cJ ?_
   refine sp 2 hf rfl fun a hf=>aP ?_
   exact q (O,W (x + 1)) _ _ (sj hF).symm ⟨U,V,hf.kp rfl,hc⟩
  refine wp_block ?_
  refine zS fun K h=>?_
  obtain ⟨H,d,hF⟩:=aA hF
  obtain ⟨z,o,qa,qp⟩:=M.atm d
  refine zP hf rfl (pIA Tryz.underlying78 rD rfl rfl qa) fun a hf=>zE hf hc rfl (jN (vs:=[i6 H.From,i6 H.Long,i6 H.Weight.Lo,i6 H.Weight.Hi]) qI rfl rfl (eX qp (n:=4) (o':=0) rfl)) fun a w hf hc=>zA hf hc aDh rfl fun ac a w hf hc=>zW hf hc rD u0 rfl fun w hc=>zT h ?_
  refine zS fun K h=>zN hf hc qI m0 rfl fun a w hf hc=>sp 1 hf rfl fun a hf=>zQ (v:=.bool (eN H n)) hf hc aIg rfl (fun w hc=>oY H n hc rfl) fun a w hf hc=>zT h ?_
  refine zI hf rfl hF ?_ ?_ <;> clear hF <;> intro hF
  ·refine cJ ?_
   refine sp 1 hf rfl fun a hf=>zP hf rfl (pFA sM rfl) fun a hf=>zL hf hc yG m2 rfl fun a w hf hc=>zP hf rfl (pFA vA rfl) fun a hf=>zN hf hc qG m0 rfl fun a w hf hc=>zQ (v:=i6 (cN H.Weight)) hf hc aGz rfl (fun w hc=>rS H.Weight hc rfl) fun a w hf hc=>jD (rows:=([(cN H.Weight)]:List Int).map aD) (vs:=[(0,i6 (cN H.Weight))]) hf hc rfl rfl fN rfl ⟨rfl,rfl,rfl,trivial⟩ rfl rfl fun y a w hf hc=>?_
   obtain ⟨un,t,hF⟩:=aA hF
   refine kY (xs:=l) (ys:=([(cN H.Weight)]:List Int)) hf hc rfl rfl fN rfl rfl rfl rfl rfl bF (fG hc m0) (fun _ _=>u2) (by simpa using cP t) fun m k a w hf hc=>sp 1 hf rfl fun a hf=>aP ?_
   replace hc:=(hc.drop k1).drop k0
   exact Z (l++[(cN H.Weight)]) m k _ _  (hf.kp rfl) hc hF
  ·refine wp_skip ?_
   replace hc:=hc.drop k0
   exact Z l I J _ _  (hf.kp rfl) hc hF
 ·refine wp_exit ?_
  refine aW ?_
  refine aW ?_
  have he:=sj hF
  rw [← he] at R
  refine eV ?_
  exact p _ _ _ R ⟨I,J,hf.kp rfl,hc⟩

def hO (N:Nat) (x:Int) (B:List Int):Option (cK ((List Int) × Int) (Int)) :=
 some (.cont (B,W (x + 1)))
def nU (N:Nat) (c_:aM) (n:Int) (l:List Int) (x:Int):Option (cK ((List Int) × Int) (Int)) :=
 cond (decide (x < ((c_.Rides.length:Nat):Int)))
 (Option.bind (bH c_.Rides x) fun B=>
 cond (eN B n)
 (Option.bind (room ((l++[(cE B.Weight)])).length) fun un=>
 hO N x (l++[(cE B.Weight)]))
 (hO N x l))
 (some (.brk (l,x)))
def hH (N:Nat) (c_:aM) (n:Int):Option (Int) :=
 Option.bind (bE (fun s5=>nU N c_ n s5.1 s5.2) N (([c_.Car]:List Int),0)) fun x5=>
 exK x5 (fun s5=>Option.bind (wV N s5.1) fun r=>
 some r) some
theorem kS {N:Nat} {G:aO} {Lf:List Ent} {w:World} (c_:aM) (n:Int) {D:Option Addr} {B:Nat} (M:Rd G 4 D B (c_.Rides.map aK)) (hc:Ctx G (Lf) w) {Y:Int} (hF:hH N c_ n=some Y):Calls Tryz.prog 60 #[.agg #[i6 c_.Car,i6 c_.Wide,i6 c_.Sag,i6 c_.Most,.slice D c_.Rides.length B],i6 n,.agg #[.func (.func 92) #[] #[]]] w (fun e w=>e=.returned (i6 Y)∧Ctx G (Lf) w):=by
 unfold hH at hF
 refine bI Tryz.func60 rfl Tryz.ntmps60 rfl fun a hf=>zS fun K h=>zB hf hc rfl fun ab a w hf hc=>zB hf hc rfl fun X a w hf hc=>sp 1 hf rfl fun a hf=>zT h ?_
 refine zS fun K h=>zP hf rfl (pFA wL rfl) fun a hf=>zL hf hc bA m1 rfl fun a w hf hc=>jD (rows:=([c_.Car]:List Int).map aD) (vs:=[(0,i6 c_.Car)]) hf hc rfl rfl fN rfl ⟨rfl,rfl,rfl,trivial⟩ rfl rfl fun s a w hf hc=>sp 1 hf rfl fun a hf=>zT h ?_
 refine wp_seq_k fun K3 h3=>zS fun K h=>zP hf rfl (pFA jU rfl) fun a hf=>zL hf hc tI m2 rfl fun a w hf hc=>zP hf rfl (bC Tryz.underlying78 rfl) fun a hf=>sp 1 hf rfl fun a hf=>zT h ?_
 refine wp_block ?_
 obtain ⟨x5,i,hF⟩:=aA hF
 let S5:((List Int) × Int)→Act→World→Prop:=(fun (zz:(List Int) × Int) a w=>∃ (I:Option Addr) (J:Nat),Has 34 a [(1,i6 n),(5,pq X),(7,.slice I zz.1.length J),(14,.slice D c_.Rides.length B),(15,i6 ((c_.Rides.length:Nat):Int)),(16,i6 zz.2)]∧Ctx G (.row I J (zz.1.map aD) 3 1::.box X [.func (.func 92) #[] #[]] 115::Lf) w)
 have p:∀ (zz:(List Int) × Int) a w,x5=.go zz→S5 zz a w→K3 a w:=by
  rintro ⟨l,x⟩ a w rfl ⟨I,J,hf,hc⟩
  replace hF:=bP hF
  refine h3 _ _ ?_
  refine zS fun K h=>sp 1 hf rfl fun a hf=>?_
  obtain ⟨r,hr,hF⟩:=aA hF
  refine zQ (v:=i6 r) hf hc aJl rfl (fun w hc=>by obtain ⟨G1,u,g,hc,b⟩:=lend hc k0; exact (yR l g hc hr).mono fun e w h=>⟨h.1,((b _ _ h.2).unpick k0)⟩) fun a w hf hc=>sp 1 hf rfl fun a hf=>zT h ?_
  refine wp_ret ?_
  obtain rfl:=sj hF
  replace hc:=(hc.drop k1).drop k0
  exact zO1 Tryz.results60 hf rfl ⟨rfl,hc⟩
 have aa:∀ r,x5=.out r→r=Y:=by
  rintro r rfl
  exact sj hF
 replace hc:=hc.drop k2
 refine cR N (cL (S:=S5) (x:=x5) ?_ N (([c_.Car]:List Int),0) _ _ ⟨(some ⟨s,0,none⟩),1,hf.kp rfl,hc⟩ i)
 clear hF hf hc
 rintro ⟨l,x⟩ j a w KB5 ⟨I,J,hf,hc⟩ hF R q
 unfold nU at hF
 refine zS fun K h=>sp 1 hf rfl fun a hf=>zT h ?_
 refine wp_seq_k fun K8 h8=>zI hf rfl hF ?_ ?_ <;> clear hF <;> intro hF
 ·refine wp_skip ?_
  refine h8 _ _ ?_
  refine wp_seq_k fun K9 h9=>?_
  have Z:∀ (O:List Int) (U:Option Addr) (V:Nat) a w,Has 34 a [(1,i6 n),(5,pq X),(7,.slice U O.length V),(14,.slice D c_.Rides.length B),(15,i6 ((c_.Rides.length:Nat):Int)),(16,i6 x)]→Ctx G (.row U V (O.map aD) 3 1::.box X [.func (.func 92) #[] #[]] 115::Lf) w→hO N x O=some j→K9 a w:=by
   repeat (clear hF)
   repeat (clear hc)
   repeat (clear hf)
   intro O U V a w hf hc hF
   unfold hO at hF
   refine h9 _ _ ?_
   refine cJ ?_
   refine sp 2 hf rfl fun a hf=>aP ?_
   exact q (O,W (x + 1)) _ _ (sj hF).symm ⟨U,V,hf.kp rfl,hc⟩
  refine wp_block ?_
  refine zS fun K h=>?_
  obtain ⟨H,d,hF⟩:=aA hF
  obtain ⟨z,o,qa,qp⟩:=M.atm d
  refine zP hf rfl (pIA Tryz.underlying78 rD rfl rfl qa) fun a hf=>zE hf hc rfl (jN (vs:=[i6 H.From,i6 H.Long,i6 H.Weight.Lo,i6 H.Weight.Hi]) qI rfl rfl (eX qp (n:=4) (o':=0) rfl)) fun a w hf hc=>zA hf hc aDh rfl fun ac a w hf hc=>zW hf hc rD u0 rfl fun w hc=>zT h ?_
  refine zS fun K h=>zN hf hc qI m0 rfl fun a w hf hc=>sp 1 hf rfl fun a hf=>zQ (v:=.bool (eN H n)) hf hc aIg rfl (fun w hc=>oY H n hc rfl) fun a w hf hc=>zT h ?_
  refine zI hf rfl hF ?_ ?_ <;> clear hF <;> intro hF
  ·refine cJ ?_
   refine sp 1 hf rfl fun a hf=>zP hf rfl (pFA sM rfl) fun a hf=>zL hf hc yG m2 rfl fun a w hf hc=>zP hf rfl (pFA vA rfl) fun a hf=>zN hf hc qG m0 rfl fun a w hf hc=>zQ (v:=i6 (cE H.Weight)) hf hc aHf rfl (fun w hc=>qQ H.Weight hc rfl) fun a w hf hc=>jD (rows:=([(cE H.Weight)]:List Int).map aD) (vs:=[(0,i6 (cE H.Weight))]) hf hc rfl rfl fN rfl ⟨rfl,rfl,rfl,trivial⟩ rfl rfl fun y a w hf hc=>?_
   obtain ⟨un,t,hF⟩:=aA hF
   refine kY (xs:=l) (ys:=([(cE H.Weight)]:List Int)) hf hc rfl rfl fN rfl rfl rfl rfl rfl bF (fG hc m0) (fun _ _=>u2) (by simpa using cP t) fun m k a w hf hc=>sp 1 hf rfl fun a hf=>aP ?_
   replace hc:=(hc.drop k1).drop k0
   exact Z (l++[(cE H.Weight)]) m k _ _  (hf.kp rfl) hc hF
  ·refine wp_skip ?_
   replace hc:=hc.drop k0
   exact Z l I J _ _  (hf.kp rfl) hc hF
 ·refine wp_exit ?_
  refine aW ?_
  refine aW ?_
  have he:=sj hF
  rw [← he] at R
  refine eV ?_
  exact p _ _ _ R ⟨I,J,hf.kp rfl,hc⟩

def yJ (N:Nat) (c_:aM) (n:Int):Option (aS × Int) :=
 Option.bind (iF N c_) fun r=>
 cond (r != 0)
 (some ((⟨0,0⟩:aS),r))
 (cond (!(aH n 0 200000))
 (some ((⟨0,0⟩:aS),4))
 (Option.bind (mG N c_ n) fun B=>
 Option.bind (hH N c_ n) fun D=>
 some ((⟨B,D⟩:aS),0)))
theorem aCd {N:Nat} {G:aO} {Lf:List Ent} {w:World} (c_:aM) (n:Int) {D:Option Addr} {B:Nat} (H:Rd G 4 D B (c_.Rides.map aK)) (hc:Ctx G (Lf) w) {O:aS × Int} (hF:yJ N c_ n=some O):Calls Tryz.prog 31 #[.agg #[i6 c_.Car,i6 c_.Wide,i6 c_.Sag,i6 c_.Most,.slice D c_.Rides.length B],i6 n] w (fun e w=>e=.returned (.tuple #[.agg #[i6 O.1.Lo,i6 O.1.Hi],i6 O.2])∧Ctx G (Lf) w):=by
 unfold yJ at hF
 refine bI Tryz.func31 rfl Tryz.ntmps31 rfl fun a hf=>zS fun K h=>zB hf hc rfl fun R a w hf hc=>zA hf hc aHm rfl fun M a w hf hc=>sp 1 hf rfl fun a hf=>zT h ?_
 refine zS fun K h=>zN hf hc mW m1 rfl fun a w hf hc=>?_
 obtain ⟨r,hr,hF⟩:=aA hF
 refine zQ (v:=i6 r) hf hc aH3 rfl (fun w hc=>mM c_ H hc hr) fun a w hf hc=>sp 1 hf rfl fun a hf=>zT h ?_
 refine wp_seq_k fun K3 h3=>wp_block ?_
 refine zS fun K h=>sp 3 hf rfl fun a hf=>zT h ?_
 refine zI hf rfl hF ?_ ?_ <;> clear hF <;> intro hF
 ·refine zS fun K h=>zP hf rfl (cF (cells:=[i6 0,i6 0]) aAf rfl rfl) fun a hf=>sp 1 hf rfl fun a hf=>zW hf hc wD u0 rfl fun w hc=>sp 1 hf rfl fun a hf=>zT h ?_
  refine wp_ret ?_
  refine bN ?_
  refine aN ?_
  obtain rfl:=sj hF
  replace hc:=hc.drop k1
  exact aD6 (by simp) rfl Tryz.results31 hf hc (fK (vs:=[i6 0,i6 0]) qG rfl rfl (bM (n:=2) m0 rfl)) (show gY _ 5=_ from rfl) ⟨rfl,(hc.drop k0)⟩
 ·refine zS fun K h=>sp 1 hf rfl fun a hf=>zQ (v:=.bool (aH n 0 200000)) hf hc lJ rfl (fun w hc=>cG n 0 200000 hc rfl) fun a w hf hc=>sp 2 hf rfl fun a hf=>zT h ?_
  refine zI hf rfl hF ?_ ?_ <;> clear hF <;> intro hF
  ·refine zS fun K h=>zP hf rfl (cF (cells:=[i6 0,i6 0]) aAf rfl rfl) fun a hf=>zW hf hc wD u0 rfl fun w hc=>sp 1 hf rfl fun a hf=>zT h ?_
   refine wp_ret ?_
   refine bN ?_
   refine aN ?_
   obtain rfl:=sj hF
   replace hc:=hc.drop k1
   exact aD6 (by simp) rfl Tryz.results31 hf hc (fK (vs:=[i6 0,i6 0]) qG rfl rfl (bM (n:=2) m0 rfl)) (show gY _ 5=_ from rfl) ⟨rfl,(hc.drop k0)⟩
  ·refine wp_skip ?_
   refine h3 _ _ ?_
   refine wp_seq_k fun K8 h8=>?_
   obtain ⟨I,U,hF⟩:=aA hF
   obtain ⟨J,V,hF⟩:=aA hF
   refine gK (fun θ=>[⟨none,none,1,i6 n⟩,⟨none,none,2,pq R⟩,⟨none,none,4,pq M⟩,⟨none,some 10,5,i6 0⟩,⟨some 0,none,19,.agg #[i6 c_.Car,i6 c_.Wide,i6 c_.Sag,i6 c_.Most,.slice D c_.Rides.length B]⟩,⟨some 1,none,20,i6 n⟩,⟨some 2,none,21,.agg #[.func (.func 91) #[] #[]]⟩,⟨some 3,none,22,i6 I⟩,⟨some 4,none,23,.agg #[i6 c_.Car,i6 c_.Wide,i6 c_.Sag,i6 c_.Most,.slice D c_.Rides.length B]⟩,⟨some 5,none,24,i6 n⟩,⟨some 6,none,25,.agg #[.func (.func 92) #[] #[]]⟩,⟨some 7,none,26,i6 J⟩,⟨some 8,none,27,.agg #[i6 I,i6 J]⟩,⟨some 10,none,5,i6 0⟩]) (fun E θ=>(bif E 9 then .box M [i6 I,i6 J] 73 else .box M [i6 0,i6 0] 73)::.box R [i6 c_.Car,i6 c_.Wide,i6 c_.Sag,i6 c_.Most,.slice D c_.Rides.length B] 80::Lf) [] (fun a w=>Has 28 a [(4,pq M),(5,i6 0)]∧Ctx G (.box M [i6 I,i6 J] 73::.box R [i6 c_.Car,i6 c_.Wide,i6 c_.Sag,i6 c_.Most,.slice D c_.Rides.length B] 80::Lf) w) aU (by kernel_rfl) (by kernel_rfl) (fB.of hf ⟨rfl,rfl,rfl,rfl,trivial,trivial,trivial,trivial,trivial,trivial,trivial,trivial,trivial,trivial,trivial⟩) hc ⟨?_,?_,?_,?_,?_,?_,?_,?_,?_,?_,?_,trivial⟩ ?_ ?_
   ·intro E θ a w hD hi hp he hc
    have hf:=he.h0.mT he 1 rfl
    refine zN hf hc mW m1 rfl fun a w hf hc=>zD θ he hi hf 4 rfl rfl rfl hc
   ·intro E θ a w hD hi hp he hc
    have hf:=he.h0.mT he 0 rfl
    refine sp 1 hf rfl fun a hf=>zD θ he hi hf 5 rfl rfl rfl hc
   ·intro E θ a w hD hi hp he hc
    have hf:=he.h0
    refine zQ (v:=.agg #[.func (.func 91) #[] #[]]) hf hc aHi rfl (fun w hc=>uM hc rfl) fun a w hf hc=>zD θ he hi hf 6 rfl rfl rfl hc
   ·intro E θ a w hD hi hp he hc
    have e0:=hp.o 0 rfl
    have e1:=hp.o 1 rfl
    have e2:=hp.o 2 rfl
    have hf:=((he.h0.mP he 4 rfl e0).mP he 5 rfl e1).mP he 6 rfl e2
    refine zQ (v:=i6 I) hf hc aDu rfl (fun w hc=>qV c_ n H hc U) fun a w hf hc=>zD θ he hi hf 7 rfl rfl rfl hc
   ·intro E θ a w hD hi hp he hc
    have hf:=he.h0.mT he 1 rfl
    refine zN hf hc mW m1 rfl fun a w hf hc=>zD θ he hi hf 8 rfl rfl rfl hc
   ·intro E θ a w hD hi hp he hc
    have hf:=he.h0.mT he 0 rfl
    refine sp 1 hf rfl fun a hf=>zD θ he hi hf 9 rfl rfl rfl hc
   ·intro E θ a w hD hi hp he hc
    have hf:=he.h0
    refine zQ (v:=.agg #[.func (.func 92) #[] #[]]) hf hc aFh rfl (fun w hc=>pK hc rfl) fun a w hf hc=>zD θ he hi hf 10 rfl rfl rfl hc
   ·intro E θ a w hD hi hp he hc
    have e4:=hp.o 4 rfl
    have e5:=hp.o 5 rfl
    have e6:=hp.o 6 rfl
    have hf:=((he.h0.mP he 8 rfl e4).mP he 9 rfl e5).mP he 10 rfl e6
    refine zQ (v:=i6 J) hf hc aDu rfl (fun w hc=>kS c_ n H hc V) fun a w hf hc=>zD θ he hi hf 11 rfl rfl rfl hc
   ·intro E θ a w hD hi hp he hc
    have e3:=hp.o 3 rfl
    have e7:=hp.o 7 rfl
    have hf:=(he.h0.mP he 7 rfl e3).mP he 11 rfl e7
    refine zP hf rfl (cF (cells:=[i6 I,i6 J]) aAf rfl rfl) fun a hf=>zD θ he hi hf 12 rfl rfl rfl hc
   ·intro E θ a w hD hi hp he hc
    have e8:=hp.o 8 rfl
    try dsimp only at hc
    rw [hi] at hc
    have hf:=(he.h0.mT he 2 rfl).mP he 12 rfl e8
    refine zW hf hc wD u0 rfl fun w hc=>zG θ he hi hf rfl ?_
    try dsimp only
    rw [aR E 9]
    exact hc
   ·intro E θ a w hD hi hp he hc
    have hf:=he.h0
    refine sp 1 hf rfl fun a hf=>zD θ he hi hf 13 rfl rfl rfl hc
   ·intro E θ a w S he hc
    have hf:=he.h0
    have e9:=S 9 rfl
    have X:=S 10 rfl
    replace hf:=hf.more he 13 rfl (onP X)
    replace hf:=hf.more he 2 rfl (onT)
    try dsimp only at hc
    rw [e9] at hc
    exact ⟨hf.kp rfl,hc⟩
   rintro a w ⟨hf,hc⟩
   refine h8 _ _ ?_
   refine wp_ret ?_
   obtain rfl:=sj hF
   replace hc:=hc.drop k1
   exact aD6 (by simp) rfl Tryz.results31 hf hc (fK (vs:=[i6 I,i6 J]) qG rfl rfl (bM (n:=2) m0 rfl)) (show gY _ 5=_ from rfl) ⟨rfl,(hc.drop k0)⟩

def hQ (N:Nat) (s_:List Int):Option ((List Int)) :=
 Option.bind (room (s_).length) fun un=>
 some s_
theorem rR {N:Nat} {G:aO} {Lf:List Ent} {w:World} (s_:List Int) {D:Option Addr} {I:Nat} (H:Rd G 1 D I (s_.map aD)) (hc:Ctx G (Lf) w) {B:(List Int)} (hF:hQ N s_=some B):Calls Tryz.prog 95 #[.slice D s_.length I] w (fun e w=>∃ (M:Option Addr) (J:Nat),e=.returned (.slice M B.length J)∧Ctx G (.row M J (B.map aD) 3 1::Lf) w):=by
 unfold hQ at hF
 refine bI Tryz.func95 rfl Tryz.ntmps95 rfl fun a hf=>zS fun K h=>sp 1 hf rfl fun a hf=>zT h ?_
 refine wp_seq_k fun K2 h2=>zS fun K h=>sp 1 hf rfl fun a hf=>zP hf rfl (pEqN Tryz.underlying30 rfl rfl) fun a hf=>zT h ?_
 rcases aFd H with ⟨hp,hx⟩ | hp
 ·rw [hp] at hf
  replace hF:(some ([]:List Int))=some B:=by
   try rw [hx] at hF
   exact hF
  refine aEm hf rfl ?_
  refine zS fun K h=>sp 1 hf rfl fun a hf=>zT h ?_
  refine wp_ret ?_
  refine aN ?_
  obtain rfl:=sj hF
  replace hc:=hc.nilRow 3 1
  exact zO1 Tryz.results95 hf rfl ⟨none,0,rfl,hc⟩
 ·rw [hp] at hf
  refine aEg hf rfl ?_
  refine wp_skip ?_
  refine h2 _ _ ?_
  refine zS fun K h=>jD (rows:=([]:List Int).map aD) (vs:=[]) hf hc rfl rfl fN rfl trivial rfl rfl fun U a w hf hc=>sp 1 hf rfl fun a hf=>?_
  obtain ⟨un,S,hF⟩:=aA hF
  refine kY (xs:=([]:List Int)) (ys:=s_) hf hc rfl rfl fN rfl rfl rfl rfl rfl bF (aCl hc H) (fun _ _=>u0) (by simpa using cP S) fun R O a w hf hc=>sp 1 hf rfl fun a hf=>zT h ?_
  refine wp_ret ?_
  obtain rfl:=sj hF
  exact zO1 Tryz.results95 hf rfl ⟨R,O,rfl,hc⟩

def iM (N:Nat) (x:List Int):Option ((List Int)) :=
 aDl x
/-! ### Walks of the library -/

theorem sC {N:Nat} {G:aO} {Lf:List Ent} {w:World} (x:List Int) {D:Option Addr} {B:Nat}  (hc:Ctx G (.row D B (x.map aD) 3 1::Lf) w) {H:(List Int)} (hF:iM N x=some H):Calls Tryz.prog 96 #[.slice D x.length B] w (fun e w=>e=.returned (.tuple #[])∧H.length=x.length∧Ctx G (.row D B (H.map aD) 3 1::Lf) w):=by
 unfold iM at hF
 exact aIt (fun w=>aIi Go.Proofs.Tryz.lays189 w) (fun b o c zs w h1 h2 h3=>Go.Proofs.Any.slices_Sort_int Go.Proofs.Tryz.lays189 b o c zs w h1 h2 h3) hc hF

def jO (N:Nat) (s_:List Int):Option ((List Int)) :=
 aKc s_
/-! ### Walks of the library -/

theorem qF {N:Nat} {G:aO} {Lf:List Ent} {w:World} (s_:List Int) {B:Option Addr} {H:Nat}  (hc:Ctx G (.row B H (s_.map aD) 3 1::Lf) w) {D:(List Int)} (hF:jO N s_=some D):Calls Tryz.prog 97 #[.slice B s_.length H] w (fun e w=>∃ (J:Option Addr) (I:Nat),e=.returned (.slice J D.length I)∧Ctx G (.row J I (D.map aD) 3 1::Lf) w):=by
 unfold jO at hF
 exact aC5 (fun a c w=>Go.Proofs.Any.slices_Compact_int_empty Go.Proofs.Tryz.lays20 a c w) (fun b o c zs w h1 h2 h3=>Go.Proofs.Any.slices_Compact_int Go.Proofs.Tryz.lays20 b o c zs w h1 h2 h3) hc hF

def lL (N:Nat) (c_:aM) (out:List Int) (x:Int):Option (cK ((List Int) × Int) ((List Int))) :=
 cond (decide (x < ((c_.Rides.length:Nat):Int)))
 (Option.bind (bH c_.Rides x) fun B=>
 Option.bind (room ((out++[B.From])).length) fun un=>
 some (.cont ((out++[B.From]),W (x + 1))))
 (some (.brk (out,x)))
def iJ (N:Nat) (c_:aM):Option ((List Int)) :=
 Option.bind (bE (fun s5=>lL N c_ s5.1 s5.2) N (([0]:List Int),0)) fun x5=>
 exK x5 (fun s5=>Option.bind (hQ N s5.1) fun r=>
 Option.bind (iM N r) fun B=>
 Option.bind (jO N B) fun D=>
 some D) some
theorem uH {N:Nat} {G:aO} {Lf:List Ent} {w:World} (c_:aM) {D:Option Addr} {B:Nat} (I:Rd G 4 D B (c_.Rides.map aK)) (hc:Ctx G (Lf) w) {R:(List Int)} (hF:iJ N c_=some R):Calls Tryz.prog 61 #[.agg #[i6 c_.Car,i6 c_.Wide,i6 c_.Sag,i6 c_.Most,.slice D c_.Rides.length B]] w (fun e w=>∃ (V:Option Addr) (U:Nat),e=.returned (.slice V R.length U)∧Ctx G (.row V U (R.map aD) 3 1::Lf) w):=by
 unfold iJ at hF
 refine bI Tryz.func61 rfl Tryz.ntmps61 rfl fun a hf=>zS fun K h=>zB hf hc rfl fun ag a w hf hc=>sp 1 hf rfl fun a hf=>zT h ?_
 refine zS fun K h=>jD (rows:=([0]:List Int).map aD) (vs:=[(0,i6 0)]) hf hc rfl rfl fN rfl ⟨rfl,rfl,rfl,trivial⟩ rfl rfl fun s a w hf hc=>sp 1 hf rfl fun a hf=>zT h ?_
 refine wp_seq_k fun K3 h3=>zS fun K h=>zP hf rfl (pFA jU rfl) fun a hf=>zL hf hc tI m1 rfl fun a w hf hc=>zP hf rfl (bC Tryz.underlying78 rfl) fun a hf=>sp 1 hf rfl fun a hf=>zT h ?_
 refine wp_block ?_
 obtain ⟨x5,g,hF⟩:=aA hF
 let S5:((List Int) × Int)→Act→World→Prop:=(fun (zz:(List Int) × Int) a w=>∃ (J:Option Addr) (M:Nat),Has 27 a [(3,.slice J zz.1.length M),(9,.slice D c_.Rides.length B),(10,i6 ((c_.Rides.length:Nat):Int)),(11,i6 zz.2)]∧Ctx G (.row J M (zz.1.map aD) 3 1::Lf) w)
 have p:∀ (zz:(List Int) × Int) a w,x5=.go zz→S5 zz a w→K3 a w:=by
  rintro ⟨out,x⟩ a w rfl ⟨J,M,hf,hc⟩
  replace hF:=bP hF
  refine h3 _ _ ?_
  refine zS fun K h=>sp 1 hf rfl fun a hf=>?_
  obtain ⟨r,hr,hF⟩:=aA hF
  obtain ⟨G1,z,d,hc,X⟩:=lend hc k0
  refine zC hf en_95 rfl (rR out d hc hr) ?_
  rintro _ w ⟨aa,ab,rfl,hc⟩
  refine ⟨_,rfl,fun a hf=>?_⟩
  replace hc:=X _ _ hc
  refine sp 1 hf rfl fun a hf=>zT h ?_
  refine zS fun K h=>sp 1 hf rfl fun a hf=>?_
  obtain ⟨y,Y,hF⟩:=aA hF
  refine zC hf en_96 rfl (sC r (hc.pick k1) Y) ?_
  rintro _ w ⟨rfl,hl,hc⟩
  refine ⟨_,rfl,fun a hf=>?_⟩
  try rw [← hl] at hf
  try rw [← hl] at hc
  refine zT h ?_
  refine zS fun K h=>sp 1 hf rfl fun a hf=>?_
  obtain ⟨ak,Z,hF⟩:=aA hF
  refine zC hf en_97 rfl (qF y (hc.pick k0) Z) ?_
  rintro _ w ⟨k,j,rfl,hc⟩
  refine ⟨_,rfl,fun a hf=>?_⟩
  refine sp 1 hf rfl fun a hf=>zT h ?_
  refine wp_ret ?_
  obtain rfl:=sj hF
  replace hc:=hc.drop k1
  exact zO1 Tryz.results61 hf rfl ⟨k,j,rfl,hc⟩
 have af:∀ r,x5=.out r→r=R:=by
  rintro r rfl
  exact sj hF
 replace hc:=hc.drop k1
 refine cR N (cL (S:=S5) (x:=x5) ?_ N (([0]:List Int),0) _ _ ⟨(some ⟨s,0,none⟩),1,hf.kp rfl,hc⟩ g)
 clear hF hf hc
 rintro ⟨out,x⟩ ad a w KB5 ⟨J,M,hf,hc⟩ hF O q
 unfold lL at hF
 refine zS fun K h=>sp 1 hf rfl fun a hf=>zT h ?_
 refine wp_seq_k fun K10 u=>zI hf rfl hF ?_ ?_ <;> clear hF <;> intro hF
 ·refine wp_skip ?_
  refine u _ _ ?_
  refine wp_seq_k fun K11 i=>wp_block ?_
  refine zS fun K h=>?_
  obtain ⟨H,b,hF⟩:=aA hF
  obtain ⟨aj,o,qa,qp⟩:=I.atm b
  refine zP hf rfl (pIA Tryz.underlying78 rD rfl rfl qa) fun a hf=>zE hf hc rfl (jN (vs:=[i6 H.From,i6 H.Long,i6 H.Weight.Lo,i6 H.Weight.Hi]) qI rfl rfl (eX qp (n:=4) (o':=0) rfl)) fun a w hf hc=>zA hf hc aDh rfl fun ac a w hf hc=>zW hf hc rD u0 rfl fun w hc=>zT h ?_
  refine cJ ?_
  refine sp 1 hf rfl fun a hf=>zP hf rfl (pFA oG rfl) fun a hf=>zL hf hc bA m0 rfl fun a w hf hc=>jD (rows:=([H.From]:List Int).map aD) (vs:=[(0,i6 H.From)]) hf hc rfl rfl fN rfl ⟨rfl,rfl,rfl,trivial⟩ rfl rfl fun ai a w hf hc=>?_
  obtain ⟨un,m,hF⟩:=aA hF
  refine kY (xs:=out) (ys:=([H.From]:List Int)) hf hc rfl rfl fN rfl rfl rfl rfl rfl bF (fG hc m0) (fun _ _=>u2) (by simpa using cP m) fun v t a w hf hc=>sp 1 hf rfl fun a hf=>aP ?_
  refine i _ _ ?_
  refine cJ ?_
  refine sp 2 hf rfl fun a hf=>aP ?_
  replace hc:=(hc.drop k1).drop k0
  exact q ((out++[H.From]),W (x + 1)) _ _ (sj hF).symm ⟨v,t,hf.kp rfl,hc⟩
 ·refine wp_exit ?_
  refine aW ?_
  refine aW ?_
  have he:=sj hF
  rw [← he] at O
  refine eV ?_
  exact p _ _ _ O ⟨J,M,hf.kp rfl,hc⟩

def bO (c_:aM) (B:Int):Bool :=
 (decide ((W (c_.Most * c_.Sag)) < (W ((W (B * c_.Wide)) * 25))))
theorem gG {G:aO} {Lf:List Ent} {w:World} (c_:aM) (H:Int) {D:Option Addr} {B:Nat} (I:Rd G 4 D B (c_.Rides.map aK)) (hc:Ctx G (Lf) w) {J:Bool} (hF:bO c_ H=J):Calls Tryz.prog 65 #[.agg #[i6 c_.Car,i6 c_.Wide,i6 c_.Sag,i6 c_.Most,.slice D c_.Rides.length B],i6 H] w (fun e w=>e=.returned (.bool J)∧Ctx G (Lf) w):=by
 unfold bO at hF
 refine bI Tryz.func65 rfl Tryz.ntmps65 rfl fun a hf=>zS fun K h=>zB hf hc rfl fun M a w hf hc=>sp 1 hf rfl fun a hf=>zT h ?_
 refine zS fun K h=>sp 1 hf rfl fun a hf=>zP hf rfl (pFA aEw rfl) fun a hf=>zL hf hc bA m0 rfl fun a w hf hc=>sp 2 hf rfl fun a hf=>zP hf rfl (pFA aEq rfl) fun a hf=>zL hf hc bA m0 rfl fun a w hf hc=>zP hf rfl (pFA aFo rfl) fun a hf=>zL hf hc bA m0 rfl fun a w hf hc=>sp 3 hf rfl fun a hf=>zT h ?_
 refine wp_ret ?_
 obtain rfl:=hF
 replace hc:=hc.drop k0
 exact zO1 Tryz.results65 hf rfl ⟨rfl,hc⟩

def oT (N:Nat) (n:Int) (x:aM):Option (Bool) :=
 Option.bind (hH N (⟨x.Car,x.Wide,x.Sag,x.Most,x.Rides⟩:aM) n) fun r=>
 some (bO (⟨x.Car,x.Wide,x.Sag,x.Most,x.Rides⟩:aM) r)
theorem vY {N:Nat} {G:aO} {Lf:List Ent} {w:World} (n:Int) (x:aM) {b_:Nat} {D:Option Addr} {B:Nat} {I:Nat} (H:Rd G 4 D B (x.Rides.map aK)) (hc:Ctx G (.box b_ [i6 x.Car,i6 x.Wide,i6 x.Sag,i6 x.Most,.slice D x.Rides.length B] 80::.box I [.func (.func 92) #[] #[]] 115::Lf) w) {J:Bool} (hF:oT N n x=some J):Calls Tryz.prog 64 #[i6 n,pq b_,pq I] w (fun e w=>e=.returned (.bool J)∧Ctx G (.box b_ [i6 x.Car,i6 x.Wide,i6 x.Sag,i6 x.Most,.slice D x.Rides.length B] 80::.box I [.func (.func 92) #[] #[]] 115::Lf) w):=by
 unfold oT at hF
 refine bI Tryz.func64 rfl Tryz.ntmps64 rfl fun a hf=>zS fun K h=>sp 1 hf rfl fun a hf=>zT h ?_
 refine wp_seq_k fun K2 h2=>?_
 obtain ⟨r,hr,hF⟩:=aA hF
 refine cQ hc aU (by kernel_rfl) ?_
 refine qE hf rfl rfl rfl (jN (vs:=[i6 x.Car,i6 x.Wide,i6 x.Sag,i6 x.Most,.slice D x.Rides.length B]) mW rfl rfl (bM (n:=5) m0 rfl)) fun a hf=>qE hf rfl rfl rfl (jN (vs:=[i6 x.Car,i6 x.Wide,i6 x.Sag,i6 x.Most,.slice D x.Rides.length B]) mW rfl rfl (bM (n:=5) m0 rfl)) fun a hf=>qE hf rfl rfl rfl (Pu.ev (pM rfl)) fun a hf=>qE hf rfl rfl rfl (jN (vs:=[.func (.func 92) #[] #[]]) aB7 rfl rfl (bM (n:=1) m1 rfl)) fun a hf=>qE hf rfl rfl rfl (eC (v:=i6 r) (vs:=[.agg #[i6 x.Car,i6 x.Wide,i6 x.Sag,i6 x.Most,.slice D x.Rides.length B],i6 n,.agg #[.func (.func 92) #[] #[]]]) (caps:=[]) aDu rfl rfl rfl rfl (fun w hc=>kS (⟨x.Car,x.Wide,x.Sag,x.Most,x.Rides⟩:aM) n H hc hr)) fun a hf=>qE hf rfl rfl rfl (eC (v:=.bool (bO (⟨x.Car,x.Wide,x.Sag,x.Most,x.Rides⟩:aM) r)) (vs:=[.agg #[i6 x.Car,i6 x.Wide,i6 x.Sag,i6 x.Most,.slice D x.Rides.length B],i6 r]) (caps:=[]) aC9 rfl rfl rfl rfl (fun w hc=>gG (⟨x.Car,x.Wide,x.Sag,x.Most,x.Rides⟩:aM) r H hc rfl)) fun a hf=>qE hf rfl rfl rfl (Pu.ev (pA rfl)) fun a hf=>?_
 intro w hc
 refine h2 _ _ ?_
 refine wp_ret ?_
 obtain rfl:=sj hF
 exact zO1 Tryz.results64 hf rfl ⟨rfl,hc⟩

def iV (N:Nat) (s_:List Int) (f_:aM) (x:Int):Option (cK (Int) (Int)) :=
 cond (decide (x < ((s_.length:Nat):Int)))
 (Option.bind (bH s_ x) fun B=>
 Option.bind (oT N B f_) fun r=>
 cond r
 (some (.ret x))
 (some (.cont (W (x + 1)))))
 (some (.brk x))
def gP (N:Nat) (s_:List Int) (f_:aM):Option (Int) :=
 Option.bind (bE (fun s4=>iV N s_ f_ s4) N 0) fun x4=>
 exK x4 (fun s4=>some (-1)) some
theorem nO {N:Nat} {G:aO} {Lf:List Ent} {w:World} (s_:List Int) (f_:aM) {M:Option Addr} {O:Nat} {b_:Nat} {B:Option Addr} {D:Nat} {I:Nat} (V:Rd G 1 M O (s_.map aD)) (J:Rd G 4 B D (f_.Rides.map aK)) (hc:Ctx G (.box b_ [i6 f_.Car,i6 f_.Wide,i6 f_.Sag,i6 f_.Most,.slice B f_.Rides.length D] 80::.box I [.func (.func 92) #[] #[]] 115::Lf) w) {R:Int} (hF:gP N s_ f_=some R):Calls Tryz.prog 63 #[.slice M s_.length O,.func (.func 64) #[] #[pq b_,pq I]] w (fun e w=>e=.returned (i6 R)∧Ctx G (.box b_ [i6 f_.Car,i6 f_.Wide,i6 f_.Sag,i6 f_.Most,.slice B f_.Rides.length D] 80::.box I [.func (.func 92) #[] #[]] 115::Lf) w):=by
 unfold gP at hF
 refine bI Tryz.func63 rfl Tryz.ntmps63 rfl fun a hf=>zS fun K h=>sp 1 hf rfl fun a hf=>zT h ?_
 refine wp_seq_k fun K2 h2=>zS fun K h=>sp 1 hf rfl fun a hf=>zP hf rfl (bC Tryz.underlying30 rfl) fun a hf=>sp 1 hf rfl fun a hf=>zT h ?_
 refine wp_block ?_
 obtain ⟨x4,Y,hF⟩:=aA hF
 let S4:Int→Act→World→Prop:=(fun (zz:Int) a w=>Has 19 a [(0,.slice M s_.length O),(1,.func (.func 64) #[] #[pq b_,pq I]),(7,i6 ((s_.length:Nat):Int)),(8,i6 zz)]∧Ctx G (.box b_ [i6 f_.Car,i6 f_.Wide,i6 f_.Sag,i6 f_.Most,.slice B f_.Rides.length D] 80::.box I [.func (.func 92) #[] #[]] 115::Lf) w)
 have b:∀ (zz:Int) a w,x4=.go zz→S4 zz a w→K2 a w:=by
  rintro x a w rfl ⟨hf,hc⟩
  replace hF:=bP hF
  refine h2 _ _ ?_
  refine zS fun K h=>sp 1 hf rfl fun a hf=>zT h ?_
  refine wp_ret ?_
  obtain rfl:=sj hF
  exact zO1 Tryz.results63 hf rfl ⟨rfl,hc⟩
 have d:∀ r,x4=.out r→r=R:=by
  rintro r rfl
  exact sj hF
 refine cR N (cL (S:=S4) (x:=x4) ?_ N 0 _ _ ⟨hf.kp rfl,hc⟩ Y)
 clear hF hf hc
 rintro x g a w KB4 ⟨hf,hc⟩ hF H X
 unfold iV at hF
 refine zS fun K h=>sp 1 hf rfl fun a hf=>zT h ?_
 refine wp_seq_k fun K7 h7=>zI hf rfl hF ?_ ?_ <;> clear hF <;> intro hF
 ·refine wp_skip ?_
  refine h7 _ _ ?_
  refine wp_seq_k fun K8 h8=>wp_block ?_
  refine zS fun K h=>sp 2 hf rfl fun a hf=>zT h ?_
  refine zS fun K h=>sp 3 hf rfl fun a hf=>?_
  obtain ⟨Z,U,hF⟩:=aA hF
  obtain ⟨i,o,qa,qp⟩:=V.atm U
  refine zP hf rfl (pIA Tryz.underlying30 eL rfl rfl qa) fun a hf=>zE hf hc rfl (bT bA rfl (bL (j:=0) qp rfl)) fun a w hf hc=>?_
  obtain ⟨r,hr,hF⟩:=aA hF
  refine zQ (v:=.bool r) hf hc aJp rfl (fun w hc=>(vY Z f_ J ((hc.pick k1).pick k1) hr).mono fun e w h=>⟨h.1,((h.2.unpick k1).unpick k1)⟩) fun a w hf hc=>zT h ?_
  refine zI hf rfl hF ?_ ?_ <;> clear hF <;> intro hF
  ·refine zS fun K h=>sp 2 hf rfl fun a hf=>zT h ?_
   refine wp_ret ?_
   refine bN ?_
   refine aN ?_
   refine aN ?_
   have he:=sj hF
   rw [← he] at H
   replace hF:=d _ H
   refine bN ?_
   refine aN ?_
   obtain rfl:=hF
   exact zO1 Tryz.results63 hf rfl ⟨rfl,hc⟩
  ·refine wp_skip ?_
   refine h8 _ _ ?_
   refine cJ ?_
   refine sp 2 hf rfl fun a hf=>aP ?_
   exact X (W (x + 1)) _ _ (sj hF).symm ⟨hf.kp rfl,hc⟩
 ·refine wp_exit ?_
  refine aW ?_
  refine aW ?_
  have he:=sj hF
  rw [← he] at H
  refine eV ?_
  exact b _ _ _ H ⟨hf.kp rfl,hc⟩

def rL (N:Nat) (x:List Int) (B:aM):Option (Int) :=
 Option.bind (gP N x B) fun r=>
 cond (r == (-1))
 (some (-1))
 (Option.bind (bH x r) fun D=>
 some D)
theorem xN {N:Nat} {G:aO} {Lf:List Ent} {w:World} (x:List Int) (H:aM) {b_:Nat} {O:Option Addr} {M:Nat} {J:Nat} {B:Option Addr} {D:Nat} (R:Rd G 1 O M (x.map aD)) (I:Rd G 4 B D (H.Rides.map aK)) (hc:Ctx G (.box b_ [.slice O x.length M] 30::.box J [i6 H.Car,i6 H.Wide,i6 H.Sag,i6 H.Most,.slice B H.Rides.length D] 80::Lf) w) {S:Int} (hF:rL N x H=some S):Calls Tryz.prog 62 #[.agg #[.func (.func 92) #[] #[]],pq b_,pq J] w (fun e w=>e=.returned (i6 S)∧Ctx G (.box b_ [.slice O x.length M] 30::.box J [i6 H.Car,i6 H.Wide,i6 H.Sag,i6 H.Most,.slice B H.Rides.length D] 80::Lf) w):=by
 unfold rL at hF
 refine bI Tryz.func62 rfl Tryz.ntmps62 rfl fun a hf=>zS fun K h=>zB hf hc rfl fun V a w hf hc=>sp 1 hf rfl fun a hf=>zT h ?_
 refine zS fun K h=>zL hf hc kJ m1 rfl fun a w hf hc=>zP hf rfl (pMF (us:=[pq J,pq V]) rfl rfl) fun a hf=>?_
 obtain ⟨r,hr,hF⟩:=aA hF
 refine zQ (v:=i6 r) hf hc aA3 rfl (fun w hc=>(nO x H R I ((hc.pick k0).pick k2) hr).mono fun e w h=>⟨h.1,((h.2.unpick k2).unpick k0)⟩) fun a w hf hc=>sp 1 hf rfl fun a hf=>zT h ?_
 refine wp_seq_k fun K3 h3=>zS fun K h=>sp 2 hf rfl fun a hf=>zT h ?_
 refine zI hf rfl hF ?_ ?_ <;> clear hF <;> intro hF
 ·refine zS fun K h=>sp 1 hf rfl fun a hf=>zT h ?_
  refine wp_ret ?_
  refine aN ?_
  obtain rfl:=sj hF
  replace hc:=hc.drop k0
  exact zO1 Tryz.results62 hf rfl ⟨rfl,hc⟩
 ·refine wp_skip ?_
  refine h3 _ _ ?_
  refine zS fun K h=>zL hf hc kJ m1 rfl fun a w hf hc=>sp 1 hf rfl fun a hf=>?_
  obtain ⟨X,U,hF⟩:=aA hF
  obtain ⟨Y,o,qa,qp⟩:=R.atm U
  refine zP hf rfl (pIA Tryz.underlying30 eL rfl rfl qa) fun a hf=>zE hf hc rfl (bT bA rfl (bL (j:=0) qp rfl)) fun a w hf hc=>sp 1 hf rfl fun a hf=>zT h ?_
  refine wp_ret ?_
  obtain rfl:=sj hF
  replace hc:=hc.drop k0
  exact zO1 Tryz.results62 hf rfl ⟨rfl,hc⟩

def mL (N:Nat) (n:Int) (x:aM):Option (Bool) :=
 Option.bind (mG N (⟨x.Car,x.Wide,x.Sag,x.Most,x.Rides⟩:aM) n) fun r=>
 some (bO (⟨x.Car,x.Wide,x.Sag,x.Most,x.Rides⟩:aM) r)
theorem tQ {N:Nat} {G:aO} {Lf:List Ent} {w:World} (n:Int) (x:aM) {b_:Nat} {D:Option Addr} {B:Nat} {I:Nat} (H:Rd G 4 D B (x.Rides.map aK)) (hc:Ctx G (.box b_ [i6 x.Car,i6 x.Wide,i6 x.Sag,i6 x.Most,.slice D x.Rides.length B] 80::.box I [.func (.func 91) #[] #[]] 115::Lf) w) {J:Bool} (hF:mL N n x=some J):Calls Tryz.prog 64 #[i6 n,pq b_,pq I] w (fun e w=>e=.returned (.bool J)∧Ctx G (.box b_ [i6 x.Car,i6 x.Wide,i6 x.Sag,i6 x.Most,.slice D x.Rides.length B] 80::.box I [.func (.func 91) #[] #[]] 115::Lf) w):=by
 unfold mL at hF
 refine bI Tryz.func64 rfl Tryz.ntmps64 rfl fun a hf=>zS fun K h=>sp 1 hf rfl fun a hf=>zT h ?_
 refine wp_seq_k fun K2 h2=>?_
 obtain ⟨r,hr,hF⟩:=aA hF
 refine cQ hc aU (by kernel_rfl) ?_
 refine qE hf rfl rfl rfl (jN (vs:=[i6 x.Car,i6 x.Wide,i6 x.Sag,i6 x.Most,.slice D x.Rides.length B]) mW rfl rfl (bM (n:=5) m0 rfl)) fun a hf=>qE hf rfl rfl rfl (jN (vs:=[i6 x.Car,i6 x.Wide,i6 x.Sag,i6 x.Most,.slice D x.Rides.length B]) mW rfl rfl (bM (n:=5) m0 rfl)) fun a hf=>qE hf rfl rfl rfl (Pu.ev (pM rfl)) fun a hf=>qE hf rfl rfl rfl (jN (vs:=[.func (.func 91) #[] #[]]) aB7 rfl rfl (bM (n:=1) m1 rfl)) fun a hf=>qE hf rfl rfl rfl (eC (v:=i6 r) (vs:=[.agg #[i6 x.Car,i6 x.Wide,i6 x.Sag,i6 x.Most,.slice D x.Rides.length B],i6 n,.agg #[.func (.func 91) #[] #[]]]) (caps:=[]) aDu rfl rfl rfl rfl (fun w hc=>qV (⟨x.Car,x.Wide,x.Sag,x.Most,x.Rides⟩:aM) n H hc hr)) fun a hf=>qE hf rfl rfl rfl (eC (v:=.bool (bO (⟨x.Car,x.Wide,x.Sag,x.Most,x.Rides⟩:aM) r)) (vs:=[.agg #[i6 x.Car,i6 x.Wide,i6 x.Sag,i6 x.Most,.slice D x.Rides.length B],i6 r]) (caps:=[]) aC9 rfl rfl rfl rfl (fun w hc=>gG (⟨x.Car,x.Wide,x.Sag,x.Most,x.Rides⟩:aM) r H hc rfl)) fun a hf=>qE hf rfl rfl rfl (Pu.ev (pA rfl)) fun a hf=>?_
 intro w hc
 refine h2 _ _ ?_
 refine wp_ret ?_
 obtain rfl:=sj hF
 exact zO1 Tryz.results64 hf rfl ⟨rfl,hc⟩

def iZ (N:Nat) (s_:List Int) (f_:aM) (x:Int):Option (cK (Int) (Int)) :=
 cond (decide (x < ((s_.length:Nat):Int)))
 (Option.bind (bH s_ x) fun B=>
 Option.bind (mL N B f_) fun r=>
 cond r
 (some (.ret x))
 (some (.cont (W (x + 1)))))
 (some (.brk x))
def gN (N:Nat) (s_:List Int) (f_:aM):Option (Int) :=
 Option.bind (bE (fun s4=>iZ N s_ f_ s4) N 0) fun x4=>
 exK x4 (fun s4=>some (-1)) some
theorem nM {N:Nat} {G:aO} {Lf:List Ent} {w:World} (s_:List Int) (f_:aM) {M:Option Addr} {O:Nat} {b_:Nat} {B:Option Addr} {D:Nat} {I:Nat} (V:Rd G 1 M O (s_.map aD)) (J:Rd G 4 B D (f_.Rides.map aK)) (hc:Ctx G (.box b_ [i6 f_.Car,i6 f_.Wide,i6 f_.Sag,i6 f_.Most,.slice B f_.Rides.length D] 80::.box I [.func (.func 91) #[] #[]] 115::Lf) w) {R:Int} (hF:gN N s_ f_=some R):Calls Tryz.prog 63 #[.slice M s_.length O,.func (.func 64) #[] #[pq b_,pq I]] w (fun e w=>e=.returned (i6 R)∧Ctx G (.box b_ [i6 f_.Car,i6 f_.Wide,i6 f_.Sag,i6 f_.Most,.slice B f_.Rides.length D] 80::.box I [.func (.func 91) #[] #[]] 115::Lf) w):=by
 unfold gN at hF
 refine bI Tryz.func63 rfl Tryz.ntmps63 rfl fun a hf=>zS fun K h=>sp 1 hf rfl fun a hf=>zT h ?_
 refine wp_seq_k fun K2 h2=>zS fun K h=>sp 1 hf rfl fun a hf=>zP hf rfl (bC Tryz.underlying30 rfl) fun a hf=>sp 1 hf rfl fun a hf=>zT h ?_
 refine wp_block ?_
 obtain ⟨x4,Y,hF⟩:=aA hF
 let S4:Int→Act→World→Prop:=(fun (zz:Int) a w=>Has 19 a [(0,.slice M s_.length O),(1,.func (.func 64) #[] #[pq b_,pq I]),(7,i6 ((s_.length:Nat):Int)),(8,i6 zz)]∧Ctx G (.box b_ [i6 f_.Car,i6 f_.Wide,i6 f_.Sag,i6 f_.Most,.slice B f_.Rides.length D] 80::.box I [.func (.func 91) #[] #[]] 115::Lf) w)
 have b:∀ (zz:Int) a w,x4=.go zz→S4 zz a w→K2 a w:=by
  rintro x a w rfl ⟨hf,hc⟩
  replace hF:=bP hF
  refine h2 _ _ ?_
  refine zS fun K h=>sp 1 hf rfl fun a hf=>zT h ?_
  refine wp_ret ?_
  obtain rfl:=sj hF
  exact zO1 Tryz.results63 hf rfl ⟨rfl,hc⟩
 have d:∀ r,x4=.out r→r=R:=by
  rintro r rfl
  exact sj hF
 refine cR N (cL (S:=S4) (x:=x4) ?_ N 0 _ _ ⟨hf.kp rfl,hc⟩ Y)
 clear hF hf hc
 rintro x g a w KB4 ⟨hf,hc⟩ hF H X
 unfold iZ at hF
 refine zS fun K h=>sp 1 hf rfl fun a hf=>zT h ?_
 refine wp_seq_k fun K7 h7=>zI hf rfl hF ?_ ?_ <;> clear hF <;> intro hF
 ·refine wp_skip ?_
  refine h7 _ _ ?_
  refine wp_seq_k fun K8 h8=>wp_block ?_
  refine zS fun K h=>sp 2 hf rfl fun a hf=>zT h ?_
  refine zS fun K h=>sp 3 hf rfl fun a hf=>?_
  obtain ⟨Z,U,hF⟩:=aA hF
  obtain ⟨i,o,qa,qp⟩:=V.atm U
  refine zP hf rfl (pIA Tryz.underlying30 eL rfl rfl qa) fun a hf=>zE hf hc rfl (bT bA rfl (bL (j:=0) qp rfl)) fun a w hf hc=>?_
  obtain ⟨r,hr,hF⟩:=aA hF
  refine zQ (v:=.bool r) hf hc aJp rfl (fun w hc=>(tQ Z f_ J ((hc.pick k1).pick k1) hr).mono fun e w h=>⟨h.1,((h.2.unpick k1).unpick k1)⟩) fun a w hf hc=>zT h ?_
  refine zI hf rfl hF ?_ ?_ <;> clear hF <;> intro hF
  ·refine zS fun K h=>sp 2 hf rfl fun a hf=>zT h ?_
   refine wp_ret ?_
   refine bN ?_
   refine aN ?_
   refine aN ?_
   have he:=sj hF
   rw [← he] at H
   replace hF:=d _ H
   refine bN ?_
   refine aN ?_
   obtain rfl:=hF
   exact zO1 Tryz.results63 hf rfl ⟨rfl,hc⟩
  ·refine wp_skip ?_
   refine h8 _ _ ?_
   refine cJ ?_
   refine sp 2 hf rfl fun a hf=>aP ?_
   exact X (W (x + 1)) _ _ (sj hF).symm ⟨hf.kp rfl,hc⟩
 ·refine wp_exit ?_
  refine aW ?_
  refine aW ?_
  have he:=sj hF
  rw [← he] at H
  refine eV ?_
  exact b _ _ _ H ⟨hf.kp rfl,hc⟩

def oA (N:Nat) (x:List Int) (B:aM):Option (Int) :=
 Option.bind (gN N x B) fun r=>
 cond (r == (-1))
 (some (-1))
 (Option.bind (bH x r) fun D=>
 some D)
theorem vL {N:Nat} {G:aO} {Lf:List Ent} {w:World} (x:List Int) (H:aM) {b_:Nat} {O:Option Addr} {M:Nat} {J:Nat} {B:Option Addr} {D:Nat} (R:Rd G 1 O M (x.map aD)) (I:Rd G 4 B D (H.Rides.map aK)) (hc:Ctx G (.box b_ [.slice O x.length M] 30::.box J [i6 H.Car,i6 H.Wide,i6 H.Sag,i6 H.Most,.slice B H.Rides.length D] 80::Lf) w) {S:Int} (hF:oA N x H=some S):Calls Tryz.prog 62 #[.agg #[.func (.func 91) #[] #[]],pq b_,pq J] w (fun e w=>e=.returned (i6 S)∧Ctx G (.box b_ [.slice O x.length M] 30::.box J [i6 H.Car,i6 H.Wide,i6 H.Sag,i6 H.Most,.slice B H.Rides.length D] 80::Lf) w):=by
 unfold oA at hF
 refine bI Tryz.func62 rfl Tryz.ntmps62 rfl fun a hf=>zS fun K h=>zB hf hc rfl fun V a w hf hc=>sp 1 hf rfl fun a hf=>zT h ?_
 refine zS fun K h=>zL hf hc kJ m1 rfl fun a w hf hc=>zP hf rfl (pMF (us:=[pq J,pq V]) rfl rfl) fun a hf=>?_
 obtain ⟨r,hr,hF⟩:=aA hF
 refine zQ (v:=i6 r) hf hc aA3 rfl (fun w hc=>(nM x H R I ((hc.pick k0).pick k2) hr).mono fun e w h=>⟨h.1,((h.2.unpick k2).unpick k0)⟩) fun a w hf hc=>sp 1 hf rfl fun a hf=>zT h ?_
 refine wp_seq_k fun K3 h3=>zS fun K h=>sp 2 hf rfl fun a hf=>zT h ?_
 refine zI hf rfl hF ?_ ?_ <;> clear hF <;> intro hF
 ·refine zS fun K h=>sp 1 hf rfl fun a hf=>zT h ?_
  refine wp_ret ?_
  refine aN ?_
  obtain rfl:=sj hF
  replace hc:=hc.drop k0
  exact zO1 Tryz.results62 hf rfl ⟨rfl,hc⟩
 ·refine wp_skip ?_
  refine h3 _ _ ?_
  refine zS fun K h=>zL hf hc kJ m1 rfl fun a w hf hc=>sp 1 hf rfl fun a hf=>?_
  obtain ⟨X,U,hF⟩:=aA hF
  obtain ⟨Y,o,qa,qp⟩:=R.atm U
  refine zP hf rfl (pIA Tryz.underlying30 eL rfl rfl qa) fun a hf=>zE hf hc rfl (bT bA rfl (bL (j:=0) qp rfl)) fun a w hf hc=>sp 1 hf rfl fun a hf=>zT h ?_
  refine wp_ret ?_
  obtain rfl:=sj hF
  replace hc:=hc.drop k0
  exact zO1 Tryz.results62 hf rfl ⟨rfl,hc⟩

def oM (N:Nat) (c_:aM):Option (Int × Int × Int) :=
 Option.bind (iF N c_) fun r=>
 cond (r != 0)
 (some (0,0,r))
 (Option.bind (iJ N c_) fun B=>
 Option.bind (rL N B c_) fun H=>
 Option.bind (oA N B c_) fun D=>
 some (H,D,0))
theorem aAc {N:Nat} {G:aO} {Lf:List Ent} {w:World} (c_:aM) {H:Option Addr} {D:Nat} (B:Rd G 4 H D (c_.Rides.map aK)) (hc:Ctx G (Lf) w) {O:Int × Int × Int} (hF:oM N c_=some O):Calls Tryz.prog 33 #[.agg #[i6 c_.Car,i6 c_.Wide,i6 c_.Sag,i6 c_.Most,.slice H c_.Rides.length D]] w (fun e w=>e=.returned (.tuple #[i6 O.1,i6 O.2.1,i6 O.2.2])∧Ctx G (Lf) w):=by
 unfold oM at hF
 refine bI Tryz.func33 rfl Tryz.ntmps33 rfl fun a hf=>zS fun K h=>zB hf hc rfl fun X a w hf hc=>sp 3 hf rfl fun a hf=>zT h ?_
 refine wp_seq_k fun K2 h2=>zS fun K h=>zN hf hc mW m0 rfl fun a w hf hc=>?_
 obtain ⟨r,hr,hF⟩:=aA hF
 refine zQ (v:=i6 r) hf hc aH3 rfl (fun w hc=>mM c_ B hc hr) fun a w hf hc=>sp 1 hf rfl fun a hf=>zT h ?_
 refine zS fun K h=>sp 2 hf rfl fun a hf=>zT h ?_
 refine zI hf rfl hF ?_ ?_ <;> clear hF <;> intro hF
 ·refine zS fun K h=>sp 4 hf rfl fun a hf=>zT h ?_
  refine wp_ret ?_
  refine aN ?_
  obtain rfl:=sj hF
  replace hc:=hc.drop k0
  exact zO3 Tryz.results33 hf rfl rfl rfl ⟨rfl,hc⟩
 ·refine wp_skip ?_
  refine h2 _ _ ?_
  refine zS fun K h=>zN hf hc mW m0 rfl fun a w hf hc=>?_
  obtain ⟨R,U,hF⟩:=aA hF
  refine zC hf en_61 rfl (uH c_ B hc U) ?_
  rintro _ w ⟨d,g,rfl,hc⟩
  refine ⟨_,rfl,fun a hf=>?_⟩
  refine zA hf hc aJy rfl fun Y a w hf hc=>zW hf hc nB u0 rfl fun w hc=>zT h ?_
  refine zS fun K h=>zP hf rfl (pMF (us:=[pq Y,pq X]) rfl rfl) fun a hf=>sp 1 hf rfl fun a hf=>zT h ?_
  refine zS fun K h=>sp 1 hf rfl fun a hf=>zQ (v:=.agg #[.func (.func 92) #[] #[]]) hf hc aFh rfl (fun w hc=>pK hc rfl) fun a w hf hc=>?_
  obtain ⟨b,V,hF⟩:=aA hF
  refine zQ (v:=i6 b) hf hc aKe rfl (fun w hc=>by obtain ⟨G1,J,M,hc,I⟩:=lend hc k1; exact (xN R c_ M (B.mono J) ((hc.pick k1).pick k1) V).mono fun e w h=>⟨h.1,((I _ _ ((h.2.unpick k1).unpick k1)).unpick k1)⟩) fun a w hf hc=>sp 1 hf rfl fun a hf=>zQ (v:=.agg #[.func (.func 91) #[] #[]]) hf hc aHi rfl (fun w hc=>uM hc rfl) fun a w hf hc=>?_
  obtain ⟨Z,S,hF⟩:=aA hF
  refine zQ (v:=i6 Z) hf hc aKe rfl (fun w hc=>by obtain ⟨G1,J,M,hc,I⟩:=lend hc k1; exact (vL R c_ M (B.mono J) ((hc.pick k1).pick k1) S).mono fun e w h=>⟨h.1,((I _ _ ((h.2.unpick k1).unpick k1)).unpick k1)⟩) fun a w hf hc=>sp 3 hf rfl fun a hf=>zT h ?_
  refine wp_ret ?_
  obtain rfl:=sj hF
  replace hc:=((hc.drop k2).drop k1).drop k0
  exact zO3 Tryz.results33 hf rfl rfl rfl ⟨rfl,hc⟩

def pO (r:aI) (x:aM):Bool :=
 (!(bO (⟨x.Car,x.Wide,x.Sag,x.Most,x.Rides⟩:aM) (W (x.Car + r.Weight.Hi))))
theorem yT {G:aO} {Lf:List Ent} {w:World} (r:aI) (x:aM) {b_:Nat} {D:Option Addr} {B:Nat} (H:Rd G 4 D B (x.Rides.map aK)) (hc:Ctx G (.box b_ [i6 x.Car,i6 x.Wide,i6 x.Sag,i6 x.Most,.slice D x.Rides.length B] 80::Lf) w) {I:Bool} (hF:pO r x=I):Calls Tryz.prog 67 #[.agg #[i6 r.From,i6 r.Long,i6 r.Weight.Lo,i6 r.Weight.Hi],pq b_] w (fun e w=>e=.returned (.bool I)∧Ctx G (.box b_ [i6 x.Car,i6 x.Wide,i6 x.Sag,i6 x.Most,.slice D x.Rides.length B] 80::Lf) w):=by
 unfold pO at hF
 refine bI Tryz.func67 rfl Tryz.ntmps67 rfl fun a hf=>zS fun K h=>zB hf hc rfl fun J a w hf hc=>sp 1 hf rfl fun a hf=>zT h ?_
 refine zS fun K h=>zN hf hc mW m1 rfl fun a w hf hc=>zP hf rfl (pFA wL rfl) fun a hf=>zL hf hc bA m1 rfl fun a w hf hc=>zP hf rfl (pFA vA rfl) fun a hf=>zP hf rfl (pFA pQ rfl) fun a hf=>zL hf hc bA m0 rfl fun a w hf hc=>sp 1 hf rfl fun a hf=>zQ (v:=.bool (bO (⟨x.Car,x.Wide,x.Sag,x.Most,x.Rides⟩:aM) (W (x.Car + r.Weight.Hi)))) hf hc aC9 rfl (fun w hc=>gG (⟨x.Car,x.Wide,x.Sag,x.Most,x.Rides⟩:aM) (W (x.Car + r.Weight.Hi)) H hc rfl) fun a w hf hc=>sp 2 hf rfl fun a hf=>zT h ?_
 refine wp_ret ?_
 obtain rfl:=hF
 replace hc:=hc.drop k0
 exact zO1 Tryz.results67 hf rfl ⟨rfl,hc⟩

def fS (x:aI) (B:aM):Bool :=
 (!(pO (⟨x.From,x.Long,x.Weight⟩:aI) B))
theorem oZ {G:aO} {Lf:List Ent} {w:World} (x:aI) (B:aM) {b_:Nat} {J:Nat} {D:Option Addr} {H:Nat} (I:Rd G 4 D H (B.Rides.map aK)) (hc:Ctx G (.box b_ [.func (.func 67) #[] #[pq J]] 125::.box J [i6 B.Car,i6 B.Wide,i6 B.Sag,i6 B.Most,.slice D B.Rides.length H] 80::Lf) w) {M:Bool} (hF:fS x B=M):Calls Tryz.prog 99 #[.agg #[i6 x.From,i6 x.Long,i6 x.Weight.Lo,i6 x.Weight.Hi],pq b_] w (fun e w=>e=.returned (.bool M)∧Ctx G (.box b_ [.func (.func 67) #[] #[pq J]] 125::.box J [i6 B.Car,i6 B.Wide,i6 B.Sag,i6 B.Most,.slice D B.Rides.length H] 80::Lf) w):=by
 unfold fS at hF
 refine bI Tryz.func99 rfl Tryz.ntmps99 rfl fun a hf=>zS fun K h=>zB hf hc rfl fun O a w hf hc=>sp 1 hf rfl fun a hf=>zT h ?_
 refine zS fun K h=>zL hf hc aGs m1 rfl fun a w hf hc=>zN hf hc qI m0 rfl fun a w hf hc=>zQ (v:=.bool (pO (⟨x.From,x.Long,x.Weight⟩:aI) B)) hf hc en_67 rfl (fun w hc=>(yT (⟨x.From,x.Long,x.Weight⟩:aI) B I (hc.pick k2) rfl).mono fun e w h=>⟨h.1,(h.2.unpick k2)⟩) fun a w hf hc=>sp 2 hf rfl fun a hf=>zT h ?_
 refine wp_ret ?_
 obtain rfl:=hF
 replace hc:=hc.drop k0
 exact zO1 Tryz.results99 hf rfl ⟨rfl,hc⟩

def fD (N:Nat) (s_:List aI) (f_:aM) (x:Int):Option (cK (Int) (Int)) :=
 cond (decide (x < ((s_.length:Nat):Int)))
 (Option.bind (bH s_ x) fun B=>
 cond (fS B f_)
 (some (.ret x))
 (some (.cont (W (x + 1)))))
 (some (.brk x))
def dJ (N:Nat) (s_:List aI) (f_:aM):Option (Int) :=
 Option.bind (bE (fun s4=>fD N s_ f_ s4) N 0) fun x4=>
 exK x4 (fun s4=>some (-1)) some
theorem jT {N:Nat} {G:aO} {Lf:List Ent} {w:World} (s_:List aI) (f_:aM) {O:Option Addr} {R:Nat} {b_:Nat} {H:Nat} {B:Option Addr} {D:Nat} (X:Rd G 4 O R (s_.map aK)) (M:Rd G 4 B D (f_.Rides.map aK)) (hc:Ctx G (.box b_ [.func (.func 67) #[] #[pq H]] 125::.box H [i6 f_.Car,i6 f_.Wide,i6 f_.Sag,i6 f_.Most,.slice B f_.Rides.length D] 80::Lf) w) {U:Int} (hF:dJ N s_ f_=some U):Calls Tryz.prog 111 #[.slice O s_.length R,.func (.func 99) #[] #[pq b_]] w (fun e w=>e=.returned (i6 U)∧Ctx G (.box b_ [.func (.func 67) #[] #[pq H]] 125::.box H [i6 f_.Car,i6 f_.Wide,i6 f_.Sag,i6 f_.Most,.slice B f_.Rides.length D] 80::Lf) w):=by
 unfold dJ at hF
 refine bI Tryz.func111 rfl Tryz.ntmps111 rfl fun a hf=>zS fun K h=>sp 1 hf rfl fun a hf=>zT h ?_
 refine wp_seq_k fun K2 h2=>zS fun K h=>sp 1 hf rfl fun a hf=>zP hf rfl (bC Tryz.underlying78 rfl) fun a hf=>sp 1 hf rfl fun a hf=>zT h ?_
 refine wp_block ?_
 obtain ⟨x4,Z,hF⟩:=aA hF
 let S4:Int→Act→World→Prop:=(fun (zz:Int) a w=>Has 19 a [(0,.slice O s_.length R),(1,.func (.func 99) #[] #[pq b_]),(7,i6 ((s_.length:Nat):Int)),(8,i6 zz)]∧Ctx G (.box b_ [.func (.func 67) #[] #[pq H]] 125::.box H [i6 f_.Car,i6 f_.Wide,i6 f_.Sag,i6 f_.Most,.slice B f_.Rides.length D] 80::Lf) w)
 have b:∀ (zz:Int) a w,x4=.go zz→S4 zz a w→K2 a w:=by
  rintro x a w rfl ⟨hf,hc⟩
  replace hF:=bP hF
  refine h2 _ _ ?_
  refine zS fun K h=>sp 1 hf rfl fun a hf=>zT h ?_
  refine wp_ret ?_
  obtain rfl:=sj hF
  exact zO1 Tryz.results111 hf rfl ⟨rfl,hc⟩
 have d:∀ r,x4=.out r→r=U:=by
  rintro r rfl
  exact sj hF
 refine cR N (cL (S:=S4) (x:=x4) ?_ N 0 _ _ ⟨hf.kp rfl,hc⟩ Z)
 clear hF hf hc
 rintro x g a w KB4 ⟨hf,hc⟩ hF I Y
 unfold fD at hF
 refine zS fun K h=>sp 1 hf rfl fun a hf=>zT h ?_
 refine wp_seq_k fun K7 h7=>zI hf rfl hF ?_ ?_ <;> clear hF <;> intro hF
 ·refine wp_skip ?_
  refine h7 _ _ ?_
  refine wp_seq_k fun K8 h8=>wp_block ?_
  refine zS fun K h=>sp 2 hf rfl fun a hf=>zT h ?_
  refine zS fun K h=>sp 3 hf rfl fun a hf=>?_
  obtain ⟨J,V,hF⟩:=aA hF
  obtain ⟨i,o,qa,qp⟩:=X.atm V
  refine zP hf rfl (pIA Tryz.underlying78 rD rfl rfl qa) fun a hf=>zE hf hc rfl (jN (vs:=[i6 J.From,i6 J.Long,i6 J.Weight.Lo,i6 J.Weight.Hi]) qI rfl rfl (eX qp (n:=4) (o':=0) rfl)) fun a w hf hc=>zQ (v:=.bool (fS J f_)) hf hc aJz rfl (fun w hc=>(oZ J f_ M ((hc.pick k1).pick k1) rfl).mono fun e w h=>⟨h.1,((h.2.unpick k1).unpick k1)⟩) fun a w hf hc=>zT h ?_
  refine zI hf rfl hF ?_ ?_ <;> clear hF <;> intro hF
  ·refine zS fun K h=>sp 2 hf rfl fun a hf=>zT h ?_
   refine wp_ret ?_
   refine bN ?_
   refine aN ?_
   refine aN ?_
   have he:=sj hF
   rw [← he] at I
   replace hF:=d _ I
   refine bN ?_
   refine aN ?_
   obtain rfl:=hF
   exact zO1 Tryz.results111 hf rfl ⟨rfl,hc⟩
  ·refine wp_skip ?_
   refine h8 _ _ ?_
   refine cJ ?_
   refine sp 2 hf rfl fun a hf=>aP ?_
   exact Y (W (x + 1)) _ _ (sj hF).symm ⟨hf.kp rfl,hc⟩
 ·refine wp_exit ?_
  refine aW ?_
  refine aW ?_
  have he:=sj hF
  rw [← he] at I
  refine eV ?_
  exact b _ _ _ I ⟨hf.kp rfl,hc⟩

def cW (N:Nat) (s_:List aI) (f_:aM):Option (Bool) :=
 Option.bind (dJ N s_ f_) fun r=>
 some (decide (0≤r))
theorem iQ {N:Nat} {G:aO} {Lf:List Ent} {w:World} (s_:List aI) (f_:aM) {J:Option Addr} {M:Nat} {b_:Nat} {I:Nat} {B:Option Addr} {D:Nat} (R:Rd G 4 J M (s_.map aK)) (H:Rd G 4 B D (f_.Rides.map aK)) (hc:Ctx G (.box b_ [.func (.func 67) #[] #[pq I]] 125::.box I [i6 f_.Car,i6 f_.Wide,i6 f_.Sag,i6 f_.Most,.slice B f_.Rides.length D] 80::Lf) w) {O:Bool} (hF:cW N s_ f_=some O):Calls Tryz.prog 98 #[.slice J s_.length M,.func (.func 99) #[] #[pq b_]] w (fun e w=>e=.returned (.bool O)∧Ctx G (.box b_ [.func (.func 67) #[] #[pq I]] 125::.box I [i6 f_.Car,i6 f_.Wide,i6 f_.Sag,i6 f_.Most,.slice B f_.Rides.length D] 80::Lf) w):=by
 unfold cW at hF
 refine bI Tryz.func98 rfl Tryz.ntmps98 rfl fun a hf=>zS fun K h=>sp 1 hf rfl fun a hf=>zT h ?_
 refine zS fun K h=>sp 2 hf rfl fun a hf=>?_
 obtain ⟨r,hr,hF⟩:=aA hF
 refine zQ (v:=i6 r) hf hc aHl rfl (fun w hc=>(jT s_ f_ R H ((hc.pick k1).pick k1) hr).mono fun e w h=>⟨h.1,((h.2.unpick k1).unpick k1)⟩) fun a w hf hc=>sp 2 hf rfl fun a hf=>zT h ?_
 refine wp_ret ?_
 obtain rfl:=sj hF
 exact zO1 Tryz.results98 hf rfl ⟨rfl,hc⟩

def jQ (N:Nat) (l:List aI) (so:aM):Option (Bool) :=
 Option.bind (cW N l so) fun r=>
 some (!r)
theorem qH {N:Nat} {G:aO} {Lf:List Ent} {w:World} (l:List aI) (so:aM) {I:Option Addr} {J:Nat} {b_:Nat} {B:Option Addr} {D:Nat} (O:Rd G 4 I J (l.map aK)) (H:Rd G 4 B D (so.Rides.map aK)) (hc:Ctx G (.box b_ [i6 so.Car,i6 so.Wide,i6 so.Sag,i6 so.Most,.slice B so.Rides.length D] 80::Lf) w) {M:Bool} (hF:jQ N l so=some M):Calls Tryz.prog 66 #[.slice I l.length J,.func (.func 67) #[] #[pq b_]] w (fun e w=>e=.returned (.bool M)∧Ctx G (.box b_ [i6 so.Car,i6 so.Wide,i6 so.Sag,i6 so.Most,.slice B so.Rides.length D] 80::Lf) w):=by
 unfold jQ at hF
 refine bI Tryz.func66 rfl Tryz.ntmps66 rfl fun a hf=>zS fun K h=>zB hf hc rfl fun R a w hf hc=>sp 1 hf rfl fun a hf=>zT h ?_
 refine zS fun K h=>sp 1 hf rfl fun a hf=>zP hf rfl (pMF (us:=[pq R]) rfl rfl) fun a hf=>?_
 obtain ⟨r,hr,hF⟩:=aA hF
 refine zQ (v:=.bool r) hf hc aJn rfl (fun w hc=>(iQ l so O H ((hc.pick k1).pick k1) hr).mono fun e w h=>⟨h.1,((h.2.unpick k1).unpick k1)⟩) fun a w hf hc=>sp 2 hf rfl fun a hf=>zT h ?_
 refine wp_ret ?_
 obtain rfl:=sj hF
 replace hc:=hc.drop k0
 exact zO1 Tryz.results66 hf rfl ⟨rfl,hc⟩

def fC (N:Nat) (s_:List aI):Option ((List aI)) :=
 Option.bind (room (s_).length) fun un=>
 some s_
theorem lU {N:Nat} {G:aO} {Lf:List Ent} {w:World} (s_:List aI) {D:Option Addr} {I:Nat} (H:Rd G 4 D I (s_.map aK)) (hc:Ctx G (Lf) w) {B:(List aI)} (hF:fC N s_=some B):Calls Tryz.prog 68 #[.slice D s_.length I] w (fun e w=>∃ (M:Option Addr) (J:Nat),e=.returned (.slice M B.length J)∧Ctx G (.row M J (B.map aK) 85 4::Lf) w):=by
 unfold fC at hF
 refine bI Tryz.func68 rfl Tryz.ntmps68 rfl fun a hf=>zS fun K h=>sp 1 hf rfl fun a hf=>zT h ?_
 refine wp_seq_k fun K2 h2=>zS fun K h=>sp 1 hf rfl fun a hf=>zP hf rfl (pEqN Tryz.underlying78 rfl rfl) fun a hf=>zT h ?_
 rcases aFd H with ⟨hp,hx⟩ | hp
 ·rw [hp] at hf
  replace hF:(some ([]:List aI))=some B:=by
   try rw [hx] at hF
   exact hF
  refine aEm hf rfl ?_
  refine zS fun K h=>sp 1 hf rfl fun a hf=>zT h ?_
  refine wp_ret ?_
  refine aN ?_
  obtain rfl:=sj hF
  replace hc:=hc.nilRow 85 4
  exact zO1 Tryz.results68 hf rfl ⟨none,0,rfl,hc⟩
 ·rw [hp] at hf
  refine aEg hf rfl ?_
  refine wp_skip ?_
  refine h2 _ _ ?_
  refine zS fun K h=>jD (rows:=([]:List aI).map aK) (vs:=[]) hf hc rfl rfl aAi rfl trivial rfl rfl fun U a w hf hc=>sp 1 hf rfl fun a hf=>?_
  obtain ⟨un,S,hF⟩:=aA hF
  refine kY (xs:=([]:List aI)) (ys:=s_) hf hc rfl rfl aAi rfl rfl rfl rfl rfl kU (aCl hc H) (fun _ _=>u0) (by simpa using cP S) fun R O a w hf hc=>sp 1 hf rfl fun a hf=>zT h ?_
  refine wp_ret ?_
  obtain rfl:=sj hF
  exact zO1 Tryz.results68 hf rfl ⟨R,O,rfl,hc⟩

def oS (N:Nat) (c_:aM) (r:aI):Option (Bool) :=
 Option.bind (hH N c_ r.From) fun B=>
 some (bO c_ B)
theorem vS {N:Nat} {G:aO} {Lf:List Ent} {w:World} (c_:aM) (r:aI) {D:Option Addr} {B:Nat} (H:Rd G 4 D B (c_.Rides.map aK)) (hc:Ctx G (Lf) w) {J:Bool} (hF:oS N c_ r=some J):Calls Tryz.prog 69 #[.agg #[i6 c_.Car,i6 c_.Wide,i6 c_.Sag,i6 c_.Most,.slice D c_.Rides.length B],.agg #[i6 r.From,i6 r.Long,i6 r.Weight.Lo,i6 r.Weight.Hi]] w (fun e w=>e=.returned (.bool J)∧Ctx G (Lf) w):=by
 unfold oS at hF
 refine bI Tryz.func69 rfl Tryz.ntmps69 rfl fun a hf=>zS fun K h=>zB hf hc rfl fun O a w hf hc=>zB hf hc rfl fun R a w hf hc=>sp 1 hf rfl fun a hf=>zT h ?_
 refine wp_seq_k fun K2 h2=>?_
 obtain ⟨I,M,hF⟩:=aA hF
 refine cQ hc aU (by kernel_rfl) ?_
 refine qE hf rfl rfl rfl (jN (vs:=[i6 c_.Car,i6 c_.Wide,i6 c_.Sag,i6 c_.Most,.slice D c_.Rides.length B]) mW rfl rfl (bM (n:=5) m1 rfl)) fun a hf=>qE hf rfl rfl rfl (jN (vs:=[i6 c_.Car,i6 c_.Wide,i6 c_.Sag,i6 c_.Most,.slice D c_.Rides.length B]) mW rfl rfl (bM (n:=5) m1 rfl)) fun a hf=>qE hf rfl rfl rfl (Pu.ev (pFA oG rfl)) fun a hf=>qE hf rfl rfl rfl (bT bA rfl (bU m0 rfl)) fun a hf=>qE hf rfl rfl rfl (eC (v:=.agg #[.func (.func 92) #[] #[]]) (vs:=[]) (caps:=[]) aFh rfl rfl rfl rfl (fun w hc=>pK hc rfl)) fun a hf=>qE hf rfl rfl rfl (eC (v:=i6 I) (vs:=[.agg #[i6 c_.Car,i6 c_.Wide,i6 c_.Sag,i6 c_.Most,.slice D c_.Rides.length B],i6 r.From,.agg #[.func (.func 92) #[] #[]]]) (caps:=[]) aDu rfl rfl rfl rfl (fun w hc=>kS c_ r.From H hc M)) fun a hf=>qE hf rfl rfl rfl (eC (v:=.bool (bO c_ I)) (vs:=[.agg #[i6 c_.Car,i6 c_.Wide,i6 c_.Sag,i6 c_.Most,.slice D c_.Rides.length B],i6 I]) (caps:=[]) aC9 rfl rfl rfl rfl (fun w hc=>gG c_ I H hc rfl)) fun a hf=>qE hf rfl rfl rfl (Pu.ev (pA rfl)) fun a hf=>?_
 intro w hc
 refine h2 _ _ ?_
 refine wp_ret ?_
 obtain rfl:=sj hF
 replace hc:=(hc.drop k1).drop k0
 exact zO1 Tryz.results69 hf rfl ⟨rfl,hc⟩

def mZ (N:Nat) (D:Int) (B:Int):Option (cK (Int × Int) (cK (Int × Int × (List aI)) (cK ((List Int) × Int × Int × (List aI)) ((List Int) × Int)))) :=
 some (.cont (B,W (D + 1)))
def uV (N:Nat) (J:List aI) (I:Int) (B:Int) (D:Int):Option (cK (Int × Int) (cK (Int × Int × (List aI)) (cK ((List Int) × Int × Int × (List aI)) ((List Int) × Int)))) :=
 cond (decide (D < ((J.length:Nat):Int)))
 (Option.bind (bH J D) fun H=>
 cond ((eN H I) && ((B == (-1)) || (decide ((W (H.From + H.Long)) < B))))
 (mZ N D (W (H.From + H.Long)))
 (mZ N D B))
 (some (.brk (B,D)))
def uA (N:Nat) (c_:aM) (M:List aI) (H:aI) (I:Int) (J:Int) (D:List aI):Option (cK (Int × Int × (List aI)) (cK ((List Int) × Int × Int × (List aI)) ((List Int) × Int))) :=
 Option.bind (oS N (⟨c_.Car,c_.Wide,c_.Sag,c_.Most,D⟩:aM) (⟨J,H.Long,H.Weight⟩:aI)) fun O=>
 cond O
 (Option.bind (bE (fun B=>uV N M I B.1 B.2) N ((-1),0)) fun R=>
 exK R (fun B=>Option.bind (bH D (W (((D.length:Nat):Int) - 1))) fun S=>
 some (.cont (B.1,B.1,(D.set (W (((D.length:Nat):Int) - 1)).toNat (⟨B.1,H.Long,H.Weight⟩:aI))))) some)
 (some (.brk (I,J,D)))
def tX (N:Nat) (c_:aM) (out:List Int) (H:Int) (x:Int) (I:List aI):Option (cK ((List Int) × Int × Int × (List aI)) ((List Int) × Int)) :=
 cond (decide (x < ((c_.Rides.length:Nat):Int)))
 (Option.bind (bH c_.Rides x) fun B=>
 Option.bind (fC N I) fun J=>
 Option.bind (room ((J++[(⟨max H B.From,B.Long,B.Weight⟩:aI)])).length) fun un=>
 Option.bind (bE (fun D=>uA N c_ I B D.1 D.2.1 D.2.2) N (max H B.From,max H B.From,(J++[(⟨max H B.From,B.Long,B.Weight⟩:aI)]))) fun M=>
 exK M (fun D=>Option.bind (room ((out++[D.1])).length) fun O=>
 some (.cont ((out++[D.1]),D.1,W (x + 1),D.2.2))) some)
 (some (.brk (out,H,x,I)))
def vZ (N:Nat) (c_:aM):Option ((List Int) × Int) :=
 Option.bind (iF N c_) fun r=>
 cond (r != 0)
 (some (([]:List Int),r))
 (Option.bind (cond (bO c_ c_.Car) (some true) (Option.bind (jQ N c_.Rides c_) fun H=>
 some (!H))) fun I=>
 cond I
 (some (([]:List Int),6))
 (Option.bind (bE (fun B=>tX N c_ B.1 B.2.1 B.2.2.1 B.2.2.2) N (([]:List Int),0,0,([]:List aI))) fun D=>
 exK D (fun B=>some (B.1,0)) some))
theorem aBc {N:Nat} {G:aO} {Lf:List Ent} {w:World} (c_:aM) {D:Option Addr} {H:Nat} (U:Rd G 4 D H (c_.Rides.map aK)) (hc:Ctx G (Lf) w) {aq:(List Int) × Int} (hF:vZ N c_=some aq):Calls Tryz.prog 35 #[.agg #[i6 c_.Car,i6 c_.Wide,i6 c_.Sag,i6 c_.Most,.slice D c_.Rides.length H]] w (fun e w=>∃ (a9:Option Addr) (a8:Nat),e=.returned (.tuple #[.slice a9 aq.1.length a8,i6 aq.2])∧Ctx G (.row a9 a8 (aq.1.map aD) 3 1::Lf) w):=by
 unfold vZ at hF
 refine bI Tryz.func35 rfl Tryz.ntmps35 rfl fun a hf=>zS fun K h=>zB hf hc rfl fun a1 a w hf hc=>sp 2 hf rfl fun a hf=>zT h ?_
 refine zS fun K h=>zN hf hc mW m0 rfl fun a w hf hc=>?_
 obtain ⟨r,hr,hF⟩:=aA hF
 refine zQ (v:=i6 r) hf hc aH3 rfl (fun w hc=>mM c_ U hc hr) fun a w hf hc=>sp 1 hf rfl fun a hf=>zT h ?_
 refine wp_seq_k fun K3 h3=>wp_block ?_
 refine zS fun K h=>sp 3 hf rfl fun a hf=>zT h ?_
 refine zI hf rfl hF ?_ ?_ <;> clear hF <;> intro hF
 ·refine zS fun K h=>sp 3 hf rfl fun a hf=>zT h ?_
  refine wp_ret ?_
  refine bN ?_
  refine aN ?_
  obtain rfl:=sj hF
  replace hc:=hc.nilRow 3 1
  replace hc:=hc.drop k1
  exact zO2 Tryz.results35 hf rfl rfl ⟨none,0,rfl,hc⟩
 ·refine zS fun K h=>zN hf hc mW m0 rfl fun a w hf hc=>zP hf rfl (pFA wL rfl) fun a hf=>zL hf hc bA m0 rfl fun a w hf hc=>zQ (v:=.bool (bO c_ c_.Car)) hf hc aC9 rfl (fun w hc=>gG c_ c_.Car U hc rfl) fun a w hf hc=>sp 1 hf rfl fun a hf=>?_
  obtain ⟨cd,a0,hF⟩:=aA hF
  refine gX 6 (fun a=>Has 105 a [(1,pq a1),(21,.agg #[i6 c_.Car,i6 c_.Wide,i6 c_.Sag,i6 c_.Most,.slice D c_.Rides.length H]),(22,pq a1),(23,i6 c_.Car),(24,.bool (bO c_ c_.Car)),(25,.bool (bO c_ c_.Car)),(31,.bool cd)]) hc ?_ ?_
  ·cases hb:(bO c_ c_.Car)
   ·rw [hb] at hf
    have hF:=jM hb a0
    refine zP hf rfl (pFA jU rfl) fun a hf=>zL hf hc tI m0 rfl fun a w hf hc=>zP hf rfl (pMF (us:=[pq a1]) rfl rfl) fun a hf=>?_
    obtain ⟨cj,b1,hF⟩:=aA hF
    refine zQ (v:=.bool cj) hf hc aJ5 rfl (fun w hc=>(qH c_.Rides c_ U U (hc.pick k0) b1).mono fun e w h=>⟨h.1,(h.2.unpick k0)⟩) fun a w hf hc=>sp 2 hf rfl fun a hf=>?_
    obtain rfl:=sj hF
    exact aP ⟨hf.kp rfl,hc⟩
   ·rw [hb] at hf
    have hF:=iL hb a0
    obtain rfl:=sj hF
    refine stS hf rfl rfl rfl fun a hf=>stS hf rfl rfl rfl fun a hf=>stS hf rfl rfl rfl fun a hf=>stS hf rfl rfl rfl fun a hf=>stS hf rfl rfl rfl fun a hf=>sp 1 hf rfl fun a hf=>aP ⟨hf.kp rfl,hc⟩
  intro a w ⟨hf,hc⟩
  refine sp 1 hf rfl fun a hf=>zT h ?_
  refine zI hf rfl hF ?_ ?_ <;> clear hF <;> intro hF
  ·refine zS fun K h=>sp 2 hf rfl fun a hf=>zT h ?_
   refine wp_ret ?_
   refine bN ?_
   refine aN ?_
   obtain rfl:=sj hF
   replace hc:=hc.nilRow 3 1
   replace hc:=hc.drop k1
   exact zO2 Tryz.results35 hf rfl rfl ⟨none,0,rfl,hc⟩
  ·refine wp_skip ?_
   refine h3 _ _ ?_
   refine zS fun K h=>zN hf hc mW m0 rfl fun a w hf hc=>zA hf hc aEz rfl fun Y a w hf hc=>zW hf hc aDk u0 rfl fun w hc=>zT h ?_
   refine zS fun K h=>zP hf rfl (pFA jU rfl) fun a hf=>zW hf hc aHs u0 rfl fun w hc=>zT h ?_
   refine zS fun K h=>sp 1 hf rfl fun a hf=>zT h ?_
   refine zS fun K h=>sp 1 hf rfl fun a hf=>zT h ?_
   refine wp_seq_k fun K12 cp=>zS fun K h=>zP hf rfl (pFA jU rfl) fun a hf=>zL hf hc tI m1 rfl fun a w hf hc=>zP hf rfl (bC Tryz.underlying78 rfl) fun a hf=>sp 1 hf rfl fun a hf=>zT h ?_
   refine wp_block ?_
   obtain ⟨a6,bt,hF⟩:=aA hF
   let S14:((List Int) × Int × Int × (List aI))→Act→World→Prop:=(fun (zz:(List Int) × Int × Int × (List aI)) a w=>∃ (X:Option Addr) (R:Nat) (s:Option Addr) (q:Nat),Has 105 a [(5,pq Y),(6,.slice X zz.1.length R),(7,i6 zz.2.1),(35,.slice D c_.Rides.length H),(36,i6 ((c_.Rides.length:Nat):Int)),(37,i6 zz.2.2.1)]∧Ctx G (.row s q (zz.2.2.2.map aK) 85 4::.row X R (zz.1.map aD) 3 1::.box Y [i6 c_.Car,i6 c_.Wide,i6 c_.Sag,i6 c_.Most,.slice s zz.2.2.2.length q] 80::Lf) w)
   have bm:∀ (zz:(List Int) × Int × Int × (List aI)) a w,a6=.go zz→S14 zz a w→K12 a w:=by
    rintro ⟨out,V,x,M⟩ a w rfl ⟨X,R,s,q,hf,hc⟩
    replace hF:=bP hF
    refine cp _ _ ?_
    refine zS fun K h=>sp 3 hf rfl fun a hf=>zT h ?_
    refine wp_ret ?_
    obtain rfl:=sj hF
    replace hc:=(hc.drop k2).drop k0
    exact zO2 Tryz.results35 hf rfl rfl ⟨X,R,rfl,hc⟩
   have cv:∀ r,a6=.out r→r=aq:=by
    rintro r rfl
    exact sj hF
   replace hc:=hc.nilRow 3 1
   replace hc:=hc.nilRow 85 4
   replace hc:=hc.drop k3
   refine cR N (cL (S:=S14) (x:=a6) ?_ N (([]:List Int),0,0,([]:List aI)) _ _ ⟨none,0,none,0,hf.kp rfl,hc⟩ bt)
   clear hF hf hc
   rintro ⟨out,V,x,M⟩ br a w KB14 ⟨X,R,s,q,hf,hc⟩ hF ak bk
   unfold tX at hF
   refine zS fun K h=>sp 1 hf rfl fun a hf=>zT h ?_
   refine wp_seq_k fun K17 cn=>zI hf rfl hF ?_ ?_ <;> clear hF <;> intro hF
   ·refine wp_skip ?_
    refine cn _ _ ?_
    refine wp_seq_k fun K18 cr=>wp_block ?_
    refine zS fun K h=>?_
    obtain ⟨B,bj,hF⟩:=aA hF
    obtain ⟨cy,o,qa,qp⟩:=U.atm bj
    refine zP hf rfl (pIA Tryz.underlying78 rD rfl rfl qa) fun a hf=>zE hf hc rfl (jN (vs:=[i6 B.From,i6 B.Long,i6 B.Weight.Lo,i6 B.Weight.Hi]) qI rfl rfl (eX qp (n:=4) (o':=0) rfl)) fun a w hf hc=>zA hf hc aDh rfl fun j a w hf hc=>zW hf hc rD u0 rfl fun w hc=>zT h ?_
    refine zS fun K h=>sp 1 hf rfl fun a hf=>zP hf rfl (pFA oG rfl) fun a hf=>zL hf hc bA m0 rfl fun a w hf hc=>zP hf rfl (aFl rfl rfl) fun a hf=>sp 1 hf rfl fun a hf=>zT h ?_
    refine zS fun K h=>sp 1 hf rfl fun a hf=>zP hf rfl (pFA oG rfl) fun a hf=>zW hf hc eL u0 rfl fun w hc=>zT h ?_
    refine zS fun K h=>zN hf hc mW m3 rfl fun a w hf hc=>zA hf hc aEz rfl fun Z a w hf hc=>zW hf hc aDk u0 rfl fun w hc=>zT h ?_
    refine wp_seq_k fun K23 ci=>?_
    obtain ⟨aa,bx,hF⟩:=aA hF
    obtain ⟨un,cf,hF⟩:=aA hF
    replace hc:=hc.nilRow 0 0
    replace hc:=hc.nilRow 0 0
    refine gK (fun θ=>[⟨none,none,5,pq Y⟩,⟨none,none,6,.slice X out.length R⟩,⟨none,none,7,i6 (max V B.From)⟩,⟨none,none,9,pq j⟩,⟨none,none,10,pq Z⟩,⟨none,none,35,.slice D c_.Rides.length H⟩,⟨none,none,36,i6 ((c_.Rides.length:Nat):Int)⟩,⟨none,none,37,i6 x⟩,⟨some 0,none,48,.pointer (some ⟨Y,4,none⟩)⟩,⟨some 1,none,49,.slice s M.length q⟩,⟨some 2,none,50,.slice ((θ 16).p) aa.length ((θ 16).c)⟩,⟨some 3,none,51,.agg #[i6 (max V B.From),i6 B.Long,i6 B.Weight.Lo,i6 B.Weight.Hi]⟩,⟨some 4,none,52,.slice (some ⟨(θ 32).b,0,none⟩) 1 1⟩,⟨some 5,none,53,.slice ((θ 40).p) ((aa++[(⟨max V B.From,B.Long,B.Weight⟩:aI)]).length) ((θ 40).c)⟩,⟨some 6,none,54,.pointer (some ⟨Z,4,none⟩)⟩]) (fun E θ=>(bif E 4 then .row (some ⟨(θ 32).b,0,none⟩) 1 (([(⟨max V B.From,B.Long,B.Weight⟩:aI)]:List aI).map aK) 85 4 else .row none 0 [] 0 0)::(bif E 5 then .row ((θ 40).p) ((θ 40).c) ((aa++[(⟨max V B.From,B.Long,B.Weight⟩:aI)]).map aK) 85 4 else bif E 2 then .row ((θ 16).p) ((θ 16).c) (aa.map aK) 85 4 else .row none 0 [] 0 0)::(bif E 7 then .box Z [i6 c_.Car,i6 c_.Wide,i6 c_.Sag,i6 c_.Most,.slice ((θ 40).p) ((aa++[(⟨max V B.From,B.Long,B.Weight⟩:aI)]).length) ((θ 40).c)] 80 else .box Z [i6 c_.Car,i6 c_.Wide,i6 c_.Sag,i6 c_.Most,.slice s M.length q] 80)::.box j [i6 (max V B.From),i6 B.Long,i6 B.Weight.Lo,i6 B.Weight.Hi] 85::.row s q (M.map aK) 85 4::.row X R (out.map aD) 3 1::.box Y [i6 c_.Car,i6 c_.Wide,i6 c_.Sag,i6 c_.Most,.slice s M.length q] 80::Lf) [(5,2),(7,5)] (fun a w=>∃ (bb:Nat) (ax:Option Addr) (av:Nat),Has 105 a [(5,pq Y),(6,.slice X out.length R),(7,i6 (max V B.From)),(9,pq j),(10,pq Z),(35,.slice D c_.Rides.length H),(36,i6 ((c_.Rides.length:Nat):Int)),(37,i6 x)]∧Ctx G (.row (some ⟨bb,0,none⟩) 1 (([(⟨max V B.From,B.Long,B.Weight⟩:aI)]:List aI).map aK) 85 4::.row ax av ((aa++[(⟨max V B.From,B.Long,B.Weight⟩:aI)]).map aK) 85 4::.box Z [i6 c_.Car,i6 c_.Wide,i6 c_.Sag,i6 c_.Most,.slice ax ((aa++[(⟨max V B.From,B.Long,B.Weight⟩:aI)]).length) av] 80::.box j [i6 (max V B.From),i6 B.Long,i6 B.Weight.Lo,i6 B.Weight.Hi] 85::.row s q (M.map aK) 85 4::.row X R (out.map aD) 3 1::.box Y [i6 c_.Car,i6 c_.Wide,i6 c_.Sag,i6 c_.Most,.slice s M.length q] 80::Lf) w) aU (by kernel_rfl) (by kernel_rfl) (fB.of hf ⟨rfl,rfl,rfl,rfl,rfl,rfl,rfl,rfl,trivial,trivial,trivial,trivial,trivial,trivial,trivial,trivial⟩) hc ⟨?_,?_,?_,?_,?_,?_,?_,?_,trivial⟩ ?_ ?_
    ·intro E θ a w hD hi hp he hc
     have hf:=he.h0.mT he 0 rfl
     refine zP hf rfl (pFA jU rfl) fun a hf=>zD θ he hi hf 8 rfl rfl rfl hc
    ·intro E θ a w hD hi hp he hc
     have e0:=hp.o 0 rfl
     have hf:=he.h0.mP he 8 rfl e0
     refine zL hf hc tI m6 rfl fun a w hf hc=>zD θ he hi hf 9 rfl rfl rfl hc
    ·intro E θ a w hD hi hp he hc
     have e1:=hp.o 1 rfl
     have e5:=hD.f 0 rfl hi
     try dsimp only at hc
     rw [hi,e5] at hc
     have hf:=he.h0.mP he 9 rfl e1
     obtain ⟨G1,b2,ar,hc,au⟩:=lend hc k4
     refine zC hf en_68 rfl (lU M ar hc bx) ?_
     rintro _ w ⟨cg,b7,rfl,hc⟩
     refine ⟨_,rfl,fun a hf=>?_⟩
     replace hc:=au _ _ hc
     refine aP ?_
     refine cV ?_
     intro ds u ap
     replace hc:=(((((hc.drop k3).pick k0).pick k4).pick k4).pick k3).pick k4
     refine ⟨(lA θ 16 ⟨0,cg,b7,(fun _=>(none,0))⟩),he.put hi ap hf rfl [] trivial ⟨qq,qq,qq,qq,qq,qq,qq,qq,qq,qq,qq,qq,qq,qq,qq,trivial⟩,?_⟩
     try dsimp only
     rw [aR E 2,bB 2 e5 rfl]
     exact hc
    ·intro E θ a w hD hi hp he hc
     have hf:=he.h0.mT he 3 rfl
     refine zN hf hc qI m3 rfl fun a w hf hc=>zD θ he hi hf 11 rfl rfl rfl hc
    ·intro E θ a w hD hi hp he hc
     have e3:=hp.o 3 rfl
     try dsimp only at hc
     rw [hi] at hc
     have hf:=he.h0.mP he 11 rfl e3
     refine jD (rows:=([(⟨max V B.From,B.Long,B.Weight⟩:aI)]:List aI).map aK) (vs:=[(0,.agg #[i6 (max V B.From),i6 B.Long,i6 B.Weight.Lo,i6 B.Weight.Hi])]) hf hc rfl rfl aAi rfl ⟨rfl,rfl,rfl,trivial⟩ rfl rfl fun cm a w hf hc=>aP ?_
     refine cV ?_
     intro ds u ap
     replace hc:=hc.drop k1
     refine ⟨(lA θ 32 ⟨cm,none,0,(fun _=>(none,0))⟩),he.put hi ap hf rfl [] trivial ⟨qq,qq,qq,qq,qq,qq,qq,qq,qq,qq,qq,qq,qq,qq,qq,trivial⟩,?_⟩
     try dsimp only
     rw [aR E 4]
     exact hc
    ·intro E θ a w hD hi hp he hc
     have e2:=hp.o 2 rfl
     have e4:=hp.o 4 rfl
     have e7:=hD.f 1 rfl hi
     try dsimp only at hc
     rw [e4,e2,hi,e7] at hc
     have hf:=(he.h0.mP he 10 rfl e2).mP he 12 rfl e4
     refine kY (xs:=aa) (ys:=([(⟨max V B.From,B.Long,B.Weight⟩:aI)]:List aI)) hf hc rfl rfl aAi rfl rfl rfl rfl rfl kU (fG hc m0) (fun _ _=>u1) (by simpa using cP cf) fun cc b4 a w hf hc=>aP ?_
     refine cV ?_
     intro ds u ap
     refine ⟨(lA θ 40 ⟨0,cc,b4,(fun _=>(none,0))⟩),he.put hi ap hf rfl [] trivial ⟨qq,qq,qq,qq,qq,qq,qq,qq,qq,qq,qq,qq,qq,qq,qq,trivial⟩,?_⟩
     try dsimp only
     rw [dK 5 e4,dK 5 e2,aR E 5,bB 5 e7 rfl]
     exact hc
    ·intro E θ a w hD hi hp he hc
     have hf:=he.h0.mT he 4 rfl
     refine zP hf rfl (pFA jU rfl) fun a hf=>zD θ he hi hf 14 rfl rfl rfl hc
    ·intro E θ a w hD hi hp he hc
     have e5:=hp.o 5 rfl
     have e6:=hp.o 6 rfl
     try dsimp only at hc
     rw [hi] at hc
     have hf:=(he.h0.mP he 13 rfl e5).mP he 14 rfl e6
     refine zW hf hc aHs u2 rfl fun w hc=>zG θ he hi hf rfl ?_
     try dsimp only
     rw [aR E 7]
     exact hc
    ·intro E θ a w aj he hc
     have hf:=he.h0
     have e2:=aj 2 rfl
     have e4:=aj 4 rfl
     have e5:=aj 5 rfl
     have e7:=aj 7 rfl
     replace hf:=hf.more he 7 rfl (onT)
     replace hf:=hf.more he 6 rfl (onT)
     replace hf:=hf.more he 5 rfl (onT)
     replace hf:=hf.more he 4 rfl (onT)
     replace hf:=hf.more he 3 rfl (onT)
     replace hf:=hf.more he 2 rfl (onT)
     replace hf:=hf.more he 1 rfl (onT)
     replace hf:=hf.more he 0 rfl (onT)
     try dsimp only at hc
     rw [e2,e4,e5,e7] at hc
     exact ⟨(θ 32).b,(θ 40).p,(θ 40).c,hf.kp rfl,hc⟩
    rintro a w ⟨bb,ax,av,hf,hc⟩
    refine ci _ _ ?_
    refine wp_seq_k fun K24 b6=>wp_block ?_
    obtain ⟨a2,bv,hF⟩:=aA hF
    let S25:(Int × Int × (List aI))→Act→World→Prop:=(fun (zz:Int × Int × (List aI)) a w=>∃ (ai:Option Addr) (ag:Nat) (y:Option Addr) (k:Nat),Has 105 a [(5,pq Y),(6,.slice X out.length R),(7,i6 zz.1),(9,pq j),(10,pq Z),(35,.slice D c_.Rides.length H),(36,i6 ((c_.Rides.length:Nat):Int)),(37,i6 x)]∧Ctx G (.row y k (zz.2.2.map aK) 85 4::.box Z [i6 c_.Car,i6 c_.Wide,i6 c_.Sag,i6 c_.Most,.slice y zz.2.2.length k] 80::.box j [i6 zz.2.1,i6 B.Long,i6 B.Weight.Lo,i6 B.Weight.Hi] 85::.row ai ag (M.map aK) 85 4::.row X R (out.map aD) 3 1::.box Y [i6 c_.Car,i6 c_.Wide,i6 c_.Sag,i6 c_.Most,.slice ai M.length ag] 80::Lf) w)
    have bs:∀ (zz:Int × Int × (List aI)) a w,a2=.go zz→S25 zz a w→K24 a w:=by
     rintro ⟨J,ay,d⟩ a w rfl ⟨ai,ag,y,k,hf,hc⟩
     replace hF:=bP hF
     refine b6 _ _ ?_
     refine zS fun K h=>zN hf hc mW m1 rfl fun a w hf hc=>zW hf hc aDk u5 rfl fun w hc=>zT h ?_
     refine cJ ?_
     refine sp 2 hf rfl fun a hf=>jD (rows:=([J]:List Int).map aD) (vs:=[(0,i6 J)]) hf hc rfl rfl fN rfl ⟨rfl,rfl,rfl,trivial⟩ rfl rfl fun cz a w hf hc=>?_
     obtain ⟨ct,a7,hF⟩:=aA hF
     refine kY (xs:=out) (ys:=([J]:List Int)) hf hc rfl rfl fN rfl rfl rfl rfl rfl bF (fG hc m0) (fun _ _=>u5) (by simpa using cP a7) fun cq b3 a w hf hc=>sp 1 hf rfl fun a hf=>aP ?_
     refine cr _ _ ?_
     refine cJ ?_
     refine sp 2 hf rfl fun a hf=>aP ?_
     replace hc:=(((hc.drop k4).drop k3).drop k2).drop k0
     exact bk ((out++[J]),J,W (x + 1),d) _ _ (sj hF).symm ⟨cq,b3,y,k,hf.kp rfl,hc⟩
    have cs:∀ r,a2=.out r→r=br:=by
     rintro r rfl
     exact sj hF
    replace hc:=hc.drop k0
    refine cR N (cL (S:=S25) (x:=a2) ?_ N (max V B.From,max V B.From,(aa++[(⟨max V B.From,B.Long,B.Weight⟩:aI)])) _ _ ⟨s,q,ax,av,hf.kp rfl,hc⟩ bv)
    clear hF hf hc
    rintro ⟨J,ay,d⟩ bp a w KB25 ⟨ai,ag,y,k,hf,hc⟩ hF am bq
    unfold uA at hF
    refine wp_seq_k fun K27 cb=>zS fun K h=>zN hf hc mW m1 rfl fun a w hf hc=>zN hf hc qI m2 rfl fun a w hf hc=>?_
    obtain ⟨ca,b0,hF⟩:=aA hF
    refine zQ (v:=.bool ca) hf hc en_69 rfl (fun w hc=>by obtain ⟨G1,b2,ar,hc,au⟩:=lend hc k0; exact (vS (⟨c_.Car,c_.Wide,c_.Sag,c_.Most,d⟩:aM) (⟨ay,B.Long,B.Weight⟩:aI) ar hc b0).mono fun e w h=>⟨h.1,((au _ _ h.2).unpick k0)⟩) fun a w hf hc=>zT h ?_
    refine zI hf rfl hF ?_ ?_ <;> clear hF <;> intro hF
    ·refine wp_skip ?_
     refine cb _ _ ?_
     refine wC fun K29 ck=>wp_block ?_
     refine zS fun K h=>sp 1 hf rfl fun a hf=>zT h ?_
     refine wp_seq_k fun K31 b5=>zS fun K h=>zP hf rfl (pFA jU rfl) fun a hf=>zL hf hc tI m5 rfl fun a w hf hc=>zP hf rfl (bC Tryz.underlying78 rfl) fun a hf=>sp 1 hf rfl fun a hf=>zT h ?_
     refine wp_block ?_
     obtain ⟨a5,bz,hF⟩:=aA hF
     let S33:(Int × Int)→Act→World→Prop:=(fun (zz:Int × Int) a w=>∃ (ab:Option Addr) (m:Nat),Has 105 a [(5,pq Y),(6,.slice X out.length R),(7,i6 J),(9,pq j),(10,pq Z),(11,i6 zz.1),(35,.slice D c_.Rides.length H),(36,i6 ((c_.Rides.length:Nat):Int)),(37,i6 x),(59,.slice ab M.length m),(60,i6 ((M.length:Nat):Int)),(61,i6 zz.2)]∧Ctx G (.row y k (d.map aK) 85 4::.box Z [i6 c_.Car,i6 c_.Wide,i6 c_.Sag,i6 c_.Most,.slice y d.length k] 80::.box j [i6 ay,i6 B.Long,i6 B.Weight.Lo,i6 B.Weight.Hi] 85::.row ab m (M.map aK) 85 4::.row X R (out.map aD) 3 1::.box Y [i6 c_.Car,i6 c_.Wide,i6 c_.Sag,i6 c_.Most,.slice ab M.length m] 80::Lf) w)
     have bd:∀ (zz:Int × Int) a w,a5=.go zz→S33 zz a w→K31 a w:=by
      rintro ⟨I,ad⟩ a w rfl ⟨ab,m,hf,hc⟩
      replace hF:=bP hF
      refine b5 _ _ ?_
      refine zS fun K h=>sp 2 hf rfl fun a hf=>zT h ?_
      refine zS fun K h=>sp 1 hf rfl fun a hf=>zP hf rfl (pFA oG rfl) fun a hf=>zW hf hc eL u2 rfl fun w hc=>zT h ?_
      refine cJ ?_
      refine zP hf rfl (pFA jU rfl) fun a hf=>zL hf hc tI m1 rfl fun a w hf hc=>zP hf rfl (pFA jU rfl) fun a hf=>zL hf hc tI m1 rfl fun a w hf hc=>zP hf rfl (bC Tryz.underlying78 rfl) fun a hf=>sp 1 hf rfl fun a hf=>zN hf hc qI m2 rfl fun a w hf hc=>?_
      obtain ⟨cx,a3,hF⟩:=aA hF
      obtain ⟨g,rfl,bg,qr⟩:=hU hc m0 a3
      refine zP hf rfl (pIA Tryz.underlying78 rD rfl rfl bg) fun a hf=>aBi (sz:=4) (vs:=[i6 I,i6 B.Long,i6 B.Weight.Lo,i6 B.Weight.Hi]) (o':=0) (z:=(⟨I,B.Long,B.Weight⟩:aI)) (xs:=d) hf hc rfl rfl rfl rfl rD rfl (fun x=>(kU x).1) (oE a3) (fun _ _=>rfl) rfl u0 fun w hc=>aP ?_
      refine ck _ _ ?_
      replace hc:Ctx G (.row (some ⟨g,0,none⟩) k ((d.set (W (((d.length:Nat):Int) - 1)).toNat (⟨I,B.Long,B.Weight⟩:aI)).map aK) 85 4::.box Z [i6 c_.Car,i6 c_.Wide,i6 c_.Sag,i6 c_.Most,.slice (some ⟨g,0,none⟩) ((d.set (W (((d.length:Nat):Int) - 1)).toNat (⟨I,B.Long,B.Weight⟩:aI)).length) k] 80::.box j [i6 I,i6 B.Long,i6 B.Weight.Lo,i6 B.Weight.Hi] 85::.row ab m (M.map aK) 85 4::.row X R (out.map aD) 3 1::.box Y [i6 c_.Car,i6 c_.Wide,i6 c_.Sag,i6 c_.Most,.slice ab M.length m] 80::Lf) w:=by simp only [List.length_set] at hc ⊢; exact hc
      exact bq (I,I,(d.set (W (((d.length:Nat):Int) - 1)).toNat (⟨I,B.Long,B.Weight⟩:aI))) _ _ (sj hF).symm ⟨ab,m,(some ⟨g,0,none⟩),k,hf.kp rfl,hc⟩
     have cu:∀ r,a5=.out r→r=bp:=by
      rintro r rfl
      exact sj hF
     refine cR N (cL (S:=S33) (x:=a5) ?_ N ((-1),0) _ _ ⟨ai,ag,hf.kp rfl,hc⟩ bz)
     clear hF hf hc
     rintro ⟨I,ad⟩ bf a w KB33 ⟨ab,m,hf,hc⟩ hF an bc
     unfold uV at hF
     refine zS fun K h=>sp 1 hf rfl fun a hf=>zT h ?_
     refine wp_seq_k fun K37 b9=>zI hf rfl hF ?_ ?_ <;> clear hF <;> intro hF
     ·refine wp_skip ?_
      refine b9 _ _ ?_
      refine wp_seq_k fun K38 b8=>?_
      have a4:∀ (t:Int) (ac:Option Addr) (af:Nat) a w,Has 105 a [(5,pq Y),(6,.slice X out.length R),(7,i6 J),(9,pq j),(10,pq Z),(11,i6 t),(35,.slice D c_.Rides.length H),(36,i6 ((c_.Rides.length:Nat):Int)),(37,i6 x),(59,.slice ac M.length af),(60,i6 ((M.length:Nat):Int)),(61,i6 ad)]→Ctx G (.row y k (d.map aK) 85 4::.box Z [i6 c_.Car,i6 c_.Wide,i6 c_.Sag,i6 c_.Most,.slice y d.length k] 80::.box j [i6 ay,i6 B.Long,i6 B.Weight.Lo,i6 B.Weight.Hi] 85::.row ac af (M.map aK) 85 4::.row X R (out.map aD) 3 1::.box Y [i6 c_.Car,i6 c_.Wide,i6 c_.Sag,i6 c_.Most,.slice ac M.length af] 80::Lf) w→mZ N ad t=some bf→K38 a w:=by
       repeat (clear hF)
       repeat (clear hc)
       repeat (clear hf)
       intro t ac af a w hf hc hF
       unfold mZ at hF
       refine b8 _ _ ?_
       refine cJ ?_
       refine sp 2 hf rfl fun a hf=>aP ?_
       exact bc (t,W (ad + 1)) _ _ (sj hF).symm ⟨ac,af,hf.kp rfl,hc⟩
      refine wp_block ?_
      refine zS fun K h=>?_
      obtain ⟨O,bn,hF⟩:=aA hF
      obtain ⟨az,rfl,bu,bi⟩:=hU hc m3 bn
      refine zP hf rfl (pIA Tryz.underlying78 rD rfl rfl bu) fun a hf=>zE hf hc rfl (jN (vs:=[i6 O.From,i6 O.Long,i6 O.Weight.Lo,i6 O.Weight.Hi]) qI rfl rfl (aC4 (sz:=4) (i:=ad.toNat) m3 bi (n:=4) (o':=0) rfl)) fun a w hf hc=>zA hf hc aDh rfl fun ba a w hf hc=>zW hf hc rD u0 rfl fun w hc=>zT h ?_
      refine zS fun K h=>zN hf hc qI m0 rfl fun a w hf hc=>sp 1 hf rfl fun a hf=>zQ (v:=.bool (eN O J)) hf hc aIg rfl (fun w hc=>oY O J hc rfl) fun a w hf hc=>sp 1 hf rfl fun a hf=>gX 12 (fun a=>Has 105 a [(5,pq Y),(6,.slice X out.length R),(7,i6 J),(9,pq j),(10,pq Z),(11,i6 I),(35,.slice D c_.Rides.length H),(36,i6 ((c_.Rides.length:Nat):Int)),(37,i6 x),(59,.slice (some ⟨az,0,none⟩) M.length m),(60,i6 ((M.length:Nat):Int)),(61,i6 ad),(13,pq ba),(65,.agg #[i6 O.From,i6 O.Long,i6 O.Weight.Lo,i6 O.Weight.Hi]),(66,i6 J),(67,.bool (eN O J)),(68,.bool (eN O J)),(80,.bool ((eN O J) && ((I == (-1)) || (decide ((W (O.From + O.Long)) < I)))))]) hc ?_ ?_
      ·cases hb:(eN O J)
       ·rw [hb] at hf
        refine stS hf rfl rfl rfl fun a hf=>stS hf rfl rfl rfl fun a hf=>stS hf rfl rfl rfl fun a hf=>stS hf rfl rfl rfl fun a hf=>stS hf rfl rfl rfl fun a hf=>stS hf rfl rfl rfl fun a hf=>stS hf rfl rfl rfl fun a hf=>stS hf rfl rfl rfl fun a hf=>stS hf rfl rfl rfl fun a hf=>stS hf rfl rfl rfl fun a hf=>stS hf rfl rfl rfl fun a hf=>sp 1 hf rfl fun a hf=>aP ⟨hf.kp rfl,hc⟩
       ·rw [hb] at hf
        refine sp 3 hf rfl fun a hf=>gX 8 (fun a=>Has 105 a [(5,pq Y),(6,.slice X out.length R),(7,i6 J),(9,pq j),(10,pq Z),(11,i6 I),(35,.slice D c_.Rides.length H),(36,i6 ((c_.Rides.length:Nat):Int)),(37,i6 x),(59,.slice (some ⟨az,0,none⟩) M.length m),(60,i6 ((M.length:Nat):Int)),(61,i6 ad),(13,pq ba),(65,.agg #[i6 O.From,i6 O.Long,i6 O.Weight.Lo,i6 O.Weight.Hi]),(66,i6 J),(67,.bool true),(68,.bool true),(69,i6 I),(70,.bool (I == (-1))),(71,.bool (I == (-1))),(79,.bool ((I == (-1)) || (decide ((W (O.From + O.Long)) < I))))]) hc ?_ ?_
        ·cases hb:(I == (-1))
         ·rw [hb] at hf
          refine zP hf rfl (pFA oG rfl) fun a hf=>zL hf hc bA m0 rfl fun a w hf hc=>zP hf rfl (pFA zJ rfl) fun a hf=>zL hf hc bA m0 rfl fun a w hf hc=>sp 4 hf rfl fun a hf=>aP ⟨hf.kp rfl,hc⟩
         ·rw [hb] at hf
          refine stS hf rfl rfl rfl fun a hf=>stS hf rfl rfl rfl fun a hf=>stS hf rfl rfl rfl fun a hf=>stS hf rfl rfl rfl fun a hf=>stS hf rfl rfl rfl fun a hf=>stS hf rfl rfl rfl fun a hf=>stS hf rfl rfl rfl fun a hf=>sp 1 hf rfl fun a hf=>aP ⟨hf.kp rfl,hc⟩
        intro a w ⟨hf,hc⟩
        refine sp 1 hf rfl fun a hf=>aP ⟨hf.kp rfl,hc⟩
      intro a w ⟨hf,hc⟩
      refine zT h ?_
      refine zI hf rfl hF ?_ ?_ <;> clear hF <;> intro hF
      ·refine cJ ?_
       refine zP hf rfl (pFA oG rfl) fun a hf=>zL hf hc bA m0 rfl fun a w hf hc=>zP hf rfl (pFA zJ rfl) fun a hf=>zL hf hc bA m0 rfl fun a w hf hc=>sp 2 hf rfl fun a hf=>aP ?_
       replace hc:=hc.drop k0
       exact a4 (W (O.From + O.Long)) (some ⟨az,0,none⟩) m _ _  (hf.kp rfl) hc hF
      ·refine wp_skip ?_
       replace hc:=hc.drop k0
       exact a4 I (some ⟨az,0,none⟩) m _ _  (hf.kp rfl) hc hF
     ·refine wp_exit ?_
      refine aW ?_
      refine aW ?_
      have he:=sj hF
      rw [← he] at an
      refine eV ?_
      exact bd _ _ _ an ⟨ab,m,hf.kp rfl,hc⟩
    ·refine wp_exit ?_
     refine aW ?_
     refine aW ?_
     have he:=sj hF
     rw [← he] at am
     refine eV ?_
     exact bs _ _ _ am ⟨ai,ag,y,k,hf.kp rfl,hc⟩
   ·refine wp_exit ?_
    refine aW ?_
    refine aW ?_
    have he:=sj hF
    rw [← he] at ak
    refine eV ?_
    exact bm _ _ _ ak ⟨X,R,s,q,hf.kp rfl,hc⟩

def rE (n:Int):Bool :=
 (aH n 0 1440)
theorem aA8 {G:aO} {Lf:List Ent} {w:World} (n:Int)   (hc:Ctx G (Lf) w) {B:Bool} (hF:rE n=B):Calls Tryz.prog 71 #[i6 n] w (fun e w=>e=.returned (.bool B)∧Ctx G (Lf) w):=by
 unfold rE at hF
 refine bI Tryz.func71 rfl Tryz.ntmps71 rfl fun a hf=>zS fun K h=>sp 1 hf rfl fun a hf=>zT h ?_
 refine zS fun K h=>sp 1 hf rfl fun a hf=>zQ (v:=.bool (aH n 0 1440)) hf hc lJ rfl (fun w hc=>cG n 0 1440 hc rfl) fun a w hf hc=>sp 1 hf rfl fun a hf=>zT h ?_
 refine wp_ret ?_
 obtain rfl:=hF
 exact zO1 Tryz.results71 hf rfl ⟨rfl,hc⟩

def jH (x:Int):Bool :=
 (!(rE x))
theorem tD {G:aO} {Lf:List Ent} {w:World} (x:Int) {b_:Nat}  (hc:Ctx G (.box b_ [.func (.func 71) #[] #[]] 106::Lf) w) {B:Bool} (hF:jH x=B):Calls Tryz.prog 84 #[i6 x,pq b_] w (fun e w=>e=.returned (.bool B)∧Ctx G (.box b_ [.func (.func 71) #[] #[]] 106::Lf) w):=by
 unfold jH at hF
 refine bI Tryz.func84 rfl Tryz.ntmps84 rfl fun a hf=>zS fun K h=>sp 1 hf rfl fun a hf=>zT h ?_
 refine zS fun K h=>zL hf hc aB6 m0 rfl fun a w hf hc=>sp 1 hf rfl fun a hf=>zQ (v:=.bool (rE x)) hf hc en_71 rfl (fun w hc=>aA8 x hc rfl) fun a w hf hc=>sp 2 hf rfl fun a hf=>zT h ?_
 refine wp_ret ?_
 obtain rfl:=hF
 exact zO1 Tryz.results84 hf rfl ⟨rfl,hc⟩

def iX (N:Nat) (s_:List Int) (x:Int):Option (cK (Int) (Int)) :=
 cond (decide (x < ((s_.length:Nat):Int)))
 (Option.bind (bH s_ x) fun B=>
 cond (jH B)
 (some (.ret x))
 (some (.cont (W (x + 1)))))
 (some (.brk x))
def gQ (N:Nat) (s_:List Int):Option (Int) :=
 Option.bind (bE (fun s4=>iX N s_ s4) N 0) fun x4=>
 exK x4 (fun s4=>some (-1)) some
theorem nR {N:Nat} {G:aO} {Lf:List Ent} {w:World} (s_:List Int) {D:Option Addr} {H:Nat} {b_:Nat} (O:Rd G 1 D H (s_.map aD)) (hc:Ctx G (.box b_ [.func (.func 71) #[] #[]] 106::Lf) w) {I:Int} (hF:gQ N s_=some I):Calls Tryz.prog 63 #[.slice D s_.length H,.func (.func 84) #[] #[pq b_]] w (fun e w=>e=.returned (i6 I)∧Ctx G (.box b_ [.func (.func 71) #[] #[]] 106::Lf) w):=by
 unfold gQ at hF
 refine bI Tryz.func63 rfl Tryz.ntmps63 rfl fun a hf=>zS fun K h=>sp 1 hf rfl fun a hf=>zT h ?_
 refine wp_seq_k fun K2 h2=>zS fun K h=>sp 1 hf rfl fun a hf=>zP hf rfl (bC Tryz.underlying30 rfl) fun a hf=>sp 1 hf rfl fun a hf=>zT h ?_
 refine wp_block ?_
 obtain ⟨x4,U,hF⟩:=aA hF
 let S4:Int→Act→World→Prop:=(fun (zz:Int) a w=>Has 19 a [(0,.slice D s_.length H),(1,.func (.func 84) #[] #[pq b_]),(7,i6 ((s_.length:Nat):Int)),(8,i6 zz)]∧Ctx G (.box b_ [.func (.func 71) #[] #[]] 106::Lf) w)
 have V:∀ (zz:Int) a w,x4=.go zz→S4 zz a w→K2 a w:=by
  rintro x a w rfl ⟨hf,hc⟩
  replace hF:=bP hF
  refine h2 _ _ ?_
  refine zS fun K h=>sp 1 hf rfl fun a hf=>zT h ?_
  refine wp_ret ?_
  obtain rfl:=sj hF
  exact zO1 Tryz.results63 hf rfl ⟨rfl,hc⟩
 have X:∀ r,x4=.out r→r=I:=by
  rintro r rfl
  exact sj hF
 refine cR N (cL (S:=S4) (x:=x4) ?_ N 0 _ _ ⟨hf.kp rfl,hc⟩ U)
 clear hF hf hc
 rintro x Y a w KB4 ⟨hf,hc⟩ hF B R
 unfold iX at hF
 refine zS fun K h=>sp 1 hf rfl fun a hf=>zT h ?_
 refine wp_seq_k fun K7 h7=>zI hf rfl hF ?_ ?_ <;> clear hF <;> intro hF
 ·refine wp_skip ?_
  refine h7 _ _ ?_
  refine wp_seq_k fun K8 h8=>wp_block ?_
  refine zS fun K h=>sp 2 hf rfl fun a hf=>zT h ?_
  refine zS fun K h=>sp 3 hf rfl fun a hf=>?_
  obtain ⟨J,M,hF⟩:=aA hF
  obtain ⟨Z,o,qa,qp⟩:=O.atm M
  refine zP hf rfl (pIA Tryz.underlying30 eL rfl rfl qa) fun a hf=>zE hf hc rfl (bT bA rfl (bL (j:=0) qp rfl)) fun a w hf hc=>zQ (v:=.bool (jH J)) hf hc aE9 rfl (fun w hc=>(tD J (hc.pick k0) rfl).mono fun e w h=>⟨h.1,(h.2.unpick k0)⟩) fun a w hf hc=>zT h ?_
  refine zI hf rfl hF ?_ ?_ <;> clear hF <;> intro hF
  ·refine zS fun K h=>sp 2 hf rfl fun a hf=>zT h ?_
   refine wp_ret ?_
   refine bN ?_
   refine aN ?_
   refine aN ?_
   have he:=sj hF
   rw [← he] at B
   replace hF:=X _ B
   refine bN ?_
   refine aN ?_
   obtain rfl:=hF
   exact zO1 Tryz.results63 hf rfl ⟨rfl,hc⟩
  ·refine wp_skip ?_
   refine h8 _ _ ?_
   refine cJ ?_
   refine sp 2 hf rfl fun a hf=>aP ?_
   exact R (W (x + 1)) _ _ (sj hF).symm ⟨hf.kp rfl,hc⟩
 ·refine wp_exit ?_
  refine aW ?_
  refine aW ?_
  have he:=sj hF
  rw [← he] at B
  refine eV ?_
  exact V _ _ _ B ⟨hf.kp rfl,hc⟩

def fP (N:Nat) (s_:List Int):Option (Bool) :=
 Option.bind (gQ N s_) fun r=>
 some (decide (0≤r))
theorem mQ {N:Nat} {G:aO} {Lf:List Ent} {w:World} (s_:List Int) {B:Option Addr} {D:Nat} {b_:Nat} (I:Rd G 1 B D (s_.map aD)) (hc:Ctx G (.box b_ [.func (.func 71) #[] #[]] 106::Lf) w) {H:Bool} (hF:fP N s_=some H):Calls Tryz.prog 50 #[.slice B s_.length D,.func (.func 84) #[] #[pq b_]] w (fun e w=>e=.returned (.bool H)∧Ctx G (.box b_ [.func (.func 71) #[] #[]] 106::Lf) w):=by
 unfold fP at hF
 refine bI Tryz.func50 rfl Tryz.ntmps50 rfl fun a hf=>zS fun K h=>sp 1 hf rfl fun a hf=>zT h ?_
 refine zS fun K h=>sp 2 hf rfl fun a hf=>?_
 obtain ⟨r,hr,hF⟩:=aA hF
 refine zQ (v:=i6 r) hf hc aA3 rfl (fun w hc=>(nR s_ I (hc.pick k0) hr).mono fun e w h=>⟨h.1,(h.2.unpick k0)⟩) fun a w hf hc=>sp 2 hf rfl fun a hf=>zT h ?_
 refine wp_ret ?_
 obtain rfl:=sj hF
 exact zO1 Tryz.results50 hf rfl ⟨rfl,hc⟩

def nG (N:Nat) (l:List Int):Option (Bool) :=
 Option.bind (fP N l) fun r=>
 some (!r)
theorem uN {N:Nat} {G:aO} {Lf:List Ent} {w:World} (l:List Int) {B:Option Addr} {D:Nat} (I:Rd G 1 B D (l.map aD)) (hc:Ctx G (Lf) w) {H:Bool} (hF:nG N l=some H):Calls Tryz.prog 44 #[.slice B l.length D,.func (.func 71) #[] #[]] w (fun e w=>e=.returned (.bool H)∧Ctx G (Lf) w):=by
 unfold nG at hF
 refine bI Tryz.func44 rfl Tryz.ntmps44 rfl fun a hf=>zS fun K h=>zB hf hc rfl fun J a w hf hc=>sp 1 hf rfl fun a hf=>zT h ?_
 refine zS fun K h=>sp 1 hf rfl fun a hf=>zP hf rfl (pMF (us:=[pq J]) rfl rfl) fun a hf=>?_
 obtain ⟨r,hr,hF⟩:=aA hF
 refine zQ (v:=.bool r) hf hc aC0 rfl (fun w hc=>(mQ l I (hc.pick k0) hr).mono fun e w h=>⟨h.1,(h.2.unpick k0)⟩) fun a w hf hc=>sp 2 hf rfl fun a hf=>zT h ?_
 refine wp_ret ?_
 obtain rfl:=sj hF
 replace hc:=hc.drop k0
 exact zO1 Tryz.results44 hf rfl ⟨rfl,hc⟩

def vO (N:Nat) (p_:sD) (l:List Int) (out:Int) (x:Int):Option (cK (Int × Int) (Int × Int)) :=
 cond (decide (x < ((l.length:Nat):Int)))
 (Option.bind (bH l x) fun B=>
 some (.cont (W (out + (W (p_.Rate * (W ((W (1000 * B)) + (W (p_.Extra * (max 0 (W (B - p_.Normal)))))))))),W (x + 1))))
 (some (.brk (out,x)))
def yB (N:Nat) (p_:sD) (l:List Int):Option (Int × Int) :=
 cond (((!(aH p_.Rate 0 10000)) || (!(aH p_.Normal 0 1440))) || (!(aH p_.Extra 0 1000)))
 (some (0,120))
 (cond (decide (366 < ((l.length:Nat):Int)))
 (some (0,3))
 (Option.bind (nG N l) fun r=>
 cond (!r)
 (some (0,4))
 (Option.bind (bE (fun B=>vO N p_ l B.1 B.2) N (0,0)) fun D=>
 exK D (fun B=>some (W ((W (B.1 + 59999)).tdiv 60000),0)) some)))
theorem aCq {N:Nat} {G:aO} {Lf:List Ent} {w:World} (p_:sD) (l:List Int) {H:Option Addr} {I:Nat} (O:Rd G 1 H I (l.map aD)) (hc:Ctx G (Lf) w) {J:Int × Int} (hF:yB N p_ l=some J):Calls Tryz.prog 36 #[.agg #[i6 p_.Rate,i6 p_.Normal,i6 p_.Extra],.slice H l.length I] w (fun e w=>e=.returned (.tuple #[i6 J.1,i6 J.2])∧Ctx G (Lf) w):=by
 unfold yB at hF
 refine bI Tryz.func36 rfl Tryz.ntmps36 rfl fun a hf=>zS fun K h=>zB hf hc rfl fun B a w hf hc=>sp 2 hf rfl fun a hf=>zT h ?_
 refine wp_seq_k fun K2 h2=>wp_block ?_
 refine zS fun K h=>zP hf rfl (pFA aFu rfl) fun a hf=>zL hf hc bA m0 rfl fun a w hf hc=>zQ (v:=.bool (aH p_.Rate 0 10000)) hf hc lJ rfl (fun w hc=>cG p_.Rate 0 10000 hc rfl) fun a w hf hc=>sp 2 hf rfl fun a hf=>gX 5 (fun a=>Has 60 a [(1,.slice H l.length I),(2,pq B),(10,pq B),(11,i6 p_.Rate),(12,.bool (aH p_.Rate 0 10000)),(13,.bool (!(aH p_.Rate 0 10000))),(14,.bool (!(aH p_.Rate 0 10000))),(19,.bool ((!(aH p_.Rate 0 10000)) || (!(aH p_.Normal 0 1440))))]) hc ?_ ?_
 ·cases hb:(!(aH p_.Rate 0 10000))
  ·rw [hb] at hf
   refine zP hf rfl (pFA aE4 rfl) fun a hf=>zL hf hc bA m0 rfl fun a w hf hc=>zQ (v:=.bool (aH p_.Normal 0 1440)) hf hc lJ rfl (fun w hc=>cG p_.Normal 0 1440 hc rfl) fun a w hf hc=>sp 2 hf rfl fun a hf=>aP ⟨hf.kp rfl,hc⟩
  ·rw [hb] at hf
   refine stS hf rfl rfl rfl fun a hf=>stS hf rfl rfl rfl fun a hf=>stS hf rfl rfl rfl fun a hf=>stS hf rfl rfl rfl fun a hf=>sp 1 hf rfl fun a hf=>aP ⟨hf.kp rfl,hc⟩
 intro a w ⟨hf,hc⟩
 refine sp 1 hf rfl fun a hf=>gX 5 (fun a=>Has 60 a [(1,.slice H l.length I),(2,pq B),(10,pq B),(11,i6 p_.Rate),(12,.bool (aH p_.Rate 0 10000)),(13,.bool (!(aH p_.Rate 0 10000))),(14,.bool (!(aH p_.Rate 0 10000))),(19,.bool ((!(aH p_.Rate 0 10000)) || (!(aH p_.Normal 0 1440)))),(20,.bool ((!(aH p_.Rate 0 10000)) || (!(aH p_.Normal 0 1440)))),(25,.bool (((!(aH p_.Rate 0 10000)) || (!(aH p_.Normal 0 1440))) || (!(aH p_.Extra 0 1000))))]) hc ?_ ?_
 ·cases hb:((!(aH p_.Rate 0 10000)) || (!(aH p_.Normal 0 1440)))
  ·rw [hb] at hf
   refine zP hf rfl (pFA aFb rfl) fun a hf=>zL hf hc bA m0 rfl fun a w hf hc=>zQ (v:=.bool (aH p_.Extra 0 1000)) hf hc lJ rfl (fun w hc=>cG p_.Extra 0 1000 hc rfl) fun a w hf hc=>sp 2 hf rfl fun a hf=>aP ⟨hf.kp rfl,hc⟩
  ·rw [hb] at hf
   refine stS hf rfl rfl rfl fun a hf=>stS hf rfl rfl rfl fun a hf=>stS hf rfl rfl rfl fun a hf=>stS hf rfl rfl rfl fun a hf=>sp 1 hf rfl fun a hf=>aP ⟨hf.kp rfl,hc⟩
 intro a w ⟨hf,hc⟩
 refine sp 1 hf rfl fun a hf=>zT h ?_
 refine zI hf rfl hF ?_ ?_ <;> clear hF <;> intro hF
 ·refine zS fun K h=>sp 2 hf rfl fun a hf=>zT h ?_
  refine wp_ret ?_
  refine bN ?_
  refine aN ?_
  obtain rfl:=sj hF
  replace hc:=hc.drop k0
  exact zO2 Tryz.results36 hf rfl rfl ⟨rfl,hc⟩
 ·refine zS fun K h=>sp 1 hf rfl fun a hf=>zP hf rfl (bC Tryz.underlying30 rfl) fun a hf=>sp 2 hf rfl fun a hf=>zT h ?_
  refine zI hf rfl hF ?_ ?_ <;> clear hF <;> intro hF
  ·refine zS fun K h=>sp 2 hf rfl fun a hf=>zT h ?_
   refine wp_ret ?_
   refine bN ?_
   refine aN ?_
   obtain rfl:=sj hF
   replace hc:=hc.drop k0
   exact zO2 Tryz.results36 hf rfl rfl ⟨rfl,hc⟩
  ·refine zS fun K h=>sp 1 hf rfl fun a hf=>?_
   obtain ⟨r,hr,hF⟩:=aA hF
   refine zQ (v:=.bool r) hf hc aD0 rfl (fun w hc=>uN l O hc hr) fun a w hf hc=>sp 2 hf rfl fun a hf=>zT h ?_
   refine zI hf rfl hF ?_ ?_ <;> clear hF <;> intro hF
   ·refine zS fun K h=>sp 2 hf rfl fun a hf=>zT h ?_
    refine wp_ret ?_
    refine bN ?_
    refine aN ?_
    obtain rfl:=sj hF
    replace hc:=hc.drop k0
    exact zO2 Tryz.results36 hf rfl rfl ⟨rfl,hc⟩
   ·refine wp_skip ?_
    refine h2 _ _ ?_
    refine zS fun K h=>sp 1 hf rfl fun a hf=>zT h ?_
    refine wp_seq_k fun K10 b=>zS fun K h=>sp 1 hf rfl fun a hf=>zP hf rfl (bC Tryz.underlying30 rfl) fun a hf=>sp 1 hf rfl fun a hf=>zT h ?_
    refine wp_block ?_
    obtain ⟨M,V,hF⟩:=aA hF
    let S12:(Int × Int)→Act→World→Prop:=(fun (zz:Int × Int) a w=>Has 60 a [(2,pq B),(6,i6 zz.1),(34,.slice H l.length I),(35,i6 ((l.length:Nat):Int)),(36,i6 zz.2)]∧Ctx G (.box B [i6 p_.Rate,i6 p_.Normal,i6 p_.Extra] 89::Lf) w)
    have X:∀ (zz:Int × Int) a w,M=.go zz→S12 zz a w→K10 a w:=by
     rintro ⟨out,x⟩ a w rfl ⟨hf,hc⟩
     replace hF:=bP hF
     refine b _ _ ?_
     refine zS fun K h=>sp 2 hf rfl fun a hf=>zP hf rfl (pQuo rfl rfl (by decide)) fun a hf=>sp 2 hf rfl fun a hf=>zT h ?_
     refine wp_ret ?_
     obtain rfl:=sj hF
     replace hc:=hc.drop k0
     exact zO2 Tryz.results36 hf rfl rfl ⟨rfl,hc⟩
    have g:∀ r,M=.out r→r=J:=by
     rintro r rfl
     exact sj hF
    refine cR N (cL (S:=S12) (x:=M) ?_ N (0,0) _ _ ⟨hf.kp rfl,hc⟩ V)
    clear hF hf hc
    rintro ⟨out,x⟩ i a w KB12 ⟨hf,hc⟩ hF D Y
    unfold vO at hF
    refine zS fun K h=>sp 1 hf rfl fun a hf=>zT h ?_
    refine wp_seq_k fun K15 Z=>zI hf rfl hF ?_ ?_ <;> clear hF <;> intro hF
    ·refine wp_skip ?_
     refine Z _ _ ?_
     refine wp_seq_k fun K16 d=>wp_block ?_
     refine zS fun K h=>?_
     obtain ⟨R,U,hF⟩:=aA hF
     obtain ⟨k,o,qa,qp⟩:=O.atm U
     refine zP hf rfl (pIA Tryz.underlying30 eL rfl rfl qa) fun a hf=>zE hf hc rfl (bT bA rfl (bL (j:=0) qp rfl)) fun a w hf hc=>sp 1 hf rfl fun a hf=>zT h ?_
     refine cJ ?_
     refine sp 1 hf rfl fun a hf=>zP hf rfl (pFA aFu rfl) fun a hf=>zL hf hc bA m0 rfl fun a w hf hc=>sp 2 hf rfl fun a hf=>zP hf rfl (pFA aFb rfl) fun a hf=>zL hf hc bA m0 rfl fun a w hf hc=>sp 1 hf rfl fun a hf=>zP hf rfl (pFA aE4 rfl) fun a hf=>zL hf hc bA m0 rfl fun a w hf hc=>sp 1 hf rfl fun a hf=>zP hf rfl (aFl rfl rfl) fun a hf=>sp 5 hf rfl fun a hf=>aP ?_
     refine d _ _ ?_
     refine cJ ?_
     refine sp 2 hf rfl fun a hf=>aP ?_
     exact Y (W (out + (W (p_.Rate * (W ((W (1000 * R)) + (W (p_.Extra * (max 0 (W (R - p_.Normal)))))))))),W (x + 1)) _ _ (sj hF).symm ⟨hf.kp rfl,hc⟩
    ·refine wp_exit ?_
     refine aW ?_
     refine aW ?_
     have he:=sj hF
     rw [← he] at D
     refine eV ?_
     exact X _ _ _ D ⟨hf.kp rfl,hc⟩

end Go.Nilo
