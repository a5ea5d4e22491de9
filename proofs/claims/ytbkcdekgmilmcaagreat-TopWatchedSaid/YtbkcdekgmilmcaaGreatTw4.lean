/-
 What functions of the Go text compute, as plain functions, and that they do, part 4 of 5. Conditions: what each theorem names.
-/
import Derived.Test.YtbkcdekgmilmcaaGreatTw3
import Derived.Test.YtbkcdekgmilmcaaGreatProg
set_option linter.unusedVariables false
set_option linter.unusedSimpArgs false
set_option maxRecDepth 100000
set_option maxHeartbeats 4000000
namespace Go.Nilo
open Go.Proofs


def gM (N:Nat) (s_:List Int) (f_:aE):Option (Bool) :=
 Option.bind (iL N s_ f_) fun r=>
 some (decide (0≤r))
theorem qN {N:Nat} {G:aT} {Lf:List Ent} {w:World} (s_:List Int) (f_:aE) {S:Option Addr} {R:Nat} {b_:Nat} {O:Nat} {H:Option Addr} {I:Nat} {B:Option Addr} {D:Nat} (V:Rd G 1 S R (s_.map aB)) (M:RdT cL G 1 H I f_.People) (J:RdT dP G 2 B D f_.Stations) (hc:Ctx G (.box b_ [.func (.func 90) #[] #[pq O]] 56::.box O [.slice H f_.People.length I,.slice B f_.Stations.length D] 43::Lf) w) {U:Bool} (hF:gM N s_ f_=some U):Calls Tryz.prog 36 #[.slice S s_.length R,.func (.func 125) #[] #[pq b_]] w (fun e w=>e=.returned (.bool U)∧Ctx G (.box b_ [.func (.func 90) #[] #[pq O]] 56::.box O [.slice H f_.People.length I,.slice B f_.Stations.length D] 43::Lf) w):=by
 unfold gM at hF
 refine bL Tryz.func36 rfl Tryz.ntmps36 rfl fun a hf=>zS fun K h=>sp 1 hf rfl fun a hf=>zT h ?_
 refine zS fun K h=>sp 2 hf rfl fun a hf=>?_
 obtain ⟨r,hr,hF⟩:=aA hF
 refine zQ (v:=i6 r) hf hc aAn rfl (fun w hc=>(rN s_ f_ V M J ((hc.pick k1).pick k1) hr).mono fun e w h=>⟨h.1,((h.2.unpick k1).unpick k1)⟩) fun a w hf hc=>sp 2 hf rfl fun a hf=>zT h ?_
 refine wp_ret ?_
 obtain rfl:=sj hF
 exact zO1 Tryz.results36 hf rfl ⟨rfl,hc⟩

def qV (N:Nat) (l:List Int) (so:aE):Option (Bool) :=
 Option.bind (gM N l so) fun r=>
 some (!r)
theorem aBj {N:Nat} {G:aT} {Lf:List Ent} {w:World} (l:List Int) (so:aE) {S:Option Addr} {O:Nat} {b_:Nat} {H:Option Addr} {I:Nat} {B:Option Addr} {D:Nat} (V:Rd G 1 S O (l.map aB)) (M:RdT cL G 1 H I so.People) (J:RdT dP G 2 B D so.Stations) (hc:Ctx G (.box b_ [.slice H so.People.length I,.slice B so.Stations.length D] 43::Lf) w) {R:Bool} (hF:qV N l so=some R):Calls Tryz.prog 89 #[.slice S l.length O,.func (.func 90) #[] #[pq b_]] w (fun e w=>e=.returned (.bool R)∧Ctx G (.box b_ [.slice H so.People.length I,.slice B so.Stations.length D] 43::Lf) w):=by
 unfold qV at hF
 refine bL Tryz.func89 rfl Tryz.ntmps89 rfl fun a hf=>zS fun K h=>zB hf hc rfl fun U a w hf hc=>sp 1 hf rfl fun a hf=>zT h ?_
 refine zS fun K h=>sp 1 hf rfl fun a hf=>zP hf rfl (pMF (us:=[pq U]) rfl rfl) fun a hf=>?_
 obtain ⟨r,hr,hF⟩:=aA hF
 refine zQ (v:=.bool r) hf hc aAp rfl (fun w hc=>(qN l so V M J ((hc.pick k1).pick k1) hr).mono fun e w h=>⟨h.1,((h.2.unpick k1).unpick k1)⟩) fun a w hf hc=>sp 2 hf rfl fun a hf=>zT h ?_
 refine wp_ret ?_
 obtain rfl:=sj hF
 replace hc:=hc.drop k0
 exact zO1 Tryz.results89 hf rfl ⟨rfl,hc⟩

def tO (N:Nat) (l:List Int) (x:aE):Option (Bool) :=
 Option.bind (qV N l (⟨x.People,x.Stations⟩:aE)) fun r=>
 some r
theorem aDm {N:Nat} {G:aT} {Lf:List Ent} {w:World} (l:List Int) (x:aE) {S:Option Addr} {O:Nat} {b_:Nat} {I:Option Addr} {H:Nat} {B:Option Addr} {D:Nat} (U:Rd G 1 S O (l.map aB)) (M:RdT cL G 1 I H x.People) (J:RdT dP G 2 B D x.Stations) (hc:Ctx G (.box b_ [.slice I x.People.length H,.slice B x.Stations.length D] 43::Lf) w) {R:Bool} (hF:tO N l x=some R):Calls Tryz.prog 88 #[.slice S l.length O,pq b_] w (fun e w=>e=.returned (.bool R)∧Ctx G (.box b_ [.slice I x.People.length H,.slice B x.Stations.length D] 43::Lf) w):=by
 unfold tO at hF
 refine bL Tryz.func88 rfl Tryz.ntmps88 rfl fun a hf=>zS fun K h=>sp 1 hf rfl fun a hf=>zT h ?_
 refine zS fun K h=>sp 1 hf rfl fun a hf=>zP hf rfl (pMF (us:=[pq b_]) rfl rfl) fun a hf=>?_
 obtain ⟨r,hr,hF⟩:=aA hF
 refine zQ (v:=.bool r) hf hc aPa rfl (fun w hc=>(aBj l (⟨x.People,x.Stations⟩:aE) U M J (hc.pick k0) hr).mono fun e w h=>⟨h.1,(h.2.unpick k0)⟩) fun a w hf hc=>sp 1 hf rfl fun a hf=>zT h ?_
 refine wp_ret ?_
 obtain rfl:=sj hF
 exact zO1 Tryz.results88 hf rfl ⟨rfl,hc⟩

def mR (N:Nat) (x:List Int) (B:aE):Option (Bool) :=
 Option.bind (tO N x B) fun r=>
 some (!r)
theorem yD {N:Nat} {G:aT} {Lf:List Ent} {w:World} (x:List Int) (M:aE) {U:Option Addr} {S:Nat} {b_:Nat} {R:Nat} {H:Option Addr} {I:Nat} {B:Option Addr} {D:Nat} (X:Rd G 1 U S (x.map aB)) (O:RdT cL G 1 H I M.People) (J:RdT dP G 2 B D M.Stations) (hc:Ctx G (.box b_ [.func (.func 88) #[] #[pq R]] 155::.box R [.slice H M.People.length I,.slice B M.Stations.length D] 43::Lf) w) {V:Bool} (hF:mR N x M=some V):Calls Tryz.prog 124 #[.slice U x.length S,pq b_] w (fun e w=>e=.returned (.bool V)∧Ctx G (.box b_ [.func (.func 88) #[] #[pq R]] 155::.box R [.slice H M.People.length I,.slice B M.Stations.length D] 43::Lf) w):=by
 unfold mR at hF
 refine bL Tryz.func124 rfl Tryz.ntmps124 rfl fun a hf=>zS fun K h=>sp 1 hf rfl fun a hf=>zT h ?_
 refine zS fun K h=>zL hf hc aM4 m0 rfl fun a w hf hc=>sp 1 hf rfl fun a hf=>?_
 obtain ⟨r,hr,hF⟩:=aA hF
 refine zQ (v:=.bool r) hf hc en_88 rfl (fun w hc=>(aDm x M X O J (hc.pick k1) hr).mono fun e w h=>⟨h.1,(h.2.unpick k1)⟩) fun a w hf hc=>sp 2 hf rfl fun a hf=>zT h ?_
 refine wp_ret ?_
 obtain rfl:=sj hF
 exact zO1 Tryz.results124 hf rfl ⟨rfl,hc⟩

def hO (N:Nat) (s_:List (List Int)) (f_:aE) (x:Int):Option (bY (Int) (Int)) :=
 cond (decide (x < ((s_.length:Nat):Int)))
 (Option.bind (bE s_ x) fun B=>
 Option.bind (mR N B f_) fun r=>
 cond r
 (some (.ret x))
 (some (.cont (W (x + 1)))))
 (some (.brk x))
def iZ (N:Nat) (s_:List (List Int)) (f_:aE):Option (Int) :=
 Option.bind (aX (fun s4=>hO N s_ f_ s4) N 0) fun x4=>
 exK x4 (fun s4=>some (-1)) some
theorem sB {N:Nat} {G:aT} {Lf:List Ent} {w:World} (s_:List (List Int)) (f_:aE) {V:Option Addr} {U:Nat} {b_:Nat} {J:Nat} {H:Option Addr} {I:Nat} {B:Option Addr} {D:Nat} (Z:RdT cL G 1 V U s_) (R:RdT cL G 1 H I f_.People) (M:RdT dP G 2 B D f_.Stations) (hc:Ctx G (.box b_ [.func (.func 88) #[] #[pq J]] 155::.box J [.slice H f_.People.length I,.slice B f_.Stations.length D] 43::Lf) w) {X:Int} (hF:iZ N s_ f_=some X):Calls Tryz.prog 142 #[.slice V s_.length U,.func (.func 124) #[] #[pq b_]] w (fun e w=>e=.returned (i6 X)∧Ctx G (.box b_ [.func (.func 88) #[] #[pq J]] 155::.box J [.slice H f_.People.length I,.slice B f_.Stations.length D] 43::Lf) w):=by
 unfold iZ at hF
 refine bL Tryz.func142 rfl Tryz.ntmps142 rfl fun a hf=>zS fun K h=>sp 1 hf rfl fun a hf=>zT h ?_
 refine wp_seq_k fun K2 h2=>zS fun K h=>sp 1 hf rfl fun a hf=>zP hf rfl (bG Tryz.underlying40 rfl) fun a hf=>sp 1 hf rfl fun a hf=>zT h ?_
 refine wp_block ?_
 obtain ⟨x4,i,hF⟩:=aA hF
 let S4:Int→Act→World→Prop:=(fun (zz:Int) a w=>Has 19 a [(0,.slice V s_.length U),(1,.func (.func 124) #[] #[pq b_]),(7,i6 ((s_.length:Nat):Int)),(8,i6 zz)]∧Ctx G (.box b_ [.func (.func 88) #[] #[pq J]] 155::.box J [.slice H f_.People.length I,.slice B f_.Stations.length D] 43::Lf) w)
 have b:∀ (zz:Int) a w,x4=.go zz→S4 zz a w→K2 a w:=by
  rintro x a w rfl ⟨hf,hc⟩
  replace hF:=bK hF
  refine h2 _ _ ?_
  refine zS fun K h=>sp 1 hf rfl fun a hf=>zT h ?_
  refine wp_ret ?_
  obtain rfl:=sj hF
  exact zO1 Tryz.results142 hf rfl ⟨rfl,hc⟩
 have k:∀ r,x4=.out r→r=X:=by
  rintro r rfl
  exact sj hF
 refine cZ N (cW (S:=S4) (x:=x4) ?_ N 0 _ _ ⟨hf.kp rfl,hc⟩ i)
 clear hF hf hc
 rintro x n a w KB4 ⟨hf,hc⟩ hF O d
 unfold hO at hF
 refine zS fun K h=>sp 1 hf rfl fun a hf=>zT h ?_
 refine wp_seq_k fun K7 h7=>zI hf rfl hF ?_ ?_ <;> clear hF <;> intro hF
 ·refine wp_skip ?_
  refine h7 _ _ ?_
  refine wp_seq_k fun K8 h8=>wp_block ?_
  refine zS fun K h=>sp 2 hf rfl fun a hf=>zT h ?_
  refine zS fun K h=>sp 3 hf rfl fun a hf=>?_
  obtain ⟨g,Y,hF⟩:=aA hF
  obtain ⟨m,o,hd,qa,qp,qr⟩:=Z.atm Y
  refine zP hf rfl (pIA Tryz.underlying40 vI rfl rfl qa) fun a hf=>zE hf hc rfl (eP hY rfl (dI (j:=0) qp rfl)) fun a w hf hc=>?_
  obtain ⟨r,hr,hF⟩:=aA hF
  refine zQ (v:=.bool r) hf hc aMc rfl (fun w hc=>(yD g f_ qr R M ((hc.pick k1).pick k1) hr).mono fun e w h=>⟨h.1,((h.2.unpick k1).unpick k1)⟩) fun a w hf hc=>zT h ?_
  refine zI hf rfl hF ?_ ?_ <;> clear hF <;> intro hF
  ·refine zS fun K h=>sp 2 hf rfl fun a hf=>zT h ?_
   refine wp_ret ?_
   refine bS ?_
   refine aL ?_
   refine aL ?_
   have he:=sj hF
   rw [← he] at O
   replace hF:=k _ O
   refine bS ?_
   refine aL ?_
   obtain rfl:=hF
   exact zO1 Tryz.results142 hf rfl ⟨rfl,hc⟩
  ·refine wp_skip ?_
   refine h8 _ _ ?_
   refine bV ?_
   refine sp 2 hf rfl fun a hf=>aP ?_
   exact d (W (x + 1)) _ _ (sj hF).symm ⟨hf.kp rfl,hc⟩
 ·refine wp_exit ?_
  refine aY ?_
  refine aY ?_
  have he:=sj hF
  rw [← he] at O
  refine fJ ?_
  exact b _ _ _ O ⟨hf.kp rfl,hc⟩

def hH (N:Nat) (s_:List (List Int)) (f_:aE):Option (Bool) :=
 Option.bind (iZ N s_ f_) fun r=>
 some (decide (0≤r))
theorem qR {N:Nat} {G:aT} {Lf:List Ent} {w:World} (s_:List (List Int)) (f_:aE) {S:Option Addr} {R:Nat} {b_:Nat} {O:Nat} {H:Option Addr} {I:Nat} {B:Option Addr} {D:Nat} (V:RdT cL G 1 S R s_) (M:RdT cL G 1 H I f_.People) (J:RdT dP G 2 B D f_.Stations) (hc:Ctx G (.box b_ [.func (.func 88) #[] #[pq O]] 155::.box O [.slice H f_.People.length I,.slice B f_.Stations.length D] 43::Lf) w) {U:Bool} (hF:hH N s_ f_=some U):Calls Tryz.prog 123 #[.slice S s_.length R,.func (.func 124) #[] #[pq b_]] w (fun e w=>e=.returned (.bool U)∧Ctx G (.box b_ [.func (.func 88) #[] #[pq O]] 155::.box O [.slice H f_.People.length I,.slice B f_.Stations.length D] 43::Lf) w):=by
 unfold hH at hF
 refine bL Tryz.func123 rfl Tryz.ntmps123 rfl fun a hf=>zS fun K h=>sp 1 hf rfl fun a hf=>zT h ?_
 refine zS fun K h=>sp 2 hf rfl fun a hf=>?_
 obtain ⟨r,hr,hF⟩:=aA hF
 refine zQ (v:=i6 r) hf hc aMi rfl (fun w hc=>(sB s_ f_ V M J ((hc.pick k1).pick k1) hr).mono fun e w h=>⟨h.1,((h.2.unpick k1).unpick k1)⟩) fun a w hf hc=>sp 2 hf rfl fun a hf=>zT h ?_
 refine wp_ret ?_
 obtain rfl:=sj hF
 exact zO1 Tryz.results123 hf rfl ⟨rfl,hc⟩

def oD (N:Nat) (l:List (List Int)) (so:aE):Option (Bool) :=
 Option.bind (hH N l so) fun r=>
 some (!r)
theorem aAx {N:Nat} {G:aT} {Lf:List Ent} {w:World} (l:List (List Int)) (so:aE) {S:Option Addr} {O:Nat} {b_:Nat} {H:Option Addr} {I:Nat} {B:Option Addr} {D:Nat} (V:RdT cL G 1 S O l) (M:RdT cL G 1 H I so.People) (J:RdT dP G 2 B D so.Stations) (hc:Ctx G (.box b_ [.slice H so.People.length I,.slice B so.Stations.length D] 43::Lf) w) {R:Bool} (hF:oD N l so=some R):Calls Tryz.prog 87 #[.slice S l.length O,.func (.func 88) #[] #[pq b_]] w (fun e w=>e=.returned (.bool R)∧Ctx G (.box b_ [.slice H so.People.length I,.slice B so.Stations.length D] 43::Lf) w):=by
 unfold oD at hF
 refine bL Tryz.func87 rfl Tryz.ntmps87 rfl fun a hf=>zS fun K h=>zB hf hc rfl fun U a w hf hc=>sp 1 hf rfl fun a hf=>zT h ?_
 refine zS fun K h=>sp 1 hf rfl fun a hf=>zP hf rfl (pMF (us:=[pq U]) rfl rfl) fun a hf=>?_
 obtain ⟨r,hr,hF⟩:=aA hF
 refine zQ (v:=.bool r) hf hc aNq rfl (fun w hc=>(qR l so V M J ((hc.pick k1).pick k1) hr).mono fun e w h=>⟨h.1,((h.2.unpick k1).unpick k1)⟩) fun a w hf hc=>sp 2 hf rfl fun a hf=>zT h ?_
 refine wp_ret ?_
 obtain rfl:=sj hF
 replace hc:=hc.drop k0
 exact zO1 Tryz.results87 hf rfl ⟨rfl,hc⟩

def oR (p_:Int) (x:aE):Bool :=
 (jC p_ 0 (W (((x.People.length:Nat):Int) - 1)))
theorem aBb {G:aT} {Lf:List Ent} {w:World} (p_:Int) (x:aE) {b_:Nat} {I:Option Addr} {H:Nat} {B:Option Addr} {D:Nat} (M:RdT cL G 1 I H x.People) (J:RdT dP G 2 B D x.Stations) (hc:Ctx G (.box b_ [.slice I x.People.length H,.slice B x.Stations.length D] 43::Lf) w) {O:Bool} (hF:oR p_ x=O):Calls Tryz.prog 93 #[i6 p_,pq b_] w (fun e w=>e=.returned (.bool O)∧Ctx G (.box b_ [.slice I x.People.length H,.slice B x.Stations.length D] 43::Lf) w):=by
 unfold oR at hF
 refine bL Tryz.func93 rfl Tryz.ntmps93 rfl fun a hf=>zS fun K h=>sp 1 hf rfl fun a hf=>zT h ?_
 refine zS fun K h=>sp 1 hf rfl fun a hf=>zP hf rfl (pFA oM rfl) fun a hf=>zL hf hc wA m0 rfl fun a w hf hc=>zP hf rfl (bG Tryz.underlying40 rfl) fun a hf=>sp 1 hf rfl fun a hf=>zQ (v:=.bool (jC p_ 0 (W (((x.People.length:Nat):Int) - 1)))) hf hc aHx rfl (fun w hc=>uK p_ 0 (W (((x.People.length:Nat):Int) - 1)) hc rfl) fun a w hf hc=>sp 1 hf rfl fun a hf=>zT h ?_
 refine wp_ret ?_
 obtain rfl:=hF
 exact zO1 Tryz.results93 hf rfl ⟨rfl,hc⟩

def jP (x:Int) (B:aE):Bool :=
 (!(oR x B))
theorem wS {G:aT} {Lf:List Ent} {w:World} (x:Int) (J:aE) {b_:Nat} {R:Nat} {H:Option Addr} {I:Nat} {B:Option Addr} {D:Nat} (O:RdT cL G 1 H I J.People) (M:RdT dP G 2 B D J.Stations) (hc:Ctx G (.box b_ [.func (.func 93) #[] #[pq R]] 56::.box R [.slice H J.People.length I,.slice B J.Stations.length D] 43::Lf) w) {S:Bool} (hF:jP x J=S):Calls Tryz.prog 125 #[i6 x,pq b_] w (fun e w=>e=.returned (.bool S)∧Ctx G (.box b_ [.func (.func 93) #[] #[pq R]] 56::.box R [.slice H J.People.length I,.slice B J.Stations.length D] 43::Lf) w):=by
 unfold jP at hF
 refine bL Tryz.func125 rfl Tryz.ntmps125 rfl fun a hf=>zS fun K h=>sp 1 hf rfl fun a hf=>zT h ?_
 refine zS fun K h=>zL hf hc aEm m0 rfl fun a w hf hc=>sp 1 hf rfl fun a hf=>zQ (v:=.bool (oR x J)) hf hc en_93 rfl (fun w hc=>(aBb x J O M (hc.pick k1) rfl).mono fun e w h=>⟨h.1,(h.2.unpick k1)⟩) fun a w hf hc=>sp 2 hf rfl fun a hf=>zT h ?_
 refine wp_ret ?_
 obtain rfl:=hF
 exact zO1 Tryz.results125 hf rfl ⟨rfl,hc⟩

def gK (N:Nat) (s_:List Int) (f_:aE) (x:Int):Option (bY (Int) (Int)) :=
 cond (decide (x < ((s_.length:Nat):Int)))
 (Option.bind (bE s_ x) fun B=>
 cond (jP B f_)
 (some (.ret x))
 (some (.cont (W (x + 1)))))
 (some (.brk x))
def iM (N:Nat) (s_:List Int) (f_:aE):Option (Int) :=
 Option.bind (aX (fun s4=>gK N s_ f_ s4) N 0) fun x4=>
 exK x4 (fun s4=>some (-1)) some
theorem rJ {N:Nat} {G:aT} {Lf:List Ent} {w:World} (s_:List Int) (f_:aE) {V:Option Addr} {U:Nat} {b_:Nat} {J:Nat} {H:Option Addr} {I:Nat} {B:Option Addr} {D:Nat} (b:Rd G 1 V U (s_.map aB)) (R:RdT cL G 1 H I f_.People) (M:RdT dP G 2 B D f_.Stations) (hc:Ctx G (.box b_ [.func (.func 93) #[] #[pq J]] 56::.box J [.slice H f_.People.length I,.slice B f_.Stations.length D] 43::Lf) w) {X:Int} (hF:iM N s_ f_=some X):Calls Tryz.prog 39 #[.slice V s_.length U,.func (.func 125) #[] #[pq b_]] w (fun e w=>e=.returned (i6 X)∧Ctx G (.box b_ [.func (.func 93) #[] #[pq J]] 56::.box J [.slice H f_.People.length I,.slice B f_.Stations.length D] 43::Lf) w):=by
 unfold iM at hF
 refine bL Tryz.func39 rfl Tryz.ntmps39 rfl fun a hf=>zS fun K h=>sp 1 hf rfl fun a hf=>zT h ?_
 refine wp_seq_k fun K2 h2=>zS fun K h=>sp 1 hf rfl fun a hf=>zP hf rfl (bG Tryz.underlying23 rfl) fun a hf=>sp 1 hf rfl fun a hf=>zT h ?_
 refine wp_block ?_
 obtain ⟨x4,i,hF⟩:=aA hF
 let S4:Int→Act→World→Prop:=(fun (zz:Int) a w=>Has 19 a [(0,.slice V s_.length U),(1,.func (.func 125) #[] #[pq b_]),(7,i6 ((s_.length:Nat):Int)),(8,i6 zz)]∧Ctx G (.box b_ [.func (.func 93) #[] #[pq J]] 56::.box J [.slice H f_.People.length I,.slice B f_.Stations.length D] 43::Lf) w)
 have d:∀ (zz:Int) a w,x4=.go zz→S4 zz a w→K2 a w:=by
  rintro x a w rfl ⟨hf,hc⟩
  replace hF:=bK hF
  refine h2 _ _ ?_
  refine zS fun K h=>sp 1 hf rfl fun a hf=>zT h ?_
  refine wp_ret ?_
  obtain rfl:=sj hF
  exact zO1 Tryz.results39 hf rfl ⟨rfl,hc⟩
 have k:∀ r,x4=.out r→r=X:=by
  rintro r rfl
  exact sj hF
 refine cZ N (cW (S:=S4) (x:=x4) ?_ N 0 _ _ ⟨hf.kp rfl,hc⟩ i)
 clear hF hf hc
 rintro x n a w KB4 ⟨hf,hc⟩ hF O g
 unfold gK at hF
 refine zS fun K h=>sp 1 hf rfl fun a hf=>zT h ?_
 refine wp_seq_k fun K7 h7=>zI hf rfl hF ?_ ?_ <;> clear hF <;> intro hF
 ·refine wp_skip ?_
  refine h7 _ _ ?_
  refine wp_seq_k fun K8 h8=>wp_block ?_
  refine zS fun K h=>sp 2 hf rfl fun a hf=>zT h ?_
  refine zS fun K h=>sp 3 hf rfl fun a hf=>?_
  obtain ⟨Y,Z,hF⟩:=aA hF
  obtain ⟨m,o,qa,qp⟩:=b.atm Z
  refine zP hf rfl (pIA Tryz.underlying23 fO rfl rfl qa) fun a hf=>zE hf hc rfl (eP cR rfl (dI (j:=0) qp rfl)) fun a w hf hc=>zQ (v:=.bool (jP Y f_)) hf hc aNr rfl (fun w hc=>(wS Y f_ R M ((hc.pick k1).pick k1) rfl).mono fun e w h=>⟨h.1,((h.2.unpick k1).unpick k1)⟩) fun a w hf hc=>zT h ?_
  refine zI hf rfl hF ?_ ?_ <;> clear hF <;> intro hF
  ·refine zS fun K h=>sp 2 hf rfl fun a hf=>zT h ?_
   refine wp_ret ?_
   refine bS ?_
   refine aL ?_
   refine aL ?_
   have he:=sj hF
   rw [← he] at O
   replace hF:=k _ O
   refine bS ?_
   refine aL ?_
   obtain rfl:=hF
   exact zO1 Tryz.results39 hf rfl ⟨rfl,hc⟩
  ·refine wp_skip ?_
   refine h8 _ _ ?_
   refine bV ?_
   refine sp 2 hf rfl fun a hf=>aP ?_
   exact g (W (x + 1)) _ _ (sj hF).symm ⟨hf.kp rfl,hc⟩
 ·refine wp_exit ?_
  refine aY ?_
  refine aY ?_
  have he:=sj hF
  rw [← he] at O
  refine fJ ?_
  exact d _ _ _ O ⟨hf.kp rfl,hc⟩

def gJ (N:Nat) (s_:List Int) (f_:aE):Option (Bool) :=
 Option.bind (iM N s_ f_) fun r=>
 some (decide (0≤r))
theorem qJ {N:Nat} {G:aT} {Lf:List Ent} {w:World} (s_:List Int) (f_:aE) {S:Option Addr} {R:Nat} {b_:Nat} {O:Nat} {H:Option Addr} {I:Nat} {B:Option Addr} {D:Nat} (V:Rd G 1 S R (s_.map aB)) (M:RdT cL G 1 H I f_.People) (J:RdT dP G 2 B D f_.Stations) (hc:Ctx G (.box b_ [.func (.func 93) #[] #[pq O]] 56::.box O [.slice H f_.People.length I,.slice B f_.Stations.length D] 43::Lf) w) {U:Bool} (hF:gJ N s_ f_=some U):Calls Tryz.prog 36 #[.slice S s_.length R,.func (.func 125) #[] #[pq b_]] w (fun e w=>e=.returned (.bool U)∧Ctx G (.box b_ [.func (.func 93) #[] #[pq O]] 56::.box O [.slice H f_.People.length I,.slice B f_.Stations.length D] 43::Lf) w):=by
 unfold gJ at hF
 refine bL Tryz.func36 rfl Tryz.ntmps36 rfl fun a hf=>zS fun K h=>sp 1 hf rfl fun a hf=>zT h ?_
 refine zS fun K h=>sp 2 hf rfl fun a hf=>?_
 obtain ⟨r,hr,hF⟩:=aA hF
 refine zQ (v:=i6 r) hf hc aAn rfl (fun w hc=>(rJ s_ f_ V M J ((hc.pick k1).pick k1) hr).mono fun e w h=>⟨h.1,((h.2.unpick k1).unpick k1)⟩) fun a w hf hc=>sp 2 hf rfl fun a hf=>zT h ?_
 refine wp_ret ?_
 obtain rfl:=sj hF
 exact zO1 Tryz.results36 hf rfl ⟨rfl,hc⟩

def oI (N:Nat) (l:List Int) (so:aE):Option (Bool) :=
 Option.bind (gJ N l so) fun r=>
 some (!r)
theorem yR {N:Nat} {G:aT} {Lf:List Ent} {w:World} (l:List Int) (so:aE) {S:Option Addr} {O:Nat} {b_:Nat} {H:Option Addr} {I:Nat} {B:Option Addr} {D:Nat} (V:Rd G 1 S O (l.map aB)) (M:RdT cL G 1 H I so.People) (J:RdT dP G 2 B D so.Stations) (hc:Ctx G (.box b_ [.slice H so.People.length I,.slice B so.Stations.length D] 43::Lf) w) {R:Bool} (hF:oI N l so=some R):Calls Tryz.prog 89 #[.slice S l.length O,.func (.func 93) #[] #[pq b_]] w (fun e w=>e=.returned (.bool R)∧Ctx G (.box b_ [.slice H so.People.length I,.slice B so.Stations.length D] 43::Lf) w):=by
 unfold oI at hF
 refine bL Tryz.func89 rfl Tryz.ntmps89 rfl fun a hf=>zS fun K h=>zB hf hc rfl fun U a w hf hc=>sp 1 hf rfl fun a hf=>zT h ?_
 refine zS fun K h=>sp 1 hf rfl fun a hf=>zP hf rfl (pMF (us:=[pq U]) rfl rfl) fun a hf=>?_
 obtain ⟨r,hr,hF⟩:=aA hF
 refine zQ (v:=.bool r) hf hc aAp rfl (fun w hc=>(qJ l so V M J ((hc.pick k1).pick k1) hr).mono fun e w h=>⟨h.1,((h.2.unpick k1).unpick k1)⟩) fun a w hf hc=>sp 2 hf rfl fun a hf=>zT h ?_
 refine wp_ret ?_
 obtain rfl:=sj hF
 replace hc:=hc.drop k0
 exact zO1 Tryz.results89 hf rfl ⟨rfl,hc⟩

def tJ (N:Nat) (s_:aJ) (x:aE):Option (Bool) :=
 Option.bind (cond (jC s_.Places 1 12) (Option.bind (oI N s_.Order (⟨x.People,x.Stations⟩:aE)) fun r=>
 some r) (some false)) fun B=>
 some B
theorem aDj {N:Nat} {G:aT} {Lf:List Ent} {w:World} (s_:aJ) (x:aE) {J:Option Addr} {M:Nat} {b_:Nat} {I:Option Addr} {H:Nat} {B:Option Addr} {D:Nat} (R:Rd G 1 J M (s_.Order.map aB)) (S:RdT cL G 1 I H x.People) (O:RdT dP G 2 B D x.Stations) (hc:Ctx G (.box b_ [.slice I x.People.length H,.slice B x.Stations.length D] 43::Lf) w) {X:Bool} (hF:tJ N s_ x=some X):Calls Tryz.prog 92 #[.agg #[i6 s_.Places,.slice J s_.Order.length M],pq b_] w (fun e w=>e=.returned (.bool X)∧Ctx G (.box b_ [.slice I x.People.length H,.slice B x.Stations.length D] 43::Lf) w):=by
 unfold tJ at hF
 refine bL Tryz.func92 rfl Tryz.ntmps92 rfl fun a hf=>zS fun K h=>zB hf hc rfl fun V a w hf hc=>sp 1 hf rfl fun a hf=>zT h ?_
 refine zS fun K h=>zP hf rfl (pFA aKq rfl) fun a hf=>zL hf hc cR m0 rfl fun a w hf hc=>zQ (v:=.bool (jC s_.Places 1 12)) hf hc aHx rfl (fun w hc=>uK s_.Places 1 12 hc rfl) fun a w hf hc=>sp 1 hf rfl fun a hf=>?_
 obtain ⟨Y,U,hF⟩:=aA hF
 refine jX 5 (fun a=>Has 13 a [(1,pq b_),(2,pq V),(3,.bool false),(4,pq V),(5,i6 s_.Places),(6,.bool (jC s_.Places 1 12)),(7,.bool (jC s_.Places 1 12)),(12,.bool Y)]) hc ?_ ?_
 ·cases hb:(jC s_.Places 1 12)
  ·rw [hb] at hf
   have hF:=kI hb U
   obtain rfl:=sj hF
   refine stS hf rfl rfl rfl fun a hf=>stS hf rfl rfl rfl fun a hf=>stS hf rfl rfl rfl fun a hf=>stS hf rfl rfl rfl fun a hf=>sp 1 hf rfl fun a hf=>aP ⟨hf.kp rfl,hc⟩
  ·rw [hb] at hf
   have hF:=fP hb U
   refine zP hf rfl (pFA aGj rfl) fun a hf=>zL hf hc hY m0 rfl fun a w hf hc=>zP hf rfl (pMF (us:=[pq b_]) rfl rfl) fun a hf=>?_
   obtain ⟨r,hr,hF⟩:=aA hF
   refine zQ (v:=.bool r) hf hc aPa rfl (fun w hc=>(yR s_.Order (⟨x.People,x.Stations⟩:aE) R S O (hc.pick k1) hr).mono fun e w h=>⟨h.1,(h.2.unpick k1)⟩) fun a w hf hc=>sp 1 hf rfl fun a hf=>?_
   obtain rfl:=sj hF
   exact aP ⟨hf.kp rfl,hc⟩
 intro a w ⟨hf,hc⟩
 refine sp 1 hf rfl fun a hf=>zT h ?_
 refine wp_ret ?_
 obtain rfl:=sj hF
 replace hc:=hc.drop k0
 exact zO1 Tryz.results92 hf rfl ⟨rfl,hc⟩

def hZ (N:Nat) (x:aJ) (B:aE):Option (Bool) :=
 Option.bind (tJ N x B) fun r=>
 some (!r)
theorem tB {N:Nat} {G:aT} {Lf:List Ent} {w:World} (x:aJ) (M:aE) {O:Option Addr} {R:Nat} {b_:Nat} {U:Nat} {H:Option Addr} {I:Nat} {B:Option Addr} {D:Nat} (V:Rd G 1 O R (x.Order.map aB)) (S:RdT cL G 1 H I M.People) (J:RdT dP G 2 B D M.Stations) (hc:Ctx G (.box b_ [.func (.func 92) #[] #[pq U]] 157::.box U [.slice H M.People.length I,.slice B M.Stations.length D] 43::Lf) w) {X:Bool} (hF:hZ N x M=some X):Calls Tryz.prog 127 #[.agg #[i6 x.Places,.slice O x.Order.length R],pq b_] w (fun e w=>e=.returned (.bool X)∧Ctx G (.box b_ [.func (.func 92) #[] #[pq U]] 157::.box U [.slice H M.People.length I,.slice B M.Stations.length D] 43::Lf) w):=by
 unfold hZ at hF
 refine bL Tryz.func127 rfl Tryz.ntmps127 rfl fun a hf=>zS fun K h=>zB hf hc rfl fun Y a w hf hc=>sp 1 hf rfl fun a hf=>zT h ?_
 refine zS fun K h=>zL hf hc aLu m1 rfl fun a w hf hc=>zN hf hc aIa m0 rfl fun a w hf hc=>?_
 obtain ⟨r,hr,hF⟩:=aA hF
 refine zQ (v:=.bool r) hf hc en_92 rfl (fun w hc=>(aDj x M V S J (hc.pick k2) hr).mono fun e w h=>⟨h.1,(h.2.unpick k2)⟩) fun a w hf hc=>sp 2 hf rfl fun a hf=>zT h ?_
 refine wp_ret ?_
 obtain rfl:=sj hF
 replace hc:=hc.drop k0
 exact zO1 Tryz.results127 hf rfl ⟨rfl,hc⟩

def dL (N:Nat) (s_:List aJ) (f_:aE) (x:Int):Option (bY (Int) (Int)) :=
 cond (decide (x < ((s_.length:Nat):Int)))
 (Option.bind (bE s_ x) fun B=>
 Option.bind (hZ N B f_) fun r=>
 cond r
 (some (.ret x))
 (some (.cont (W (x + 1)))))
 (some (.brk x))
def eG (N:Nat) (s_:List aJ) (f_:aE):Option (Int) :=
 Option.bind (aX (fun s4=>dL N s_ f_ s4) N 0) fun x4=>
 exK x4 (fun s4=>some (-1)) some
theorem mV {N:Nat} {G:aT} {Lf:List Ent} {w:World} (s_:List aJ) (f_:aE) {V:Option Addr} {U:Nat} {b_:Nat} {J:Nat} {H:Option Addr} {I:Nat} {B:Option Addr} {D:Nat} (b:RdT dP G 2 V U s_) (R:RdT cL G 1 H I f_.People) (M:RdT dP G 2 B D f_.Stations) (hc:Ctx G (.box b_ [.func (.func 92) #[] #[pq J]] 157::.box J [.slice H f_.People.length I,.slice B f_.Stations.length D] 43::Lf) w) {Y:Int} (hF:eG N s_ f_=some Y):Calls Tryz.prog 143 #[.slice V s_.length U,.func (.func 127) #[] #[pq b_]] w (fun e w=>e=.returned (i6 Y)∧Ctx G (.box b_ [.func (.func 92) #[] #[pq J]] 157::.box J [.slice H f_.People.length I,.slice B f_.Stations.length D] 43::Lf) w):=by
 unfold eG at hF
 refine bL Tryz.func143 rfl Tryz.ntmps143 rfl fun a hf=>zS fun K h=>sp 1 hf rfl fun a hf=>zT h ?_
 refine wp_seq_k fun K2 h2=>zS fun K h=>sp 1 hf rfl fun a hf=>zP hf rfl (bG Tryz.underlying41 rfl) fun a hf=>sp 1 hf rfl fun a hf=>zT h ?_
 refine wp_block ?_
 obtain ⟨x4,i,hF⟩:=aA hF
 let S4:Int→Act→World→Prop:=(fun (zz:Int) a w=>Has 19 a [(0,.slice V s_.length U),(1,.func (.func 127) #[] #[pq b_]),(7,i6 ((s_.length:Nat):Int)),(8,i6 zz)]∧Ctx G (.box b_ [.func (.func 92) #[] #[pq J]] 157::.box J [.slice H f_.People.length I,.slice B f_.Stations.length D] 43::Lf) w)
 have d:∀ (zz:Int) a w,x4=.go zz→S4 zz a w→K2 a w:=by
  rintro x a w rfl ⟨hf,hc⟩
  replace hF:=bK hF
  refine h2 _ _ ?_
  refine zS fun K h=>sp 1 hf rfl fun a hf=>zT h ?_
  refine wp_ret ?_
  obtain rfl:=sj hF
  exact zO1 Tryz.results143 hf rfl ⟨rfl,hc⟩
 have j:∀ r,x4=.out r→r=Y:=by
  rintro r rfl
  exact sj hF
 refine cZ N (cW (S:=S4) (x:=x4) ?_ N 0 _ _ ⟨hf.kp rfl,hc⟩ i)
 clear hF hf hc
 rintro x m a w KB4 ⟨hf,hc⟩ hF O g
 unfold dL at hF
 refine zS fun K h=>sp 1 hf rfl fun a hf=>zT h ?_
 refine wp_seq_k fun K7 h7=>zI hf rfl hF ?_ ?_ <;> clear hF <;> intro hF
 ·refine wp_skip ?_
  refine h7 _ _ ?_
  refine wp_seq_k fun K8 h8=>wp_block ?_
  refine zS fun K h=>sp 2 hf rfl fun a hf=>zT h ?_
  refine zS fun K h=>sp 3 hf rfl fun a hf=>?_
  obtain ⟨X,Z,hF⟩:=aA hF
  obtain ⟨k,o,hd,qa,qp,qr⟩:=b.atm Z
  refine zP hf rfl (pIA Tryz.underlying41 aHh rfl rfl qa) fun a hf=>zE hf hc rfl (lK (vs:=[i6 X.Places,.slice hd.1 X.Order.length hd.2]) aIa rfl rfl (kH qp (n:=2) (o':=0) rfl)) fun a w hf hc=>?_
  obtain ⟨r,hr,hF⟩:=aA hF
  refine zQ (v:=.bool r) hf hc aNx rfl (fun w hc=>(tB X f_ qr R M ((hc.pick k1).pick k1) hr).mono fun e w h=>⟨h.1,((h.2.unpick k1).unpick k1)⟩) fun a w hf hc=>zT h ?_
  refine zI hf rfl hF ?_ ?_ <;> clear hF <;> intro hF
  ·refine zS fun K h=>sp 2 hf rfl fun a hf=>zT h ?_
   refine wp_ret ?_
   refine bS ?_
   refine aL ?_
   refine aL ?_
   have he:=sj hF
   rw [← he] at O
   replace hF:=j _ O
   refine bS ?_
   refine aL ?_
   obtain rfl:=hF
   exact zO1 Tryz.results143 hf rfl ⟨rfl,hc⟩
  ·refine wp_skip ?_
   refine h8 _ _ ?_
   refine bV ?_
   refine sp 2 hf rfl fun a hf=>aP ?_
   exact g (W (x + 1)) _ _ (sj hF).symm ⟨hf.kp rfl,hc⟩
 ·refine wp_exit ?_
  refine aY ?_
  refine aY ?_
  have he:=sj hF
  rw [← he] at O
  refine fJ ?_
  exact d _ _ _ O ⟨hf.kp rfl,hc⟩

def dK (N:Nat) (s_:List aJ) (f_:aE):Option (Bool) :=
 Option.bind (eG N s_ f_) fun r=>
 some (decide (0≤r))
theorem lT {N:Nat} {G:aT} {Lf:List Ent} {w:World} (s_:List aJ) (f_:aE) {S:Option Addr} {R:Nat} {b_:Nat} {O:Nat} {H:Option Addr} {I:Nat} {B:Option Addr} {D:Nat} (V:RdT dP G 2 S R s_) (M:RdT cL G 1 H I f_.People) (J:RdT dP G 2 B D f_.Stations) (hc:Ctx G (.box b_ [.func (.func 92) #[] #[pq O]] 157::.box O [.slice H f_.People.length I,.slice B f_.Stations.length D] 43::Lf) w) {U:Bool} (hF:dK N s_ f_=some U):Calls Tryz.prog 126 #[.slice S s_.length R,.func (.func 127) #[] #[pq b_]] w (fun e w=>e=.returned (.bool U)∧Ctx G (.box b_ [.func (.func 92) #[] #[pq O]] 157::.box O [.slice H f_.People.length I,.slice B f_.Stations.length D] 43::Lf) w):=by
 unfold dK at hF
 refine bL Tryz.func126 rfl Tryz.ntmps126 rfl fun a hf=>zS fun K h=>sp 1 hf rfl fun a hf=>zT h ?_
 refine zS fun K h=>sp 2 hf rfl fun a hf=>?_
 obtain ⟨r,hr,hF⟩:=aA hF
 refine zQ (v:=i6 r) hf hc aL3 rfl (fun w hc=>(mV s_ f_ V M J ((hc.pick k1).pick k1) hr).mono fun e w h=>⟨h.1,((h.2.unpick k1).unpick k1)⟩) fun a w hf hc=>sp 2 hf rfl fun a hf=>zT h ?_
 refine wp_ret ?_
 obtain rfl:=sj hF
 exact zO1 Tryz.results126 hf rfl ⟨rfl,hc⟩

def iW (N:Nat) (l:List aJ) (so:aE):Option (Bool) :=
 Option.bind (dK N l so) fun r=>
 some (!r)
theorem uC {N:Nat} {G:aT} {Lf:List Ent} {w:World} (l:List aJ) (so:aE) {S:Option Addr} {O:Nat} {b_:Nat} {H:Option Addr} {I:Nat} {B:Option Addr} {D:Nat} (V:RdT dP G 2 S O l) (M:RdT cL G 1 H I so.People) (J:RdT dP G 2 B D so.Stations) (hc:Ctx G (.box b_ [.slice H so.People.length I,.slice B so.Stations.length D] 43::Lf) w) {R:Bool} (hF:iW N l so=some R):Calls Tryz.prog 91 #[.slice S l.length O,.func (.func 92) #[] #[pq b_]] w (fun e w=>e=.returned (.bool R)∧Ctx G (.box b_ [.slice H so.People.length I,.slice B so.Stations.length D] 43::Lf) w):=by
 unfold iW at hF
 refine bL Tryz.func91 rfl Tryz.ntmps91 rfl fun a hf=>zS fun K h=>zB hf hc rfl fun U a w hf hc=>sp 1 hf rfl fun a hf=>zT h ?_
 refine zS fun K h=>sp 1 hf rfl fun a hf=>zP hf rfl (pMF (us:=[pq U]) rfl rfl) fun a hf=>?_
 obtain ⟨r,hr,hF⟩:=aA hF
 refine zQ (v:=.bool r) hf hc aNp rfl (fun w hc=>(lT l so V M J ((hc.pick k1).pick k1) hr).mono fun e w h=>⟨h.1,((h.2.unpick k1).unpick k1)⟩) fun a w hf hc=>sp 2 hf rfl fun a hf=>zT h ?_
 refine wp_ret ?_
 obtain rfl:=sj hF
 replace hc:=hc.drop k0
 exact zO1 Tryz.results91 hf rfl ⟨rfl,hc⟩

def nW (N:Nat) (l:List Int) (x:Int):Option (bY (Int) (Bool)) :=
 cond (decide (x < ((l.length:Nat):Int)))
 (Option.bind (bE l x) fun B=>
 Option.bind (rH l 0 x) fun sub=>
 Option.bind (bB N sub B) fun r=>
 cond r
 (some (.ret false))
 (some (.cont (W (x + 1)))))
 (some (.brk x))
def tT (N:Nat) (l:List Int):Option (Bool) :=
 Option.bind (aX (fun s4=>nW N l s4) N 0) fun x4=>
 exK x4 (fun s4=>some true) some
theorem aBc {N:Nat} {G:aT} {Lf:List Ent} {w:World} (l:List Int) {H:Option Addr} {D:Nat} (J:Rd G 1 H D (l.map aB)) (hc:Ctx G (Lf) w) {I:Bool} (hF:tT N l=some I):Calls Tryz.prog 94 #[.slice H l.length D] w (fun e w=>e=.returned (.bool I)∧Ctx G (Lf) w):=by
 unfold tT at hF
 refine bL Tryz.func94 rfl Tryz.ntmps94 rfl fun a hf=>zS fun K h=>sp 1 hf rfl fun a hf=>zT h ?_
 refine wp_seq_k fun K2 h2=>zS fun K h=>sp 1 hf rfl fun a hf=>zP hf rfl (bG Tryz.underlying23 rfl) fun a hf=>sp 1 hf rfl fun a hf=>zT h ?_
 refine wp_block ?_
 obtain ⟨x4,X,hF⟩:=aA hF
 let S4:Int→Act→World→Prop:=(fun (zz:Int) a w=>Has 18 a [(0,.slice H l.length D),(5,.slice H l.length D),(6,i6 ((l.length:Nat):Int)),(7,i6 zz)]∧Ctx G (Lf) w)
 have R:∀ (zz:Int) a w,x4=.go zz→S4 zz a w→K2 a w:=by
  rintro x a w rfl ⟨hf,hc⟩
  replace hF:=bK hF
  refine h2 _ _ ?_
  refine zS fun K h=>sp 1 hf rfl fun a hf=>zT h ?_
  refine wp_ret ?_
  obtain rfl:=sj hF
  exact zO1 Tryz.results94 hf rfl ⟨rfl,hc⟩
 have Y:∀ r,x4=.out r→r=I:=by
  rintro r rfl
  exact sj hF
 refine cZ N (cW (S:=S4) (x:=x4) ?_ N 0 _ _ ⟨hf.kp rfl,hc⟩ X)
 clear hF hf hc
 rintro x b a w KB4 ⟨hf,hc⟩ hF B U
 unfold nW at hF
 refine zS fun K h=>sp 1 hf rfl fun a hf=>zT h ?_
 refine wp_seq_k fun K7 h7=>zI hf rfl hF ?_ ?_ <;> clear hF <;> intro hF
 ·refine wp_skip ?_
  refine h7 _ _ ?_
  refine wp_seq_k fun K8 h8=>wp_block ?_
  refine zS fun K h=>sp 1 hf rfl fun a hf=>?_
  obtain ⟨V,O,hF⟩:=aA hF
  obtain ⟨Z,o,qa,qp⟩:=J.atm O
  refine zP hf rfl (pIA Tryz.underlying23 fO rfl rfl qa) fun a hf=>zE hf hc rfl (eP cR rfl (dI (j:=0) qp rfl)) fun a w hf hc=>sp 2 hf rfl fun a hf=>zT h ?_
  refine zS fun K h=>sp 2 hf rfl fun a hf=>?_
  obtain ⟨sub,M,hF⟩:=aA hF
  have qs:=Rd.sub J M
  refine zP hf rfl (pSl Tryz.underlying23 fO rfl rfl (by simpa using J.1) rfl rfl M) fun a hf=>sp 1 hf rfl fun a hf=>?_
  obtain ⟨r,hr,hF⟩:=aA hF
  refine zQ (v:=.bool r) hf hc aB4 rfl (fun w hc=>cP sub V qs hc hr) fun a w hf hc=>zT h ?_
  refine zI hf rfl hF ?_ ?_ <;> clear hF <;> intro hF
  ·refine zS fun K h=>sp 1 hf rfl fun a hf=>zT h ?_
   refine wp_ret ?_
   refine bS ?_
   refine aL ?_
   refine aL ?_
   have he:=sj hF
   rw [← he] at B
   replace hF:=Y _ B
   refine bS ?_
   refine aL ?_
   obtain rfl:=hF
   exact zO1 Tryz.results94 hf rfl ⟨rfl,hc⟩
  ·refine wp_skip ?_
   refine h8 _ _ ?_
   refine bV ?_
   refine sp 2 hf rfl fun a hf=>aP ?_
   exact U (W (x + 1)) _ _ (sj hF).symm ⟨hf.kp rfl,hc⟩
 ·refine wp_exit ?_
  refine aY ?_
  refine aY ?_
  have he:=sj hF
  rw [← he] at B
  refine fJ ?_
  exact R _ _ _ B ⟨hf.kp rfl,hc⟩

def mU (N:Nat) (x:List Int):Option (Bool) :=
 Option.bind (tT N x) fun r=>
 some (!r)
theorem wI {N:Nat} {G:aT} {Lf:List Ent} {w:World} (x:List Int) {D:Option Addr} {B:Nat} {b_:Nat} (I:Rd G 1 D B (x.map aB)) (hc:Ctx G (.box b_ [.func (.func 94) #[] #[]] 155::Lf) w) {H:Bool} (hF:mU N x=some H):Calls Tryz.prog 124 #[.slice D x.length B,pq b_] w (fun e w=>e=.returned (.bool H)∧Ctx G (.box b_ [.func (.func 94) #[] #[]] 155::Lf) w):=by
 unfold mU at hF
 refine bL Tryz.func124 rfl Tryz.ntmps124 rfl fun a hf=>zS fun K h=>sp 1 hf rfl fun a hf=>zT h ?_
 refine zS fun K h=>zL hf hc aM4 m0 rfl fun a w hf hc=>sp 1 hf rfl fun a hf=>?_
 obtain ⟨r,hr,hF⟩:=aA hF
 refine zQ (v:=.bool r) hf hc aP2 rfl (fun w hc=>aBc x I hc hr) fun a w hf hc=>sp 2 hf rfl fun a hf=>zT h ?_
 refine wp_ret ?_
 obtain rfl:=sj hF
 exact zO1 Tryz.results124 hf rfl ⟨rfl,hc⟩

def fQ (N:Nat) (s_:List (List Int)) (x:Int):Option (bY (Int) (Int)) :=
 cond (decide (x < ((s_.length:Nat):Int)))
 (Option.bind (bE s_ x) fun B=>
 Option.bind (mU N B) fun r=>
 cond r
 (some (.ret x))
 (some (.cont (W (x + 1)))))
 (some (.brk x))
def gZ (N:Nat) (s_:List (List Int)):Option (Int) :=
 Option.bind (aX (fun s4=>fQ N s_ s4) N 0) fun x4=>
 exK x4 (fun s4=>some (-1)) some
theorem qQ {N:Nat} {G:aT} {Lf:List Ent} {w:World} (s_:List (List Int)) {H:Option Addr} {D:Nat} {b_:Nat} (M:RdT cL G 1 H D s_) (hc:Ctx G (.box b_ [.func (.func 94) #[] #[]] 155::Lf) w) {I:Int} (hF:gZ N s_=some I):Calls Tryz.prog 142 #[.slice H s_.length D,.func (.func 124) #[] #[pq b_]] w (fun e w=>e=.returned (i6 I)∧Ctx G (.box b_ [.func (.func 94) #[] #[]] 155::Lf) w):=by
 unfold gZ at hF
 refine bL Tryz.func142 rfl Tryz.ntmps142 rfl fun a hf=>zS fun K h=>sp 1 hf rfl fun a hf=>zT h ?_
 refine wp_seq_k fun K2 h2=>zS fun K h=>sp 1 hf rfl fun a hf=>zP hf rfl (bG Tryz.underlying40 rfl) fun a hf=>sp 1 hf rfl fun a hf=>zT h ?_
 refine wp_block ?_
 obtain ⟨x4,V,hF⟩:=aA hF
 let S4:Int→Act→World→Prop:=(fun (zz:Int) a w=>Has 19 a [(0,.slice H s_.length D),(1,.func (.func 124) #[] #[pq b_]),(7,i6 ((s_.length:Nat):Int)),(8,i6 zz)]∧Ctx G (.box b_ [.func (.func 94) #[] #[]] 155::Lf) w)
 have O:∀ (zz:Int) a w,x4=.go zz→S4 zz a w→K2 a w:=by
  rintro x a w rfl ⟨hf,hc⟩
  replace hF:=bK hF
  refine h2 _ _ ?_
  refine zS fun K h=>sp 1 hf rfl fun a hf=>zT h ?_
  refine wp_ret ?_
  obtain rfl:=sj hF
  exact zO1 Tryz.results142 hf rfl ⟨rfl,hc⟩
 have X:∀ r,x4=.out r→r=I:=by
  rintro r rfl
  exact sj hF
 refine cZ N (cW (S:=S4) (x:=x4) ?_ N 0 _ _ ⟨hf.kp rfl,hc⟩ V)
 clear hF hf hc
 rintro x Z a w KB4 ⟨hf,hc⟩ hF B R
 unfold fQ at hF
 refine zS fun K h=>sp 1 hf rfl fun a hf=>zT h ?_
 refine wp_seq_k fun K7 h7=>zI hf rfl hF ?_ ?_ <;> clear hF <;> intro hF
 ·refine wp_skip ?_
  refine h7 _ _ ?_
  refine wp_seq_k fun K8 h8=>wp_block ?_
  refine zS fun K h=>sp 2 hf rfl fun a hf=>zT h ?_
  refine zS fun K h=>sp 3 hf rfl fun a hf=>?_
  obtain ⟨U,J,hF⟩:=aA hF
  obtain ⟨Y,o,hd,qa,qp,qr⟩:=M.atm J
  refine zP hf rfl (pIA Tryz.underlying40 vI rfl rfl qa) fun a hf=>zE hf hc rfl (eP hY rfl (dI (j:=0) qp rfl)) fun a w hf hc=>?_
  obtain ⟨r,hr,hF⟩:=aA hF
  refine zQ (v:=.bool r) hf hc aMc rfl (fun w hc=>(wI U qr (hc.pick k0) hr).mono fun e w h=>⟨h.1,(h.2.unpick k0)⟩) fun a w hf hc=>zT h ?_
  refine zI hf rfl hF ?_ ?_ <;> clear hF <;> intro hF
  ·refine zS fun K h=>sp 2 hf rfl fun a hf=>zT h ?_
   refine wp_ret ?_
   refine bS ?_
   refine aL ?_
   refine aL ?_
   have he:=sj hF
   rw [← he] at B
   replace hF:=X _ B
   refine bS ?_
   refine aL ?_
   obtain rfl:=hF
   exact zO1 Tryz.results142 hf rfl ⟨rfl,hc⟩
  ·refine wp_skip ?_
   refine h8 _ _ ?_
   refine bV ?_
   refine sp 2 hf rfl fun a hf=>aP ?_
   exact R (W (x + 1)) _ _ (sj hF).symm ⟨hf.kp rfl,hc⟩
 ·refine wp_exit ?_
  refine aY ?_
  refine aY ?_
  have he:=sj hF
  rw [← he] at B
  refine fJ ?_
  exact O _ _ _ B ⟨hf.kp rfl,hc⟩

def fR (N:Nat) (s_:List (List Int)):Option (Bool) :=
 Option.bind (gZ N s_) fun r=>
 some (decide (0≤r))
theorem pP {N:Nat} {G:aT} {Lf:List Ent} {w:World} (s_:List (List Int)) {B:Option Addr} {D:Nat} {b_:Nat} (I:RdT cL G 1 B D s_) (hc:Ctx G (.box b_ [.func (.func 94) #[] #[]] 155::Lf) w) {H:Bool} (hF:fR N s_=some H):Calls Tryz.prog 123 #[.slice B s_.length D,.func (.func 124) #[] #[pq b_]] w (fun e w=>e=.returned (.bool H)∧Ctx G (.box b_ [.func (.func 94) #[] #[]] 155::Lf) w):=by
 unfold fR at hF
 refine bL Tryz.func123 rfl Tryz.ntmps123 rfl fun a hf=>zS fun K h=>sp 1 hf rfl fun a hf=>zT h ?_
 refine zS fun K h=>sp 2 hf rfl fun a hf=>?_
 obtain ⟨r,hr,hF⟩:=aA hF
 refine zQ (v:=i6 r) hf hc aMi rfl (fun w hc=>(qQ s_ I (hc.pick k0) hr).mono fun e w h=>⟨h.1,(h.2.unpick k0)⟩) fun a w hf hc=>sp 2 hf rfl fun a hf=>zT h ?_
 refine wp_ret ?_
 obtain rfl:=sj hF
 exact zO1 Tryz.results123 hf rfl ⟨rfl,hc⟩

def lJ (N:Nat) (l:List (List Int)):Option (Bool) :=
 Option.bind (fR N l) fun r=>
 some (!r)
theorem xP {N:Nat} {G:aT} {Lf:List Ent} {w:World} (l:List (List Int)) {H:Option Addr} {B:Nat} (I:RdT cL G 1 H B l) (hc:Ctx G (Lf) w) {D:Bool} (hF:lJ N l=some D):Calls Tryz.prog 87 #[.slice H l.length B,.func (.func 94) #[] #[]] w (fun e w=>e=.returned (.bool D)∧Ctx G (Lf) w):=by
 unfold lJ at hF
 refine bL Tryz.func87 rfl Tryz.ntmps87 rfl fun a hf=>zS fun K h=>zB hf hc rfl fun J a w hf hc=>sp 1 hf rfl fun a hf=>zT h ?_
 refine zS fun K h=>sp 1 hf rfl fun a hf=>zP hf rfl (pMF (us:=[pq J]) rfl rfl) fun a hf=>?_
 obtain ⟨r,hr,hF⟩:=aA hF
 refine zQ (v:=.bool r) hf hc aNq rfl (fun w hc=>(pP l I (hc.pick k0) hr).mono fun e w h=>⟨h.1,(h.2.unpick k0)⟩) fun a w hf hc=>sp 2 hf rfl fun a hf=>zT h ?_
 refine wp_ret ?_
 obtain rfl:=sj hF
 replace hc:=hc.drop k0
 exact zO1 Tryz.results87 hf rfl ⟨rfl,hc⟩

def tP (N:Nat) (s_:aJ):Option (Bool) :=
 Option.bind (tT N s_.Order) fun r=>
 some r
theorem aDk {N:Nat} {G:aT} {Lf:List Ent} {w:World} (s_:aJ) {B:Option Addr} {D:Nat} (H:Rd G 1 B D (s_.Order.map aB)) (hc:Ctx G (Lf) w) {I:Bool} (hF:tP N s_=some I):Calls Tryz.prog 95 #[.agg #[i6 s_.Places,.slice B s_.Order.length D]] w (fun e w=>e=.returned (.bool I)∧Ctx G (Lf) w):=by
 unfold tP at hF
 refine bL Tryz.func95 rfl Tryz.ntmps95 rfl fun a hf=>zS fun K h=>zB hf hc rfl fun J a w hf hc=>sp 1 hf rfl fun a hf=>zT h ?_
 refine zS fun K h=>zP hf rfl (pFA aGj rfl) fun a hf=>zL hf hc hY m0 rfl fun a w hf hc=>?_
 obtain ⟨r,hr,hF⟩:=aA hF
 refine zQ (v:=.bool r) hf hc aP2 rfl (fun w hc=>aBc s_.Order H hc hr) fun a w hf hc=>sp 1 hf rfl fun a hf=>zT h ?_
 refine wp_ret ?_
 obtain rfl:=sj hF
 replace hc:=hc.drop k0
 exact zO1 Tryz.results95 hf rfl ⟨rfl,hc⟩

def iN (N:Nat) (x:aJ):Option (Bool) :=
 Option.bind (tP N x) fun r=>
 some (!r)
theorem rR {N:Nat} {G:aT} {Lf:List Ent} {w:World} (x:aJ) {B:Option Addr} {D:Nat} {b_:Nat} (H:Rd G 1 B D (x.Order.map aB)) (hc:Ctx G (.box b_ [.func (.func 95) #[] #[]] 157::Lf) w) {I:Bool} (hF:iN N x=some I):Calls Tryz.prog 127 #[.agg #[i6 x.Places,.slice B x.Order.length D],pq b_] w (fun e w=>e=.returned (.bool I)∧Ctx G (.box b_ [.func (.func 95) #[] #[]] 157::Lf) w):=by
 unfold iN at hF
 refine bL Tryz.func127 rfl Tryz.ntmps127 rfl fun a hf=>zS fun K h=>zB hf hc rfl fun J a w hf hc=>sp 1 hf rfl fun a hf=>zT h ?_
 refine zS fun K h=>zL hf hc aLu m1 rfl fun a w hf hc=>zN hf hc aIa m0 rfl fun a w hf hc=>?_
 obtain ⟨r,hr,hF⟩:=aA hF
 refine zQ (v:=.bool r) hf hc en_95 rfl (fun w hc=>aDk x H hc hr) fun a w hf hc=>sp 2 hf rfl fun a hf=>zT h ?_
 refine wp_ret ?_
 obtain rfl:=sj hF
 replace hc:=hc.drop k0
 exact zO1 Tryz.results127 hf rfl ⟨rfl,hc⟩

def cU (N:Nat) (s_:List aJ) (x:Int):Option (bY (Int) (Int)) :=
 cond (decide (x < ((s_.length:Nat):Int)))
 (Option.bind (bE s_ x) fun B=>
 Option.bind (iN N B) fun r=>
 cond r
 (some (.ret x))
 (some (.cont (W (x + 1)))))
 (some (.brk x))
def dM (N:Nat) (s_:List aJ):Option (Int) :=
 Option.bind (aX (fun s4=>cU N s_ s4) N 0) fun x4=>
 exK x4 (fun s4=>some (-1)) some
theorem lS {N:Nat} {G:aT} {Lf:List Ent} {w:World} (s_:List aJ) {H:Option Addr} {D:Nat} {b_:Nat} (O:RdT dP G 2 H D s_) (hc:Ctx G (.box b_ [.func (.func 95) #[] #[]] 157::Lf) w) {J:Int} (hF:dM N s_=some J):Calls Tryz.prog 143 #[.slice H s_.length D,.func (.func 127) #[] #[pq b_]] w (fun e w=>e=.returned (i6 J)∧Ctx G (.box b_ [.func (.func 95) #[] #[]] 157::Lf) w):=by
 unfold dM at hF
 refine bL Tryz.func143 rfl Tryz.ntmps143 rfl fun a hf=>zS fun K h=>sp 1 hf rfl fun a hf=>zT h ?_
 refine wp_seq_k fun K2 h2=>zS fun K h=>sp 1 hf rfl fun a hf=>zP hf rfl (bG Tryz.underlying41 rfl) fun a hf=>sp 1 hf rfl fun a hf=>zT h ?_
 refine wp_block ?_
 obtain ⟨x4,V,hF⟩:=aA hF
 let S4:Int→Act→World→Prop:=(fun (zz:Int) a w=>Has 19 a [(0,.slice H s_.length D),(1,.func (.func 127) #[] #[pq b_]),(7,i6 ((s_.length:Nat):Int)),(8,i6 zz)]∧Ctx G (.box b_ [.func (.func 95) #[] #[]] 157::Lf) w)
 have R:∀ (zz:Int) a w,x4=.go zz→S4 zz a w→K2 a w:=by
  rintro x a w rfl ⟨hf,hc⟩
  replace hF:=bK hF
  refine h2 _ _ ?_
  refine zS fun K h=>sp 1 hf rfl fun a hf=>zT h ?_
  refine wp_ret ?_
  obtain rfl:=sj hF
  exact zO1 Tryz.results143 hf rfl ⟨rfl,hc⟩
 have X:∀ r,x4=.out r→r=J:=by
  rintro r rfl
  exact sj hF
 refine cZ N (cW (S:=S4) (x:=x4) ?_ N 0 _ _ ⟨hf.kp rfl,hc⟩ V)
 clear hF hf hc
 rintro x Z a w KB4 ⟨hf,hc⟩ hF B U
 unfold cU at hF
 refine zS fun K h=>sp 1 hf rfl fun a hf=>zT h ?_
 refine wp_seq_k fun K7 h7=>zI hf rfl hF ?_ ?_ <;> clear hF <;> intro hF
 ·refine wp_skip ?_
  refine h7 _ _ ?_
  refine wp_seq_k fun K8 h8=>wp_block ?_
  refine zS fun K h=>sp 2 hf rfl fun a hf=>zT h ?_
  refine zS fun K h=>sp 3 hf rfl fun a hf=>?_
  obtain ⟨I,M,hF⟩:=aA hF
  obtain ⟨Y,o,hd,qa,qp,qr⟩:=O.atm M
  refine zP hf rfl (pIA Tryz.underlying41 aHh rfl rfl qa) fun a hf=>zE hf hc rfl (lK (vs:=[i6 I.Places,.slice hd.1 I.Order.length hd.2]) aIa rfl rfl (kH qp (n:=2) (o':=0) rfl)) fun a w hf hc=>?_
  obtain ⟨r,hr,hF⟩:=aA hF
  refine zQ (v:=.bool r) hf hc aNx rfl (fun w hc=>(rR I qr (hc.pick k0) hr).mono fun e w h=>⟨h.1,(h.2.unpick k0)⟩) fun a w hf hc=>zT h ?_
  refine zI hf rfl hF ?_ ?_ <;> clear hF <;> intro hF
  ·refine zS fun K h=>sp 2 hf rfl fun a hf=>zT h ?_
   refine wp_ret ?_
   refine bS ?_
   refine aL ?_
   refine aL ?_
   have he:=sj hF
   rw [← he] at B
   replace hF:=X _ B
   refine bS ?_
   refine aL ?_
   obtain rfl:=hF
   exact zO1 Tryz.results143 hf rfl ⟨rfl,hc⟩
  ·refine wp_skip ?_
   refine h8 _ _ ?_
   refine bV ?_
   refine sp 2 hf rfl fun a hf=>aP ?_
   exact U (W (x + 1)) _ _ (sj hF).symm ⟨hf.kp rfl,hc⟩
 ·refine wp_exit ?_
  refine aY ?_
  refine aY ?_
  have he:=sj hF
  rw [← he] at B
  refine fJ ?_
  exact R _ _ _ B ⟨hf.kp rfl,hc⟩

def cV (N:Nat) (s_:List aJ):Option (Bool) :=
 Option.bind (dM N s_) fun r=>
 some (decide (0≤r))
theorem lA {N:Nat} {G:aT} {Lf:List Ent} {w:World} (s_:List aJ) {B:Option Addr} {D:Nat} {b_:Nat} (I:RdT dP G 2 B D s_) (hc:Ctx G (.box b_ [.func (.func 95) #[] #[]] 157::Lf) w) {H:Bool} (hF:cV N s_=some H):Calls Tryz.prog 126 #[.slice B s_.length D,.func (.func 127) #[] #[pq b_]] w (fun e w=>e=.returned (.bool H)∧Ctx G (.box b_ [.func (.func 95) #[] #[]] 157::Lf) w):=by
 unfold cV at hF
 refine bL Tryz.func126 rfl Tryz.ntmps126 rfl fun a hf=>zS fun K h=>sp 1 hf rfl fun a hf=>zT h ?_
 refine zS fun K h=>sp 2 hf rfl fun a hf=>?_
 obtain ⟨r,hr,hF⟩:=aA hF
 refine zQ (v:=i6 r) hf hc aL3 rfl (fun w hc=>(lS s_ I (hc.pick k0) hr).mono fun e w h=>⟨h.1,(h.2.unpick k0)⟩) fun a w hf hc=>sp 2 hf rfl fun a hf=>zT h ?_
 refine wp_ret ?_
 obtain rfl:=sj hF
 exact zO1 Tryz.results126 hf rfl ⟨rfl,hc⟩

def gO (N:Nat) (l:List aJ):Option (Bool) :=
 Option.bind (cV N l) fun r=>
 some (!r)
theorem sV {N:Nat} {G:aT} {Lf:List Ent} {w:World} (l:List aJ) {H:Option Addr} {B:Nat} (I:RdT dP G 2 H B l) (hc:Ctx G (Lf) w) {D:Bool} (hF:gO N l=some D):Calls Tryz.prog 91 #[.slice H l.length B,.func (.func 95) #[] #[]] w (fun e w=>e=.returned (.bool D)∧Ctx G (Lf) w):=by
 unfold gO at hF
 refine bL Tryz.func91 rfl Tryz.ntmps91 rfl fun a hf=>zS fun K h=>zB hf hc rfl fun J a w hf hc=>sp 1 hf rfl fun a hf=>zT h ?_
 refine zS fun K h=>sp 1 hf rfl fun a hf=>zP hf rfl (pMF (us:=[pq J]) rfl rfl) fun a hf=>?_
 obtain ⟨r,hr,hF⟩:=aA hF
 refine zQ (v:=.bool r) hf hc aNp rfl (fun w hc=>(lA l I (hc.pick k0) hr).mono fun e w h=>⟨h.1,(h.2.unpick k0)⟩) fun a w hf hc=>sp 2 hf rfl fun a hf=>zT h ?_
 refine wp_ret ?_
 obtain rfl:=sj hF
 replace hc:=hc.drop k0
 exact zO1 Tryz.results91 hf rfl ⟨rfl,hc⟩

def uJ (N:Nat) (r:aE):Option (Int) :=
 cond ((!(jC ((r.People.length:Nat):Int) 1 12)) || (!(jC ((r.Stations.length:Nat):Int) 1 12)))
 (some 3)
 (Option.bind (oD N r.People r) fun J=>
 Option.bind (cond (!J) (some true) (Option.bind (iW N r.Stations r) fun B=>
 some (!B))) fun I=>
 cond I
 (some 120)
 (Option.bind (lJ N r.People) fun H=>
 Option.bind (cond (!H) (some true) (Option.bind (gO N r.Stations) fun M=>
 some (!M))) fun D=>
 cond D
 (some 10)
 (some 0)))
theorem aFd {N:Nat} {G:aT} {Lf:List Ent} {w:World} (r:aE) {H:Option Addr} {B:Nat} {M:Option Addr} {J:Nat} (I:RdT cL G 1 H B r.People) (D:RdT dP G 2 M J r.Stations) (hc:Ctx G (Lf) w) {X:Int} (hF:uJ N r=some X):Calls Tryz.prog 57 #[.agg #[.slice H r.People.length B,.slice M r.Stations.length J]] w (fun e w=>e=.returned (i6 X)∧Ctx G (Lf) w):=by
 unfold uJ at hF
 refine bL Tryz.func57 rfl Tryz.ntmps57 rfl fun a hf=>zS fun K h=>zB hf hc rfl fun O a w hf hc=>sp 1 hf rfl fun a hf=>zT h ?_
 refine wp_seq_k fun K2 h2=>wp_block ?_
 refine zS fun K h=>zP hf rfl (pFA oM rfl) fun a hf=>zL hf hc wA m0 rfl fun a w hf hc=>zP hf rfl (bG Tryz.underlying40 rfl) fun a hf=>zQ (v:=.bool (jC ((r.People.length:Nat):Int) 1 12)) hf hc aHx rfl (fun w hc=>uK ((r.People.length:Nat):Int) 1 12 hc rfl) fun a w hf hc=>sp 2 hf rfl fun a hf=>jX 6 (fun a=>Has 40 a [(1,pq O),(4,pq O),(5,.slice H r.People.length B),(6,i6 ((r.People.length:Nat):Int)),(7,.bool (jC ((r.People.length:Nat):Int) 1 12)),(8,.bool (!(jC ((r.People.length:Nat):Int) 1 12))),(9,.bool (!(jC ((r.People.length:Nat):Int) 1 12))),(15,.bool ((!(jC ((r.People.length:Nat):Int) 1 12)) || (!(jC ((r.Stations.length:Nat):Int) 1 12))))]) hc ?_ ?_
 ·cases hb:(!(jC ((r.People.length:Nat):Int) 1 12))
  ·rw [hb] at hf
   refine zP hf rfl (pFA tK rfl) fun a hf=>zL hf hc aDb m0 rfl fun a w hf hc=>zP hf rfl (bG Tryz.underlying41 rfl) fun a hf=>zQ (v:=.bool (jC ((r.Stations.length:Nat):Int) 1 12)) hf hc aHx rfl (fun w hc=>uK ((r.Stations.length:Nat):Int) 1 12 hc rfl) fun a w hf hc=>sp 2 hf rfl fun a hf=>aP ⟨hf.kp rfl,hc⟩
  ·rw [hb] at hf
   refine stS hf rfl rfl rfl fun a hf=>stS hf rfl rfl rfl fun a hf=>stS hf rfl rfl rfl fun a hf=>stS hf rfl rfl rfl fun a hf=>stS hf rfl rfl rfl fun a hf=>sp 1 hf rfl fun a hf=>aP ⟨hf.kp rfl,hc⟩
 intro a w ⟨hf,hc⟩
 refine sp 1 hf rfl fun a hf=>zT h ?_
 refine zI hf rfl hF ?_ ?_ <;> clear hF <;> intro hF
 ·refine zS fun K h=>sp 1 hf rfl fun a hf=>zT h ?_
  refine wp_ret ?_
  refine bS ?_
  refine aL ?_
  obtain rfl:=sj hF
  replace hc:=hc.drop k0
  exact zO1 Tryz.results57 hf rfl ⟨rfl,hc⟩
 ·refine zS fun K h=>zP hf rfl (pFA oM rfl) fun a hf=>zL hf hc wA m0 rfl fun a w hf hc=>zP hf rfl (pMF (us:=[pq O]) rfl rfl) fun a hf=>?_
  obtain ⟨S,Z,hF⟩:=aA hF
  refine zQ (v:=.bool S) hf hc aPv rfl (fun w hc=>(aAx r.People r I I D (hc.pick k0) Z).mono fun e w h=>⟨h.1,(h.2.unpick k0)⟩) fun a w hf hc=>sp 2 hf rfl fun a hf=>?_
  obtain ⟨j,V,hF⟩:=aA hF
  refine jX 6 (fun a=>Has 40 a [(1,pq O),(17,pq O),(18,.slice H r.People.length B),(19,.func (.func 88) #[] #[pq O]),(20,.bool S),(21,.bool (!S)),(22,.bool (!S)),(28,.bool j)]) hc ?_ ?_
  ·cases hb:(!S)
   ·rw [hb] at hf
    have hF:=kI hb V
    refine zP hf rfl (pFA tK rfl) fun a hf=>zL hf hc aDb m0 rfl fun a w hf hc=>zP hf rfl (pMF (us:=[pq O]) rfl rfl) fun a hf=>?_
    obtain ⟨i,Y,hF⟩:=aA hF
    refine zQ (v:=.bool i) hf hc aP4 rfl (fun w hc=>(uC r.Stations r D I D (hc.pick k0) Y).mono fun e w h=>⟨h.1,(h.2.unpick k0)⟩) fun a w hf hc=>sp 2 hf rfl fun a hf=>?_
    obtain rfl:=sj hF
    exact aP ⟨hf.kp rfl,hc⟩
   ·rw [hb] at hf
    have hF:=fP hb V
    obtain rfl:=sj hF
    refine stS hf rfl rfl rfl fun a hf=>stS hf rfl rfl rfl fun a hf=>stS hf rfl rfl rfl fun a hf=>stS hf rfl rfl rfl fun a hf=>stS hf rfl rfl rfl fun a hf=>sp 1 hf rfl fun a hf=>aP ⟨hf.kp rfl,hc⟩
  intro a w ⟨hf,hc⟩
  refine sp 1 hf rfl fun a hf=>zT h ?_
  refine zI hf rfl hF ?_ ?_ <;> clear hF <;> intro hF
  ·refine zS fun K h=>sp 1 hf rfl fun a hf=>zT h ?_
   refine wp_ret ?_
   refine bS ?_
   refine aL ?_
   obtain rfl:=sj hF
   replace hc:=hc.drop k0
   exact zO1 Tryz.results57 hf rfl ⟨rfl,hc⟩
  ·refine zS fun K h=>zP hf rfl (pFA oM rfl) fun a hf=>zL hf hc wA m0 rfl fun a w hf hc=>?_
   obtain ⟨R,b,hF⟩:=aA hF
   refine zQ (v:=.bool R) hf hc aPv rfl (fun w hc=>xP r.People I hc b) fun a w hf hc=>sp 2 hf rfl fun a hf=>?_
   obtain ⟨g,U,hF⟩:=aA hF
   refine jX 5 (fun a=>Has 40 a [(1,pq O),(30,pq O),(31,.slice H r.People.length B),(32,.bool R),(33,.bool (!R)),(34,.bool (!R)),(39,.bool g)]) hc ?_ ?_
   ·cases hb:(!R)
    ·rw [hb] at hf
     have hF:=kI hb U
     refine zP hf rfl (pFA tK rfl) fun a hf=>zL hf hc aDb m0 rfl fun a w hf hc=>?_
     obtain ⟨k,d,hF⟩:=aA hF
     refine zQ (v:=.bool k) hf hc aP4 rfl (fun w hc=>sV r.Stations D hc d) fun a w hf hc=>sp 2 hf rfl fun a hf=>?_
     obtain rfl:=sj hF
     exact aP ⟨hf.kp rfl,hc⟩
    ·rw [hb] at hf
     have hF:=fP hb U
     obtain rfl:=sj hF
     refine stS hf rfl rfl rfl fun a hf=>stS hf rfl rfl rfl fun a hf=>stS hf rfl rfl rfl fun a hf=>stS hf rfl rfl rfl fun a hf=>sp 1 hf rfl fun a hf=>aP ⟨hf.kp rfl,hc⟩
   intro a w ⟨hf,hc⟩
   refine sp 1 hf rfl fun a hf=>zT h ?_
   refine zI hf rfl hF ?_ ?_ <;> clear hF <;> intro hF
   ·refine zS fun K h=>sp 1 hf rfl fun a hf=>zT h ?_
    refine wp_ret ?_
    refine bS ?_
    refine aL ?_
    obtain rfl:=sj hF
    replace hc:=hc.drop k0
    exact zO1 Tryz.results57 hf rfl ⟨rfl,hc⟩
   ·refine wp_skip ?_
    refine h2 _ _ ?_
    refine zS fun K h=>sp 1 hf rfl fun a hf=>zT h ?_
    refine wp_ret ?_
    obtain rfl:=sj hF
    replace hc:=hc.drop k0
    exact zO1 Tryz.results57 hf rfl ⟨rfl,hc⟩

def kP (N:Nat) (r:aE) (x:Int) (I:aJ) (B:Int) (D:Nat→Int):Option (bY (Int × (Nat→Int)) (bY (Int × (Nat→Int)) ((Int) ⊕ ((Nat→Int) × Int)))) :=
 cond (decide (B < ((r.People.length:Nat):Int)))
 (Option.bind (fY N I.Order B) fun H=>
 Option.bind (inR x 12) fun un=>
 Option.bind (inR B 12) fun J=>
 some (.cont (W (B + 1),(rT D (x * 12 + B).toNat H))))
 (some (.brk (B,D)))
def lI (N:Nat) (r:aE) (x:Int) (D:Nat→Int):Option (bY (Int × (Nat→Int)) ((Int) ⊕ ((Nat→Int) × Int))) :=
 cond (decide (x < ((r.Stations.length:Nat):Int)))
 (Option.bind (bE r.Stations x) fun H=>
 Option.bind (aX (fun B=>kP N r x H B.1 B.2) N (0,D)) fun I=>
 exK I (fun B=>some (.cont (W (x + 1),B.2))) some)
 (some (.brk (x,D)))
def sR (N:Nat) (r:aE):Option ((Int) ⊕ ((Nat→Int) × Int)) :=
 Option.bind (uJ N r) fun B=>
 cond (B != 0)
 (some (.inl B))
 (Option.bind (aX (fun s9=>lI N r s9.1 s9.2) N (0,(fun _=>0))) fun x9=>
 exK x9 (fun s9=>some (.inr (s9.2,0))) some)
theorem yO {N:Nat} {G:aT} {Lf:List Ent} {w:World} (r:aE) {I:Option Addr} {H:Nat} {D:Option Addr} {B:Nat} (d:RdT cL G 1 I H r.People) (R:RdT dP G 2 D B r.Stations) (hc:Ctx G (Lf) w) {p:(Int) ⊕ ((Nat→Int) × Int)} (hF:sR N r=some p):Calls Tryz.prog 29 #[.agg #[.slice I r.People.length H,.slice D r.Stations.length B]] w (fun e w=>aAg (fun rr=>e=.returned (.tuple #[.pointer none,i6 rr])∧Ctx G (Lf) w) (fun rr=>∃ (q:Nat),e=.returned (.tuple #[pq q,i6 rr.2])∧Ctx G (.box q (bR [.slice I r.People.length H,.slice D r.Stations.length B] 144 aB rr.1 []) 127::Lf) w) p):=by
 unfold sR at hF
 refine bL Tryz.func29 rfl Tryz.ntmps29 rfl fun a hf=>zS fun K h=>zB hf hc rfl fun V a w hf hc=>sp 2 hf rfl fun a hf=>zT h ?_
 refine wp_seq_k fun K2 h2=>zS fun K h=>zN hf hc aFl m0 rfl fun a w hf hc=>?_
 obtain ⟨ai,aa,hF⟩:=aA hF
 refine zQ (v:=i6 ai) hf hc en_57 rfl (fun w hc=>aFd r d R hc aa) fun a w hf hc=>sp 1 hf rfl fun a hf=>zT h ?_
 refine zS fun K h=>sp 2 hf rfl fun a hf=>zT h ?_
 refine zI hf rfl hF ?_ ?_ <;> clear hF <;> intro hF
 ·refine zS fun K h=>sp 3 hf rfl fun a hf=>zT h ?_
  refine wp_ret ?_
  refine aL ?_
  obtain rfl:=sj hF
  replace hc:=hc.drop k0
  exact zO2 Tryz.results29 hf rfl rfl ⟨rfl,hc⟩
 ·refine wp_skip ?_
  refine h2 _ _ ?_
  refine zS fun K h=>zN hf hc aFl m0 rfl fun a w hf hc=>zP hf rfl (iF (cells:=(bR [.slice I r.People.length H,.slice D r.Stations.length B] 144 aB (fun _=>0) [])) aRt rfl rfl) fun a hf=>stBx (cs:=(bR [.slice I r.People.length H,.slice D r.Stations.length B] 144 aB (fun _=>0) [])) hf hc rfl rfl rfl rfl fun J a w hf hc=>sp 1 hf rfl fun a hf=>zT h ?_
  refine wp_seq_k fun K7 h7=>zS fun K h=>zP hf rfl (pFA tK rfl) fun a hf=>zL hf hc aDb m1 rfl fun a w hf hc=>zP hf rfl (bG Tryz.underlying41 rfl) fun a hf=>sp 1 hf rfl fun a hf=>zT h ?_
  refine wp_block ?_
  obtain ⟨x9,ar,hF⟩:=aA hF
  let S9:(Int × (Nat→Int))→Act→World→Prop:=(fun (zz:Int × (Nat→Int)) a w=>Has 45 a [(1,pq V),(5,pq J),(18,.slice D r.Stations.length B),(19,i6 ((r.Stations.length:Nat):Int)),(20,i6 zz.1)]∧Ctx G (.box J (bR [.slice I r.People.length H,.slice D r.Stations.length B] 144 aB zz.2 []) 127::.box V [.slice I r.People.length H,.slice D r.Stations.length B] 43::Lf) w)
  have au:∀ (zz:Int × (Nat→Int)) a w,x9=.go zz→S9 zz a w→K7 a w:=by
   rintro ⟨x,s⟩ a w rfl ⟨hf,hc⟩
   replace hF:=bK hF
   refine h7 _ _ ?_
   refine zS fun K h=>sp 3 hf rfl fun a hf=>zT h ?_
   refine wp_ret ?_
   obtain rfl:=sj hF
   replace hc:=hc.drop k1
   exact zO2 Tryz.results29 hf rfl rfl ⟨J,rfl,hc⟩
  have a1:∀ r,x9=.out r→r=p:=by
   rintro r rfl
   exact sj hF
  refine cZ N (cW (S:=S9) (x:=x9) ?_ N (0,(fun _=>0)) _ _ ⟨hf.kp rfl,hc⟩ ar)
  clear hF hf hc
  rintro ⟨x,s⟩ ak a w KB9 ⟨hf,hc⟩ hF j af
  unfold lI at hF
  refine zS fun K h=>sp 1 hf rfl fun a hf=>zT h ?_
  refine wp_seq_k fun K12 aq=>zI hf rfl hF ?_ ?_ <;> clear hF <;> intro hF
  ·refine wp_skip ?_
   refine aq _ _ ?_
   refine wp_seq_k fun K13 ag=>wp_block ?_
   refine zS fun K h=>sp 1 hf rfl fun a hf=>?_
   obtain ⟨U,u,hF⟩:=aA hF
   obtain ⟨a0,o,hd,qa,qp,qr⟩:=R.atm u
   refine zP hf rfl (pIA Tryz.underlying41 aHh rfl rfl qa) fun a hf=>zE hf hc rfl (lK (vs:=[i6 U.Places,.slice hd.1 U.Order.length hd.2]) aIa rfl rfl (kH qp (n:=2) (o':=0) rfl)) fun a w hf hc=>zA hf hc zr_46 rfl fun Y a w hf hc=>sp 1 hf rfl fun a hf=>zW hf hc aHh u0 rfl fun w hc=>zT h ?_
   refine zS fun K h=>zP hf rfl (pFA oM rfl) fun a hf=>zL hf hc wA m2 rfl fun a w hf hc=>zP hf rfl (bG Tryz.underlying40 rfl) fun a hf=>sp 1 hf rfl fun a hf=>zT h ?_
   refine iK fun K16 am=>wp_block ?_
   obtain ⟨m,ab,hF⟩:=aA hF
   let S17:(Int × (Nat→Int))→Act→World→Prop:=(fun (zz:Int × (Nat→Int)) a w=>Has 45 a [(1,pq V),(5,pq J),(6,i6 x),(7,pq Y),(18,.slice D r.Stations.length B),(19,i6 ((r.Stations.length:Nat):Int)),(20,i6 x),(27,i6 ((r.People.length:Nat):Int)),(28,i6 zz.1)]∧Ctx G (.box Y [i6 U.Places,.slice hd.1 U.Order.length hd.2] 46::.box J (bR [.slice I r.People.length H,.slice D r.Stations.length B] 144 aB zz.2 []) 127::.box V [.slice I r.People.length H,.slice D r.Stations.length B] 43::Lf) w)
   have t:∀ (zz:Int × (Nat→Int)) a w,m=.go zz→S17 zz a w→K16 a w:=by
    rintro ⟨O,b⟩ a w rfl ⟨hf,hc⟩
    replace hF:=bK hF
    refine am _ _ ?_
    refine ag _ _ ?_
    refine bV ?_
    refine sp 2 hf rfl fun a hf=>aP ?_
    replace hc:=hc.drop k0
    exact af (W (x + 1),b) _ _ (sj hF).symm ⟨hf.kp rfl,hc⟩
   have ax:∀ r,m=.out r→r=ak:=by
    rintro r rfl
    exact sj hF
   refine cZ N (cW (S:=S17) (x:=m) ?_ N (0,s) _ _ ⟨hf.kp rfl,hc⟩ ab)
   clear hF hf hc
   rintro ⟨O,b⟩ ay a w KB17 ⟨hf,hc⟩ hF g ac
   unfold kP at hF
   refine zS fun K h=>sp 1 hf rfl fun a hf=>zT h ?_
   refine wp_seq_k fun K19 av=>zI hf rfl hF ?_ ?_ <;> clear hF <;> intro hF
   ·refine wp_skip ?_
    refine av _ _ ?_
    refine wp_seq_k fun K20 an=>wp_block ?_
    refine zS fun K h=>sp 2 hf rfl fun a hf=>zT h ?_
    obtain ⟨Z,y,hF⟩:=aA hF
    obtain ⟨un,i,hF⟩:=aA hF
    obtain ⟨az,X,hF⟩:=aA hF
    refine eL (fun θ=>[⟨none,none,1,pq V⟩,⟨none,none,5,pq J⟩,⟨none,none,6,i6 x⟩,⟨none,none,7,pq Y⟩,⟨none,none,8,i6 O⟩,⟨none,none,18,.slice D r.Stations.length B⟩,⟨none,none,19,i6 ((r.Stations.length:Nat):Int)⟩,⟨none,none,20,i6 x⟩,⟨none,none,27,i6 ((r.People.length:Nat):Int)⟩,⟨none,none,28,i6 O⟩,⟨some 0,none,31,pq J⟩,⟨some 1,none,32,i6 x⟩,⟨some 2,none,33,i6 O⟩,⟨some 3,none,34,.pointer (some ⟨Y,1,none⟩)⟩,⟨some 4,none,35,.slice hd.1 U.Order.length hd.2⟩,⟨some 5,none,36,i6 O⟩,⟨some 6,none,37,i6 Z⟩,⟨some 7,none,38,pq J⟩,⟨some 8,none,39,.pointer (some ⟨J,2,none⟩)⟩,⟨some 9,none,40,.pointer (some ⟨J,2 + x.toNat * 12,none⟩)⟩,⟨some 10,none,41,.pointer (some ⟨J,2 + (x * 12 + O).toNat * 1,none⟩)⟩]) (fun E θ=>.box Y [i6 U.Places,.slice hd.1 U.Order.length hd.2] 46::(bif E 11 then .box J (bR [.slice I r.People.length H,.slice D r.Stations.length B] 144 aB (rT b (x * 12 + O).toNat Z) []) 127 else .box J (bR [.slice I r.People.length H,.slice D r.Stations.length B] 144 aB b []) 127)::.box V [.slice I r.People.length H,.slice D r.Stations.length B] 43::Lf) [] (fun a w=>Has 45 a [(1,pq V),(5,pq J),(6,i6 x),(7,pq Y),(18,.slice D r.Stations.length B),(19,i6 ((r.Stations.length:Nat):Int)),(20,i6 x),(27,i6 ((r.People.length:Nat):Int)),(28,i6 O)]∧Ctx G (.box Y [i6 U.Places,.slice hd.1 U.Order.length hd.2] 46::.box J (bR [.slice I r.People.length H,.slice D r.Stations.length B] 144 aB (rT b (x * 12 + O).toNat Z) []) 127::.box V [.slice I r.People.length H,.slice D r.Stations.length B] 43::Lf) w) bA (by kernel_rfl) (by kernel_rfl) (fN.of hf ⟨rfl,rfl,rfl,rfl,rfl,rfl,rfl,rfl,rfl,rfl,trivial,trivial,trivial,trivial,trivial,trivial,trivial,trivial,trivial,trivial,trivial,trivial⟩) hc ⟨?_,?_,?_,?_,?_,?_,?_,?_,?_,?_,?_,?_,trivial⟩ ?_ ?_
    ·intro E θ a w hD hi hp he hc
     have hf:=he.h0.mT he 1 rfl
     refine sp 1 hf rfl fun a hf=>zD θ he hi hf 10 rfl rfl rfl hc
    ·intro E θ a w hD hi hp he hc
     have hf:=he.h0.mT he 2 rfl
     refine sp 1 hf rfl fun a hf=>zD θ he hi hf 11 rfl rfl rfl hc
    ·intro E θ a w hD hi hp he hc
     have hf:=he.h0.mT he 4 rfl
     refine sp 1 hf rfl fun a hf=>zD θ he hi hf 12 rfl rfl rfl hc
    ·intro E θ a w hD hi hp he hc
     have hf:=he.h0.mT he 3 rfl
     refine zP hf rfl (pFA aGj rfl) fun a hf=>zD θ he hi hf 13 rfl rfl rfl hc
    ·intro E θ a w hD hi hp he hc
     have e3:=hp.o 3 rfl
     have hf:=he.h0.mP he 13 rfl e3
     refine zL hf hc hY m0 rfl fun a w hf hc=>zD θ he hi hf 14 rfl rfl rfl hc
    ·intro E θ a w hD hi hp he hc
     have hf:=he.h0.mT he 4 rfl
     refine sp 1 hf rfl fun a hf=>zD θ he hi hf 15 rfl rfl rfl hc
    ·intro E θ a w hD hi hp he hc
     have e4:=hp.o 4 rfl
     have e5:=hp.o 5 rfl
     have hf:=(he.h0.mP he 14 rfl e4).mP he 15 rfl e5
     refine zQ (v:=i6 Z) hf hc aQd rfl (fun w hc=>pV U.Order O qr hc y) fun a w hf hc=>zD θ he hi hf 16 rfl rfl rfl hc
    ·intro E θ a w hD hi hp he hc
     have e0:=hp.o 0 rfl
     have hf:=he.h0.mP he 10 rfl e0
     refine sp 1 hf rfl fun a hf=>zD θ he hi hf 17 rfl rfl rfl hc
    ·intro E θ a w hD hi hp he hc
     have e7:=hp.o 7 rfl
     have hf:=he.h0.mP he 17 rfl e7
     refine zP hf rfl (pFA aBt rfl) fun a hf=>zD θ he hi hf 18 rfl rfl rfl hc
    ·intro E θ a w hD hi hp he hc
     have e1:=hp.o 1 rfl
     have e8:=hp.o 8 rfl
     have hf:=(he.h0.mP he 11 rfl e1).mP he 18 rfl e8
     refine zP hf rfl (xL Tryz.underlying125 aGi rfl rfl (cF i).1 (cF i).2) fun a hf=>zD θ he hi hf 19 rfl rfl rfl hc
    ·intro E θ a w hD hi hp he hc
     have e2:=hp.o 2 rfl
     have e9:=hp.o 9 rfl
     have hf:=(he.h0.mP he 12 rfl e2).mP he 19 rfl e9
     refine zP hf rfl (Pu.cast (xL Tryz.underlying124 fO rfl rfl (cF X).1 (cF X).2) (congrArg (fun k=>Value.pointer (some ⟨J,k,none⟩)) (aBk (M:=12) (2) i X rfl))) fun a hf=>zD θ he hi hf 20 rfl rfl rfl hc
    ·intro E θ a w hD hi hp he hc
     have e6:=hp.o 6 rfl
     have aj:=hp.o 10 rfl
     try dsimp only at hc
     rw [hi] at hc
     have hf:=(he.h0.mP he 16 rfl e6).mP he 20 rfl aj
     refine aK7 (vs:=[i6 Z]) (o':=0) (z:=Z) hf hc rfl rfl rfl rfl fO rfl (fun x=>(bZ x).1) rfl (inR2 i X rfl) rfl rfl u1 fun w hc=>zG θ he hi hf rfl ?_
     try dsimp only
     rw [aS E 11]
     exact hc
    ·intro E θ a w ad he hc
     have hf:=he.h0
     have ap:=ad 11 rfl
     replace hf:=hf.more he 9 rfl (onT)
     replace hf:=hf.more he 8 rfl (onT)
     replace hf:=hf.more he 7 rfl (onT)
     replace hf:=hf.more he 6 rfl (onT)
     replace hf:=hf.more he 5 rfl (onT)
     replace hf:=hf.more he 3 rfl (onT)
     replace hf:=hf.more he 2 rfl (onT)
     replace hf:=hf.more he 1 rfl (onT)
     replace hf:=hf.more he 0 rfl (onT)
     try dsimp only at hc
     rw [ap] at hc
     exact ⟨hf.kp rfl,hc⟩
    rintro a w ⟨hf,hc⟩
    refine an _ _ ?_
    refine bV ?_
    refine sp 2 hf rfl fun a hf=>aP ?_
    exact ac (W (O + 1),(rT b (x * 12 + O).toNat Z)) _ _ (sj hF).symm ⟨hf.kp rfl,hc⟩
   ·refine wp_exit ?_
    refine aY ?_
    refine aY ?_
    have he:=sj hF
    rw [← he] at g
    refine fJ ?_
    exact t _ _ _ g ⟨hf.kp rfl,hc⟩
  ·refine wp_exit ?_
   refine aY ?_
   refine aY ?_
   have he:=sj hF
   rw [← he] at j
   refine fJ ?_
   exact au _ _ _ j ⟨hf.kp rfl,hc⟩

def vK (N:Nat) (x:Int) (y:Int):Option (Int × Int) :=
 mulU x y
/-! ### Walks of the library -/

theorem aCk {N:Nat} {G:aT} {Lf:List Ent} {w:World} (x:Int) (y:Int)   (hc:Ctx G (Lf) w) {B:Int × Int} (hF:vK N x y=some B):Calls Tryz.prog 96 #[.int .u64 x,.int .u64 y] w (fun e w=>e=.returned (.tuple #[.int .u64 B.1,.int .u64 B.2])∧Ctx G (Lf) w):=by
 unfold vK at hF
 exact aOd (fun x y h1 h2 w=>Go.Proofs.Any.bits_Mul Go.Proofs.Tryz.lays212 x y h1 h2 w) hc hF

def pF (N:Nat) (B:List Int) (n:Int):Option (bY ((List Int) × Int) ((List Int))) :=
 cond (decide (n < ((B.length:Nat):Int)))
 (Option.bind (rH B n ((B.length:Nat):Int)) fun sub=>
 Option.bind (rH B 0 n) fun D=>
 Option.bind (cpOk D.length sub.length) fun H=>
 some (.cont ((cpL B n.toNat sub.length D),W (n + ((Nat.min D.length sub.length:Nat):Int)))))
 (some (.brk (B,n)))
def bD (N:Nat) (x:List Int) (B:Int):Option ((List Int)) :=
 cond (decide (B < 0))
 (none)
 (Option.bind (vK N (IntKind.u64.wrap (((x.length:Nat):Int))) (IntKind.u64.wrap (B))) fun r=>
 cond ((decide (0 < r.1)) || (decide (9223372036854775807 < r.2)))
 (none)
 (Option.bind (inM (W (r.2))) fun un=>
 Option.bind (aGy x.length) fun I=>
 Option.bind (aX (fun D=>pF N D.1 D.2) N ((cpL (List.replicate (W (r.2)).toNat (0:Int)) 0 ((List.replicate (W (r.2)).toNat (0:Int)).length) x),((Nat.min x.length ((List.replicate (W (r.2)).toNat (0:Int)).length):Nat):Int))) fun H=>
 exK H (fun D=>some D.1) some))
theorem uU {N:Nat} {G:aT} {Lf:List Ent} {w:World} (x:List Int) (I:Int) {Z:Option Addr} {V:Nat} (u:Rd G 1 Z V (x.map aB)) (hc:Ctx G (Lf) w) {U:(List Int)} (hF:bD N x I=some U):Calls Tryz.prog 58 #[.slice Z x.length V,i6 I] w (fun e w=>∃ (g:Option Addr) (i:Nat),e=.returned (.slice g U.length i)∧Ctx G (.row g i (U.map aB) 3 1::Lf) w):=by
 unfold bD at hF
 refine bL Tryz.func58 rfl Tryz.ntmps58 rfl fun a hf=>zS fun K h=>sp 1 hf rfl fun a hf=>zT h ?_
 refine wp_seq_k fun K2 h2=>zS fun K h=>sp 2 hf rfl fun a hf=>zT h ?_
 refine zI hf rfl hF ?_ ?_ <;> clear hF <;> intro hF
 ·exact aBn hF
 ·refine wp_skip ?_
  refine h2 _ _ ?_
  refine zS fun K h=>sp 1 hf rfl fun a hf=>zP hf rfl (bG Tryz.underlying23 rfl) fun a hf=>zP hf rfl (pCv Tryz.underlying3 Tryz.underlying150 rfl) fun a hf=>sp 1 hf rfl fun a hf=>zP hf rfl (pCv Tryz.underlying3 Tryz.underlying150 rfl) fun a hf=>?_
  obtain ⟨r,hr,hF⟩:=aA hF
  refine zQ (v:=.tuple #[.int .u64 r.1,.int .u64 r.2]) hf hc en_96 rfl (fun w hc=>aCk (IntKind.u64.wrap (((x.length:Nat):Int))) (IntKind.u64.wrap (I)) hc hr) fun a w hf hc=>sp 5 hf rfl fun a hf=>zT h ?_
  refine wp_seq_k fun K5 h5=>zS fun K h=>sp 3 hf rfl fun a hf=>jX 3 (fun a=>Has 48 a [(0,.slice Z x.length V),(5,.int .u64 r.1),(6,.int .u64 r.2),(21,.int .u64 r.1),(22,.bool (decide (0 < r.1))),(23,.bool (decide (0 < r.1))),(26,.bool ((decide (0 < r.1)) || (decide (9223372036854775807 < r.2))))]) hc ?_ ?_
  ·cases hb:(decide (0 < r.1))
   ·rw [hb] at hf
    refine sp 3 hf rfl fun a hf=>aP ⟨hf.kp rfl,hc⟩
   ·rw [hb] at hf
    refine stS hf rfl rfl rfl fun a hf=>stS hf rfl rfl rfl fun a hf=>sp 1 hf rfl fun a hf=>aP ⟨hf.kp rfl,hc⟩
  intro a w ⟨hf,hc⟩
  refine zT h ?_
  refine zI hf rfl hF ?_ ?_ <;> clear hF <;> intro hF
  ·exact aBn hF
  ·refine wp_skip ?_
   refine h5 _ _ ?_
   refine zS fun K h=>sp 1 hf rfl fun a hf=>zP hf rfl (pCv Tryz.underlying150 Tryz.underlying3 rfl) fun a hf=>?_
   obtain ⟨un,t,hF⟩:=aA hF
   refine stMk (m:=(List.replicate (W (r.2)).toNat (0:Int)).length) (rows:=(List.replicate (W (r.2)).toNat (0:Int)).map aB) hf hc rfl rfl jA rfl rfl (aEv t) rfl rfl (by simp [List.map_replicate,Value.cells]) (by simp) fun H a w hf hc=>sp 1 hf rfl fun a hf=>zT h ?_
   refine zS fun K h=>sp 2 hf rfl fun a hf=>?_
   obtain ⟨ac,d,hF⟩:=aA hF
   refine stCp (enc:=aB) (R:=(List.replicate (W (r.2)).toNat (0:Int))) (S:=x) (lo:=0) hf hc rfl rfl Tryz.underlying23 fO rfl (by simp) rfl rfl bZ (aGp hc u) (aF7 d) (by simp) u0 fun a w hf hc=>sp 1 hf rfl fun a hf=>zT h ?_
   refine wp_seq_k fun K9 h9=>wp_block ?_
   obtain ⟨Y,s,hF⟩:=aA hF
   let S10:((List Int) × Int)→Act→World→Prop:=(fun (zz:(List Int) × Int) a w=>Has 48 a [(7,.slice (some ⟨H,0,none⟩) zz.1.length ((W (r.2)).toNat)),(8,i6 zz.2)]∧Ctx G (.row (some ⟨H,0,none⟩) ((W (r.2)).toNat) (zz.1.map aB) 3 1::Lf) w)
   have p:∀ (zz:(List Int) × Int) a w,Y=.go zz→S10 zz a w→K9 a w:=by
    rintro ⟨B,n⟩ a w rfl ⟨hf,hc⟩
    replace hF:=bK hF
    refine h9 _ _ ?_
    refine zS fun K h=>sp 2 hf rfl fun a hf=>zT h ?_
    refine wp_ret ?_
    obtain rfl:=sj hF
    exact zO1 Tryz.results58 hf rfl ⟨(some ⟨H,0,none⟩),(W (r.2)).toNat,rfl,hc⟩
   have aa:∀ r,Y=.out r→r=U:=by
    rintro r rfl
    exact sj hF
   replace hf:=hf.castAt 7 (v':=.slice (some ⟨H,0,none⟩) ((cpL (List.replicate (W (r.2)).toNat (0:Int)) 0 ((List.replicate (W (r.2)).toNat (0:Int)).length) x).length) ((W (r.2)).toNat)) rfl (congrArg (fun k=>Value.slice (some ⟨H,0,none⟩) k ((W (r.2)).toNat)) (by simp))
   refine cZ N (cW (S:=S10) (x:=Y) ?_ N ((cpL (List.replicate (W (r.2)).toNat (0:Int)) 0 ((List.replicate (W (r.2)).toNat (0:Int)).length) x),((Nat.min x.length ((List.replicate (W (r.2)).toNat (0:Int)).length):Nat):Int)) _ _ ⟨hf.kp rfl,hc⟩ s)
   clear hF hf hc
   rintro ⟨B,n⟩ ab a w KB10 ⟨hf,hc⟩ hF J j
   unfold pF at hF
   refine wp_seq_k fun K12 y=>zS fun K h=>sp 2 hf rfl fun a hf=>zP hf rfl (bG Tryz.underlying23 rfl) fun a hf=>sp 1 hf rfl fun a hf=>zT h ?_
   refine zI hf rfl hF ?_ ?_ <;> clear hF <;> intro hF
   ·refine wp_skip ?_
    refine y _ _ ?_
    refine iK fun K14 z=>wp_block ?_
    have qc:=qX hc m0
    obtain ⟨sub,X,hF⟩:=aA hF
    have q:=qX hc m0
    obtain ⟨D,M,hF⟩:=aA hF
    obtain ⟨ad,O,hF⟩:=aA hF
    have qs:=tV X
    try dsimp only at qs
    refine eL (fun θ=>[⟨none,none,7,.slice (some ⟨H,0,none⟩) B.length ((W (r.2)).toNat)⟩,⟨none,some 9,8,i6 n⟩,⟨some 0,none,38,i6 n⟩,⟨some 1,none,39,.slice (some ⟨H,0,none⟩) B.length ((W (r.2)).toNat)⟩,⟨some 2,none,40,i6 n⟩,⟨some 3,none,41,.slice (zZ (some ⟨H,0,none⟩) ((W (r.2)).toNat) n.toNat 1) sub.length (((W (r.2)).toNat) - n.toNat)⟩,⟨some 4,none,42,.slice (some ⟨H,0,none⟩) B.length ((W (r.2)).toNat)⟩,⟨some 5,none,43,i6 n⟩,⟨some 6,none,44,.slice (zZ (some ⟨H,0,none⟩) ((W (r.2)).toNat) (0:Int).toNat 1) D.length (((W (r.2)).toNat) - (0:Int).toNat)⟩,⟨some 7,none,45,i6 ((Nat.min D.length sub.length:Nat):Int)⟩,⟨some 8,none,46,i6 (W (n + ((Nat.min D.length sub.length:Nat):Int)))⟩,⟨some 9,none,8,i6 (W (n + ((Nat.min D.length sub.length:Nat):Int)))⟩]) (fun E θ=>(bif E 7 then .row (some ⟨H,0,none⟩) ((W (r.2)).toNat) ((cpL B n.toNat sub.length D).map aB) 3 1 else .row (some ⟨H,0,none⟩) ((W (r.2)).toNat) (B.map aB) 3 1)::Lf) [(9,0),(9,2),(7,3),(9,5),(7,6)] (fun a w=>Has 48 a [(7,.slice (some ⟨H,0,none⟩) B.length ((W (r.2)).toNat)),(8,i6 (W (n + ((Nat.min D.length sub.length:Nat):Int))))]∧Ctx G (.row (some ⟨H,0,none⟩) ((W (r.2)).toNat) ((cpL B n.toNat sub.length D).map aB) 3 1::Lf) w) bA (by kernel_rfl) (by kernel_rfl) (fN.of hf ⟨rfl,rfl,trivial,trivial,trivial,trivial,trivial,trivial,trivial,trivial,trivial,trivial,trivial⟩) hc ⟨?_,?_,?_,?_,?_,?_,?_,?_,?_,?_,trivial⟩ ?_ ?_
    ·intro E θ a w hD hi hp he hc
     have e9:=hD.f 0 rfl hi
     have hf:=he.h0.mN he 1 rfl e9
     refine sp 1 hf rfl fun a hf=>zD θ he hi hf 2 rfl rfl rfl hc
    ·intro E θ a w hD hi hp he hc
     have hf:=he.h0.mT he 0 rfl
     refine sp 1 hf rfl fun a hf=>zD θ he hi hf 3 rfl rfl rfl hc
    ·intro E θ a w hD hi hp he hc
     have e9:=hD.f 1 rfl hi
     have hf:=he.h0.mN he 1 rfl e9
     refine sp 1 hf rfl fun a hf=>zD θ he hi hf 4 rfl rfl rfl hc
    ·intro E θ a w hD hi hp he hc
     have e1:=hp.o 1 rfl
     have e2:=hp.o 2 rfl
     have e7:=hD.f 2 rfl hi
     try dsimp only at hc
     rw [e7] at hc
     have hf:=(he.h0.mP he 3 rfl e1).mP he 4 rfl e2
     refine zP hf rfl (pSl Tryz.underlying23 fO rfl rfl qc rfl rfl X) fun a hf=>zD θ he hi hf 5 rfl rfl rfl ?_
     try dsimp only
     rw [aQ 3 e7 rfl]
     exact hc
    ·intro E θ a w hD hi hp he hc
     have hf:=he.h0.mT he 0 rfl
     refine sp 1 hf rfl fun a hf=>zD θ he hi hf 6 rfl rfl rfl hc
    ·intro E θ a w hD hi hp he hc
     have e9:=hD.f 3 rfl hi
     have hf:=he.h0.mN he 1 rfl e9
     refine sp 1 hf rfl fun a hf=>zD θ he hi hf 7 rfl rfl rfl hc
    ·intro E θ a w hD hi hp he hc
     have e4:=hp.o 4 rfl
     have e5:=hp.o 5 rfl
     have e7:=hD.f 4 rfl hi
     try dsimp only at hc
     rw [e7] at hc
     have hf:=(he.h0.mP he 6 rfl e4).mP he 7 rfl e5
     refine zP hf rfl (pSl Tryz.underlying23 fO rfl rfl q rfl rfl M) fun a hf=>zD θ he hi hf 8 rfl rfl rfl ?_
     try dsimp only
     rw [aQ 6 e7 rfl]
     exact hc
    ·intro E θ a w hD hi hp he hc
     have e3:=hp.o 3 rfl
     have e6:=hp.o 6 rfl
     try dsimp only at hc
     rw [hi] at hc
     have hf:=(he.h0.mP he 5 rfl e3).mP he 8 rfl e6
     refine stCp (enc:=aB) (R:=B) (S:=D) (lo:=n.toNat) hf hc rfl rfl Tryz.underlying23 fO rfl (aGd (aGe O).2 (by have:B.length≤(W (r.2)).toNat:=qX hc m0; omega)) rfl rfl bZ (aKh (fun x=>(bZ x).1) (kC hc m0) M (qX hc m0)) (aGe O).1 (by omega) u0 fun a w hf hc=>zD θ he hi hf 9 rfl rfl rfl ?_
     try dsimp only
     rw [aS E 7]
     exact hc
    ·intro E θ a w hD hi hp he hc
     have e0:=hp.o 0 rfl
     have e7:=hp.o 7 rfl
     have hf:=(he.h0.mP he 2 rfl e0).mP he 9 rfl e7
     refine sp 1 hf rfl fun a hf=>zD θ he hi hf 10 rfl rfl rfl hc
    ·intro E θ a w hD hi hp he hc
     have e8:=hp.o 8 rfl
     have hf:=he.h0.mP he 10 rfl e8
     refine sp 1 hf rfl fun a hf=>zD θ he hi hf 11 rfl rfl rfl hc
    ·intro E θ a w b he hc
     have hf:=he.h0
     have e7:=b 7 rfl
     have e9:=b 9 rfl
     replace hf:=hf.more he 11 rfl (onP e9)
     replace hf:=hf.more he 0 rfl (onT)
     try dsimp only at hc
     rw [e7] at hc
     exact ⟨hf.kp rfl,hc⟩
    rintro a w ⟨hf,hc⟩
    refine z _ _ ?_
    replace hf:=hf.castAt 7 (v':=.slice (some ⟨H,0,none⟩) ((cpL B n.toNat sub.length D).length) ((W (r.2)).toNat)) rfl (congrArg (fun k=>Value.slice (some ⟨H,0,none⟩) k ((W (r.2)).toNat)) (by simp))
    exact j ((cpL B n.toNat sub.length D),W (n + ((Nat.min D.length sub.length:Nat):Int))) _ _ (sj hF).symm ⟨hf.kp rfl,hc⟩
   ·refine wp_exit ?_
    refine aY ?_
    refine aY ?_
    have he:=sj hF
    rw [← he] at J
    refine fJ ?_
    exact p _ _ _ J ⟨hf.kp rfl,hc⟩

def nL (N:Nat) (w_:dD) (p_:Int) (than:Int):Option (Int × Int) :=
 some (p_,than)
theorem aAj {N:Nat} {G:aT} {Lf:List Ent} {w:World} (w_:dD) (p_:Int) (than:Int) {b_:Nat} {H:Option Addr} {I:Nat} {D:Option Addr} {B:Nat} (M:RdT cL G 1 H I w_.Roster.People) (J:RdT dP G 2 D B w_.Roster.Stations) (Z:PC G b_ 0 (bR [.slice H w_.Roster.People.length I,.slice D w_.Roster.Stations.length B] 144 aB w_.rank [])) (hc:Ctx G (Lf) w) {O:Int × Int} (hF:nL N w_ p_ than=some O):Calls Tryz.prog 60 #[pq b_,i6 p_,i6 than] w (fun e w=>∃ (S:Nat) (Y:Nat) (X:Nat),e=.returned (.func (.func 97) #[] #[pq S,pq Y,pq X])∧Ctx G (.box S [pq b_] 82::.box Y [i6 O.1] 3::.box X [i6 O.2] 3::Lf) w):=by
 unfold nL at hF
 refine bL Tryz.func60 rfl Tryz.ntmps60 rfl fun a hf=>zS fun K h=>zB hf hc rfl fun R a w hf hc=>zB hf hc rfl fun U a w hf hc=>zB hf hc rfl fun V a w hf hc=>sp 1 hf rfl fun a hf=>zT h ?_
 refine zS fun K h=>zP hf rfl (pMF (us:=[pq R,pq U,pq V]) rfl rfl) fun a hf=>sp 1 hf rfl fun a hf=>zT h ?_
 refine wp_ret ?_
 obtain rfl:=sj hF
 replace hc:=((hc.pick k0).pick k1).pick k2
 exact zO1 Tryz.results60 hf rfl ⟨R,U,V,rfl,hc⟩

def lE (N:Nat) (w_:dD) (p_:Int) (s_:Int):Option (Bool) :=
 Option.bind (inR s_ 12) fun un=>
 Option.bind (inR p_ 12) fun H=>
 Option.bind (cond ((w_.rank (s_ * 12 + p_).toNat) != (-1)) (Option.bind (bE w_.Roster.People p_) fun B=>
 Option.bind (bB N B s_) fun r=>
 some r) (some false)) fun D=>
 some D
theorem sA {N:Nat} {G:aT} {Lf:List Ent} {w:World} (w_:dD) (p_:Int) (s_:Int) {b_:Nat} {H:Option Addr} {I:Nat} {D:Option Addr} {B:Nat} (J:RdT cL G 1 H I w_.Roster.People) (S:RdT dP G 2 D B w_.Roster.Stations) (R:PC G b_ 0 (bR [.slice H w_.Roster.People.length I,.slice D w_.Roster.Stations.length B] 144 aB w_.rank [])) (hc:Ctx G (Lf) w) {X:Bool} (hF:lE N w_ p_ s_=some X):Calls Tryz.prog 98 #[pq b_,i6 p_,i6 s_] w (fun e w=>e=.returned (.bool X)∧Ctx G (Lf) w):=by
 unfold lE at hF
 refine bL Tryz.func98 rfl Tryz.ntmps98 rfl fun a hf=>zS fun K h=>sp 1 hf rfl fun a hf=>zT h ?_
 refine zS fun K h=>sp 4 hf rfl fun a hf=>zP hf rfl (pFA aBt rfl) fun a hf=>?_
 obtain ⟨un,U,hF⟩:=aA hF
 refine zP hf rfl (xL Tryz.underlying125 aGi rfl rfl (cF U).1 (cF U).2) fun a hf=>?_
 obtain ⟨d,O,hF⟩:=aA hF
 refine zP hf rfl (Pu.cast (xL Tryz.underlying124 fO rfl rfl (cF O).1 (cF O).2) (congrArg (fun k=>Value.pointer (some ⟨b_,k,none⟩)) (aBk (M:=12) (0 + 2) U O rfl))) fun a hf=>zE hf hc rfl (eP cR rfl (aEl (j:=0) R (fun x=>(bZ x).1) rfl (inR2 U O rfl) rfl)) fun a w hf hc=>sp 2 hf rfl fun a hf=>?_
 obtain ⟨b,V,hF⟩:=aA hF
 refine jX 11 (fun a=>Has 28 a [(0,pq b_),(1,i6 p_),(2,i6 s_),(6,.bool false),(7,pq b_),(8,i6 s_),(9,i6 p_),(10,pq b_),(11,.pointer (some ⟨b_,0 + 2,none⟩)),(12,.pointer (some ⟨b_,0 + 2 + s_.toNat * 12,none⟩)),(13,.pointer (some ⟨b_,0 + 2 + (s_ * 12 + p_).toNat * 1,none⟩)),(14,i6 (w_.rank (s_ * 12 + p_).toNat)),(15,.bool ((w_.rank (s_ * 12 + p_).toNat) != (-1))),(16,.bool ((w_.rank (s_ * 12 + p_).toNat) != (-1))),(27,.bool b)]) hc ?_ ?_
 ·cases hb:((w_.rank (s_ * 12 + p_).toNat) != (-1))
  ·rw [hb] at hf
   have hF:=kI hb V
   obtain rfl:=sj hF
   refine stS hf rfl rfl rfl fun a hf=>stS hf rfl rfl rfl fun a hf=>stS hf rfl rfl rfl fun a hf=>stS hf rfl rfl rfl fun a hf=>stS hf rfl rfl rfl fun a hf=>stS hf rfl rfl rfl fun a hf=>stS hf rfl rfl rfl fun a hf=>stS hf rfl rfl rfl fun a hf=>stS hf rfl rfl rfl fun a hf=>stS hf rfl rfl rfl fun a hf=>sp 1 hf rfl fun a hf=>aP ⟨hf.kp rfl,hc⟩
  ·rw [hb] at hf
   have hF:=fP hb V
   refine sp 2 hf rfl fun a hf=>zP hf rfl (pFA uG rfl) fun a hf=>zP hf rfl (pFA oM rfl) fun a hf=>zE hf hc rfl (eP wA rfl (dI (j:=0) R rfl)) fun a w hf hc=>sp 1 hf rfl fun a hf=>?_
   obtain ⟨Z,Y,hF⟩:=aA hF
   obtain ⟨g,o,hd,qa,qp,qr⟩:=J.atm Y
   refine zP hf rfl (pIA Tryz.underlying40 vI rfl rfl qa) fun a hf=>zE hf hc rfl (eP hY rfl (dI (j:=0) qp rfl)) fun a w hf hc=>sp 1 hf rfl fun a hf=>?_
   obtain ⟨r,hr,hF⟩:=aA hF
   refine zQ (v:=.bool r) hf hc aB4 rfl (fun w hc=>cP Z s_ qr hc hr) fun a w hf hc=>sp 1 hf rfl fun a hf=>?_
   obtain rfl:=sj hF
   exact aP ⟨hf.kp rfl,hc⟩
 intro a w ⟨hf,hc⟩
 refine sp 1 hf rfl fun a hf=>zT h ?_
 refine wp_ret ?_
 obtain rfl:=sj hF
 exact zO1 Tryz.results98 hf rfl ⟨rfl,hc⟩

def jW (N:Nat) {σ:Type} (D:Int) (B:σ):Option (bY (Int × σ) (σ)) :=
 some (.cont (W (D + 1),B))
def iG (N:Nat) {σ:Type} (x:dD) (J:Int) (I:Int) (y:σ→Int→Option (σ × Bool)) (H:List Int) (B:Int) (sg:σ):Option (bY (Int × σ) (σ)) :=
 cond (decide (B < ((H.length:Nat):Int)))
 (Option.bind (bE H B) fun D=>
 cond (D == I)
 (some (.ret sg))
 (Option.bind (lE N (⟨x.Roster,x.rank⟩:dD) J D) fun r=>
 cond r
 (Option.bind (y sg D) fun ry=>
 cond (!ry.2)
 (some (.ret ry.1))
 (jW N B ry.1))
 (jW N B sg)))
 (some (.brk (B,sg)))
def jY (N:Nat) {σ:Type} (x:dD) (B:Int) (D:Int) (y:σ→Int→Option (σ × Bool)) (I:σ):Option (σ) :=
 Option.bind (bE x.Roster.People B) fun H=>
 Option.bind (aX (fun s3=>iG N x B D y H s3.1 s3.2) N (0,I)) fun x3=>
 exK x3 (fun s3=>some s3.2) some
theorem xN {N:Nat} {G:aT} {Lf:List Ent} {w:World} {σ:Type} (x:dD) (X:Int) (Z:Int) {b_:Nat} {V:Nat} {M:Option Addr} {O:Nat} {H:Option Addr} {I:Nat} {R:Nat} {U:Nat} (B:RdT cL G 1 M O x.Roster.People) (D:RdT dP G 2 H I x.Roster.Stations) (d:PC G V 0 (bR [.slice M x.Roster.People.length O,.slice H x.Roster.Stations.length I] 144 aB x.rank [])) (J:σ→List Ent→Prop) (y:σ→Int→Option (σ × Bool)) {l:Nat} (hy:aB8 Tryz.prog G l (fun x:Int=>[i6 x]) J y) (q:σ) {Ls0:List Ent} (ai:J q Ls0) (hc:Ctx G (.box b_ [pq V] 82::.box R [i6 X] 3::.box U [i6 Z] 3::(Ls0++Lf)) w) {s:σ} (hF:jY N x X Z y q=some s):Calls Tryz.prog 97 #[.func (.yield l) #[] #[],pq b_,pq R,pq U] w (fun e w=>(∃ v,e=.returned v)∧∃ L,J s L∧Ctx G (.box b_ [pq V] 82::.box R [i6 X] 3::.box U [i6 Z] 3::(L++Lf)) w):=by
 unfold jY at hF
 refine bL Tryz.func97 rfl Tryz.ntmps97 rfl fun a hf=>wp_seq_k fun K1 h1=>?_
 obtain ⟨g,ab,hF⟩:=aA hF
 obtain ⟨an,o,hd,qa,qp,qr⟩:=B.atm ab
 refine cQ hc bA (by kernel_rfl) ?_
 refine qE hf rfl rfl rfl (eP yX rfl (iA m0 rfl)) fun a hf=>qE hf rfl rfl rfl (Pu.ev (pNC rfl)) fun a hf=>qE hf rfl rfl rfl (Pu.ev (pFA uG rfl)) fun a hf=>qE hf rfl rfl rfl (Pu.ev (pFA oM rfl)) fun a hf=>qE hf rfl rfl rfl (eP wA rfl (dI (j:=0) d rfl)) fun a hf=>qE hf rfl rfl rfl (eP cR rfl (iA m1 rfl)) fun a hf=>qE hf rfl rfl rfl (Pu.ev (pIA Tryz.underlying40 vI rfl rfl qa)) fun a hf=>qE hf rfl rfl rfl (eP hY rfl (dI (j:=0) qp rfl)) fun a hf=>qE hf rfl rfl rfl (Pu.ev (bG Tryz.underlying23 rfl)) fun a hf=>qE hf rfl rfl rfl (Pu.ev (pM rfl)) fun a hf=>?_
 intro w hc
 refine h1 _ _ ?_
 refine iK fun K2 h2=>wp_block ?_
 obtain ⟨x3,ak,hF⟩:=aA hF
 let S3:(Int × σ)→Act→World→Prop:=(fun (zz:Int × σ) a w=>∃ (Ls:List Ent),J zz.2 Ls∧Has 36 a [(0,.func (.yield l) #[] #[]),(1,pq b_),(2,pq R),(3,pq U),(14,.slice hd.1 g.length hd.2),(15,i6 ((g.length:Nat):Int)),(16,i6 zz.1)]∧Ctx G (.box b_ [pq V] 82::.box R [i6 X] 3::.box U [i6 Z] 3::(Ls++Lf)) w)
 have aj:∀ (zz:Int × σ) a w,x3=.go zz→S3 zz a w→K2 a w:=by
  rintro ⟨n,sg⟩ a w rfl ⟨Ls,hJ,hf,hc⟩
  replace hF:=bK hF
  refine h2 _ _ ?_
  obtain rfl:=sj hF
  exact qZ (by simp) rfl Tryz.results97 hf ⟨⟨_,rfl⟩,Ls,hJ,hc⟩
 have t:∀ r,x3=.out r→r=s:=by
  rintro r rfl
  exact sj hF
 refine cZ N (cW (S:=S3) (x:=x3) ?_ N (0,q) _ _ ⟨Ls0,ai,hf.kp rfl,hc⟩ ak)
 clear hF hf hc
 rintro ⟨n,sg⟩ am a w KB3 ⟨Ls,hJ,hf,hc⟩ hF Y ag
 unfold iG at hF
 refine zS fun K h=>sp 1 hf rfl fun a hf=>zT h ?_
 refine wp_seq_k fun K5 h5=>zI hf rfl hF ?_ ?_ <;> clear hF <;> intro hF
 ·refine wp_skip ?_
  refine h5 _ _ ?_
  refine wp_seq_k fun K6 h6=>?_
  have u:∀ (k:σ) (Ls_1:List Ent) a w,J k Ls_1→Has 36 a [(0,.func (.yield l) #[] #[]),(1,pq b_),(2,pq R),(3,pq U),(14,.slice hd.1 g.length hd.2),(15,i6 ((g.length:Nat):Int)),(16,i6 n)]→Ctx G (.box b_ [pq V] 82::.box R [i6 X] 3::.box U [i6 Z] 3::(Ls_1++Lf)) w→jW N n k=some am→K6 a w:=by
   repeat (clear hF)
   repeat (clear hc)
   repeat (clear hf)
   intro k Ls_1 a w z hf hc hF
   unfold jW at hF
   refine h6 _ _ ?_
   refine bV ?_
   refine sp 2 hf rfl fun a hf=>aP ?_
   exact ag (W (n + 1),k) _ _ (sj hF).symm ⟨Ls_1,z,hf.kp rfl,hc⟩
  refine wp_block ?_
  refine zS fun K h=>?_
  obtain ⟨b,ac,hF⟩:=aA hF
  obtain ⟨aq,ap,aa,ad⟩:=qr.atm ac
  refine zP hf rfl (pIA Tryz.underlying23 fO rfl rfl aa) fun a hf=>zE hf hc rfl (eP cR rfl (dI (j:=0) ad rfl)) fun a w hf hc=>sp 1 hf rfl fun a hf=>zT h ?_
  refine wp_seq_k fun K8 h8=>?_
  rcases iC (b == Z) with i | i
  ·replace hF:=fP i hF
   refine bV ?_
   refine sp 1 hf rfl fun a hf=>zL hf hc cR m2 rfl fun a w hf hc=>sp 1 hf rfl fun a hf=>?_
   replace hf:=eI i hf
   refine sp 1 hf rfl fun a hf=>stS hf rfl rfl rfl fun a hf=>stS hf rfl rfl rfl fun a hf=>stS hf rfl rfl rfl fun a hf=>stS hf rfl rfl rfl fun a hf=>stS hf rfl rfl rfl fun a hf=>stS hf rfl rfl rfl fun a hf=>stS hf rfl rfl rfl fun a hf=>stS hf rfl rfl rfl fun a hf=>stS hf rfl rfl rfl fun a hf=>stS hf rfl rfl rfl fun a hf=>sp 1 hf rfl fun a hf=>aP ?_
   refine h8 _ _ ?_
   refine aJn hf rfl ?_
   refine wp_ret ?_
   refine bS ?_
   refine aL ?_
   refine aL ?_
   have he:=sj hF
   rw [← he] at Y
   replace hF:=t _ Y
   refine bS ?_
   refine aL ?_
   obtain rfl:=hF
   exact qZ (by simp) rfl Tryz.results97 hf ⟨⟨_,rfl⟩,Ls,hJ,hc⟩
  ·replace hF:=kI i hF
   obtain ⟨r,hr,hF⟩:=aA hF
   rcases iC r with m | m
   ·replace hF:=fP m hF
    obtain ⟨ry,af,hF⟩:=aA hF
    refine yReg 11 (fun a w=>Has 36 a [(0,.func (.yield l) #[] #[]),(1,pq b_),(2,pq R),(3,pq U),(14,.slice hd.1 g.length hd.2),(15,i6 ((g.length:Nat):Int)),(16,i6 n),(6,i6 b),(20,i6 b),(21,i6 Z),(22,.bool false),(23,.bool false),(24,pq V),(25,i6 X),(26,i6 b),(27,.bool true),(28,.bool true),(29,.func (.yield l) #[] #[]),(30,i6 b)]∧Ctx G (.box b_ [pq V] 82::.box R [i6 X] 3::.box U [i6 Z] 3::(Ls++Lf)) w) (fun _ _ h=>by obtain ⟨⟨_,h⟩,_⟩:=h; cases h) ?_ ?_
    ·refine sp 1 hf rfl fun a hf=>zL hf hc cR m2 rfl fun a w hf hc=>sp 1 hf rfl fun a hf=>?_
     replace hf:=eI i hf
     refine sp 1 hf rfl fun a hf=>zL hf hc yX m0 rfl fun a w hf hc=>zL hf hc cR m1 rfl fun a w hf hc=>sp 1 hf rfl fun a hf=>zQ (v:=.bool r) hf hc aPj rfl (fun w hc=>sA (⟨x.Roster,x.rank⟩:dD) X b B D d hc hr) fun a w hf hc=>?_
     replace hf:=eI m hf
     refine sp 3 hf rfl fun a hf=>aP ⟨hf.kp rfl,hc⟩
    rintro a w ⟨hf,hc⟩
    refine stY (own:=[.box b_ [pq V] 82,.box R [i6 X] 3,.box U [i6 Z] 3]) (v:=b) hy hJ af hf hc rfl rfl rfl rfl rfl rfl fun a w Ls_2 p hf hc=>?_
    replace hc:Ctx G (.box b_ [pq V] 82::.box R [i6 X] 3::.box U [i6 Z] 3::(Ls_2++Lf)) w:=hc
    refine aPg (fun _ _ h=>by obtain ⟨⟨_,h⟩,_⟩:=h; cases h) ?_
    refine sp 3 hf rfl fun a hf=>aP ?_
    refine h8 _ _ ?_
    refine zI hf rfl hF ?_ ?_ <;> clear hF <;> intro hF
    ·refine wp_ret ?_
     refine bS ?_
     refine aL ?_
     refine aL ?_
     have he:=sj hF
     rw [← he] at Y
     replace hF:=t _ Y
     refine bS ?_
     refine aL ?_
     obtain rfl:=hF
     exact qZ (by simp) rfl Tryz.results97 hf ⟨⟨_,rfl⟩,Ls_2,p,hc⟩
    ·refine wp_skip ?_
     exact u ry.1 Ls_2 _ _ p (hf.kp rfl) hc hF
   ·replace hF:=kI m hF
    refine bV ?_
    refine sp 1 hf rfl fun a hf=>zL hf hc cR m2 rfl fun a w hf hc=>sp 1 hf rfl fun a hf=>?_
    replace hf:=eI i hf
    refine sp 1 hf rfl fun a hf=>zL hf hc yX m0 rfl fun a w hf hc=>zL hf hc cR m1 rfl fun a w hf hc=>sp 1 hf rfl fun a hf=>zQ (v:=.bool r) hf hc aPj rfl (fun w hc=>sA (⟨x.Roster,x.rank⟩:dD) X b B D d hc hr) fun a w hf hc=>?_
    replace hf:=eI m hf
    refine sp 1 hf rfl fun a hf=>stS hf rfl rfl rfl fun a hf=>stS hf rfl rfl rfl fun a hf=>stS hf rfl rfl rfl fun a hf=>stS hf rfl rfl rfl fun a hf=>sp 2 hf rfl fun a hf=>aP ?_
    refine h8 _ _ ?_
    refine aJm hf rfl ?_
    refine wp_skip ?_
    exact u sg Ls _ _ hJ (hf.kp rfl) hc hF
 ·refine wp_exit ?_
  refine aY ?_
  refine aY ?_
  have he:=sj hF
  rw [← he] at Y
  refine fJ ?_
  exact aj _ _ _ Y ⟨Ls,hJ,hf.kp rfl,hc⟩

def gU (x:aO) (D:Int) (B:Int):Bool :=
 (x.Person == D && x.Station == B)
theorem wB {G:aT} {Lf:List Ent} {w:World} (x:aO) (H:Int) (D:Int) {b_:Nat} {B:Nat}  (hc:Ctx G (.box b_ [i6 H] 3::.box B [i6 D] 3::Lf) w) {I:Bool} (hF:gU x H D=I):Calls Tryz.prog 62 #[.agg #[i6 x.Person,i6 x.Station],pq b_,pq B] w (fun e w=>e=.returned (.bool I)∧Ctx G (.box b_ [i6 H] 3::.box B [i6 D] 3::Lf) w):=by
 unfold gU at hF
 refine bL Tryz.func62 rfl Tryz.ntmps62 rfl fun a hf=>zS fun K h=>zB hf hc rfl fun J a w hf hc=>sp 1 hf rfl fun a hf=>zT h ?_
 refine zS fun K h=>zN hf hc aMu m0 rfl fun a w hf hc=>zL hf hc cR m1 rfl fun a w hf hc=>zL hf hc cR m2 rfl fun a w hf hc=>zP hf rfl (iF (cells:=[i6 H,i6 D]) aNb rfl rfl) fun a hf=>zP hf rfl (pEqA aRd rfl rfl (aOj _ _ _ _)) fun a hf=>sp 1 hf rfl fun a hf=>zT h ?_
 refine wp_ret ?_
 obtain rfl:=hF
 replace hc:=hc.drop k0
 exact zO1 Tryz.results62 hf rfl ⟨rfl,hc⟩

def eV (N:Nat) (s_:List aO) (f_:Int) (B:Int) (x:Int):Option (bY (Int) (Int)) :=
 cond (decide (x < ((s_.length:Nat):Int)))
 (Option.bind (bE s_ x) fun D=>
 cond (gU D f_ B)
 (some (.ret x))
 (some (.cont (W (x + 1)))))
 (some (.brk x))
def eH (N:Nat) (s_:List aO) (f_:Int) (B:Int):Option (Int) :=
 Option.bind (aX (fun s4=>eV N s_ f_ B s4) N 0) fun x4=>
 exK x4 (fun s4=>some (-1)) some
theorem mW {N:Nat} {G:aT} {Lf:List Ent} {w:World} (s_:List aO) (f_:Int) (B:Int) {J:Option Addr} {I:Nat} {b_:Nat} {H:Nat} (U:Rd G 2 J I (s_.map aV)) (hc:Ctx G (.box b_ [i6 f_] 3::.box H [i6 B] 3::Lf) w) {O:Int} (hF:eH N s_ f_ B=some O):Calls Tryz.prog 99 #[.slice J s_.length I,.func (.func 62) #[] #[pq b_,pq H]] w (fun e w=>e=.returned (i6 O)∧Ctx G (.box b_ [i6 f_] 3::.box H [i6 B] 3::Lf) w):=by
 unfold eH at hF
 refine bL Tryz.func99 rfl Tryz.ntmps99 rfl fun a hf=>zS fun K h=>sp 1 hf rfl fun a hf=>zT h ?_
 refine wp_seq_k fun K2 h2=>zS fun K h=>sp 1 hf rfl fun a hf=>zP hf rfl (bG Tryz.underlying85 rfl) fun a hf=>sp 1 hf rfl fun a hf=>zT h ?_
 refine wp_block ?_
 obtain ⟨x4,Y,hF⟩:=aA hF
 let S4:Int→Act→World→Prop:=(fun (zz:Int) a w=>Has 19 a [(0,.slice J s_.length I),(1,.func (.func 62) #[] #[pq b_,pq H]),(7,i6 ((s_.length:Nat):Int)),(8,i6 zz)]∧Ctx G (.box b_ [i6 f_] 3::.box H [i6 B] 3::Lf) w)
 have V:∀ (zz:Int) a w,x4=.go zz→S4 zz a w→K2 a w:=by
  rintro x a w rfl ⟨hf,hc⟩
  replace hF:=bK hF
  refine h2 _ _ ?_
  refine zS fun K h=>sp 1 hf rfl fun a hf=>zT h ?_
  refine wp_ret ?_
  obtain rfl:=sj hF
  exact zO1 Tryz.results99 hf rfl ⟨rfl,hc⟩
 have Z:∀ r,x4=.out r→r=O:=by
  rintro r rfl
  exact sj hF
 refine cZ N (cW (S:=S4) (x:=x4) ?_ N 0 _ _ ⟨hf.kp rfl,hc⟩ Y)
 clear hF hf hc
 rintro x d a w KB4 ⟨hf,hc⟩ hF D X
 unfold eV at hF
 refine zS fun K h=>sp 1 hf rfl fun a hf=>zT h ?_
 refine wp_seq_k fun K7 h7=>zI hf rfl hF ?_ ?_ <;> clear hF <;> intro hF
 ·refine wp_skip ?_
  refine h7 _ _ ?_
  refine wp_seq_k fun K8 h8=>wp_block ?_
  refine zS fun K h=>sp 2 hf rfl fun a hf=>zT h ?_
  refine zS fun K h=>sp 3 hf rfl fun a hf=>?_
  obtain ⟨M,R,hF⟩:=aA hF
  obtain ⟨b,o,qa,qp⟩:=U.atm R
  refine zP hf rfl (pIA Tryz.underlying85 aQ2 rfl rfl qa) fun a hf=>zE hf hc rfl (lK (vs:=[i6 M.Person,i6 M.Station]) aMu rfl rfl (kH qp (n:=2) (o':=0) rfl)) fun a w hf hc=>zQ (v:=.bool (gU M f_ B)) hf hc en_62 rfl (fun w hc=>(wB M f_ B ((hc.pick k1).pick k1) rfl).mono fun e w h=>⟨h.1,((h.2.unpick k1).unpick k1)⟩) fun a w hf hc=>zT h ?_
  refine zI hf rfl hF ?_ ?_ <;> clear hF <;> intro hF
  ·refine zS fun K h=>sp 2 hf rfl fun a hf=>zT h ?_
   refine wp_ret ?_
   refine bS ?_
   refine aL ?_
   refine aL ?_
   have he:=sj hF
   rw [← he] at D
   replace hF:=Z _ D
   refine bS ?_
   refine aL ?_
   obtain rfl:=hF
   exact zO1 Tryz.results99 hf rfl ⟨rfl,hc⟩
  ·refine wp_skip ?_
   refine h8 _ _ ?_
   refine bV ?_
   refine sp 2 hf rfl fun a hf=>aP ?_
   exact X (W (x + 1)) _ _ (sj hF).symm ⟨hf.kp rfl,hc⟩
 ·refine wp_exit ?_
  refine aY ?_
  refine aY ?_
  have he:=sj hF
  rw [← he] at D
  refine fJ ?_
  exact V _ _ _ D ⟨hf.kp rfl,hc⟩

def cC (N:Nat) (s_:List aO) (f_:Int) (B:Int):Option (Bool) :=
 Option.bind (eH N s_ f_ B) fun r=>
 some (decide (0≤r))
theorem lV {N:Nat} {G:aT} {Lf:List Ent} {w:World} (s_:List aO) (f_:Int) (B:Int) {H:Option Addr} {I:Nat} {b_:Nat} {D:Nat} (M:Rd G 2 H I (s_.map aV)) (hc:Ctx G (.box b_ [i6 f_] 3::.box D [i6 B] 3::Lf) w) {J:Bool} (hF:cC N s_ f_ B=some J):Calls Tryz.prog 61 #[.slice H s_.length I,.func (.func 62) #[] #[pq b_,pq D]] w (fun e w=>e=.returned (.bool J)∧Ctx G (.box b_ [i6 f_] 3::.box D [i6 B] 3::Lf) w):=by
 unfold cC at hF
 refine bL Tryz.func61 rfl Tryz.ntmps61 rfl fun a hf=>zS fun K h=>sp 1 hf rfl fun a hf=>zT h ?_
 refine zS fun K h=>sp 2 hf rfl fun a hf=>?_
 obtain ⟨r,hr,hF⟩:=aA hF
 refine zQ (v:=i6 r) hf hc en_99 rfl (fun w hc=>(mW s_ f_ B M ((hc.pick k1).pick k1) hr).mono fun e w h=>⟨h.1,((h.2.unpick k1).unpick k1)⟩) fun a w hf hc=>sp 2 hf rfl fun a hf=>zT h ?_
 refine wp_ret ?_
 obtain rfl:=sj hF
 exact zO1 Tryz.results61 hf rfl ⟨rfl,hc⟩

def jO (N:Nat) (B:Int) (D:Int):Option (bY (Int × Int) (Rs ((List aO) × (List Int) × (List (Option (List (Int × Bool))))))) :=
 some (.cont (D,W (B + 1)))
def fL (N:Nat) (p_:Int) (x:dD) (H:List (Option (List (Int × Bool)))) (xv:Int) (mm:List (Int × Bool)) (q:Int) (B:Int):Option (bY (Int × Int) (Rs ((List aO) × (List Int) × (List (Option (List (Int × Bool))))))) :=
 cond (decide (B < ((x.Roster.People.length:Nat):Int)))
 (Option.bind (bE (H.set xv.toNat (some (kE mm p_ true))) xv) fun I=>
 Option.bind (I) fun D=>
 Option.bind (cond ((lkA D B).getD false) (inR xv 12) (some ())) fun M=>
 Option.bind (cond ((lkA D B).getD false) (inR B 12) (some ())) fun O=>
 Option.bind (cond ((lkA D B).getD false) (inR xv 12) (some ())) fun R=>
 Option.bind (cond ((lkA D B).getD false) (inR q 12) (some ())) fun J=>
 cond (((lkA D B).getD false) && (decide ((x.rank (xv * 12 + q).toNat) < (x.rank (xv * 12 + B).toNat))))
 (jO N B B)
 (jO N B q))
 (some (.brk (q,B)))
def dG (N:Nat) (O:Int→dD→(List aO)→(List Int)→(List (Option (List (Int × Bool))))→Option ((List aO) × (List Int) × (List (Option (List (Int × Bool)))))) (p_:Int) (x:dD) (I:List aO) (H:List Int) (B:List (Option (List (Int × Bool)))) (xv:Int):Option (Rs ((List aO) × (List Int) × (List (Option (List (Int × Bool)))))) :=
 Option.bind (cC N I p_ xv) fun V=>
 cond V
 (some (.go (I,H,B)))
 (Option.bind (bE H p_) fun d=>
 Option.bind (bE B xv) fun U=>
 Option.bind (U) fun mm=>
 Option.bind (bE (B.set xv.toNat (some (kE mm p_ true))) xv) fun X=>
 Option.bind (X) fun M=>
 Option.bind (bE x.Roster.Stations xv) fun Y=>
 cond (decide (((M.length:Nat):Int)≤Y.Places))
 (some (.ret (I,(H.set p_.toNat xv),(B.set xv.toNat (some (kE mm p_ true))))))
 (Option.bind (aX (fun D=>fL N p_ x B xv mm D.1 D.2) N (p_,0)) fun Z=>
 exK Z (fun D=>Option.bind (bE (B.set xv.toNat (some (kE mm p_ true))) xv) fun S=>
 Option.bind (S) fun R=>
 Option.bind (bE (H.set p_.toNat xv) D.1) fun b=>
 Option.bind (room ((I++[(⟨D.1,xv⟩:aO)])).length) fun un=>
 Option.bind (O D.1 (⟨x.Roster,x.rank⟩:dD) (I++[(⟨D.1,xv⟩:aO)]) ((H.set p_.toNat xv).set D.1.toNat (-1)) ((B.set xv.toNat (some (kE mm p_ true))).set xv.toNat (some (aA9 R D.1)))) fun J=>
 some (.ret (J.1,J.2.1,J.2.2))) some))
def eE:Nat→Int→dD→(List aO)→(List Int)→(List (Option (List (Int × Bool))))→Option ((List aO) × (List Int) × (List (Option (List (Int × Bool)))))
| 0,_,_,_,_,_=>none
| N + 1,p_,x,x_1,x_2,x_3=>
 Option.bind (nL N (⟨x.Roster,x.rank⟩:dD) p_ (-1)) fun r=>
 Option.bind (jY N (⟨x.Roster,x.rank⟩:dD) r.1 r.2 (rY (fun (zz:(List aO) × (List Int) × (List (Option (List (Int × Bool))))) (D:Int)=>dG N (eE N) p_ x zz.1 zz.2.1 zz.2.2 D)) (.go (x_1,x_2,x_3))) fun x3=>
 rsK x3 (fun B=>some (B.1,B.2.1,B.2.2)) (fun B=>some (B.1,B.2.1,B.2.2))
theorem xM {N:Nat}:∀ {G:aT} {Lf:List Ent} {w:World} (p_:Int) (x:dD) (a1:List aO) (a0:List Int) (az:List (Option (List (Int × Bool)))) {b_:Nat} {U:Nat} {ai:Option Addr} {aj:Nat} {ab:Option Addr} {aa:Nat} {O:Nat} {ap:Option Addr} {ar:Nat} {I:Nat} {av:Option Addr} {aq:Nat} {H:Nat} {au:Option Addr} {ak:aCq} {R:Nat} (ac:RdT cL G 1 ai aj x.Roster.People) (s:RdT dP G 2 ab aa x.Roster.Stations) (an:PC G U 0 (bR [.slice ai x.Roster.People.length aj,.slice ab x.Roster.Stations.length aa] 144 aB x.rank [])) (hc:Ctx G (.box b_ [pq U] 82::.box O [.slice ap a1.length ar] 85::.row ap ar (a1.map aV) 137 2::.box I [.slice av a0.length aq] 23::.row av aq (a0.map aB) 3 1::.box H [.slice au az.length ak.1] 128::.row au ak.1 ((aU ak.2 az).map (Kd.v bF)) 129 1::cK bF (aU ak.2 az)::.box R [.func (.func 59) #[] #[pq b_,pq O,pq I,pq H,pq R]] 131::Lf) w) {ay:(List aO) × (List Int) × (List (Option (List (Int × Bool))))} (hF:eE N p_ x a1 a0 az=some ay),Calls Tryz.prog 59 #[i6 p_,pq b_,pq O,pq I,pq H,pq R] w (fun e w=>∃ (b7:Option Addr) (cj:Nat) (b8:Option Addr) (b9:Nat) (b6:Option Addr) (a3:aCq),e=.returned (.tuple #[])∧Ctx G (.row b7 cj (ay.1.map aV) 137 2::.row b8 b9 (ay.2.1.map aB) 3 1::.row b6 a3.1 ((aU a3.2 ay.2.2).map (Kd.v bF)) 129 1::cK bF (aU a3.2 ay.2.2)::.box b_ [pq U] 82::.box O [.slice b7 ay.1.length cj] 85::.box I [.slice b8 ay.2.1.length b9] 23::.box H [.slice b6 ay.2.2.length a3.1] 128::.box R [.func (.func 59) #[] #[pq b_,pq O,pq I,pq H,pq R]] 131::Lf) w):=by
 induction N with
 | zero=>
  intro G Lf w p_ x a1 a0 az b_ U ai aj ab aa O ap ar I av aq H au ak R ac s an hc ay hF
  exact aBn hF
 | succ N ih=>
 intro G Lf w p_ x a1 a0 az b_ U ai aj ab aa O ap ar I av aq H au ak R ac s an hc ay hF
 rw [eE] at hF
 refine aIf Tryz.func59 rfl Tryz.ntmps59 rfl fun a hf=>zS fun K h=>zB hf hc rfl fun ad a w hf hc=>zT h ?_
 refine zS fun K h=>zL hf hc yX m1 rfl fun a w hf hc=>zL hf hc cR m0 rfl fun a w hf hc=>?_
 obtain ⟨r,hr,hF⟩:=aA hF
 refine zC hf en_60 rfl (aAj (⟨x.Roster,x.rank⟩:dD) p_ (-1) ac s an hc hr) ?_
 rintro _ w ⟨a9,ba,bb,rfl,hc⟩
 refine ⟨_,rfl,fun a hf=>?_⟩
 refine zT h ?_
 obtain ⟨x3,dp,hF⟩:=aA hF
 refine aEw (C:=[.box a9 [pq U] 82,.box ba [i6 r.1] 3,.box bb [i6 r.2] 3]) (C2:=[.box a9 [pq U] 82,.box ba [i6 r.1] 3,.box bb [i6 r.2] 3]) (L0:=[.box ad [i6 p_] 3,.box b_ [pq U] 82,.box O [.slice ap a1.length ar] 85,.row ap ar (a1.map aV) 137 2,.box I [.slice av a0.length aq] 23,.row av aq (a0.map aB) 3 1,.box H [.slice au az.length ak.1] 128,.row au ak.1 ((aU ak.2 az).map (Kd.v bF)) 129 1,cK bF (aU ak.2 az),.box R [.func (.func 59) #[] #[pq b_,pq O,pq I,pq H,pq R]] 131]) (Lf:=Lf) (encs:=fun x:Int=>[i6 x]) (fun (zz:(List aO) × (List Int) × (List (Option (List (Int × Bool))))) L=>∃ (n:Option Addr) (d:Nat) (af:Option Addr) (Z:Nat) (ag:Option Addr) (B:aCq),L=[.box ad [i6 p_] 3,.box b_ [pq U] 82,.box O [.slice n zz.1.length d] 85,.row n d (zz.1.map aV) 137 2,.box I [.slice af zz.2.1.length Z] 23,.row af Z (zz.2.1.map aB) 3 1,.box H [.slice ag zz.2.2.length B.1] 128,.row ag B.1 ((aU B.2 zz.2.2).map (Kd.v bF)) 129 1,cK bF (aU B.2 zz.2.2),.box R [.func (.func 59) #[] #[pq b_,pq O,pq I,pq H,pq R]] 131]) (fun (zz:(List aO) × (List Int) × (List (Option (List (Int × Bool))))) (d2:Int)=>dG N (eE N) p_ x zz.1 zz.2.1 zz.2.2 d2) (a1,a0,az) x3 hf hc rfl en_97 (fun _=>rfl) rfl ⟨ap,ar,av,aq,au,ak,rfl⟩ ?_ ?_ ?_ ?_
 ·intro lq mq J L Lx w hy hJ hc
  exact xN (⟨x.Roster,x.rank⟩:dD) r.1 r.2 ac s an J _ hy _ hJ hc dp
 ·clear hF hf hc
  rintro lq mq ⟨X,V,D⟩ xv oq _ Lr Lb a w gc ⟨n,d,af,Z,ag,B,rfl⟩ hF hf hc hK
  replace hf:Has 95 a [(1,pq b_),(2,pq O),(3,pq I),(4,pq H),(5,pq R),(6,pq ad),(13,i6 xv)]:=hf.kp rfl
  replace hc:Ctx G (.box ad [i6 p_] 3::.box b_ [pq U] 82::.box O [.slice n X.length d] 85::.row n d (X.map aV) 137 2::.box I [.slice af V.length Z] 23::.row af Z (V.map aB) 3 1::.box H [.slice ag D.length B.1] 128::.row ag B.1 ((aU B.2 D).map (Kd.v bF)) 129 1::cK bF (aU B.2 D)::.box R [.func (.func 59) #[] #[pq b_,pq O,pq I,pq H,pq R]] 131::Lr) w:=hc
  replace hF:dG N (eE N) p_ x X V D xv=some oq:=hF
  unfold dG at hF
  refine vN (fun _ _ h=>h) rfl ?_
  refine zA hf hc aJs rfl fun am a w hf hc=>zW hf hc fO u0 rfl fun w hc=>aP ?_
  refine hK _ _ [.box am [i6 xv] 3,.box ad [i6 p_] 3,.box b_ [pq U] 82,.box O [.slice n X.length d] 85,.row n d (X.map aV) 137 2,.box I [.slice af V.length Z] 23,.row af Z (V.map aB) 3 1,.box H [.slice ag D.length B.1] 128,.row ag B.1 ((aU B.2 D).map (Kd.v bF)) 129 1,cK bF (aU B.2 D),.box R [.func (.func 59) #[] #[pq b_,pq O,pq I,pq H,pq R]] 131] hc fun w hc=>?_
  replace hc:Ctx G (.box am [i6 xv] 3::.box ad [i6 p_] 3::.box b_ [pq U] 82::.box O [.slice n X.length d] 85::.row n d (X.map aV) 137 2::.box I [.slice af V.length Z] 23::.row af Z (V.map aB) 3 1::.box H [.slice ag D.length B.1] 128::.row ag B.1 ((aU B.2 D).map (Kd.v bF)) 129 1::cK bF (aU B.2 D)::.box R [.func (.func 59) #[] #[pq b_,pq O,pq I,pq H,pq R]] 131::Lb) w:=hc
  refine aE8 fun K4 h4=>aA8 ?_
  refine uR fun K5 h5=>uR fun K6 h6=>vN (fun _ _ h=>h) rfl ?_
  refine zL hf hc aN4 m3 rfl fun a w hf hc=>zP hf rfl (pMF (us:=[pq ad,pq am]) rfl rfl) fun a hf=>?_
  obtain ⟨cc,c8,hF⟩:=aA hF
  refine zQ (v:=.bool cc) hf hc en_61 rfl (fun w hc=>by obtain ⟨G1,gb,c2,hc,cs⟩:=lend hc k4; exact (lV X p_ xv c2 ((hc.pick k0).pick k1) c8).mono fun e w h=>⟨h.1,((cs _ _ ((h.2.unpick k1).unpick k0)).unpick k4)⟩) fun a w hf hc=>aP ?_
  refine h6 _ _ ?_
  refine aFu (b:=cc) hf rfl (fun hb=>?_) (fun hb=>?_)
  ·replace hF:=fP hb hF
   clear hb
   refine aPy ?_
   refine aY ?_
   refine fJ ?_
   refine h4 _ _ ?_
   replace hc:=hc.drop k0
   exact ⟨(X,V,D),_,(sj hF).symm,⟨n,d,af,Z,ag,B,rfl⟩,hc⟩
  ·replace hF:=kI hb hF
   clear hb
   refine aC6 ?_
   refine h5 _ _ ?_
   refine uR fun K7 h7=>vN (fun _ _ h=>h) rfl ?_
   refine zL hf hc hY m5 rfl fun a w hf hc=>zL hf hc cR m1 rfl fun a w hf hc=>zL hf hc cR m0 rfl fun a w hf hc=>?_
   obtain ⟨gk,bx,hF⟩:=aA hF
   have dm:=hf
   obtain ⟨g,rfl,qa,qr⟩:=hP hc m6 bx
   have hf:=dm
   refine zP hf rfl (pIA Tryz.underlying23 fO rfl rfl qa) fun a hf=>yA (sz:=1) (vs:=[i6 xv]) (o':=0) (z:=xv) (xs:=V) hf hc rfl rfl rfl rfl fO rfl (fun x=>(bZ x).1) (mL bx) (fun _ _=>rfl) rfl u6 fun w hc=>aP ?_
   refine h7 _ _ ?_
   refine uR fun K8 h8=>?_
   obtain ⟨gg,bf,hF⟩:=aA hF
   obtain ⟨t,rfl,c5,cy⟩:=hP hc m8 (oF bf)
   obtain ⟨mm,bt,hF⟩:=aA hF
   refine aH0 (fun _ _ h=>h) rfl (fun θ=>[⟨none,none,1,pq b_⟩,⟨none,none,2,pq O⟩,⟨none,none,3,pq I⟩,⟨none,none,4,pq H⟩,⟨none,none,5,pq R⟩,⟨none,none,6,pq ad⟩,⟨none,none,7,pq am⟩,⟨some 0,none,21,.slice (some ⟨t,0,none⟩) D.length B.1⟩,⟨some 1,none,22,i6 xv⟩,⟨some 2,none,23,.pointer (some ⟨t,xv.toNat * 1,none⟩)⟩,⟨some 3,none,24,.map (some ((B.2 xv.toNat).2))⟩,⟨some 4,none,25,i6 p_⟩]) (fun E θ=>.box am [i6 xv] 3::.box ad [i6 p_] 3::.box b_ [pq U] 82::.box O [.slice n X.length d] 85::.row n d (X.map aV) 137 2::.box I [.slice (some ⟨g,0,none⟩) V.length Z] 23::.row (some ⟨g,0,none⟩) Z ((V.set p_.toNat xv).map aB) 3 1::.box H [.slice (some ⟨t,0,none⟩) D.length B.1] 128::(bif E 5 then .row (some ⟨t,0,none⟩) B.1 ((aU B.2 (D.set xv.toNat (some (kE mm p_ true)))).map (Kd.v bF)) 129 1 else .row (some ⟨t,0,none⟩) B.1 ((aU B.2 D).map (Kd.v bF)) 129 1)::(bif E 5 then cK bF (aU B.2 (D.set xv.toNat (some (kE mm p_ true)))) else cK bF (aU B.2 D))::.box R [.func (.func 59) #[] #[pq b_,pq O,pq I,pq H,pq R]] 131::Lb) [(5,2),(5,3)] (fun a w=>Has 95 a [(1,pq b_),(2,pq O),(3,pq I),(4,pq H),(5,pq R),(6,pq ad),(7,pq am)]∧Ctx G (.box am [i6 xv] 3::.box ad [i6 p_] 3::.box b_ [pq U] 82::.box O [.slice n X.length d] 85::.row n d (X.map aV) 137 2::.box I [.slice (some ⟨g,0,none⟩) V.length Z] 23::.row (some ⟨g,0,none⟩) Z ((V.set p_.toNat xv).map aB) 3 1::.box H [.slice (some ⟨t,0,none⟩) D.length B.1] 128::.row (some ⟨t,0,none⟩) B.1 ((aU B.2 (D.set xv.toNat (some (kE mm p_ true)))).map (Kd.v bF)) 129 1::cK bF (aU B.2 (D.set xv.toNat (some (kE mm p_ true))))::.box R [.func (.func 59) #[] #[pq b_,pq O,pq I,pq H,pq R]] 131::Lb) w) bA (by kernel_rfl) (by kernel_rfl) (fN.of hf ⟨rfl,rfl,rfl,rfl,rfl,rfl,rfl,trivial,trivial,trivial,trivial,trivial,trivial⟩) hc ⟨?_,?_,?_,?_,?_,?_,trivial⟩ ?_ ?_
   ·intro E θ a w hD hi hp he hc
    have hf:=he.h0.mT he 3 rfl
    refine zL hf hc aCs m7 rfl fun a w hf hc=>zD θ he hi hf 7 rfl rfl rfl hc
   ·intro E θ a w hD hi hp he hc
    have hf:=he.h0.mT he 6 rfl
    refine zL hf hc cR m0 rfl fun a w hf hc=>zD θ he hi hf 8 rfl rfl rfl hc
   ·intro E θ a w hD hi hp he hc
    have e0:=hp.o 0 rfl
    have e1:=hp.o 1 rfl
    have e5:=hD.f 0 rfl hi
    try dsimp only at hc
    rw [e5] at hc
    have hf:=(he.h0.mP he 7 rfl e0).mP he 8 rfl e1
    refine zP hf rfl (pIA Tryz.underlying128 aCz rfl rfl (At.len c5 (by simp only [jJ,List.length_set]))) fun a hf=>zD θ he hi hf 9 rfl rfl rfl ?_
    try dsimp only
    rw [aQ 2 e5 rfl]
    exact hc
   ·intro E θ a w hD hi hp he hc
    have e2:=hp.o 2 rfl
    have e5:=hD.f 1 rfl hi
    try dsimp only at hc
    rw [e5] at hc
    have hf:=he.h0.mP he 9 rfl e2
    refine zE hf hc rfl (eP aHc rfl (fZ (sz:=1) (i:=xv.toNat) (j:=0) m8 cy (by subst bt; rfl))) fun a w hf hc=>zD θ he hi hf 10 rfl rfl rfl ?_
    try dsimp only
    rw [aQ 3 e5 rfl]
    exact hc
   ·intro E θ a w hD hi hp he hc
    have hf:=he.h0.mT he 5 rfl
    refine zL hf hc cR m1 rfl fun a w hf hc=>zD θ he hi hf 11 rfl rfl rfl hc
   ·intro E θ a w hD hi hp he hc
    have e3:=hp.o 3 rfl
    have e4:=hp.o 4 rfl
    try dsimp only at hc
    rw [hi] at hc
    have hf:=(he.h0.mP he 10 rfl e3).mP he 11 rfl e4
    replace hc:=aDt (hc.pick k9) (vZ (zO bf bt))
    replace hc:Ctx G (.gm ((B.2 xv.toNat).2) (ALq Value.bool mm)::cK bF ((aU B.2 D).eraseIdx xv.toNat)::.box am [i6 xv] 3::.box ad [i6 p_] 3::.box b_ [pq U] 82::.box O [.slice n X.length d] 85::.row n d (X.map aV) 137 2::.box I [.slice (some ⟨g,0,none⟩) V.length Z] 23::.row (some ⟨g,0,none⟩) Z ((V.set p_.toNat xv).map aB) 3 1::.box H [.slice (some ⟨t,0,none⟩) D.length B.1] 128::.row (some ⟨t,0,none⟩) B.1 ((aU B.2 D).map (Kd.v bF)) 129 1::.box R [.func (.func 59) #[] #[pq b_,pq O,pq I,pq H,pq R]] 131::Lb) w:=hc
    refine stAU (enc:=Value.bool) (kvs:=mm) (k:=p_) (v:=true) hf hc rfl Tryz.underlying129 Tryz.underlying3 rfl rfl rfl u0 fun w hc=>?_
    replace hc:=((((((((((hc.pick k9).pick k9).pick k9).pick k9).pick k9).pick k9).pick k9).pick k9).pick k9).pick k10).pick k10
    replace hc:=aH4 (K:=bF) (y:=some (kE mm p_ true)) (vZ (zO bf bt)) rfl hc
    replace hc:Ctx G (.row (some ⟨t,0,none⟩) B.1 ((aU B.2 (D.set xv.toNat (some (kE mm p_ true)))).map (Kd.v bF)) 129 1::cK bF (aU B.2 (D.set xv.toNat (some (kE mm p_ true))))::.box am [i6 xv] 3::.box ad [i6 p_] 3::.box b_ [pq U] 82::.box O [.slice n X.length d] 85::.row n d (X.map aV) 137 2::.box I [.slice (some ⟨g,0,none⟩) V.length Z] 23::.row (some ⟨g,0,none⟩) Z ((V.set p_.toNat xv).map aB) 3 1::.box H [.slice (some ⟨t,0,none⟩) D.length B.1] 128::.box R [.func (.func 59) #[] #[pq b_,pq O,pq I,pq H,pq R]] 131::Lb) w:=hc
    replace hc:=(((((((((hc.pick k1).pick k1).pick k9).pick k9).pick k9).pick k9).pick k9).pick k9).pick k9).pick k9
    refine zG θ he hi hf rfl ?_
    try dsimp only
    rw [aS E 5]
    exact hc
   ·intro E θ a w a7 he hc
    have hf:=he.h0
    have e5:=a7 5 rfl
    replace hf:=hf.more he 6 rfl (onT)
    replace hf:=hf.more he 5 rfl (onT)
    replace hf:=hf.more he 4 rfl (onT)
    replace hf:=hf.more he 3 rfl (onT)
    replace hf:=hf.more he 2 rfl (onT)
    replace hf:=hf.more he 1 rfl (onT)
    replace hf:=hf.more he 0 rfl (onT)
    try dsimp only at hc
    rw [e5] at hc
    exact ⟨hf.kp rfl,hc⟩
   rintro a w ⟨hf,hc⟩
   refine h8 _ _ ?_
   refine uR fun K9 h9=>uR fun K10 dk=>?_
   obtain ⟨gj,bu,hF⟩:=aA hF
   obtain ⟨c7,cx⟩:=eY hc m8 (oF bu)
   obtain ⟨a8,bi,hF⟩:=aA hF
   obtain ⟨bs,cv,hF⟩:=aA hF
   obtain ⟨ck,o,hd,cr,qp,d9⟩:=s.atm cv
   refine aH0 (fun _ _ h=>h) rfl (fun θ=>[⟨none,none,1,pq b_⟩,⟨none,none,2,pq O⟩,⟨none,none,3,pq I⟩,⟨none,none,4,pq H⟩,⟨none,none,5,pq R⟩,⟨none,none,6,pq ad⟩,⟨none,none,7,pq am⟩,⟨some 0,none,26,.slice (some ⟨t,0,none⟩) D.length B.1⟩,⟨some 1,none,27,i6 xv⟩,⟨some 2,none,28,.pointer (some ⟨t,xv.toNat * 1,none⟩)⟩,⟨some 3,none,29,.map (some ((B.2 xv.toNat).2))⟩,⟨some 4,none,30,i6 ((a8.length:Nat):Int)⟩,⟨some 5,none,31,pq U⟩,⟨some 6,none,32,pq U⟩,⟨some 7,none,33,.pointer (some ⟨U,0 + 0,none⟩)⟩,⟨some 8,none,34,.pointer (some ⟨U,0 + 0 + 1,none⟩)⟩,⟨some 9,none,35,.slice ab x.Roster.Stations.length aa⟩,⟨some 10,none,36,i6 xv⟩,⟨some 11,none,37,.pointer (some ⟨ck,o,none⟩)⟩,⟨some 12,none,38,.pointer (some ⟨ck,o + 0,none⟩)⟩,⟨some 13,none,39,i6 bs.Places⟩,⟨some 14,none,40,.bool (decide (((a8.length:Nat):Int)≤bs.Places))⟩]) (fun E θ=>.box am [i6 xv] 3::.box ad [i6 p_] 3::.box b_ [pq U] 82::.box O [.slice n X.length d] 85::.row n d (X.map aV) 137 2::.box I [.slice (some ⟨g,0,none⟩) V.length Z] 23::.row (some ⟨g,0,none⟩) Z ((V.set p_.toNat xv).map aB) 3 1::.box H [.slice (some ⟨t,0,none⟩) D.length B.1] 128::.row (some ⟨t,0,none⟩) B.1 ((aU B.2 (D.set xv.toNat (some (kE mm p_ true)))).map (Kd.v bF)) 129 1::cK bF (aU B.2 (D.set xv.toNat (some (kE mm p_ true))))::.box R [.func (.func 59) #[] #[pq b_,pq O,pq I,pq H,pq R]] 131::Lb) [] (fun a w=>Has 95 a [(1,pq b_),(2,pq O),(3,pq I),(4,pq H),(5,pq R),(6,pq ad),(7,pq am),(40,.bool (decide (((a8.length:Nat):Int)≤bs.Places)))]∧Ctx G (.box am [i6 xv] 3::.box ad [i6 p_] 3::.box b_ [pq U] 82::.box O [.slice n X.length d] 85::.row n d (X.map aV) 137 2::.box I [.slice (some ⟨g,0,none⟩) V.length Z] 23::.row (some ⟨g,0,none⟩) Z ((V.set p_.toNat xv).map aB) 3 1::.box H [.slice (some ⟨t,0,none⟩) D.length B.1] 128::.row (some ⟨t,0,none⟩) B.1 ((aU B.2 (D.set xv.toNat (some (kE mm p_ true)))).map (Kd.v bF)) 129 1::cK bF (aU B.2 (D.set xv.toNat (some (kE mm p_ true))))::.box R [.func (.func 59) #[] #[pq b_,pq O,pq I,pq H,pq R]] 131::Lb) w) bA (by kernel_rfl) (by kernel_rfl) (fN.of hf ⟨rfl,rfl,rfl,rfl,rfl,rfl,rfl,trivial,trivial,trivial,trivial,trivial,trivial,trivial,trivial,trivial,trivial,trivial,trivial,trivial,trivial,trivial,trivial⟩) hc ⟨?_,?_,?_,?_,?_,?_,?_,?_,?_,?_,?_,?_,?_,?_,?_,trivial⟩ ?_ ?_
   ·intro E θ a w hD hi hp he hc
    have hf:=he.h0.mT he 3 rfl
    refine zL hf hc aCs m7 rfl fun a w hf hc=>zD θ he hi hf 7 rfl rfl rfl hc
   ·intro E θ a w hD hi hp he hc
    have hf:=he.h0.mT he 6 rfl
    refine zL hf hc cR m0 rfl fun a w hf hc=>zD θ he hi hf 8 rfl rfl rfl hc
   ·intro E θ a w hD hi hp he hc
    have e0:=hp.o 0 rfl
    have e1:=hp.o 1 rfl
    have hf:=(he.h0.mP he 7 rfl e0).mP he 8 rfl e1
    refine zP hf rfl (pIA Tryz.underlying128 aCz rfl rfl (At.len c7 (by simp only [jJ,List.length_set]))) fun a hf=>zD θ he hi hf 9 rfl rfl rfl hc
   ·intro E θ a w hD hi hp he hc
    have e2:=hp.o 2 rfl
    have hf:=he.h0.mP he 9 rfl e2
    refine zE hf hc rfl (eP aHc rfl (fZ (sz:=1) (i:=xv.toNat) (j:=0) m8 cx (by subst bi; rfl))) fun a w hf hc=>zD θ he hi hf 10 rfl rfl rfl hc
   ·intro E θ a w hD hi hp he hc
    have e3:=hp.o 3 rfl
    have hf:=he.h0.mP he 10 rfl e3
    refine zE hf hc rfl (eLenA (enc:=Value.bool) (kvs:=a8) (aO6 m9 (zO bu bi)) Tryz.underlying129 rfl) fun a w hf hc=>zD θ he hi hf 11 rfl rfl rfl hc
   ·intro E θ a w hD hi hp he hc
    have hf:=he.h0.mT he 0 rfl
    refine zL hf hc yX m2 rfl fun a w hf hc=>zD θ he hi hf 12 rfl rfl rfl hc
   ·intro E θ a w hD hi hp he hc
    have e5:=hp.o 5 rfl
    have hf:=he.h0.mP he 12 rfl e5
    refine sp 1 hf rfl fun a hf=>zD θ he hi hf 13 rfl rfl rfl hc
   ·intro E θ a w hD hi hp he hc
    have e6:=hp.o 6 rfl
    have hf:=he.h0.mP he 13 rfl e6
    refine zP hf rfl (pFA uG rfl) fun a hf=>zD θ he hi hf 14 rfl rfl rfl hc
   ·intro E θ a w hD hi hp he hc
    have e7:=hp.o 7 rfl
    have hf:=he.h0.mP he 14 rfl e7
    refine zP hf rfl (pFA tK rfl) fun a hf=>zD θ he hi hf 15 rfl rfl rfl hc
   ·intro E θ a w hD hi hp he hc
    have e8:=hp.o 8 rfl
    have hf:=he.h0.mP he 15 rfl e8
    refine zE hf hc rfl (eP aDb rfl (dI (j:=1) an rfl)) fun a w hf hc=>zD θ he hi hf 16 rfl rfl rfl hc
   ·intro E θ a w hD hi hp he hc
    have hf:=he.h0.mT he 6 rfl
    refine zL hf hc cR m0 rfl fun a w hf hc=>zD θ he hi hf 17 rfl rfl rfl hc
   ·intro E θ a w hD hi hp he hc
    have e9:=hp.o 9 rfl
    have br:=hp.o 10 rfl
    have hf:=(he.h0.mP he 16 rfl e9).mP he 17 rfl br
    refine zP hf rfl (pIA Tryz.underlying41 aHh rfl rfl cr) fun a hf=>zD θ he hi hf 18 rfl rfl rfl hc
   ·intro E θ a w hD hi hp he hc
    have bk:=hp.o 11 rfl
    have hf:=he.h0.mP he 18 rfl bk
    refine zP hf rfl (pFA aKq rfl) fun a hf=>zD θ he hi hf 19 rfl rfl rfl hc
   ·intro E θ a w hD hi hp he hc
    have bn:=hp.o 12 rfl
    have hf:=he.h0.mP he 19 rfl bn
    refine zE hf hc rfl (eP cR rfl (dI (j:=0) qp rfl)) fun a w hf hc=>zD θ he hi hf 20 rfl rfl rfl hc
   ·intro E θ a w hD hi hp he hc
    have e4:=hp.o 4 rfl
    have bq:=hp.o 13 rfl
    have hf:=(he.h0.mP he 11 rfl e4).mP he 20 rfl bq
    refine sp 1 hf rfl fun a hf=>zD θ he hi hf 21 rfl rfl rfl hc
   ·intro E θ a w a7 he hc
    have hf:=he.h0
    have bj:=a7 14 rfl
    replace hf:=hf.more he 21 rfl (onP bj)
    replace hf:=hf.more he 6 rfl (onT)
    replace hf:=hf.more he 5 rfl (onT)
    replace hf:=hf.more he 4 rfl (onT)
    replace hf:=hf.more he 3 rfl (onT)
    replace hf:=hf.more he 2 rfl (onT)
    replace hf:=hf.more he 1 rfl (onT)
    replace hf:=hf.more he 0 rfl (onT)
    exact ⟨hf.kp rfl,hc⟩
   rintro a w ⟨hf,hc⟩
   refine dk _ _ ?_
   refine aFu (b:=(decide (((a8.length:Nat):Int)≤bs.Places))) hf rfl (fun hb=>?_) (fun hb=>?_)
   ·replace hF:=fP hb hF
    clear hb
    refine rRet ?_
    refine aL ?_
    refine bS ?_
    refine aL ?_
    replace hc:Ctx G (.box am [i6 xv] 3::.box ad [i6 p_] 3::.box b_ [pq U] 82::.box O [.slice n X.length d] 85::.row n d (X.map aV) 137 2::.box I [.slice (some ⟨g,0,none⟩) ((V.set p_.toNat xv).length) Z] 23::.row (some ⟨g,0,none⟩) Z ((V.set p_.toNat xv).map aB) 3 1::.box H [.slice (some ⟨t,0,none⟩) ((D.set xv.toNat (some (kE mm p_ true))).length) B.1] 128::.row (some ⟨t,0,none⟩) B.1 ((aU B.2 (D.set xv.toNat (some (kE mm p_ true)))).map (Kd.v bF)) 129 1::cK bF (aU B.2 (D.set xv.toNat (some (kE mm p_ true))))::.box R [.func (.func 59) #[] #[pq b_,pq O,pq I,pq H,pq R]] 131::Lb) w:=by simp only [List.length_set] at hc ⊢; exact hc
    replace hc:=hc.drop k0
    exact ⟨(X,(V.set p_.toNat xv),(D.set xv.toNat (some (kE mm p_ true)))),_,(sj hF).symm,⟨n,d,(some ⟨g,0,none⟩),Z,(some ⟨t,0,none⟩),B,rfl⟩,hc⟩
   ·replace hF:=kI hb hF
    clear hb
    refine aC6 ?_
    refine h9 _ _ ?_
    refine uR fun K11 dt=>vN (fun _ _ h=>h) rfl ?_
    refine zL hf hc cR m1 rfl fun a w hf hc=>sp 1 hf rfl fun a hf=>aP ?_
    refine dt _ _ ?_
    refine uR fun K12 dq=>uR fun K13 dd=>vN (fun _ _ h=>h) rfl ?_
    refine zL hf hc yX m2 rfl fun a w hf hc=>sp 1 hf rfl fun a hf=>zP hf rfl (pFA uG rfl) fun a hf=>zP hf rfl (pFA oM rfl) fun a hf=>zE hf hc rfl (eP wA rfl (dI (j:=0) an rfl)) fun a w hf hc=>zP hf rfl (bG Tryz.underlying40 rfl) fun a hf=>sp 1 hf rfl fun a hf=>aP ?_
    refine dd _ _ ?_
    refine aA8 ?_
    obtain ⟨b0,c3,hF⟩:=aA hF
    let S14:(Int × Int)→Act→World→Prop:=(fun (zz:Int × Int) a w=>Has 95 a [(1,pq b_),(2,pq O),(3,pq I),(4,pq H),(5,pq R),(7,pq am),(8,i6 zz.1),(47,i6 ((x.Roster.People.length:Nat):Int)),(48,i6 zz.2)]∧Ctx G (.box am [i6 xv] 3::.box ad [i6 p_] 3::.box b_ [pq U] 82::.box O [.slice n X.length d] 85::.row n d (X.map aV) 137 2::.box I [.slice (some ⟨g,0,none⟩) ((V.set p_.toNat xv).length) Z] 23::.row (some ⟨g,0,none⟩) Z ((V.set p_.toNat xv).map aB) 3 1::.box H [.slice (some ⟨t,0,none⟩) ((D.set xv.toNat (some (kE mm p_ true))).length) B.1] 128::.row (some ⟨t,0,none⟩) B.1 ((aU B.2 (D.set xv.toNat (some (kE mm p_ true)))).map (Kd.v bF)) 129 1::cK bF (aU B.2 (D.set xv.toNat (some (kE mm p_ true))))::.box R [.func (.func 59) #[] #[pq b_,pq O,pq I,pq H,pq R]] 131::Lb) w)
    have c1:∀ (zz:Int × Int) a w,b0=.go zz→S14 zz a w→K12 a w:=by
     rintro ⟨q,Y⟩ a w rfl ⟨hf,hc⟩
     replace hF:=bK hF
     refine dq _ _ ?_
     refine uR fun K15 dx=>vN (fun _ _ h=>h) rfl ?_
     refine zL hf hc aCs m7 rfl fun a w hf hc=>zL hf hc cR m0 rfl fun a w hf hc=>?_
     obtain ⟨gi,bg,hF⟩:=aA hF
     obtain ⟨c6,cu⟩:=eY hc m8 (oF bg)
     refine zP hf rfl (pIA Tryz.underlying128 aCz rfl rfl (At.len c6 (by simp only [jJ,List.length_set]))) fun a hf=>?_
     obtain ⟨ax,bc,hF⟩:=aA hF
     refine zE hf hc rfl (eP aHc rfl (fZ (sz:=1) (i:=xv.toNat) (j:=0) m8 cu (by subst bc; rfl))) fun a w hf hc=>sp 1 hf rfl fun a hf=>?_
     replace hc:=aDt (hc.pick k9) (vZ (zO bg bc))
     replace hc:Ctx G (.gm ((B.2 xv.toNat).2) (ALq Value.bool ax)::cK bF ((aU B.2 (D.set xv.toNat (some (kE mm p_ true)))).eraseIdx xv.toNat)::.box am [i6 xv] 3::.box ad [i6 p_] 3::.box b_ [pq U] 82::.box O [.slice n X.length d] 85::.row n d (X.map aV) 137 2::.box I [.slice (some ⟨g,0,none⟩) ((V.set p_.toNat xv).length) Z] 23::.row (some ⟨g,0,none⟩) Z ((V.set p_.toNat xv).map aB) 3 1::.box H [.slice (some ⟨t,0,none⟩) ((D.set xv.toNat (some (kE mm p_ true))).length) B.1] 128::.row (some ⟨t,0,none⟩) B.1 ((aU B.2 (D.set xv.toNat (some (kE mm p_ true)))).map (Kd.v bF)) 129 1::.box R [.func (.func 59) #[] #[pq b_,pq O,pq I,pq H,pq R]] 131::Lb) w:=hc
     refine stAD (enc:=Value.bool) (kvs:=ax) (k:=q) hf hc rfl rfl Tryz.underlying129 Tryz.underlying3 rfl rfl u0 fun w hc=>?_
     replace hc:=((((((((((hc.pick k9).pick k9).pick k9).pick k9).pick k9).pick k9).pick k9).pick k9).pick k9).pick k10).pick k10
     replace hc:=aH4 (K:=bF) (y:=some (aA9 ax q)) (vZ (zO bg bc)) rfl hc
     replace hc:Ctx G (.row (some ⟨t,0,none⟩) B.1 ((aU B.2 ((D.set xv.toNat (some (kE mm p_ true))).set xv.toNat (some (aA9 ax q)))).map (Kd.v bF)) 129 1::cK bF (aU B.2 ((D.set xv.toNat (some (kE mm p_ true))).set xv.toNat (some (aA9 ax q))))::.box am [i6 xv] 3::.box ad [i6 p_] 3::.box b_ [pq U] 82::.box O [.slice n X.length d] 85::.row n d (X.map aV) 137 2::.box I [.slice (some ⟨g,0,none⟩) ((V.set p_.toNat xv).length) Z] 23::.row (some ⟨g,0,none⟩) Z ((V.set p_.toNat xv).map aB) 3 1::.box H [.slice (some ⟨t,0,none⟩) ((D.set xv.toNat (some (kE mm p_ true))).length) B.1] 128::.box R [.func (.func 59) #[] #[pq b_,pq O,pq I,pq H,pq R]] 131::Lb) w:=hc
     replace hc:=(((((((((hc.pick k1).pick k1).pick k9).pick k9).pick k9).pick k9).pick k9).pick k9).pick k9).pick k9
     refine aP ?_
     refine dx _ _ ?_
     refine uR fun K16 dy=>vN (fun _ _ h=>h) rfl ?_
     refine zL hf hc hY m5 rfl fun a w hf hc=>sp 1 hf rfl fun a hf=>?_
     obtain ⟨gd,b2,hF⟩:=aA hF
     obtain ⟨c0,d6⟩:=eY hc m6 b2
     refine zP hf rfl (pIA Tryz.underlying23 fO rfl rfl (At.len c0 (by simp only [List.length_set]))) fun a hf=>yA (sz:=1) (vs:=[i6 (-1)]) (o':=0) (z:=(-1)) (xs:=(V.set p_.toNat xv)) hf hc rfl rfl rfl rfl fO rfl (fun x=>(bZ x).1) (mL b2) (fun _ _=>rfl) rfl u6 fun w hc=>aP ?_
     refine dy _ _ ?_
     refine uR fun K17 dc=>vN (fun _ _ h=>h) rfl ?_
     refine zL hf hc aN4 m3 rfl fun a w hf hc=>sp 1 hf rfl fun a hf=>zL hf hc cR m0 rfl fun a w hf hc=>zP hf rfl (iF (cells:=[i6 q,i6 xv]) aNb rfl rfl) fun a hf=>oB (rows:=([(⟨q,xv⟩:aO)]:List aO).map aV) (vs:=[(0,.agg #[i6 q,i6 xv])]) hf hc rfl rfl aPc rfl ⟨rfl,rfl,rfl,trivial⟩ rfl rfl fun dz a w hf hc=>?_
     obtain ⟨un,di,hF⟩:=aA hF
     refine pC (xs:=X) (ys:=([(⟨q,xv⟩:aO)]:List aO)) hf hc rfl rfl aPc rfl rfl rfl rfl rfl yT (kC hc m0) (fun _ _=>u5) (by simpa using fD di) fun cf cn a w hf hc=>zW hf hc sz_85 u4 rfl fun w hc=>aP ?_
     refine dc _ _ ?_
     refine uR fun K18 dj=>vN (fun _ _ h=>h) rfl ?_
     refine zL hf hc aNt m11 rfl fun a w hf hc=>sp 1 hf rfl fun a hf=>?_
     replace hc:Ctx G (.row (some ⟨dz,0,none⟩) 1 (([(⟨q,xv⟩:aO)]:List aO).map aV) 137 2::.box am [i6 xv] 3::.box ad [i6 p_] 3::.box b_ [pq U] 82::.box O [.slice cf ((X++[(⟨q,xv⟩:aO)]).length) cn] 85::.row cf cn ((X++[(⟨q,xv⟩:aO)]).map aV) 137 2::.box I [.slice (some ⟨g,0,none⟩) (((V.set p_.toNat xv).set q.toNat (-1)).length) Z] 23::.row (some ⟨g,0,none⟩) Z (((V.set p_.toNat xv).set q.toNat (-1)).map aB) 3 1::.box H [.slice (some ⟨t,0,none⟩) (((D.set xv.toNat (some (kE mm p_ true))).set xv.toNat (some (aA9 ax q))).length) B.1] 128::.row (some ⟨t,0,none⟩) B.1 ((aU B.2 ((D.set xv.toNat (some (kE mm p_ true))).set xv.toNat (some (aA9 ax q)))).map (Kd.v bF)) 129 1::cK bF (aU B.2 ((D.set xv.toNat (some (kE mm p_ true))).set xv.toNat (some (aA9 ax q))))::.box R [.func (.func 59) #[] #[pq b_,pq O,pq I,pq H,pq R]] 131::Lb) w:=by simp only [List.length_set] at hc ⊢; exact hc
     obtain ⟨bz,da,hF⟩:=aA hF
     refine zC hf aPk rfl (by have hq:=ih q (⟨x.Roster,x.rank⟩:dD) (X++[(⟨q,xv⟩:aO)]) ((V.set p_.toNat xv).set q.toNat (-1)) ((D.set xv.toNat (some (kE mm p_ true))).set xv.toNat (some (aA9 ax q))) ac s an (((((((((hc.pick k11).pick k11).pick k11).pick k11).pick k11).pick k11).pick k11).pick k11).pick k11) da; (try simp only [List.length_set] at hq); exact hq) ?_
     rintro _ w ⟨db,dg,d1,dr,dv,b4,rfl,hc⟩
     refine ⟨_,rfl,fun a hf=>?_⟩
     refine aP ?_
     refine dj _ _ ?_
     refine rRet ?_
     refine bS ?_
     refine aL ?_
     replace hc:=(((((((((((hc.drop k10).drop k9).pick k8).pick k4).pick k4).pick k8).pick k5).pick k8).pick k6).pick k8).pick k8).pick k9
     exact ⟨(bz.1,bz.2.1,bz.2.2),_,(sj hF).symm,⟨db,dg,d1,dr,dv,b4,rfl⟩,hc⟩
    have d8:∀ r,b0=.out r→r=oq:=by
     rintro r rfl
     exact sj hF
    replace hc:Ctx G (.box am [i6 xv] 3::.box ad [i6 p_] 3::.box b_ [pq U] 82::.box O [.slice n X.length d] 85::.row n d (X.map aV) 137 2::.box I [.slice (some ⟨g,0,none⟩) ((V.set p_.toNat xv).length) Z] 23::.row (some ⟨g,0,none⟩) Z ((V.set p_.toNat xv).map aB) 3 1::.box H [.slice (some ⟨t,0,none⟩) ((D.set xv.toNat (some (kE mm p_ true))).length) B.1] 128::.row (some ⟨t,0,none⟩) B.1 ((aU B.2 (D.set xv.toNat (some (kE mm p_ true)))).map (Kd.v bF)) 129 1::cK bF (aU B.2 (D.set xv.toNat (some (kE mm p_ true))))::.box R [.func (.func 59) #[] #[pq b_,pq O,pq I,pq H,pq R]] 131::Lb) w:=by simp only [List.length_set] at hc ⊢; exact hc
    refine rLoop N (aPq (S:=S14) (x:=b0) ?_ N (p_,0) _ _ ⟨hf.kp rfl,hc⟩ c3)
    clear hF hf hc
    rintro ⟨q,Y⟩ c9 a w KB14 ⟨hf,hc⟩ hF bd cz
    unfold fL at hF
    refine uR fun K19 ds=>vN (fun _ _ h=>h) rfl ?_
    refine sp 1 hf rfl fun a hf=>aP ?_
    refine ds _ _ ?_
    refine uR fun K20 d0=>aFu (b:=(decide (Y < ((x.Roster.People.length:Nat):Int)))) hf rfl (fun hb=>?_) (fun hb=>?_)
    ·replace hF:=fP hb hF
     clear hb
     refine aC6 ?_
     refine d0 _ _ ?_
     refine uR fun K21 dn=>?_
     have bv:∀ (bm:Int) a w,Has 95 a [(1,pq b_),(2,pq O),(3,pq I),(4,pq H),(5,pq R),(7,pq am),(8,i6 bm),(47,i6 ((x.Roster.People.length:Nat):Int)),(48,i6 Y)]→Ctx G (.box am [i6 xv] 3::.box ad [i6 p_] 3::.box b_ [pq U] 82::.box O [.slice n X.length d] 85::.row n d (X.map aV) 137 2::.box I [.slice (some ⟨g,0,none⟩) ((V.set p_.toNat xv).length) Z] 23::.row (some ⟨g,0,none⟩) Z ((V.set p_.toNat xv).map aB) 3 1::.box H [.slice (some ⟨t,0,none⟩) ((D.set xv.toNat (some (kE mm p_ true))).length) B.1] 128::.row (some ⟨t,0,none⟩) B.1 ((aU B.2 (D.set xv.toNat (some (kE mm p_ true)))).map (Kd.v bF)) 129 1::cK bF (aU B.2 (D.set xv.toNat (some (kE mm p_ true))))::.box R [.func (.func 59) #[] #[pq b_,pq O,pq I,pq H,pq R]] 131::Lb) w→jO N Y bm=some c9→K21 a w:=by
      repeat (clear hF)
      repeat (clear hc)
      repeat (clear hf)
      intro bm a w hf hc hF
      unfold jO at hF
      refine dn _ _ ?_
      refine vN (fun _ _ h=>h) rfl ?_
      refine sp 2 hf rfl fun a hf=>aP ?_
      exact cz (bm,W (Y + 1)) _ _ (sj hF).symm ⟨hf.kp rfl,hc⟩
     refine aA8 ?_
     refine uR fun K22 d3=>vN (fun _ _ h=>h) rfl ?_
     refine sp 2 hf rfl fun a hf=>aP ?_
     refine d3 _ _ ?_
     refine uR fun K23 df=>?_
     obtain ⟨gf,b3,hF⟩:=aA hF
     obtain ⟨ct,c4⟩:=eY hc m8 (oF b3)
     obtain ⟨p,bp,hF⟩:=aA hF
     obtain ⟨d5,a4,hF⟩:=aA hF
     obtain ⟨ga,a2,hF⟩:=aA hF
     obtain ⟨d7,a6,hF⟩:=aA hF
     obtain ⟨d4,a5,hF⟩:=aA hF
     refine aH0 (fun _ _ h=>h) rfl (fun θ=>(⟨none,none,1,pq b_⟩::⟨none,none,2,pq O⟩::⟨none,none,3,pq I⟩::⟨none,none,4,pq H⟩::⟨none,none,5,pq R⟩::⟨none,none,7,pq am⟩::⟨none,none,8,i6 q⟩::⟨none,none,9,i6 Y⟩::⟨none,none,47,i6 ((x.Roster.People.length:Nat):Int)⟩::⟨none,none,48,i6 Y⟩::⟨some 0,none,51,.slice (some ⟨t,0,none⟩) ((D.set xv.toNat (some (kE mm p_ true))).length) B.1⟩::⟨some 1,none,52,i6 xv⟩::⟨some 2,none,53,.pointer (some ⟨t,xv.toNat * 1,none⟩)⟩::⟨some 3,none,54,.map (some ((B.2 xv.toNat).2))⟩::⟨some 4,none,55,i6 Y⟩::⟨some 5,none,56,.bool ((lkA p Y).getD false)⟩::⟨some 6,none,57,.bool ((lkA p Y).getD false)⟩::⟨some 7,none,58,(bif ((lkA p Y).getD false) then pq U else undef)⟩::⟨some 8,none,59,(bif ((lkA p Y).getD false) then i6 xv else undef)⟩::⟨some 9,none,60,(bif ((lkA p Y).getD false) then i6 Y else undef)⟩::⟨some 10,none,61,(bif ((lkA p Y).getD false) then pq U else undef)⟩::⟨some 11,none,62,(bif ((lkA p Y).getD false) then .pointer (some ⟨U,0 + 2,none⟩) else undef)⟩::⟨some 12,none,63,(bif ((lkA p Y).getD false) then .pointer (some ⟨U,0 + 2 + xv.toNat * 12,none⟩) else undef)⟩::⟨some 13,none,64,(bif ((lkA p Y).getD false) then .pointer (some ⟨U,0 + 2 + (xv * 12 + Y).toNat * 1,none⟩) else undef)⟩::⟨some 14,none,65,(bif ((lkA p Y).getD false) then i6 (x.rank (xv * 12 + Y).toNat) else undef)⟩::⟨some 15,none,66,(bif ((lkA p Y).getD false) then pq U else undef)⟩::⟨some 16,none,67,(bif ((lkA p Y).getD false) then i6 xv else undef)⟩::⟨some 17,none,68,(bif ((lkA p Y).getD false) then i6 q else undef)⟩::⟨some 18,none,69,(bif ((lkA p Y).getD false) then pq U else undef)⟩::⟨some 19,none,70,(bif ((lkA p Y).getD false) then .pointer (some ⟨U,0 + 2,none⟩) else undef)⟩::⟨some 20,none,71,(bif ((lkA p Y).getD false) then .pointer (some ⟨U,0 + 2 + xv.toNat * 12,none⟩) else undef)⟩::⟨some 21,none,72,(bif ((lkA p Y).getD false) then .pointer (some ⟨U,0 + 2 + (xv * 12 + q).toNat * 1,none⟩) else undef)⟩::⟨some 22,none,73,(bif ((lkA p Y).getD false) then i6 (x.rank (xv * 12 + q).toNat) else undef)⟩::⟨some 23,none,74,(bif ((lkA p Y).getD false) then .bool (decide ((x.rank (xv * 12 + q).toNat) < (x.rank (xv * 12 + Y).toNat))) else undef)⟩::⟨some 24,none,75,.bool (((lkA p Y).getD false) && (decide ((x.rank (xv * 12 + q).toNat) < (x.rank (xv * 12 + Y).toNat))))⟩::[])) (fun E θ=>.box am [i6 xv] 3::.box ad [i6 p_] 3::.box b_ [pq U] 82::.box O [.slice n X.length d] 85::.row n d (X.map aV) 137 2::.box I [.slice (some ⟨g,0,none⟩) ((V.set p_.toNat xv).length) Z] 23::.row (some ⟨g,0,none⟩) Z ((V.set p_.toNat xv).map aB) 3 1::.box H [.slice (some ⟨t,0,none⟩) ((D.set xv.toNat (some (kE mm p_ true))).length) B.1] 128::.row (some ⟨t,0,none⟩) B.1 ((aU B.2 (D.set xv.toNat (some (kE mm p_ true)))).map (Kd.v bF)) 129 1::cK bF (aU B.2 (D.set xv.toNat (some (kE mm p_ true))))::.box R [.func (.func 59) #[] #[pq b_,pq O,pq I,pq H,pq R]] 131::Lb) [] (fun a w=>Has 95 a [(1,pq b_),(2,pq O),(3,pq I),(4,pq H),(5,pq R),(7,pq am),(8,i6 q),(9,i6 Y),(47,i6 ((x.Roster.People.length:Nat):Int)),(48,i6 Y),(75,.bool (((lkA p Y).getD false) && (decide ((x.rank (xv * 12 + q).toNat) < (x.rank (xv * 12 + Y).toNat)))))]∧Ctx G (.box am [i6 xv] 3::.box ad [i6 p_] 3::.box b_ [pq U] 82::.box O [.slice n X.length d] 85::.row n d (X.map aV) 137 2::.box I [.slice (some ⟨g,0,none⟩) ((V.set p_.toNat xv).length) Z] 23::.row (some ⟨g,0,none⟩) Z ((V.set p_.toNat xv).map aB) 3 1::.box H [.slice (some ⟨t,0,none⟩) ((D.set xv.toNat (some (kE mm p_ true))).length) B.1] 128::.row (some ⟨t,0,none⟩) B.1 ((aU B.2 (D.set xv.toNat (some (kE mm p_ true)))).map (Kd.v bF)) 129 1::cK bF (aU B.2 (D.set xv.toNat (some (kE mm p_ true))))::.box R [.func (.func 59) #[] #[pq b_,pq O,pq I,pq H,pq R]] 131::Lb) w) bA (by kernel_rfl) (by kernel_rfl) (fN.of hf ⟨rfl,rfl,rfl,rfl,rfl,rfl,rfl,rfl,rfl,rfl,trivial,trivial,trivial,trivial,trivial,trivial,trivial,trivial,trivial,trivial,trivial,trivial,trivial,trivial,trivial,trivial,trivial,trivial,trivial,trivial,trivial,trivial,trivial,trivial,trivial,trivial⟩) hc ⟨?_,?_,?_,?_,?_,?_,?_,?_,?_,?_,?_,?_,?_,?_,?_,?_,?_,?_,?_,?_,?_,?_,?_,?_,?_,trivial⟩ ?_ ?_
     ·intro E θ a w hD hi hp he hc
      have hf:=he.h0.mT he 3 rfl
      refine zL hf hc aCs m7 rfl fun a w hf hc=>zD θ he hi hf 10 rfl rfl rfl hc
     ·intro E θ a w hD hi hp he hc
      have hf:=he.h0.mT he 5 rfl
      refine zL hf hc cR m0 rfl fun a w hf hc=>zD θ he hi hf 11 rfl rfl rfl hc
     ·intro E θ a w hD hi hp he hc
      have e0:=hp.o 0 rfl
      have e1:=hp.o 1 rfl
      have hf:=(he.h0.mP he 10 rfl e0).mP he 11 rfl e1
      refine zP hf rfl (pIA Tryz.underlying128 aCz rfl rfl (At.len ct (by simp only [jJ,List.length_set]))) fun a hf=>zD θ he hi hf 12 rfl rfl rfl hc
     ·intro E θ a w hD hi hp he hc
      have e2:=hp.o 2 rfl
      have hf:=he.h0.mP he 12 rfl e2
      refine zE hf hc rfl (eP aHc rfl (fZ (sz:=1) (i:=xv.toNat) (j:=0) m8 c4 (by subst bp; rfl))) fun a w hf hc=>zD θ he hi hf 13 rfl rfl rfl hc
     ·intro E θ a w hD hi hp he hc
      have hf:=he.h0.mT he 7 rfl
      refine sp 1 hf rfl fun a hf=>zD θ he hi hf 14 rfl rfl rfl hc
     ·intro E θ a w hD hi hp he hc
      have e3:=hp.o 3 rfl
      have e4:=hp.o 4 rfl
      have hf:=(he.h0.mP he 13 rfl e3).mP he 14 rfl e4
      refine zE hf hc rfl (eLk (enc:=Value.bool) (z0:=false) (m:=(lkA p)) (alS (aO6 m9 (zO b3 bp))) Tryz.underlying129 Tryz.underlying3 zr_4 rfl rfl) fun a w hf hc=>zD θ he hi hf 15 rfl rfl rfl hc
     ·intro E θ a w hD hi hp he hc
      have e5:=hp.o 5 rfl
      have hf:=he.h0.mP he 15 rfl e5
      refine sp 1 hf rfl fun a hf=>zD θ he hi hf 16 rfl rfl rfl hc
     ·intro E θ a w hD hi hp he hc
      have e6:=hp.o 6 rfl
      rcases iC ((lkA p Y).getD false) with hb | hb
      ·have hf:=(he.h0.mT he 0 rfl).mP he 16 rfl e6
       replace hf:=eI hb hf
       refine zL hf hc yX m2 rfl fun a w hf hc=>?_
       replace hf:=mE (u:=undef) hb hf
       exact zD θ he hi hf 17 rfl rfl rfl hc
      ·have hf:=(he.h0.mT he 0 rfl).mP he 16 rfl e6
       replace hf:=eI hb hf
       refine stS hf rfl rfl rfl fun a hf=>?_
       replace hf:=mG (u:=pq U) hb hf
       exact zD θ he hi hf 17 rfl rfl rfl hc
     ·intro E θ a w hD hi hp he hc
      have e6:=hp.o 6 rfl
      rcases iC ((lkA p Y).getD false) with hb | hb
      ·have hf:=(he.h0.mT he 5 rfl).mP he 16 rfl e6
       replace hf:=eI hb hf
       refine zL hf hc cR m0 rfl fun a w hf hc=>?_
       replace hf:=mE (u:=undef) hb hf
       exact zD θ he hi hf 18 rfl rfl rfl hc
      ·have hf:=(he.h0.mT he 5 rfl).mP he 16 rfl e6
       replace hf:=eI hb hf
       refine stS hf rfl rfl rfl fun a hf=>?_
       replace hf:=mG (u:=i6 xv) hb hf
       exact zD θ he hi hf 18 rfl rfl rfl hc
     ·intro E θ a w hD hi hp he hc
      have e6:=hp.o 6 rfl
      rcases iC ((lkA p Y).getD false) with hb | hb
      ·have hf:=(he.h0.mT he 7 rfl).mP he 16 rfl e6
       replace hf:=eI hb hf
       refine sp 1 hf rfl fun a hf=>?_
       replace hf:=mE (u:=undef) hb hf
       exact zD θ he hi hf 19 rfl rfl rfl hc
      ·have hf:=(he.h0.mT he 7 rfl).mP he 16 rfl e6
       replace hf:=eI hb hf
       refine stS hf rfl rfl rfl fun a hf=>?_
       replace hf:=mG (u:=i6 Y) hb hf
       exact zD θ he hi hf 19 rfl rfl rfl hc
     ·intro E θ a w hD hi hp he hc
      have e6:=hp.o 6 rfl
      have e7:=hp.o 7 rfl
      rcases iC ((lkA p Y).getD false) with hb | hb
      ·have hf:=he.h0.mP he 16 rfl e6
       replace hf:=eI hb hf
       replace hf:=hf.more he 17 rfl (onP e7)
       replace hf:=jM hb hf
       refine sp 1 hf rfl fun a hf=>?_
       replace hf:=mE (u:=undef) hb hf
       exact zD θ he hi hf 20 rfl rfl rfl hc
      ·have hf:=he.h0.mP he 16 rfl e6
       replace hf:=eI hb hf
       replace hf:=hf.more he 17 rfl (onP e7)
       replace hf:=jN hb hf
       refine stS hf rfl rfl rfl fun a hf=>?_
       replace hf:=mG (u:=pq U) hb hf
       exact zD θ he hi hf 20 rfl rfl rfl hc
     ·intro E θ a w hD hi hp he hc
      have e6:=hp.o 6 rfl
      have br:=hp.o 10 rfl
      rcases iC ((lkA p Y).getD false) with hb | hb
      ·have hf:=he.h0.mP he 16 rfl e6
       replace hf:=eI hb hf
       replace hf:=hf.more he 20 rfl (onP br)
       replace hf:=jM hb hf
       refine zP hf rfl (pFA aBt rfl) fun a hf=>?_
       replace hf:=mE (u:=undef) hb hf
       exact zD θ he hi hf 21 rfl rfl rfl hc
      ·have hf:=he.h0.mP he 16 rfl e6
       replace hf:=eI hb hf
       replace hf:=hf.more he 20 rfl (onP br)
       replace hf:=jN hb hf
       refine stS hf rfl rfl rfl fun a hf=>?_
       replace hf:=mG (u:=.pointer (some ⟨U,0 + 2,none⟩)) hb hf
       exact zD θ he hi hf 21 rfl rfl rfl hc
     ·intro E θ a w hD hi hp he hc
      have e6:=hp.o 6 rfl
      have e8:=hp.o 8 rfl
      have bk:=hp.o 11 rfl
      rcases iC ((lkA p Y).getD false) with hb | hb
      ·have hf:=he.h0.mP he 16 rfl e6
       replace hf:=eI hb hf
       replace hf:=hf.more he 18 rfl (onP e8)
       replace hf:=jM hb hf
       replace hf:=hf.more he 21 rfl (onP bk)
       replace hf:=jM hb hf
       refine zP hf rfl (xL Tryz.underlying125 aGi rfl rfl (cF (fP hb a4)).1 (cF (fP hb a4)).2) fun a hf=>?_
       replace hf:=mE (u:=undef) hb hf
       exact zD θ he hi hf 22 rfl rfl rfl hc
      ·have hf:=he.h0.mP he 16 rfl e6
       replace hf:=eI hb hf
       replace hf:=hf.more he 18 rfl (onP e8)
       replace hf:=jN hb hf
       replace hf:=hf.more he 21 rfl (onP bk)
       replace hf:=jN hb hf
       refine stS hf rfl rfl rfl fun a hf=>?_
       replace hf:=mG (u:=.pointer (some ⟨U,0 + 2 + xv.toNat * 12,none⟩)) hb hf
       exact zD θ he hi hf 22 rfl rfl rfl hc
     ·intro E θ a w hD hi hp he hc
      have e6:=hp.o 6 rfl
      have e9:=hp.o 9 rfl
      have bn:=hp.o 12 rfl
      rcases iC ((lkA p Y).getD false) with hb | hb
      ·have hf:=he.h0.mP he 16 rfl e6
       replace hf:=eI hb hf
       replace hf:=hf.more he 19 rfl (onP e9)
       replace hf:=jM hb hf
       replace hf:=hf.more he 22 rfl (onP bn)
       replace hf:=jM hb hf
       refine zP hf rfl (Pu.cast (xL Tryz.underlying124 fO rfl rfl (cF (fP hb a2)).1 (cF (fP hb a2)).2) (congrArg (fun k=>Value.pointer (some ⟨U,k,none⟩)) (aBk (M:=12) (0 + 2) (fP hb a4) (fP hb a2) rfl))) fun a hf=>?_
       replace hf:=mE (u:=undef) hb hf
       exact zD θ he hi hf 23 rfl rfl rfl hc
      ·have hf:=he.h0.mP he 16 rfl e6
       replace hf:=eI hb hf
       replace hf:=hf.more he 19 rfl (onP e9)
       replace hf:=jN hb hf
       replace hf:=hf.more he 22 rfl (onP bn)
       replace hf:=jN hb hf
       refine stS hf rfl rfl rfl fun a hf=>?_
       replace hf:=mG (u:=.pointer (some ⟨U,0 + 2 + (xv * 12 + Y).toNat * 1,none⟩)) hb hf
       exact zD θ he hi hf 23 rfl rfl rfl hc
     ·intro E θ a w hD hi hp he hc
      have e6:=hp.o 6 rfl
      have bq:=hp.o 13 rfl
      rcases iC ((lkA p Y).getD false) with hb | hb
      ·have hf:=he.h0.mP he 16 rfl e6
       replace hf:=eI hb hf
       replace hf:=hf.more he 23 rfl (onP bq)
       replace hf:=jM hb hf
       refine zE hf hc rfl (eP cR rfl (aEl (j:=0) an (fun x=>(bZ x).1) rfl (inR2 (fP hb a4) (fP hb a2) rfl) rfl)) fun a w hf hc=>?_
       replace hf:=mE (u:=undef) hb hf
       exact zD θ he hi hf 24 rfl rfl rfl hc
      ·have hf:=he.h0.mP he 16 rfl e6
       replace hf:=eI hb hf
       replace hf:=hf.more he 23 rfl (onP bq)
       replace hf:=jN hb hf
       refine stS hf rfl rfl rfl fun a hf=>?_
       replace hf:=mG (u:=i6 (x.rank (xv * 12 + Y).toNat)) hb hf
       exact zD θ he hi hf 24 rfl rfl rfl hc
     ·intro E θ a w hD hi hp he hc
      have e6:=hp.o 6 rfl
      rcases iC ((lkA p Y).getD false) with hb | hb
      ·have hf:=(he.h0.mT he 0 rfl).mP he 16 rfl e6
       replace hf:=eI hb hf
       refine zL hf hc yX m2 rfl fun a w hf hc=>?_
       replace hf:=mE (u:=undef) hb hf
       exact zD θ he hi hf 25 rfl rfl rfl hc
      ·have hf:=(he.h0.mT he 0 rfl).mP he 16 rfl e6
       replace hf:=eI hb hf
       refine stS hf rfl rfl rfl fun a hf=>?_
       replace hf:=mG (u:=pq U) hb hf
       exact zD θ he hi hf 25 rfl rfl rfl hc
     ·intro E θ a w hD hi hp he hc
      have e6:=hp.o 6 rfl
      rcases iC ((lkA p Y).getD false) with hb | hb
      ·have hf:=(he.h0.mT he 5 rfl).mP he 16 rfl e6
       replace hf:=eI hb hf
       refine zL hf hc cR m0 rfl fun a w hf hc=>?_
       replace hf:=mE (u:=undef) hb hf
       exact zD θ he hi hf 26 rfl rfl rfl hc
      ·have hf:=(he.h0.mT he 5 rfl).mP he 16 rfl e6
       replace hf:=eI hb hf
       refine stS hf rfl rfl rfl fun a hf=>?_
       replace hf:=mG (u:=i6 xv) hb hf
       exact zD θ he hi hf 26 rfl rfl rfl hc
     ·intro E θ a w hD hi hp he hc
      have e6:=hp.o 6 rfl
      rcases iC ((lkA p Y).getD false) with hb | hb
      ·have hf:=(he.h0.mT he 6 rfl).mP he 16 rfl e6
       replace hf:=eI hb hf
       refine sp 1 hf rfl fun a hf=>?_
       replace hf:=mE (u:=undef) hb hf
       exact zD θ he hi hf 27 rfl rfl rfl hc
      ·have hf:=(he.h0.mT he 6 rfl).mP he 16 rfl e6
       replace hf:=eI hb hf
       refine stS hf rfl rfl rfl fun a hf=>?_
       replace hf:=mG (u:=i6 q) hb hf
       exact zD θ he hi hf 27 rfl rfl rfl hc
     ·intro E θ a w hD hi hp he hc
      have e6:=hp.o 6 rfl
      have cd:=hp.o 15 rfl
      rcases iC ((lkA p Y).getD false) with hb | hb
      ·have hf:=he.h0.mP he 16 rfl e6
       replace hf:=eI hb hf
       replace hf:=hf.more he 25 rfl (onP cd)
       replace hf:=jM hb hf
       refine sp 1 hf rfl fun a hf=>?_
       replace hf:=mE (u:=undef) hb hf
       exact zD θ he hi hf 28 rfl rfl rfl hc
      ·have hf:=he.h0.mP he 16 rfl e6
       replace hf:=eI hb hf
       replace hf:=hf.more he 25 rfl (onP cd)
       replace hf:=jN hb hf
       refine stS hf rfl rfl rfl fun a hf=>?_
       replace hf:=mG (u:=pq U) hb hf
       exact zD θ he hi hf 28 rfl rfl rfl hc
     ·intro E θ a w hD hi hp he hc
      have e6:=hp.o 6 rfl
      have cb:=hp.o 18 rfl
      rcases iC ((lkA p Y).getD false) with hb | hb
      ·have hf:=he.h0.mP he 16 rfl e6
       replace hf:=eI hb hf
       replace hf:=hf.more he 28 rfl (onP cb)
       replace hf:=jM hb hf
       refine zP hf rfl (pFA aBt rfl) fun a hf=>?_
       replace hf:=mE (u:=undef) hb hf
       exact zD θ he hi hf 29 rfl rfl rfl hc
      ·have hf:=he.h0.mP he 16 rfl e6
       replace hf:=eI hb hf
       replace hf:=hf.more he 28 rfl (onP cb)
       replace hf:=jN hb hf
       refine stS hf rfl rfl rfl fun a hf=>?_
       replace hf:=mG (u:=.pointer (some ⟨U,0 + 2,none⟩)) hb hf
       exact zD θ he hi hf 29 rfl rfl rfl hc
     ·intro E θ a w hD hi hp he hc
      have e6:=hp.o 6 rfl
      have ca:=hp.o 16 rfl
      have ci:=hp.o 19 rfl
      rcases iC ((lkA p Y).getD false) with hb | hb
      ·have hf:=he.h0.mP he 16 rfl e6
       replace hf:=eI hb hf
       replace hf:=hf.more he 26 rfl (onP ca)
       replace hf:=jM hb hf
       replace hf:=hf.more he 29 rfl (onP ci)
       replace hf:=jM hb hf
       refine zP hf rfl (xL Tryz.underlying125 aGi rfl rfl (cF (fP hb a6)).1 (cF (fP hb a6)).2) fun a hf=>?_
       replace hf:=mE (u:=undef) hb hf
       exact zD θ he hi hf 30 rfl rfl rfl hc
      ·have hf:=he.h0.mP he 16 rfl e6
       replace hf:=eI hb hf
       replace hf:=hf.more he 26 rfl (onP ca)
       replace hf:=jN hb hf
       replace hf:=hf.more he 29 rfl (onP ci)
       replace hf:=jN hb hf
       refine stS hf rfl rfl rfl fun a hf=>?_
       replace hf:=mG (u:=.pointer (some ⟨U,0 + 2 + xv.toNat * 12,none⟩)) hb hf
       exact zD θ he hi hf 30 rfl rfl rfl hc
     ·intro E θ a w hD hi hp he hc
      have e6:=hp.o 6 rfl
      have cp:=hp.o 17 rfl
      have cm:=hp.o 20 rfl
      rcases iC ((lkA p Y).getD false) with hb | hb
      ·have hf:=he.h0.mP he 16 rfl e6
       replace hf:=eI hb hf
       replace hf:=hf.more he 27 rfl (onP cp)
       replace hf:=jM hb hf
       replace hf:=hf.more he 30 rfl (onP cm)
       replace hf:=jM hb hf
       refine zP hf rfl (Pu.cast (xL Tryz.underlying124 fO rfl rfl (cF (fP hb a5)).1 (cF (fP hb a5)).2) (congrArg (fun k=>Value.pointer (some ⟨U,k,none⟩)) (aBk (M:=12) (0 + 2) (fP hb a6) (fP hb a5) rfl))) fun a hf=>?_
       replace hf:=mE (u:=undef) hb hf
       exact zD θ he hi hf 31 rfl rfl rfl hc
      ·have hf:=he.h0.mP he 16 rfl e6
       replace hf:=eI hb hf
       replace hf:=hf.more he 27 rfl (onP cp)
       replace hf:=jN hb hf
       replace hf:=hf.more he 30 rfl (onP cm)
       replace hf:=jN hb hf
       refine stS hf rfl rfl rfl fun a hf=>?_
       replace hf:=mG (u:=.pointer (some ⟨U,0 + 2 + (xv * 12 + q).toNat * 1,none⟩)) hb hf
       exact zD θ he hi hf 31 rfl rfl rfl hc
     ·intro E θ a w hD hi hp he hc
      have e6:=hp.o 6 rfl
      have cq:=hp.o 21 rfl
      rcases iC ((lkA p Y).getD false) with hb | hb
      ·have hf:=he.h0.mP he 16 rfl e6
       replace hf:=eI hb hf
       replace hf:=hf.more he 31 rfl (onP cq)
       replace hf:=jM hb hf
       refine zE hf hc rfl (eP cR rfl (aEl (j:=0) an (fun x=>(bZ x).1) rfl (inR2 (fP hb a6) (fP hb a5) rfl) rfl)) fun a w hf hc=>?_
       replace hf:=mE (u:=undef) hb hf
       exact zD θ he hi hf 32 rfl rfl rfl hc
      ·have hf:=he.h0.mP he 16 rfl e6
       replace hf:=eI hb hf
       replace hf:=hf.more he 31 rfl (onP cq)
       replace hf:=jN hb hf
       refine stS hf rfl rfl rfl fun a hf=>?_
       replace hf:=mG (u:=i6 (x.rank (xv * 12 + q).toNat)) hb hf
       exact zD θ he hi hf 32 rfl rfl rfl hc
     ·intro E θ a w hD hi hp he hc
      have e6:=hp.o 6 rfl
      have bj:=hp.o 14 rfl
      have cg:=hp.o 22 rfl
      rcases iC ((lkA p Y).getD false) with hb | hb
      ·have hf:=he.h0.mP he 16 rfl e6
       replace hf:=eI hb hf
       replace hf:=hf.more he 24 rfl (onP bj)
       replace hf:=jM hb hf
       replace hf:=hf.more he 32 rfl (onP cg)
       replace hf:=jM hb hf
       refine sp 1 hf rfl fun a hf=>?_
       replace hf:=mE (u:=undef) hb hf
       exact zD θ he hi hf 33 rfl rfl rfl hc
      ·have hf:=he.h0.mP he 16 rfl e6
       replace hf:=eI hb hf
       replace hf:=hf.more he 24 rfl (onP bj)
       replace hf:=jN hb hf
       replace hf:=hf.more he 32 rfl (onP cg)
       replace hf:=jN hb hf
       refine stS hf rfl rfl rfl fun a hf=>?_
       replace hf:=mG (u:=.bool (decide ((x.rank (xv * 12 + q).toNat) < (x.rank (xv * 12 + Y).toNat)))) hb hf
       exact zD θ he hi hf 33 rfl rfl rfl hc
     ·intro E θ a w hD hi hp he hc
      have e6:=hp.o 6 rfl
      have b5:=hp.o 23 rfl
      rcases iC ((lkA p Y).getD false) with hb | hb
      ·have hf:=he.h0.mP he 16 rfl e6
       replace hf:=eI hb hf
       replace hf:=hf.more he 33 rfl (onP b5)
       replace hf:=jM hb hf
       refine sp 1 hf rfl fun a hf=>?_
       replace hf:=aD8 (v':=.bool (((lkA p Y).getD false) && (decide ((x.rank (xv * 12 + q).toNat) < (x.rank (xv * 12 + Y).toNat))))) (congrArg Value.bool (andT hb)) hf
       exact zD θ he hi hf 34 rfl rfl rfl hc
      ·have hf:=he.h0.mP he 16 rfl e6
       replace hf:=eI hb hf
       replace hf:=hf.more he 33 rfl (onP b5)
       replace hf:=jN hb hf
       refine sp 1 hf rfl fun a hf=>?_
       replace hf:=aD8 (v':=.bool (((lkA p Y).getD false) && (decide ((x.rank (xv * 12 + q).toNat) < (x.rank (xv * 12 + Y).toNat))))) (congrArg Value.bool (andF hb)) hf
       exact zD θ he hi hf 34 rfl rfl rfl hc
     ·intro E θ a w a7 he hc
      have hf:=he.h0
      have du:=a7 24 rfl
      replace hf:=hf.more he 34 rfl (onP du)
      replace hf:=hf.more he 9 rfl (onT)
      replace hf:=hf.more he 8 rfl (onT)
      replace hf:=hf.more he 7 rfl (onT)
      replace hf:=hf.more he 6 rfl (onT)
      replace hf:=hf.more he 5 rfl (onT)
      replace hf:=hf.more he 4 rfl (onT)
      replace hf:=hf.more he 3 rfl (onT)
      replace hf:=hf.more he 2 rfl (onT)
      replace hf:=hf.more he 1 rfl (onT)
      replace hf:=hf.more he 0 rfl (onT)
      exact ⟨hf.kp rfl,hc⟩
     rintro a w ⟨hf,hc⟩
     refine df _ _ ?_
     refine aFu (b:=(((lkA p Y).getD false) && (decide ((x.rank (xv * 12 + q).toNat) < (x.rank (xv * 12 + Y).toNat))))) hf rfl (fun hb=>?_) (fun hb=>?_)
     ·replace hF:=fP hb hF
      clear hb
      refine vN (fun _ _ h=>h) rfl ?_
      refine sp 2 hf rfl fun a hf=>aP ?_
      exact bv Y _ _  (hf.kp rfl) hc hF
     ·replace hF:=kI hb hF
      clear hb
      refine aC6 ?_
      exact bv q _ _  (hf.kp rfl) hc hF
    ·replace hF:=kI hb hF
     clear hb
     refine aPy ?_
     refine aY ?_
     refine aY ?_
     have he:=sj hF
     rw [← he] at bd
     refine fJ ?_
     exact c1 _ _ _ bd ⟨hf.kp rfl,hc⟩
 ·rintro D_1 ⟨X,V,D⟩ _ a w b1 ⟨n,d,af,Z,ag,B,rfl⟩ hf hc
  replace hf:Has ⟨95,tE (D_1::[])⟩ a [(1,pq b_),(2,pq O),(3,pq I),(4,pq H),(5,pq R),(6,pq ad)]:=hf.kp rfl
  replace hc:Ctx G (.box a9 [pq U] 82::.box ba [i6 r.1] 3::.box bb [i6 r.2] 3::.box ad [i6 p_] 3::.box b_ [pq U] 82::.box O [.slice n X.length d] 85::.row n d (X.map aV) 137 2::.box I [.slice af V.length Z] 23::.row af Z (V.map aB) 3 1::.box H [.slice ag D.length B.1] 128::.row ag B.1 ((aU B.2 D).map (Kd.v bF)) 129 1::cK bF (aU B.2 D)::.box R [.func (.func 59) #[] #[pq b_,pq O,pq I,pq H,pq R]] 131::(aAc (D_1::[])++Lf)) w:=vJ (C:=[.box a9 [pq U] 82,.box ba [i6 r.1] 3,.box bb [i6 r.2] 3]) (L:=[.box ad [i6 p_] 3,.box b_ [pq U] 82,.box O [.slice n X.length d] 85,.row n d (X.map aV) 137 2,.box I [.slice af V.length Z] 23,.row af Z (V.map aB) 3 1,.box H [.slice ag D.length B.1] 128,.row ag B.1 ((aU B.2 D).map (Kd.v bF)) 129 1,cK bF (aU B.2 D),.box R [.func (.func 59) #[] #[pq b_,pq O,pq I,pq H,pq R]] 131]) hc
  replace hF:(some (X,V,D))=some ay:=by rcases b1 with rfl | rfl <;> exact hF
  obtain rfl:=sj hF
  replace hc:=(((((((((((hc.drop k3).drop k2).drop k1).drop k0).pick k5).pick k4).pick k3).pick k3).pick k7).pick k7).pick k7).pick k7
  refine aA3 hf ?_
  refine aAr [.row n d (X.map aV) 137 2,.row af Z (V.map aB) 3 1,.row ag B.1 ((aU B.2 D).map (Kd.v bF)) 129 1,cK bF (aU B.2 D),.box b_ [pq U] 82,.box O [.slice n X.length d] 85,.box I [.slice af V.length Z] 23,.box H [.slice ag D.length B.1] 128,.box R [.func (.func 59) #[] #[pq b_,pq O,pq I,pq H,pq R]] 131] (D_1::[]) hc fun w hc=>?_
  replace hc:Ctx G (.row n d (X.map aV) 137 2::.row af Z (V.map aB) 3 1::.row ag B.1 ((aU B.2 D).map (Kd.v bF)) 129 1::cK bF (aU B.2 D)::.box b_ [pq U] 82::.box O [.slice n X.length d] 85::.box I [.slice af V.length Z] 23::.box H [.slice ag D.length B.1] 128::.box R [.func (.func 59) #[] #[pq b_,pq O,pq I,pq H,pq R]] 131::Lf) w:=hc
  exact aPz Tryz.results59 ⟨n,d,af,Z,ag,B,rfl,hc⟩
 ·rintro D_1 ⟨X,V,D⟩ _ a w b1 ⟨n,d,af,Z,ag,B,rfl⟩ hf hc
  replace hf:Has ⟨95,tE (D_1::[])⟩ a [(1,pq b_),(2,pq O),(3,pq I),(4,pq H),(5,pq R),(6,pq ad)]:=hf.kp rfl
  replace hc:Ctx G (.box a9 [pq U] 82::.box ba [i6 r.1] 3::.box bb [i6 r.2] 3::.box ad [i6 p_] 3::.box b_ [pq U] 82::.box O [.slice n X.length d] 85::.row n d (X.map aV) 137 2::.box I [.slice af V.length Z] 23::.row af Z (V.map aB) 3 1::.box H [.slice ag D.length B.1] 128::.row ag B.1 ((aU B.2 D).map (Kd.v bF)) 129 1::cK bF (aU B.2 D)::.box R [.func (.func 59) #[] #[pq b_,pq O,pq I,pq H,pq R]] 131::(aAc (D_1::[])++Lf)) w:=vJ (C:=[.box a9 [pq U] 82,.box ba [i6 r.1] 3,.box bb [i6 r.2] 3]) (L:=[.box ad [i6 p_] 3,.box b_ [pq U] 82,.box O [.slice n X.length d] 85,.row n d (X.map aV) 137 2,.box I [.slice af V.length Z] 23,.row af Z (V.map aB) 3 1,.box H [.slice ag D.length B.1] 128,.row ag B.1 ((aU B.2 D).map (Kd.v bF)) 129 1,cK bF (aU B.2 D),.box R [.func (.func 59) #[] #[pq b_,pq O,pq I,pq H,pq R]] 131]) hc
  replace hF:(some (X,V,D))=some ay:=by subst b1; exact hF
  obtain rfl:=sj hF
  replace hc:=(((((((((((hc.drop k3).drop k2).drop k1).drop k0).pick k5).pick k4).pick k3).pick k3).pick k7).pick k7).pick k7).pick k7
  refine aA3 hf ?_
  refine aAr [.row n d (X.map aV) 137 2,.row af Z (V.map aB) 3 1,.row ag B.1 ((aU B.2 D).map (Kd.v bF)) 129 1,cK bF (aU B.2 D),.box b_ [pq U] 82,.box O [.slice n X.length d] 85,.box I [.slice af V.length Z] 23,.box H [.slice ag D.length B.1] 128,.box R [.func (.func 59) #[] #[pq b_,pq O,pq I,pq H,pq R]] 131] (D_1::[]) hc fun w hc=>?_
  replace hc:Ctx G (.row n d (X.map aV) 137 2::.row af Z (V.map aB) 3 1::.row ag B.1 ((aU B.2 D).map (Kd.v bF)) 129 1::cK bF (aU B.2 D)::.box b_ [pq U] 82::.box O [.slice n X.length d] 85::.box I [.slice af V.length Z] 23::.box H [.slice ag D.length B.1] 128::.box R [.func (.func 59) #[] #[pq b_,pq O,pq I,pq H,pq R]] 131::Lf) w:=hc
  exact aPz Tryz.results59 ⟨n,d,af,Z,ag,B,rfl,hc⟩

def fK (N:Nat) (w_:dD) (B:Int) (J:List Int) (I:List aO) (H:List (Option (List (Int × Bool)))):Option (bY (Int × (List Int) × (List aO) × (List (Option (List (Int × Bool))))) ((List Int) × (List aO))) :=
 cond (decide (B < ((w_.Roster.People.length:Nat):Int)))
 (Option.bind (eE N B w_ I J H) fun D=>
 some (.cont (W (B + 1),D.2.1,D.1,D.2.2)))
 (some (.brk (B,J,I,H)))
def eX (N:Nat) (w_:dD) (x:Int) (B:List (Option (List (Int × Bool)))):Option (bY (Int × (List (Option (List (Int × Bool))))) ((List Int) × (List aO))) :=
 cond (decide (x < (((List.replicate ((w_.Roster.Stations.length:Nat):Int).toNat (none:Option (List (Int × Bool)))).length:Nat):Int)))
 (Option.bind (bE B x) fun D=>
 some (.cont (W (x + 1),(B.set x.toNat (some ([]:List (Int × Bool)))))))
 (some (.brk (x,B)))
def nK (N:Nat) (w_:dD):Option ((List Int) × (List aO)) :=
 Option.bind (inM ((w_.Roster.Stations.length:Nat):Int)) fun un=>
 Option.bind (aX (fun s5=>eX N w_ s5.1 s5.2) N (0,(List.replicate ((w_.Roster.Stations.length:Nat):Int).toNat (none:Option (List (Int × Bool)))))) fun x5=>
 exK x5 (fun s5=>Option.bind (bD N ([(-1)]:List Int) ((w_.Roster.People.length:Nat):Int)) fun r=>
 Option.bind (aX (fun B=>fK N w_ B.1 B.2.1 B.2.2.1 B.2.2.2) N (0,r,([]:List aO),s5.2)) fun D=>
 exK D (fun B=>some (B.2.1,B.2.2.1)) some) some
theorem aAb {N:Nat} {G:aT} {Lf:List Ent} {w:World} (w_:dD) {b_:Nat} {I:Option Addr} {J:Nat} {D:Option Addr} {B:Nat} (U:RdT cL G 1 I J w_.Roster.People) (O:RdT dP G 2 D B w_.Roster.Stations) (V:PC G b_ 0 (bR [.slice I w_.Roster.People.length J,.slice D w_.Roster.Stations.length B] 144 aB w_.rank [])) (hc:Ctx G (Lf) w) {b:(List Int) × (List aO)} (hF:nK N w_=some b):Calls Tryz.prog 30 #[pq b_] w (fun e w=>∃ (an:Option Addr) (aj:Nat) (ap:Option Addr) (aq:Nat),e=.returned (.tuple #[.slice an b.1.length aj,.slice ap b.2.length aq])∧Ctx G (.row an aj (b.1.map aB) 3 1::.row ap aq (b.2.map aV) 137 2::Lf) w):=by
 unfold nK at hF
 refine bL Tryz.func30 rfl Tryz.ntmps30 rfl fun a hf=>zS fun K h=>zB hf hc rfl fun X a w hf hc=>sp 2 hf rfl fun a hf=>zT h ?_
 refine zS fun K h=>zL hf hc yX m0 rfl fun a w hf hc=>sp 1 hf rfl fun a hf=>zP hf rfl (pFA uG rfl) fun a hf=>zP hf rfl (pFA tK rfl) fun a hf=>zE hf hc rfl (eP aDb rfl (dI (j:=1) V rfl)) fun a w hf hc=>zP hf rfl (bG Tryz.underlying41 rfl) fun a hf=>?_
 obtain ⟨un,a6,hF⟩:=aA hF
 refine stMk (m:=(List.replicate ((w_.Roster.Stations.length:Nat):Int).toNat (none:Option (List (Int × Bool)))).length) (rows:=(List.replicate ((w_.Roster.Stations.length:Nat):Int).toNat (((none,0),(none:Option (List (Int × Bool)))):H2 × (Option (List (Int × Bool))))).map (Kd.v bF)) hf hc rfl rfl aRq rfl rfl (aEv a6) rfl rfl (by simp [List.map_replicate,Value.cells,Kd.v,kM,kL,Kd.comp]) (by simp) fun ak a w hf hc=>?_
 obtain ⟨af,hc⟩:=aL1 (K:=bF) (x:=(none:Option (List (Int × Bool)))) (fun _ h=>h.nilRow _ _) _ hc
 replace hc:Ctx G (.row (some ⟨ak,0,none⟩) (((w_.Roster.Stations.length:Nat):Int).toNat) ((aU af (List.replicate ((w_.Roster.Stations.length:Nat):Int).toNat (none:Option (List (Int × Bool))))).map (Kd.v bF)) 129 1::cK bF (aU af (List.replicate ((w_.Roster.Stations.length:Nat):Int).toNat (none:Option (List (Int × Bool)))))::.box X [pq b_] 82::Lf) w:=hc
 refine zA hf hc aQ7 rfl fun Z a w hf hc=>zW hf hc aQl u0 rfl fun w hc=>zT h ?_
 refine wp_seq_k fun K3 h3=>zS fun K h=>zL hf hc aCs m0 rfl fun a w hf hc=>zP hf rfl (bG Tryz.underlying128 rfl) fun a hf=>sp 1 hf rfl fun a hf=>zT h ?_
 refine wp_block ?_
 obtain ⟨x5,bc,hF⟩:=aA hF
 let S5:(Int × (List (Option (List (Int × Bool)))))→Act→World→Prop:=(fun (zz:Int × (List (Option (List (Int × Bool))))) a w=>∃ (n:Option Addr) (H:aCq),Has 51 a [(1,pq X),(4,pq Z),(18,i6 (((List.replicate ((w_.Roster.Stations.length:Nat):Int).toNat (none:Option (List (Int × Bool)))).length:Nat):Int)),(19,i6 zz.1)]∧Ctx G (.box Z [.slice n zz.2.length H.1] 128::.row n H.1 ((aU H.2 zz.2).map (Kd.v bF)) 129 1::cK bF (aU H.2 zz.2)::.box X [pq b_] 82::Lf) w)
 have bi:∀ (zz:Int × (List (Option (List (Int × Bool))))) a w,x5=.go zz→S5 zz a w→K3 a w:=by
  rintro ⟨x,M⟩ a w rfl ⟨n,H,hf,hc⟩
  replace hF:=bK hF
  refine h3 _ _ ?_
  refine zS fun K h=>oB (rows:=([(-1)]:List Int).map aB) (vs:=[(0,i6 (-1))]) hf hc rfl rfl jA rfl ⟨rfl,rfl,rfl,trivial⟩ rfl rfl fun bq a w hf hc=>zL hf hc yX m4 rfl fun a w hf hc=>sp 1 hf rfl fun a hf=>zP hf rfl (pFA uG rfl) fun a hf=>zP hf rfl (pFA oM rfl) fun a hf=>zE hf hc rfl (eP wA rfl (dI (j:=0) V rfl)) fun a w hf hc=>zP hf rfl (bG Tryz.underlying40 rfl) fun a hf=>?_
  obtain ⟨r,hr,hF⟩:=aA hF
  obtain ⟨G1,bn,a0,hc,ax⟩:=lend hc k0
  refine zC hf en_58 rfl (uU ([(-1)]:List Int) ((w_.Roster.People.length:Nat):Int) a0 hc hr) ?_
  rintro _ w ⟨a3,bf,rfl,hc⟩
  refine ⟨_,rfl,fun a hf=>?_⟩
  replace hc:=ax _ _ hc
  refine zA hf hc aJw rfl fun ab a w hf hc=>zW hf hc vI u0 rfl fun w hc=>zT h ?_
  refine zS fun K h=>zA hf hc zr_85 rfl fun u a w hf hc=>zT h ?_
  refine wp_seq_k fun K8 h8=>bV ?_
  refine zA hf hc aQt rfl fun aa a w hf hc=>aP ?_
  replace hc:=hc.drop k3
  refine h8 _ _ ?_
  refine zS fun K h=>zP hf rfl (pMF (us:=[pq X,pq u,pq ab,pq Z,pq aa]) rfl rfl) fun a hf=>zW hf hc aRe u0 rfl fun w hc=>zT h ?_
  refine wp_seq_k fun K10 ba=>zS fun K h=>zL hf hc yX m7 rfl fun a w hf hc=>sp 1 hf rfl fun a hf=>zP hf rfl (pFA uG rfl) fun a hf=>zP hf rfl (pFA oM rfl) fun a hf=>zE hf hc rfl (eP wA rfl (dI (j:=0) V rfl)) fun a w hf hc=>zP hf rfl (bG Tryz.underlying40 rfl) fun a hf=>sp 1 hf rfl fun a hf=>zT h ?_
  refine wp_block ?_
  obtain ⟨ac,az,hF⟩:=aA hF
  let S12:(Int × (List Int) × (List aO) × (List (Option (List (Int × Bool)))))→Act→World→Prop:=(fun (zz:Int × (List Int) × (List aO) × (List (Option (List (Int × Bool))))) a w=>∃ (o:Option Addr) (i:Nat) (d:Option Addr) (k:Nat) (q:Option Addr) (R:aCq),Has 51 a [(6,pq ab),(7,pq u),(8,pq aa),(41,i6 ((w_.Roster.People.length:Nat):Int)),(42,i6 zz.1)]∧Ctx G (.row d k (zz.2.2.1.map aV) 137 2::.box aa [.func (.func 59) #[] #[pq X,pq u,pq ab,pq Z,pq aa]] 131::.box u [.slice d zz.2.2.1.length k] 85::.box ab [.slice o zz.2.1.length i] 23::.row o i (zz.2.1.map aB) 3 1::.box Z [.slice q zz.2.2.2.length R.1] 128::.row q R.1 ((aU R.2 zz.2.2.2).map (Kd.v bF)) 129 1::cK bF (aU R.2 zz.2.2.2)::.box X [pq b_] 82::Lf) w)
  have a1:∀ (zz:Int × (List Int) × (List aO) × (List (Option (List (Int × Bool))))) a w,ac=.go zz→S12 zz a w→K10 a w:=by
   rintro ⟨ad,au,am,ar⟩ a w rfl ⟨o,i,d,k,q,R,hf,hc⟩
   replace hF:=bK hF
   refine ba _ _ ?_
   refine wp_seq_k fun K13 a2=>cQ hc bA (by kernel_rfl) ?_
   refine qE hf rfl rfl rfl (eP hY rfl (iA m3 rfl)) fun a hf=>qE hf rfl rfl rfl (eP aN4 rfl (iA m2 rfl)) fun a hf=>qE hf rfl rfl rfl (Pu.ev (pA rfl)) fun a hf=>qE hf rfl rfl rfl (Pu.ev (pA rfl)) fun a hf=>?_
   intro w hc
   replace hc:=((((((hc.drop k8).drop k7).drop k6).drop k5).drop k3).drop k2).drop k1
   refine a2 _ _ ?_
   refine wp_ret ?_
   obtain rfl:=sj hF
   replace hc:=(hc.pick k0).pick k1
   exact zO2 Tryz.results30 hf rfl rfl ⟨o,i,d,k,rfl,hc⟩
  have bm:∀ r,ac=.out r→r=b:=by
   rintro r rfl
   exact sj hF
  replace hc:=hc.nilRow 137 2
  refine cZ N (cW (S:=S12) (x:=ac) ?_ N (0,r,([]:List aO),M) _ _ ⟨a3,bf,none,0,n,H,hf.kp rfl,hc⟩ az)
  clear hF hf hc
  rintro ⟨ad,au,am,ar⟩ bp a w KB12 ⟨o,i,d,k,q,R,hf,hc⟩ hF s av
  unfold fK at hF
  refine zS fun K h=>sp 1 hf rfl fun a hf=>zT h ?_
  refine wp_seq_k fun K15 a8=>zI hf rfl hF ?_ ?_ <;> clear hF <;> intro hF
  ·refine wp_skip ?_
   refine a8 _ _ ?_
   refine wp_seq_k fun K16 bb=>wp_block ?_
   refine zS fun K h=>sp 2 hf rfl fun a hf=>zT h ?_
   refine bV ?_
   refine zL hf hc aNt m1 rfl fun a w hf hc=>sp 1 hf rfl fun a hf=>?_
   obtain ⟨ag,ay,hF⟩:=aA hF
   refine zC hf aPk rfl (xM ad w_ am au ar U O V (((((((((hc.pick k1).pick k7).pick k7).pick k7).pick k7).pick k7).pick k6).pick k7).pick k8) ay) ?_
   rintro _ w ⟨bg,a4,a7,bj,a5,ai,rfl,hc⟩
   refine ⟨_,rfl,fun a hf=>?_⟩
   refine aP ?_
   refine bb _ _ ?_
   refine bV ?_
   refine sp 2 hf rfl fun a hf=>aP ?_
   replace hc:=((((((((hc.pick k4).pick k4).pick k4).pick k7).pick k5).pick k7).pick k7).pick k8).pick k8
   exact av (W (ad + 1),ag.2.1,ag.1,ag.2.2) _ _ (sj hF).symm ⟨a7,bj,bg,a4,a5,ai,hf.kp rfl,hc⟩
  ·refine wp_exit ?_
   refine aY ?_
   refine aY ?_
   have he:=sj hF
   rw [← he] at s
   refine fJ ?_
   exact a1 _ _ _ s ⟨o,i,d,k,q,R,hf.kp rfl,hc⟩
 have bt:∀ r,x5=.out r→r=b:=by
  rintro r rfl
  exact sj hF
 refine cZ N (cW (S:=S5) (x:=x5) ?_ N (0,(List.replicate ((w_.Roster.Stations.length:Nat):Int).toNat (none:Option (List (Int × Bool))))) _ _ ⟨(some ⟨ak,0,none⟩),(((w_.Roster.Stations.length:Nat):Int).toNat,af),hf.kp rfl,hc⟩ bc)
 clear hF hf hc
 rintro ⟨x,M⟩ br a w KB5 ⟨n,H,hf,hc⟩ hF t a9
 unfold eX at hF
 refine zS fun K h=>sp 1 hf rfl fun a hf=>zT h ?_
 refine wp_seq_k fun K19 bk=>zI hf rfl hF ?_ ?_ <;> clear hF <;> intro hF
 ·refine wp_skip ?_
  refine bk _ _ ?_
  refine wp_seq_k fun K20 bd=>wp_block ?_
  refine zS fun K h=>sp 2 hf rfl fun a hf=>zT h ?_
  refine bV ?_
  refine zL hf hc aCs m0 rfl fun a w hf hc=>sp 1 hf rfl fun a hf=>stAM (enc:=Value.bool) hf hc rfl rfl fun mb a w hf hc=>?_
  obtain ⟨bs,p,hF⟩:=aA hF
  obtain ⟨g,rfl,qa,qr⟩:=hP hc m2 (oF p)
  refine zP hf rfl (pIA Tryz.underlying128 aCz rfl rfl (At.len qa (by simp only [jJ,List.length_set]))) fun a hf=>?_
  replace hc:=(aDt (hc.pick k3) p).tail
  replace hc:Ctx G (cK bF ((aU H.2 M).eraseIdx x.toNat)::.gm mb (ALq Value.bool ([]:List (Int × Bool)))::.box Z [.slice (some ⟨g,0,none⟩) M.length H.1] 128::.row (some ⟨g,0,none⟩) H.1 ((aU H.2 M).map (Kd.v bF)) 129 1::.box X [pq b_] 82::Lf) w:=hc
  refine yA (vs:=[.map (some mb)]) (o':=0) (z:=((none,mb),(some ([]:List (Int × Bool))))) (xs:=(aU H.2 M)) hf hc rfl rfl rfl rfl aCz rfl (fun x=>(aD0 x).1) (mL (oF p)) (fun e _=>splW (aD0 e).1) rfl u3 fun w hc=>?_
  replace hc:=(((hc.pick k2).pick k1).pick k3).pick k3
  obtain ⟨Y,hc⟩:=aFq (K:=bF) (h':=(none,mb)) (y:=(some ([]:List (Int × Bool)))) p hc
  replace hc:Ctx G (.row (some ⟨g,0,none⟩) H.1 ((aU Y (M.set x.toNat (some ([]:List (Int × Bool))))).map (Kd.v bF)) 129 1::cK bF (aU Y (M.set x.toNat (some ([]:List (Int × Bool)))))::.box Z [.slice (some ⟨g,0,none⟩) M.length H.1] 128::.box X [pq b_] 82::Lf) w:=hc
  refine aP ?_
  refine bd _ _ ?_
  refine bV ?_
  refine sp 2 hf rfl fun a hf=>aP ?_
  replace hc:Ctx G (.row (some ⟨g,0,none⟩) H.1 ((aU Y (M.set x.toNat (some ([]:List (Int × Bool))))).map (Kd.v bF)) 129 1::cK bF (aU Y (M.set x.toNat (some ([]:List (Int × Bool)))))::.box Z [.slice (some ⟨g,0,none⟩) ((M.set x.toNat (some ([]:List (Int × Bool)))).length) H.1] 128::.box X [pq b_] 82::Lf) w:=by simp only [List.length_set] at hc ⊢; exact hc
  replace hc:=((hc.pick k1).pick k1).pick k2
  exact a9 (W (x + 1),(M.set x.toNat (some ([]:List (Int × Bool))))) _ _ (sj hF).symm ⟨(some ⟨g,0,none⟩),(H.1,Y),hf.kp rfl,hc⟩
 ·refine wp_exit ?_
  refine aY ?_
  refine aY ?_
  have he:=sj hF
  rw [← he] at t
  refine fJ ?_
  exact bi _ _ _ t ⟨n,H,hf.kp rfl,hc⟩

def nS (N:Nat) (r:aE):Option ((List Int) × Int) :=
 Option.bind (sR N r) (aAg (fun D=>cond (D != 0)
 (some (([]:List Int),D))
 (none))
 (fun B=>cond (B.2 != 0)
 (some (([]:List Int),B.2))
 (Option.bind (nK N (⟨r,B.1⟩:dD)) fun H=>
 some (H.1,0))))
theorem uH {N:Nat} {G:aT} {Lf:List Ent} {w:World} (r:aE) {O:Option Addr} {J:Nat} {I:Option Addr} {H:Nat} (D:RdT cL G 1 O J r.People) (B:RdT dP G 2 I H r.Stations) (hc:Ctx G (Lf) w) {S:(List Int) × Int} (hF:nS N r=some S):Calls Tryz.prog 10 #[.agg #[.slice O r.People.length J,.slice I r.Stations.length H]] w (fun e w=>∃ (V:Option Addr) (X:Nat),e=.returned (.tuple #[.slice V S.1.length X,i6 S.2])∧Ctx G (.row V X (S.1.map aB) 3 1::Lf) w):=by
 unfold nS at hF
 refine bL Tryz.func10 rfl Tryz.ntmps10 rfl fun a hf=>zS fun K h=>zB hf hc rfl fun m a w hf hc=>sp 2 hf rfl fun a hf=>zT h ?_
 refine wp_seq_k fun K2 h2=>bV ?_
 refine zN hf hc aFl m0 rfl fun a w hf hc=>?_
 obtain ⟨Y,U,hF⟩:=aA hF
 cases Y with
 | inl Y=>
  replace hF:=aC4 hF
  refine zC hf aPp rfl (yO r D B hc U) ?_
  rintro _ w ⟨rfl,hc⟩
  refine ⟨_,rfl,fun a hf=>?_⟩
  refine sp 5 hf rfl fun a hf=>aP ?_
  refine h2 _ _ ?_
  refine wp_seq_k fun K3 h3=>zS fun K h=>sp 2 hf rfl fun a hf=>zT h ?_
  refine zI hf rfl hF ?_ ?_ <;> clear hF <;> intro hF
  ·refine zS fun K h=>sp 3 hf rfl fun a hf=>zT h ?_
   refine wp_ret ?_
   refine aL ?_
   obtain rfl:=sj hF
   replace hc:=hc.nilRow 3 1
   replace hc:=hc.drop k1
   exact zO2 Tryz.results10 hf rfl rfl ⟨none,0,rfl,hc⟩
  ·refine wp_skip ?_
   refine h3 _ _ ?_
   refine wp_seq_k fun K6 h6=>aBn hF
 | inr g=>
  replace hF:=aC7 hF
  have Z:=U
  refine zC hf aPp rfl (yO r D B hc Z) ?_
  rintro _ w ⟨n,rfl,hc⟩
  refine ⟨_,rfl,fun a hf=>?_⟩
  refine sp 5 hf rfl fun a hf=>aP ?_
  obtain ⟨G,M,R,hc,-⟩:=lendB hc k0
  replace R:=pc_of R
  refine h2 _ _ ?_
  refine wp_seq_k fun K7 h7=>zS fun K h=>sp 2 hf rfl fun a hf=>zT h ?_
  refine zI hf rfl hF ?_ ?_ <;> clear hF <;> intro hF
  ·refine zS fun K h=>sp 3 hf rfl fun a hf=>zT h ?_
   refine wp_ret ?_
   refine aL ?_
   obtain rfl:=sj hF
   replace hc:=hc.down M
   replace hc:=hc.nilRow 3 1
   replace hc:=hc.drop k1
   exact zO2 Tryz.results10 hf rfl rfl ⟨none,0,rfl,hc⟩
  ·refine wp_skip ?_
   refine h7 _ _ ?_
   refine zS fun K h=>sp 1 hf rfl fun a hf=>?_
   obtain ⟨j,b,hF⟩:=aA hF
   refine zC hf en_30 rfl (aAb (⟨r,g.1⟩:dD) (D.mono M) (B.mono M) R hc b) ?_
   rintro _ w ⟨i,d,k,o,rfl,hc⟩
   refine ⟨_,rfl,fun a hf=>?_⟩
   refine sp 5 hf rfl fun a hf=>zT h ?_
   refine zS fun K h=>sp 3 hf rfl fun a hf=>zT h ?_
   refine wp_ret ?_
   obtain rfl:=sj hF
   replace hc:=hc.down M
   replace hc:=(hc.drop k2).drop k1
   exact zO2 Tryz.results10 hf rfl rfl ⟨i,d,rfl,hc⟩

def sS (n:Int) (D:Int) (B:Int):Bool :=
 ((decide (D≤n)) && (decide (n≤B)))
theorem yM {G:aT} {Lf:List Ent} {w:World} (n:Int) (B:Int) (D:Int)   (hc:Ctx G (Lf) w) {H:Bool} (hF:sS n B D=H):Calls Tryz.prog 53 #[i6 n,i6 B,i6 D] w (fun e w=>e=.returned (.bool H)∧Ctx G (Lf) w):=by
 unfold sS at hF
 refine bL Tryz.func53 rfl Tryz.ntmps53 rfl fun a hf=>zS fun K h=>sp 1 hf rfl fun a hf=>zT h ?_
 refine zS fun K h=>sp 4 hf rfl fun a hf=>jX 4 (fun a=>Has 15 a [(0,i6 n),(1,i6 B),(2,i6 D),(6,.bool false),(7,i6 n),(8,i6 B),(9,.bool (decide (B≤n))),(10,.bool (decide (B≤n))),(14,.bool ((decide (B≤n)) && (decide (n≤D))))]) hc ?_ ?_
 ·cases hb:(decide (B≤n))
  ·rw [hb] at hf
   refine stS hf rfl rfl rfl fun a hf=>stS hf rfl rfl rfl fun a hf=>stS hf rfl rfl rfl fun a hf=>sp 1 hf rfl fun a hf=>aP ⟨hf.kp rfl,hc⟩
  ·rw [hb] at hf
   refine sp 4 hf rfl fun a hf=>aP ⟨hf.kp rfl,hc⟩
 intro a w ⟨hf,hc⟩
 refine sp 1 hf rfl fun a hf=>zT h ?_
 refine wp_ret ?_
 obtain rfl:=hF
 exact zO1 Tryz.results53 hf rfl ⟨rfl,hc⟩

def qD (n:Int):Bool :=
 (sS n 1 1000000)
theorem aA4 {G:aT} {Lf:List Ent} {w:World} (n:Int)   (hc:Ctx G (Lf) w) {B:Bool} (hF:qD n=B):Calls Tryz.prog 85 #[i6 n] w (fun e w=>e=.returned (.bool B)∧Ctx G (Lf) w):=by
 unfold qD at hF
 refine bL Tryz.func85 rfl Tryz.ntmps85 rfl fun a hf=>zS fun K h=>sp 1 hf rfl fun a hf=>zT h ?_
 refine zS fun K h=>sp 1 hf rfl fun a hf=>zQ (v:=.bool (sS n 1 1000000)) hf hc aMz rfl (fun w hc=>yM n 1 1000000 hc rfl) fun a w hf hc=>sp 1 hf rfl fun a hf=>zT h ?_
 refine wp_ret ?_
 obtain rfl:=hF
 exact zO1 Tryz.results85 hf rfl ⟨rfl,hc⟩

def oN (x:Int):Bool :=
 (!(qD x))
theorem yV {G:aT} {Lf:List Ent} {w:World} (x:Int) {b_:Nat}  (hc:Ctx G (.box b_ [.func (.func 85) #[] #[]] 56::Lf) w) {B:Bool} (hF:oN x=B):Calls Tryz.prog 122 #[i6 x,pq b_] w (fun e w=>e=.returned (.bool B)∧Ctx G (.box b_ [.func (.func 85) #[] #[]] 56::Lf) w):=by
 unfold oN at hF
 refine bL Tryz.func122 rfl Tryz.ntmps122 rfl fun a hf=>zS fun K h=>sp 1 hf rfl fun a hf=>zT h ?_
 refine zS fun K h=>zL hf hc aEm m0 rfl fun a w hf hc=>sp 1 hf rfl fun a hf=>zQ (v:=.bool (qD x)) hf hc en_85 rfl (fun w hc=>aA4 x hc rfl) fun a w hf hc=>sp 2 hf rfl fun a hf=>zT h ?_
 refine wp_ret ?_
 obtain rfl:=hF
 exact zO1 Tryz.results122 hf rfl ⟨rfl,hc⟩

def mZ (N:Nat) (s_:List Int) (x:Int):Option (bY (Int) (Int)) :=
 cond (decide (x < ((s_.length:Nat):Int)))
 (Option.bind (bE s_ x) fun B=>
 cond (oN B)
 (some (.ret x))
 (some (.cont (W (x + 1)))))
 (some (.brk x))
def kW (N:Nat) (s_:List Int):Option (Int) :=
 Option.bind (aX (fun s4=>mZ N s_ s4) N 0) fun x4=>
 exK x4 (fun s4=>some (-1)) some
theorem rO {N:Nat} {G:aT} {Lf:List Ent} {w:World} (s_:List Int) {H:Option Addr} {D:Nat} {b_:Nat} (O:Rd G 1 H D (s_.map aB)) (hc:Ctx G (.box b_ [.func (.func 85) #[] #[]] 56::Lf) w) {I:Int} (hF:kW N s_=some I):Calls Tryz.prog 39 #[.slice H s_.length D,.func (.func 122) #[] #[pq b_]] w (fun e w=>e=.returned (i6 I)∧Ctx G (.box b_ [.func (.func 85) #[] #[]] 56::Lf) w):=by
 unfold kW at hF
 refine bL Tryz.func39 rfl Tryz.ntmps39 rfl fun a hf=>zS fun K h=>sp 1 hf rfl fun a hf=>zT h ?_
 refine wp_seq_k fun K2 h2=>zS fun K h=>sp 1 hf rfl fun a hf=>zP hf rfl (bG Tryz.underlying23 rfl) fun a hf=>sp 1 hf rfl fun a hf=>zT h ?_
 refine wp_block ?_
 obtain ⟨x4,V,hF⟩:=aA hF
 let S4:Int→Act→World→Prop:=(fun (zz:Int) a w=>Has 19 a [(0,.slice H s_.length D),(1,.func (.func 122) #[] #[pq b_]),(7,i6 ((s_.length:Nat):Int)),(8,i6 zz)]∧Ctx G (.box b_ [.func (.func 85) #[] #[]] 56::Lf) w)
 have R:∀ (zz:Int) a w,x4=.go zz→S4 zz a w→K2 a w:=by
  rintro x a w rfl ⟨hf,hc⟩
  replace hF:=bK hF
  refine h2 _ _ ?_
  refine zS fun K h=>sp 1 hf rfl fun a hf=>zT h ?_
  refine wp_ret ?_
  obtain rfl:=sj hF
  exact zO1 Tryz.results39 hf rfl ⟨rfl,hc⟩
 have X:∀ r,x4=.out r→r=I:=by
  rintro r rfl
  exact sj hF
 refine cZ N (cW (S:=S4) (x:=x4) ?_ N 0 _ _ ⟨hf.kp rfl,hc⟩ V)
 clear hF hf hc
 rintro x Z a w KB4 ⟨hf,hc⟩ hF B U
 unfold mZ at hF
 refine zS fun K h=>sp 1 hf rfl fun a hf=>zT h ?_
 refine wp_seq_k fun K7 h7=>zI hf rfl hF ?_ ?_ <;> clear hF <;> intro hF
 ·refine wp_skip ?_
  refine h7 _ _ ?_
  refine wp_seq_k fun K8 h8=>wp_block ?_
  refine zS fun K h=>sp 2 hf rfl fun a hf=>zT h ?_
  refine zS fun K h=>sp 3 hf rfl fun a hf=>?_
  obtain ⟨J,M,hF⟩:=aA hF
  obtain ⟨Y,o,qa,qp⟩:=O.atm M
  refine zP hf rfl (pIA Tryz.underlying23 fO rfl rfl qa) fun a hf=>zE hf hc rfl (eP cR rfl (dI (j:=0) qp rfl)) fun a w hf hc=>zQ (v:=.bool (oN J)) hf hc aRa rfl (fun w hc=>(yV J (hc.pick k0) rfl).mono fun e w h=>⟨h.1,(h.2.unpick k0)⟩) fun a w hf hc=>zT h ?_
  refine zI hf rfl hF ?_ ?_ <;> clear hF <;> intro hF
  ·refine zS fun K h=>sp 2 hf rfl fun a hf=>zT h ?_
   refine wp_ret ?_
   refine bS ?_
   refine aL ?_
   refine aL ?_
   have he:=sj hF
   rw [← he] at B
   replace hF:=X _ B
   refine bS ?_
   refine aL ?_
   obtain rfl:=hF
   exact zO1 Tryz.results39 hf rfl ⟨rfl,hc⟩
  ·refine wp_skip ?_
   refine h8 _ _ ?_
   refine bV ?_
   refine sp 2 hf rfl fun a hf=>aP ?_
   exact U (W (x + 1)) _ _ (sj hF).symm ⟨hf.kp rfl,hc⟩
 ·refine wp_exit ?_
  refine aY ?_
  refine aY ?_
  have he:=sj hF
  rw [← he] at B
  refine fJ ?_
  exact R _ _ _ B ⟨hf.kp rfl,hc⟩

def jU (N:Nat) (s_:List Int):Option (Bool) :=
 Option.bind (kW N s_) fun r=>
 some (decide (0≤r))
theorem qM {N:Nat} {G:aT} {Lf:List Ent} {w:World} (s_:List Int) {B:Option Addr} {D:Nat} {b_:Nat} (I:Rd G 1 B D (s_.map aB)) (hc:Ctx G (.box b_ [.func (.func 85) #[] #[]] 56::Lf) w) {H:Bool} (hF:jU N s_=some H):Calls Tryz.prog 36 #[.slice B s_.length D,.func (.func 122) #[] #[pq b_]] w (fun e w=>e=.returned (.bool H)∧Ctx G (.box b_ [.func (.func 85) #[] #[]] 56::Lf) w):=by
 unfold jU at hF
 refine bL Tryz.func36 rfl Tryz.ntmps36 rfl fun a hf=>zS fun K h=>sp 1 hf rfl fun a hf=>zT h ?_
 refine zS fun K h=>sp 2 hf rfl fun a hf=>?_
 obtain ⟨r,hr,hF⟩:=aA hF
 refine zQ (v:=i6 r) hf hc aAn rfl (fun w hc=>(rO s_ I (hc.pick k0) hr).mono fun e w h=>⟨h.1,(h.2.unpick k0)⟩) fun a w hf hc=>sp 2 hf rfl fun a hf=>zT h ?_
 refine wp_ret ?_
 obtain rfl:=sj hF
 exact zO1 Tryz.results36 hf rfl ⟨rfl,hc⟩

def tA (N:Nat) (l:List Int):Option (Bool) :=
 Option.bind (jU N l) fun r=>
 some (!r)
theorem aAt {N:Nat} {G:aT} {Lf:List Ent} {w:World} (l:List Int) {H:Option Addr} {B:Nat} (I:Rd G 1 H B (l.map aB)) (hc:Ctx G (Lf) w) {D:Bool} (hF:tA N l=some D):Calls Tryz.prog 84 #[.slice H l.length B,.func (.func 85) #[] #[]] w (fun e w=>e=.returned (.bool D)∧Ctx G (Lf) w):=by
 unfold tA at hF
 refine bL Tryz.func84 rfl Tryz.ntmps84 rfl fun a hf=>zS fun K h=>zB hf hc rfl fun J a w hf hc=>sp 1 hf rfl fun a hf=>zT h ?_
 refine zS fun K h=>sp 1 hf rfl fun a hf=>zP hf rfl (pMF (us:=[pq J]) rfl rfl) fun a hf=>?_
 obtain ⟨r,hr,hF⟩:=aA hF
 refine zQ (v:=.bool r) hf hc aAp rfl (fun w hc=>(qM l I (hc.pick k0) hr).mono fun e w h=>⟨h.1,(h.2.unpick k0)⟩) fun a w hf hc=>sp 2 hf rfl fun a hf=>zT h ?_
 refine wp_ret ?_
 obtain rfl:=sj hF
 replace hc:=hc.drop k0
 exact zO1 Tryz.results84 hf rfl ⟨rfl,hc⟩

def vL (N:Nat) (B:List Int):Option (Int) :=
 cond (!(sS ((B.length:Nat):Int) 1 12))
 (some 3)
 (Option.bind (tA N B) fun r=>
 cond (!r)
 (some 4)
 (some 0))
theorem aCl {N:Nat} {G:aT} {Lf:List Ent} {w:World} (B:List Int) {D:Option Addr} {H:Nat} (I:Rd G 1 D H (B.map aB)) (hc:Ctx G (Lf) w) {J:Int} (hF:vL N B=some J):Calls Tryz.prog 52 #[.slice D B.length H] w (fun e w=>e=.returned (i6 J)∧Ctx G (Lf) w):=by
 unfold vL at hF
 refine bL Tryz.func52 rfl Tryz.ntmps52 rfl fun a hf=>zS fun K h=>sp 1 hf rfl fun a hf=>zT h ?_
 refine wp_seq_k fun K2 h2=>wp_block ?_
 refine zS fun K h=>sp 1 hf rfl fun a hf=>zP hf rfl (bG Tryz.underlying23 rfl) fun a hf=>zQ (v:=.bool (sS ((B.length:Nat):Int) 1 12)) hf hc aMz rfl (fun w hc=>yM ((B.length:Nat):Int) 1 12 hc rfl) fun a w hf hc=>sp 2 hf rfl fun a hf=>zT h ?_
 refine zI hf rfl hF ?_ ?_ <;> clear hF <;> intro hF
 ·refine zS fun K h=>sp 1 hf rfl fun a hf=>zT h ?_
  refine wp_ret ?_
  refine bS ?_
  refine aL ?_
  obtain rfl:=sj hF
  exact zO1 Tryz.results52 hf rfl ⟨rfl,hc⟩
 ·refine zS fun K h=>sp 1 hf rfl fun a hf=>?_
  obtain ⟨r,hr,hF⟩:=aA hF
  refine zQ (v:=.bool r) hf hc en_84 rfl (fun w hc=>aAt B I hc hr) fun a w hf hc=>sp 2 hf rfl fun a hf=>zT h ?_
  refine zI hf rfl hF ?_ ?_ <;> clear hF <;> intro hF
  ·refine zS fun K h=>sp 1 hf rfl fun a hf=>zT h ?_
   refine wp_ret ?_
   refine bS ?_
   refine aL ?_
   obtain rfl:=sj hF
   exact zO1 Tryz.results52 hf rfl ⟨rfl,hc⟩
  ·refine wp_skip ?_
   refine h2 _ _ ?_
   refine zS fun K h=>sp 1 hf rfl fun a hf=>zT h ?_
   refine wp_ret ?_
   obtain rfl:=sj hF
   exact zO1 Tryz.results52 hf rfl ⟨rfl,hc⟩

def pI (r:Int):Bool :=
 ((decide (0≤r)) && (decide (r≤2)))
theorem aAf {G:aT} {Lf:List Ent} {w:World} (r:Int)   (hc:Ctx G (Lf) w) {B:Bool} (hF:pI r=B):Calls Tryz.prog 54 #[i6 r] w (fun e w=>e=.returned (.bool B)∧Ctx G (Lf) w):=by
 unfold pI at hF
 refine bL Tryz.func54 rfl Tryz.ntmps54 rfl fun a hf=>zS fun K h=>sp 1 hf rfl fun a hf=>zT h ?_
 refine zS fun K h=>sp 3 hf rfl fun a hf=>jX 3 (fun a=>Has 9 a [(0,i6 r),(2,.bool false),(3,i6 r),(4,.bool (decide (0≤r))),(5,.bool (decide (0≤r))),(8,.bool ((decide (0≤r)) && (decide (r≤2))))]) hc ?_ ?_
 ·cases hb:(decide (0≤r))
  ·rw [hb] at hf
   refine stS hf rfl rfl rfl fun a hf=>stS hf rfl rfl rfl fun a hf=>sp 1 hf rfl fun a hf=>aP ⟨hf.kp rfl,hc⟩
  ·rw [hb] at hf
   refine sp 3 hf rfl fun a hf=>aP ⟨hf.kp rfl,hc⟩
 intro a w ⟨hf,hc⟩
 refine sp 1 hf rfl fun a hf=>zT h ?_
 refine wp_ret ?_
 obtain rfl:=hF
 exact zO1 Tryz.results54 hf rfl ⟨rfl,hc⟩

def rB (N:Nat) (r:Int) (B:Int) (n:Int):Option (eU) :=
 cond (r == 0)
 (some (⟨W (2 * B),W (2 * n)⟩:eU))
 (cond (r == 1)
 (some (⟨W (2 * B),W ((W (2 * n)) - 1)⟩:eU))
 (some (⟨W (2 * B),W ((W (2 * n)) - 2)⟩:eU)))
theorem vA {N:Nat} {G:aT} {Lf:List Ent} {w:World} (r:Int) (B:Int) (n:Int)   (hc:Ctx G (Lf) w) {D:eU} (hF:rB N r B n=some D):Calls Tryz.prog 55 #[i6 r,i6 B,i6 n] w (fun e w=>e=.returned (.agg #[i6 D.claim,i6 D.by_])∧Ctx G (Lf) w):=by
 unfold rB at hF
 refine bL Tryz.func55 rfl Tryz.ntmps55 rfl fun a hf=>zS fun K h=>zA hf hc aJe rfl fun H a w hf hc=>zT h ?_
 refine wp_seq_k fun K2 h2=>zS fun K h=>sp 1 hf rfl fun a hf=>zT h ?_
 refine wp_block ?_
 refine zS fun K h=>sp 2 hf rfl fun a hf=>zT h ?_
 refine zI hf rfl hF ?_ ?_ <;> clear hF <;> intro hF
 ·refine zS fun K h=>sp 4 hf rfl fun a hf=>zP hf rfl (iF (cells:=[i6 (W (2 * B)),i6 (W (2 * n))]) aI9 rfl rfl) fun a hf=>zW hf hc aCh u0 rfl fun w hc=>zT h ?_
  refine wp_ret ?_
  refine bS ?_
  refine aL ?_
  obtain rfl:=sj hF
  exact aCi (by simp) rfl Tryz.results55 hf hc (jH (vs:=[i6 (W (2 * B)),i6 (W (2 * n))]) yG rfl rfl (dN (n:=2) m0 rfl)) ⟨rfl,(hc.drop k0)⟩
 ·refine zS fun K h=>sp 2 hf rfl fun a hf=>zT h ?_
  refine zI hf rfl hF ?_ ?_ <;> clear hF <;> intro hF
  ·refine zS fun K h=>sp 5 hf rfl fun a hf=>zP hf rfl (iF (cells:=[i6 (W (2 * B)),i6 (W ((W (2 * n)) - 1))]) aI9 rfl rfl) fun a hf=>zW hf hc aCh u0 rfl fun w hc=>zT h ?_
   refine wp_ret ?_
   refine bS ?_
   refine aL ?_
   obtain rfl:=sj hF
   exact aCi (by simp) rfl Tryz.results55 hf hc (jH (vs:=[i6 (W (2 * B)),i6 (W ((W (2 * n)) - 1))]) yG rfl rfl (dN (n:=2) m0 rfl)) ⟨rfl,(hc.drop k0)⟩
  ·refine wp_skip ?_
   refine h2 _ _ ?_
   refine zS fun K h=>sp 5 hf rfl fun a hf=>zP hf rfl (iF (cells:=[i6 (W (2 * B)),i6 (W ((W (2 * n)) - 2))]) aI9 rfl rfl) fun a hf=>zW hf hc aCh u0 rfl fun w hc=>zT h ?_
   refine wp_ret ?_
   obtain rfl:=sj hF
   exact aCi (by simp) rfl Tryz.results55 hf hc (jH (vs:=[i6 (W (2 * B)),i6 (W ((W (2 * n)) - 2))]) yG rfl rfl (dN (n:=2) m0 rfl)) ⟨rfl,(hc.drop k0)⟩

def kZ (q:eU) (r:eU):Bool :=
 (decide ((W (r.claim * q.by_)) < (W (q.claim * r.by_))))
theorem wQ {G:aT} {Lf:List Ent} {w:World} (q:eU) (r:eU)   (hc:Ctx G (Lf) w) {B:Bool} (hF:kZ q r=B):Calls Tryz.prog 56 #[.agg #[i6 q.claim,i6 q.by_],.agg #[i6 r.claim,i6 r.by_]] w (fun e w=>e=.returned (.bool B)∧Ctx G (Lf) w):=by
 unfold kZ at hF
 refine bL Tryz.func56 rfl Tryz.ntmps56 rfl fun a hf=>zS fun K h=>zB hf hc rfl fun H a w hf hc=>zB hf hc rfl fun D a w hf hc=>sp 1 hf rfl fun a hf=>zT h ?_
 refine zS fun K h=>zP hf rfl (pFA aHz rfl) fun a hf=>zL hf hc cR m1 rfl fun a w hf hc=>zP hf rfl (pFA aHi rfl) fun a hf=>zL hf hc cR m0 rfl fun a w hf hc=>sp 1 hf rfl fun a hf=>zP hf rfl (pFA aHz rfl) fun a hf=>zL hf hc cR m0 rfl fun a w hf hc=>zP hf rfl (pFA aHi rfl) fun a hf=>zL hf hc cR m1 rfl fun a w hf hc=>sp 3 hf rfl fun a hf=>zT h ?_
 refine wp_ret ?_
 obtain rfl:=hF
 replace hc:=(hc.drop k1).drop k0
 exact zO1 Tryz.results56 hf rfl ⟨rfl,hc⟩

def qB (N:Nat) (I:Int) (B:Int) (H:Int) (D:Int):Option (bY (Int × Int × Int × Int) (bY ((List Int) × Int) ((List Int) × Int))) :=
 some (.cont (B,W (I + 1),H,D))
def wZ (N:Nat) (D:List Int) (O:Int) (out:List Int) (M:Int) (B:Int) (I:Int) (J:Int):Option (bY (Int × Int × Int × Int) (bY ((List Int) × Int) ((List Int) × Int))) :=
 cond (decide (B < ((D.length:Nat):Int)))
 (Option.bind (bE D B) fun R=>
 Option.bind (bE out B) fun S=>
 Option.bind (rB N O R (W (S + 1))) fun H=>
 cond ((!(H.claim == I && H.by_ == J)) && (kZ H (⟨I,J⟩:eU)))
 (qB N B B H.claim H.by_)
 (qB N B M I J))
 (some (.brk (M,B,I,J)))
def wY (N:Nat) (D:List Int) (J:Int) (H:Int) (out:List Int) (x:Int):Option (bY ((List Int) × Int) ((List Int) × Int)) :=
 cond (decide (x < J))
 (Option.bind (bE D 0) fun O=>
 Option.bind (bE out 0) fun S=>
 Option.bind (rB N H O (W (S + 1))) fun I=>
 Option.bind (aX (fun B=>wZ N D H out B.1 B.2.1 B.2.2.1 B.2.2.2) N (0,0,I.claim,I.by_)) fun R=>
 exK R (fun B=>Option.bind (bE out B.1) fun M=>
 Option.bind (bE out B.1) fun U=>
 some (.cont ((out.set B.1.toNat (W (M + 1))),W (x + 1)))) some)
 (some (.brk (out,x)))
def xW (N:Nat) (B:List Int) (D:Int) (H:Int):Option ((List Int) × Int) :=
 Option.bind (vL N B) fun r=>
 cond (r != 0)
 (some (([]:List Int),r))
 (cond (!(sS D 1 366))
 (some (([]:List Int),4))
 (cond (!(pI H))
 (some (([]:List Int),2))
 (cond ((H == 2) && (decide (D < ((B.length:Nat):Int))))
 (some (([]:List Int),6))
 (Option.bind (inM ((B.length:Nat):Int)) fun un=>
 Option.bind (aX (fun I=>wY N B D H I.1 I.2) N ((List.replicate ((B.length:Nat):Int).toNat (0:Int)),0)) fun J=>
 exK J (fun I=>some (I.1,0)) some))))
theorem aEx {N:Nat} {G:aT} {Lf:List Ent} {w:World} (B:List Int) (O:Int) (I:Int) {H:Option Addr} {D:Nat} (Z:Rd G 1 H D (B.map aB)) (hc:Ctx G (Lf) w) {y:(List Int) × Int} (hF:xW N B O I=some y):Calls Tryz.prog 28 #[.slice H B.length D,i6 O,i6 I] w (fun e w=>∃ (ap:Option Addr) (an:Nat),e=.returned (.tuple #[.slice ap y.1.length an,i6 y.2])∧Ctx G (.row ap an (y.1.map aB) 3 1::Lf) w):=by
 unfold xW at hF
 refine bL Tryz.func28 rfl Tryz.ntmps28 rfl fun a hf=>zS fun K h=>sp 2 hf rfl fun a hf=>zT h ?_
 refine zS fun K h=>sp 1 hf rfl fun a hf=>?_
 obtain ⟨r,hr,hF⟩:=aA hF
 refine zQ (v:=i6 r) hf hc en_52 rfl (fun w hc=>aCl B Z hc hr) fun a w hf hc=>sp 1 hf rfl fun a hf=>zT h ?_
 refine wp_seq_k fun K3 h3=>wp_block ?_
 refine zS fun K h=>sp 3 hf rfl fun a hf=>zT h ?_
 refine zI hf rfl hF ?_ ?_ <;> clear hF <;> intro hF
 ·refine zS fun K h=>sp 3 hf rfl fun a hf=>zT h ?_
  refine wp_ret ?_
  refine bS ?_
  refine aL ?_
  obtain rfl:=sj hF
  replace hc:=hc.nilRow 3 1
  exact zO2 Tryz.results28 hf rfl rfl ⟨none,0,rfl,hc⟩
 ·refine zS fun K h=>sp 1 hf rfl fun a hf=>zQ (v:=.bool (sS O 1 366)) hf hc aMz rfl (fun w hc=>yM O 1 366 hc rfl) fun a w hf hc=>sp 2 hf rfl fun a hf=>zT h ?_
  refine zI hf rfl hF ?_ ?_ <;> clear hF <;> intro hF
  ·refine zS fun K h=>sp 2 hf rfl fun a hf=>zT h ?_
   refine wp_ret ?_
   refine bS ?_
   refine aL ?_
   obtain rfl:=sj hF
   replace hc:=hc.nilRow 3 1
   exact zO2 Tryz.results28 hf rfl rfl ⟨none,0,rfl,hc⟩
  ·refine zS fun K h=>sp 1 hf rfl fun a hf=>zQ (v:=.bool (pI I)) hf hc en_54 rfl (fun w hc=>aAf I hc rfl) fun a w hf hc=>sp 2 hf rfl fun a hf=>zT h ?_
   refine zI hf rfl hF ?_ ?_ <;> clear hF <;> intro hF
   ·refine zS fun K h=>sp 2 hf rfl fun a hf=>zT h ?_
    refine wp_ret ?_
    refine bS ?_
    refine aL ?_
    obtain rfl:=sj hF
    replace hc:=hc.nilRow 3 1
    exact zO2 Tryz.results28 hf rfl rfl ⟨none,0,rfl,hc⟩
   ·refine zS fun K h=>sp 3 hf rfl fun a hf=>jX 5 (fun a=>Has 87 a [(0,.slice H B.length D),(1,i6 O),(2,i6 I),(30,i6 I),(31,.bool (I == 2)),(32,.bool (I == 2)),(37,.bool ((I == 2) && (decide (O < ((B.length:Nat):Int)))))]) hc ?_ ?_
    ·cases hb:(I == 2)
     ·rw [hb] at hf
      refine stS hf rfl rfl rfl fun a hf=>stS hf rfl rfl rfl fun a hf=>stS hf rfl rfl rfl fun a hf=>stS hf rfl rfl rfl fun a hf=>sp 1 hf rfl fun a hf=>aP ⟨hf.kp rfl,hc⟩
     ·rw [hb] at hf
      refine sp 2 hf rfl fun a hf=>zP hf rfl (bG Tryz.underlying23 rfl) fun a hf=>sp 2 hf rfl fun a hf=>aP ⟨hf.kp rfl,hc⟩
    intro a w ⟨hf,hc⟩
    refine sp 1 hf rfl fun a hf=>zT h ?_
    refine zI hf rfl hF ?_ ?_ <;> clear hF <;> intro hF
    ·refine zS fun K h=>sp 2 hf rfl fun a hf=>zT h ?_
     refine wp_ret ?_
     refine bS ?_
     refine aL ?_
     obtain rfl:=sj hF
     replace hc:=hc.nilRow 3 1
     exact zO2 Tryz.results28 hf rfl rfl ⟨none,0,rfl,hc⟩
    ·refine wp_skip ?_
     refine h3 _ _ ?_
     refine zS fun K h=>sp 1 hf rfl fun a hf=>zP hf rfl (bG Tryz.underlying23 rfl) fun a hf=>?_
     obtain ⟨un,bm,hF⟩:=aA hF
     refine stMk (m:=(List.replicate ((B.length:Nat):Int).toNat (0:Int)).length) (rows:=(List.replicate ((B.length:Nat):Int).toNat (0:Int)).map aB) hf hc rfl rfl jA rfl rfl (aEv bm) rfl rfl (by simp [List.map_replicate,Value.cells]) (by simp) fun bk a w hf hc=>sp 1 hf rfl fun a hf=>zT h ?_
     refine wp_seq_k fun K13 bj=>zS fun K h=>sp 2 hf rfl fun a hf=>zT h ?_
     refine wp_block ?_
     obtain ⟨ag,bc,hF⟩:=aA hF
     let S15:((List Int) × Int)→Act→World→Prop:=(fun (zz:(List Int) × Int) a w=>∃ (q:Option Addr) (M:Nat),Has 87 a [(0,.slice H B.length D),(2,i6 I),(9,.slice q zz.1.length M),(41,i6 O),(42,i6 zz.2)]∧Ctx G (.row q M (zz.1.map aB) 3 1::Lf) w)
     have ax:∀ (zz:(List Int) × Int) a w,ag=.go zz→S15 zz a w→K13 a w:=by
      rintro ⟨out,x⟩ a w rfl ⟨q,M,hf,hc⟩
      replace hF:=bK hF
      refine bj _ _ ?_
      refine zS fun K h=>sp 3 hf rfl fun a hf=>zT h ?_
      refine wp_ret ?_
      obtain rfl:=sj hF
      exact zO2 Tryz.results28 hf rfl rfl ⟨q,M,rfl,hc⟩
     have b5:∀ r,ag=.out r→r=y:=by
      rintro r rfl
      exact sj hF
     refine cZ N (cW (S:=S15) (x:=ag) ?_ N ((List.replicate ((B.length:Nat):Int).toNat (0:Int)),0) _ _ ⟨(some ⟨bk,0,none⟩),((B.length:Nat):Int).toNat,hf.kp rfl,hc⟩ bc)
     clear hF hf hc
     rintro ⟨out,x⟩ bd a w KB15 ⟨q,M,hf,hc⟩ hF t av
     unfold wY at hF
     refine zS fun K h=>sp 1 hf rfl fun a hf=>zT h ?_
     refine wp_seq_k fun K18 br=>zI hf rfl hF ?_ ?_ <;> clear hF <;> intro hF
     ·refine wp_skip ?_
      refine br _ _ ?_
      refine wp_seq_k fun K19 b2=>wp_block ?_
      refine wp_seq_k fun K20 b0=>?_
      obtain ⟨aq,a5,hF⟩:=aA hF
      obtain ⟨bp,o,qa,qp⟩:=Z.atm a5
      obtain ⟨aj,a7,hF⟩:=aA hF
      have bu:=hf
      obtain ⟨g,rfl,ay,qr⟩:=hP hc m0 a7
      have hf:=bu
      obtain ⟨Y,bb,hF⟩:=aA hF
      replace hc:=hc.nilRow 0 0
      refine eL (fun θ=>[⟨none,none,0,.slice H B.length D⟩,⟨none,none,2,i6 I⟩,⟨none,none,9,.slice (some ⟨g,0,none⟩) out.length M⟩,⟨none,none,41,i6 O⟩,⟨none,none,42,i6 x⟩,⟨some 0,none,44,i6 I⟩,⟨some 1,none,45,.slice H B.length D⟩,⟨some 2,none,46,.pointer (some ⟨bp,o,none⟩)⟩,⟨some 3,none,47,i6 aq⟩,⟨some 4,none,48,.slice (some ⟨g,0,none⟩) out.length M⟩,⟨some 5,none,49,.pointer (some ⟨g,(0:Int).toNat * 1,none⟩)⟩,⟨some 6,none,50,i6 aj⟩,⟨some 7,none,51,i6 (W (aj + 1))⟩,⟨some 8,none,52,.agg #[i6 Y.claim,i6 Y.by_]⟩,⟨some 9,none,11,.pointer (some ⟨(θ 72).b,0,none⟩)⟩,⟨some 10,none,10,i6 0⟩]) (fun E θ=>(bif E 11 then .box (θ 72).b [i6 Y.claim,i6 Y.by_] 120 else bif E 9 then .box (θ 72).b [i6 0,i6 0] 120 else .row none 0 [] 0 0)::.row (some ⟨g,0,none⟩) M (out.map aB) 3 1::Lf) [(11,9)] (fun a w=>∃ (U:Nat),Has 87 a [(0,.slice H B.length D),(2,i6 I),(9,.slice (some ⟨g,0,none⟩) out.length M),(41,i6 O),(42,i6 x),(11,pq U),(10,i6 0)]∧Ctx G (.box U [i6 Y.claim,i6 Y.by_] 120::.row (some ⟨g,0,none⟩) M (out.map aB) 3 1::Lf) w) bA (by kernel_rfl) (by kernel_rfl) (fN.of hf ⟨rfl,rfl,rfl,rfl,rfl,trivial,trivial,trivial,trivial,trivial,trivial,trivial,trivial,trivial,trivial,trivial,trivial⟩) hc ⟨?_,?_,?_,?_,?_,?_,?_,?_,?_,?_,?_,?_,trivial⟩ ?_ ?_
      ·intro E θ a w hD hi hp he hc
       have hf:=he.h0.mT he 1 rfl
       refine sp 1 hf rfl fun a hf=>zD θ he hi hf 5 rfl rfl rfl hc
      ·intro E θ a w hD hi hp he hc
       have hf:=he.h0.mT he 0 rfl
       refine sp 1 hf rfl fun a hf=>zD θ he hi hf 6 rfl rfl rfl hc
      ·intro E θ a w hD hi hp he hc
       have e1:=hp.o 1 rfl
       have hf:=he.h0.mP he 6 rfl e1
       refine zP hf rfl (pIA Tryz.underlying23 fO rfl rfl qa) fun a hf=>zD θ he hi hf 7 rfl rfl rfl hc
      ·intro E θ a w hD hi hp he hc
       have e2:=hp.o 2 rfl
       have hf:=he.h0.mP he 7 rfl e2
       refine zE hf hc rfl (eP cR rfl (dI (j:=0) qp rfl)) fun a w hf hc=>zD θ he hi hf 8 rfl rfl rfl hc
      ·intro E θ a w hD hi hp he hc
       have hf:=he.h0.mT he 2 rfl
       refine sp 1 hf rfl fun a hf=>zD θ he hi hf 9 rfl rfl rfl hc
      ·intro E θ a w hD hi hp he hc
       have e4:=hp.o 4 rfl
       have hf:=he.h0.mP he 9 rfl e4
       refine zP hf rfl (pIA Tryz.underlying23 fO rfl rfl ay) fun a hf=>zD θ he hi hf 10 rfl rfl rfl hc
      ·intro E θ a w hD hi hp he hc
       have e5:=hp.o 5 rfl
       have hf:=he.h0.mP he 10 rfl e5
       refine zE hf hc rfl (eP cR rfl (fZ (sz:=1) (i:=(0:Int).toNat) (j:=0) m1 qr rfl)) fun a w hf hc=>zD θ he hi hf 11 rfl rfl rfl hc
      ·intro E θ a w hD hi hp he hc
       have e6:=hp.o 6 rfl
       have hf:=he.h0.mP he 11 rfl e6
       refine sp 1 hf rfl fun a hf=>zD θ he hi hf 12 rfl rfl rfl hc
      ·intro E θ a w hD hi hp he hc
       have e0:=hp.o 0 rfl
       have e3:=hp.o 3 rfl
       have e7:=hp.o 7 rfl
       have hf:=((he.h0.mP he 5 rfl e0).mP he 8 rfl e3).mP he 12 rfl e7
       refine zQ (v:=.agg #[i6 Y.claim,i6 Y.by_]) hf hc aO9 rfl (fun w hc=>vA I aq (W (aj + 1)) hc bb) fun a w hf hc=>zD θ he hi hf 13 rfl rfl rfl hc
      ·intro E θ a w hD hi hp he hc
       have af:=hD.f 0 rfl hi
       try dsimp only at hc
       rw [hi,af] at hc
       have hf:=he.h0
       refine zA hf hc aJe rfl fun bq a w hf hc=>aP ?_
       refine eJ ?_
       intro ds u bt
       replace hc:=hc.drop k1
       refine ⟨(nF θ 72 ⟨bq,none,0,(fun _=>(none,0))⟩),he.put hi bt hf rfl [] trivial ⟨qq,qq,qq,qq,qq,qq,qq,qq,qq,qq,qq,qq,qq,qq,qq,qq,trivial⟩,?_⟩
       try dsimp only
       rw [aS E 9,aQ 9 af rfl]
       exact hc
      ·intro E θ a w hD hi hp he hc
       have hf:=he.h0
       refine sp 1 hf rfl fun a hf=>zD θ he hi hf 15 rfl rfl rfl hc
      ·intro E θ a w hD hi hp he hc
       have e8:=hp.o 8 rfl
       have e9:=hp.o 9 rfl
       try dsimp only at hc
       rw [e9,hi] at hc
       have hf:=(he.h0.mP he 13 rfl e8).mP he 14 rfl e9
       refine zW hf hc aCh u0 rfl fun w hc=>zG θ he hi hf rfl ?_
       try dsimp only
       rw [eC 11 e9,aS E 11]
       exact hc
      ·intro E θ a w d he hc
       have hf:=he.h0
       have e9:=d 9 rfl
       have bn:=d 10 rfl
       have af:=d 11 rfl
       replace hf:=hf.more he 15 rfl (onP bn)
       replace hf:=hf.more he 14 rfl (onP e9)
       replace hf:=hf.more he 4 rfl (onT)
       replace hf:=hf.more he 3 rfl (onT)
       replace hf:=hf.more he 2 rfl (onT)
       replace hf:=hf.more he 1 rfl (onT)
       replace hf:=hf.more he 0 rfl (onT)
       try dsimp only at hc
       rw [e9,af] at hc
       exact ⟨(θ 72).b,hf.kp rfl,hc⟩
      rintro a w ⟨U,hf,hc⟩
      refine b0 _ _ ?_
      refine wp_seq_k fun K21 bz=>zS fun K h=>sp 1 hf rfl fun a hf=>zP hf rfl (bG Tryz.underlying23 rfl) fun a hf=>sp 1 hf rfl fun a hf=>zT h ?_
      refine wp_block ?_
      obtain ⟨ai,au,hF⟩:=aA hF
      let S23:(Int × Int × Int × Int)→Act→World→Prop:=(fun (zz:Int × Int × Int × Int) a w=>Has 87 a [(0,.slice H B.length D),(2,i6 I),(9,.slice (some ⟨g,0,none⟩) out.length M),(10,i6 zz.1),(11,pq U),(41,i6 O),(42,i6 x),(53,.slice H B.length D),(54,i6 ((B.length:Nat):Int)),(55,i6 zz.2.1)]∧Ctx G (.box U [i6 zz.2.2.1,i6 zz.2.2.2] 120::.row (some ⟨g,0,none⟩) M (out.map aB) 3 1::Lf) w)
      have a3:∀ (zz:Int × Int × Int × Int) a w,ai=.go zz→S23 zz a w→K21 a w:=by
       rintro ⟨p,R,V,X⟩ a w rfl ⟨hf,hc⟩
       replace hF:=bK hF
       refine bz _ _ ?_
       refine bV ?_
       refine sp 2 hf rfl fun a hf=>?_
       obtain ⟨ac,a2,hF⟩:=aA hF
       obtain ⟨a6,a4⟩:=eY hc m1 a2
       refine zP hf rfl (pIA Tryz.underlying23 fO rfl rfl a6) fun a hf=>zE hf hc rfl (eP cR rfl (fZ (sz:=1) (i:=p.toNat) (j:=0) m1 a4 rfl)) fun a w hf hc=>sp 1 hf rfl fun a hf=>?_
       obtain ⟨b7,ak,hF⟩:=aA hF
       obtain ⟨ar,b4⟩:=eY hc m1 ak
       refine zP hf rfl (pIA Tryz.underlying23 fO rfl rfl ar) fun a hf=>yA (sz:=1) (vs:=[i6 (W (ac + 1))]) (o':=0) (z:=W (ac + 1)) (xs:=out) hf hc rfl rfl rfl rfl fO rfl (fun x=>(bZ x).1) (mL ak) (fun _ _=>rfl) rfl u1 fun w hc=>aP ?_
       refine b2 _ _ ?_
       refine bV ?_
       refine sp 2 hf rfl fun a hf=>aP ?_
       replace hf:=hf.castAt 9 (v':=.slice (some ⟨g,0,none⟩) ((out.set p.toNat (W (ac + 1))).length) M) rfl (congrArg (fun k=>Value.slice (some ⟨g,0,none⟩) k M) (by simp))
       replace hc:=hc.drop k0
       exact av ((out.set p.toNat (W (ac + 1))),W (x + 1)) _ _ (sj hF).symm ⟨(some ⟨g,0,none⟩),M,hf.kp rfl,hc⟩
      have b3:∀ r,ai=.out r→r=bd:=by
       rintro r rfl
       exact sj hF
      refine cZ N (cW (S:=S23) (x:=ai) ?_ N (0,0,Y.claim,Y.by_) _ _ ⟨hf.kp rfl,hc⟩ au)
      clear hF hf hc
      rintro ⟨p,R,V,X⟩ bf a w KB23 ⟨hf,hc⟩ hF s a1
      unfold wZ at hF
      refine zS fun K h=>sp 1 hf rfl fun a hf=>zT h ?_
      refine wp_seq_k fun K25 bs=>zI hf rfl hF ?_ ?_ <;> clear hF <;> intro hF
      ·refine wp_skip ?_
       refine bs _ _ ?_
       refine wp_seq_k fun K26 b1=>?_
       have am:∀ (n:Int) (ab:Int) (ad:Int) a w,Has 87 a [(0,.slice H B.length D),(2,i6 I),(9,.slice (some ⟨g,0,none⟩) out.length M),(10,i6 n),(11,pq U),(41,i6 O),(42,i6 x),(53,.slice H B.length D),(54,i6 ((B.length:Nat):Int)),(55,i6 R)]→Ctx G (.box U [i6 ab,i6 ad] 120::.row (some ⟨g,0,none⟩) M (out.map aB) 3 1::Lf) w→qB N R n ab ad=some bf→K26 a w:=by
        repeat (clear hF)
        repeat (clear hc)
        repeat (clear hf)
        intro n ab ad a w hf hc hF
        unfold qB at hF
        refine b1 _ _ ?_
        refine bV ?_
        refine sp 2 hf rfl fun a hf=>aP ?_
        exact a1 (n,W (R + 1),ab,ad) _ _ (sj hF).symm ⟨hf.kp rfl,hc⟩
       refine wp_block ?_
       refine zS fun K h=>sp 1 hf rfl fun a hf=>?_
       obtain ⟨bv,a0,hF⟩:=aA hF
       obtain ⟨b8,b6,az,bg⟩:=Z.atm a0
       refine zP hf rfl (pIA Tryz.underlying23 fO rfl rfl az) fun a hf=>zE hf hc rfl (eP cR rfl (dI (j:=0) bg rfl)) fun a w hf hc=>sp 2 hf rfl fun a hf=>zT h ?_
       refine zS fun K h=>sp 4 hf rfl fun a hf=>?_
       obtain ⟨bx,a9,hF⟩:=aA hF
       obtain ⟨ba,a8⟩:=eY hc m1 a9
       refine zP hf rfl (pIA Tryz.underlying23 fO rfl rfl ba) fun a hf=>zE hf hc rfl (eP cR rfl (fZ (sz:=1) (i:=R.toNat) (j:=0) m1 a8 rfl)) fun a w hf hc=>sp 1 hf rfl fun a hf=>?_
       obtain ⟨J,bi,hF⟩:=aA hF
       refine zQ (v:=.agg #[i6 J.claim,i6 J.by_]) hf hc aO9 rfl (fun w hc=>vA I bv (W (bx + 1)) hc bi) fun a w hf hc=>zA hf hc aJe rfl fun aa a w hf hc=>zW hf hc aCh u0 rfl fun w hc=>zT h ?_
       refine zS fun K h=>zN hf hc yG m0 rfl fun a w hf hc=>zN hf hc yG m1 rfl fun a w hf hc=>zP hf rfl (pNeA aQp rfl rfl (aOi _ _ _ _)) fun a hf=>sp 1 hf rfl fun a hf=>jX 4 (fun a=>Has 87 a [(0,.slice H B.length D),(2,i6 I),(9,.slice (some ⟨g,0,none⟩) out.length M),(10,i6 p),(11,pq U),(41,i6 O),(42,i6 x),(53,.slice H B.length D),(54,i6 ((B.length:Nat):Int)),(55,i6 R),(12,i6 R),(14,pq aa),(68,.agg #[i6 J.claim,i6 J.by_]),(69,.agg #[i6 V,i6 X]),(70,.bool (!(J.claim == V && J.by_ == X))),(71,.bool (!(J.claim == V && J.by_ == X))),(75,.bool ((!(J.claim == V && J.by_ == X)) && (kZ J (⟨V,X⟩:eU))))]) hc ?_ ?_
       ·cases hb:(!(J.claim == V && J.by_ == X))
        ·rw [hb] at hf
         refine stS hf rfl rfl rfl fun a hf=>stS hf rfl rfl rfl fun a hf=>stS hf rfl rfl rfl fun a hf=>sp 1 hf rfl fun a hf=>aP ⟨hf.kp rfl,hc⟩
        ·rw [hb] at hf
         refine zN hf hc yG m0 rfl fun a w hf hc=>zN hf hc yG m1 rfl fun a w hf hc=>zQ (v:=.bool (kZ J (⟨V,X⟩:eU))) hf hc en_56 rfl (fun w hc=>wQ J (⟨V,X⟩:eU) hc rfl) fun a w hf hc=>sp 1 hf rfl fun a hf=>aP ⟨hf.kp rfl,hc⟩
       intro a w ⟨hf,hc⟩
       refine zT h ?_
       refine zI hf rfl hF ?_ ?_ <;> clear hF <;> intro hF
       ·refine eL (fun θ=>[⟨none,none,0,.slice H B.length D⟩,⟨none,none,2,i6 I⟩,⟨none,none,9,.slice (some ⟨g,0,none⟩) out.length M⟩,⟨none,some 2,10,i6 p⟩,⟨none,none,11,pq U⟩,⟨none,none,12,i6 R⟩,⟨none,none,14,pq aa⟩,⟨none,none,41,i6 O⟩,⟨none,none,42,i6 x⟩,⟨none,none,53,.slice H B.length D⟩,⟨none,none,54,i6 ((B.length:Nat):Int)⟩,⟨none,none,55,i6 R⟩,⟨some 0,none,76,i6 R⟩,⟨some 1,none,77,.agg #[i6 J.claim,i6 J.by_]⟩,⟨some 2,none,10,i6 R⟩]) (fun E θ=>.box aa [i6 J.claim,i6 J.by_] 120::(bif E 3 then .box U [i6 J.claim,i6 J.by_] 120 else .box U [i6 V,i6 X] 120)::.row (some ⟨g,0,none⟩) M (out.map aB) 3 1::Lf) [] (fun a w=>Has 87 a [(0,.slice H B.length D),(2,i6 I),(9,.slice (some ⟨g,0,none⟩) out.length M),(11,pq U),(41,i6 O),(42,i6 x),(53,.slice H B.length D),(54,i6 ((B.length:Nat):Int)),(55,i6 R),(10,i6 R)]∧Ctx G (.box aa [i6 J.claim,i6 J.by_] 120::.box U [i6 J.claim,i6 J.by_] 120::.row (some ⟨g,0,none⟩) M (out.map aB) 3 1::Lf) w) bA (by kernel_rfl) (by kernel_rfl) (fN.of hf ⟨rfl,rfl,rfl,rfl,rfl,rfl,rfl,rfl,rfl,rfl,rfl,rfl,trivial,trivial,trivial,trivial⟩) hc ⟨?_,?_,?_,?_,trivial⟩ ?_ ?_
        ·intro E θ a w hD hi hp he hc
         have hf:=he.h0.mT he 5 rfl
         refine sp 1 hf rfl fun a hf=>zD θ he hi hf 12 rfl rfl rfl hc
        ·intro E θ a w hD hi hp he hc
         have hf:=he.h0.mT he 6 rfl
         refine zN hf hc yG m0 rfl fun a w hf hc=>zD θ he hi hf 13 rfl rfl rfl hc
        ·intro E θ a w hD hi hp he hc
         have e0:=hp.o 0 rfl
         have hf:=he.h0.mP he 12 rfl e0
         refine sp 1 hf rfl fun a hf=>zD θ he hi hf 14 rfl rfl rfl hc
        ·intro E θ a w hD hi hp he hc
         have e1:=hp.o 1 rfl
         try dsimp only at hc
         rw [hi] at hc
         have hf:=(he.h0.mT he 4 rfl).mP he 13 rfl e1
         refine zW hf hc aCh u1 rfl fun w hc=>zG θ he hi hf rfl ?_
         try dsimp only
         rw [aS E 3]
         exact hc
        ·intro E θ a w d he hc
         have hf:=he.h0
         have e2:=d 2 rfl
         have e3:=d 3 rfl
         replace hf:=hf.more he 14 rfl (onP e2)
         replace hf:=hf.more he 11 rfl (onT)
         replace hf:=hf.more he 10 rfl (onT)
         replace hf:=hf.more he 9 rfl (onT)
         replace hf:=hf.more he 8 rfl (onT)
         replace hf:=hf.more he 7 rfl (onT)
         replace hf:=hf.more he 4 rfl (onT)
         replace hf:=hf.more he 2 rfl (onT)
         replace hf:=hf.more he 1 rfl (onT)
         replace hf:=hf.more he 0 rfl (onT)
         try dsimp only at hc
         rw [e3] at hc
         exact ⟨hf.kp rfl,hc⟩
        rintro a w ⟨hf,hc⟩
        replace hc:=hc.drop k0
        exact am R J.claim J.by_ _ _  (hf.kp rfl) hc hF
       ·refine wp_skip ?_
        replace hc:=hc.drop k0
        exact am p V X _ _  (hf.kp rfl) hc hF
      ·refine wp_exit ?_
       refine aY ?_
       refine aY ?_
       have he:=sj hF
       rw [← he] at s
       refine fJ ?_
       exact a3 _ _ _ s ⟨hf.kp rfl,hc⟩
     ·refine wp_exit ?_
      refine aY ?_
      refine aY ?_
      have he:=sj hF
      rw [← he] at t
      refine fJ ?_
      exact ax _ _ _ t ⟨q,M,hf.kp rfl,hc⟩

def oC (N:Nat) (a_:List Int) (b_:List Int) (B:Int):Option (bY (Int) (Bool)) :=
 cond (decide (B < ((a_.length:Nat):Int)))
 (Option.bind (bE a_ B) fun H=>
 Option.bind (bE b_ B) fun D=>
 cond (H != D)
 (some (.ret false))
 (some (.cont (W (B + 1)))))
 (some (.brk B))
def mI (N:Nat) (a_:List Int) (b_:List Int):Option (Bool) :=
 cond (((a_.length:Nat):Int) != ((b_.length:Nat):Int))
 (some false)
 (Option.bind (aX (fun s7=>oC N a_ b_ s7) N 0) fun x7=>
 exK x7 (fun s7=>some true) some)
theorem pZ {N:Nat} {G:aT} {Lf:List Ent} {w:World} (a_:List Int) (b_:List Int) {D:Option Addr} {H:Nat} {I:Option Addr} {J:Nat} (R:Rd G 1 D H (a_.map aB)) (Y:Rd G 1 I J (b_.map aB)) (hc:Ctx G (Lf) w) {M:Bool} (hF:mI N a_ b_=some M):Calls Tryz.prog 13 #[.slice D a_.length H,.slice I b_.length J] w (fun e w=>e=.returned (.bool M)∧Ctx G (Lf) w):=by
 unfold mI at hF
 refine bL Tryz.func13 rfl Tryz.ntmps13 rfl fun a hf=>zS fun K h=>sp 1 hf rfl fun a hf=>zT h ?_
 refine wp_seq_k fun K2 h2=>zS fun K h=>sp 1 hf rfl fun a hf=>zP hf rfl (bG Tryz.underlying23 rfl) fun a hf=>sp 1 hf rfl fun a hf=>zP hf rfl (bG Tryz.underlying23 rfl) fun a hf=>sp 1 hf rfl fun a hf=>zT h ?_
 refine zI hf rfl hF ?_ ?_ <;> clear hF <;> intro hF
 ·refine zS fun K h=>sp 1 hf rfl fun a hf=>zT h ?_
  refine wp_ret ?_
  refine aL ?_
  obtain rfl:=sj hF
  exact zO1 Tryz.results13 hf rfl ⟨rfl,hc⟩
 ·refine wp_skip ?_
  refine h2 _ _ ?_
  refine wp_seq_k fun K5 h5=>zS fun K h=>sp 1 hf rfl fun a hf=>zT h ?_
  refine wp_block ?_
  obtain ⟨x7,i,hF⟩:=aA hF
  let S7:Int→Act→World→Prop:=(fun (zz:Int) a w=>Has 26 a [(0,.slice D a_.length H),(1,.slice I b_.length J),(5,i6 zz)]∧Ctx G (Lf) w)
  have m:∀ (zz:Int) a w,x7=.go zz→S7 zz a w→K5 a w:=by
   rintro O a w rfl ⟨hf,hc⟩
   replace hF:=bK hF
   refine h5 _ _ ?_
   refine zS fun K h=>sp 1 hf rfl fun a hf=>zT h ?_
   refine wp_ret ?_
   obtain rfl:=sj hF
   exact zO1 Tryz.results13 hf rfl ⟨rfl,hc⟩
  have b:∀ r,x7=.out r→r=M:=by
   rintro r rfl
   exact sj hF
  refine cZ N (cW (S:=S7) (x:=x7) ?_ N 0 _ _ ⟨hf.kp rfl,hc⟩ i)
  clear hF hf hc
  rintro O n a w KB7 ⟨hf,hc⟩ hF B g
  unfold oC at hF
  refine wp_seq_k fun K9 h9=>zS fun K h=>sp 2 hf rfl fun a hf=>zP hf rfl (bG Tryz.underlying23 rfl) fun a hf=>sp 1 hf rfl fun a hf=>zT h ?_
  refine zI hf rfl hF ?_ ?_ <;> clear hF <;> intro hF
  ·refine wp_skip ?_
   refine h9 _ _ ?_
   refine wp_seq_k fun K11 d=>wp_block ?_
   refine wp_seq_k fun K12 k=>?_
   obtain ⟨p,U,hF⟩:=aA hF
   obtain ⟨q,o,qa,qp⟩:=R.atm U
   obtain ⟨u,V,hF⟩:=aA hF
   obtain ⟨t,s,X,Z⟩:=Y.atm V
   refine cQ hc bA (by kernel_rfl) ?_
   refine qE hf rfl rfl rfl (Pu.ev (pM rfl)) fun a hf=>qE hf rfl rfl rfl (Pu.ev (pM rfl)) fun a hf=>qE hf rfl rfl rfl (Pu.ev (pIA Tryz.underlying23 fO rfl rfl qa)) fun a hf=>qE hf rfl rfl rfl (eP cR rfl (dI (j:=0) qp rfl)) fun a hf=>qE hf rfl rfl rfl (Pu.ev (pM rfl)) fun a hf=>qE hf rfl rfl rfl (Pu.ev (pM rfl)) fun a hf=>qE hf rfl rfl rfl (Pu.ev (pIA Tryz.underlying23 fO rfl rfl X)) fun a hf=>qE hf rfl rfl rfl (eP cR rfl (dI (j:=0) Z rfl)) fun a hf=>qE hf rfl rfl rfl (Pu.ev (pNe rfl rfl)) fun a hf=>?_
   intro w hc
   refine k _ _ ?_
   refine zI hf rfl hF ?_ ?_ <;> clear hF <;> intro hF
   ·refine zS fun K h=>sp 1 hf rfl fun a hf=>zT h ?_
    refine wp_ret ?_
    refine bS ?_
    refine aL ?_
    refine aL ?_
    have he:=sj hF
    rw [← he] at B
    replace hF:=b _ B
    refine bS ?_
    refine aL ?_
    obtain rfl:=hF
    exact zO1 Tryz.results13 hf rfl ⟨rfl,hc⟩
   ·refine wp_skip ?_
    refine d _ _ ?_
    refine bV ?_
    refine sp 3 hf rfl fun a hf=>aP ?_
    exact g (W (O + 1)) _ _ (sj hF).symm ⟨hf.kp rfl,hc⟩
  ·refine wp_exit ?_
   refine aY ?_
   refine aY ?_
   have he:=sj hF
   rw [← he] at B
   refine fJ ?_
   exact m _ _ _ B ⟨hf.kp rfl,hc⟩

def sU (N:Nat)  : Option (Bool) :=
 Option.bind (aC1 N) fun r=>
 Option.bind (yE N r ([0]:List Int)) fun B=>
 Option.bind (aCm N) fun U=>
 Option.bind (nS N U) fun H=>
 Option.bind (xW N ([60,30,10]:List Int) 9 1) fun D=>
 Option.bind (cond (((B.2 == 0) && (H.2 == 0)) && (D.2 == 0)) (Option.bind (mI N B.1 ([0,2,4,5]:List Int)) fun I=>
 some I) (some false)) fun S=>
 Option.bind (cond S (Option.bind (mI N H.1 ([1,0]:List Int)) fun O=>
 some O) (some false)) fun R=>
 Option.bind (cond R (Option.bind (mI N D.1 ([5,3,1]:List Int)) fun M=>
 some M) (some false)) fun J=>
 some J
theorem yP {N:Nat} {G:aT} {Lf:List Ent} {w:World}    (hc:Ctx G (Lf) w) {m:Bool} (hF:sU N=some m):Calls Tryz.prog 8 #[] w (fun e w=>e=.returned (.bool m)∧Ctx G (Lf) w):=by
 unfold sU at hF
 refine bL Tryz.func8 rfl Tryz.ntmps8 rfl fun a hf=>zS fun K h=>sp 1 hf rfl fun a hf=>zT h ?_
 refine zS fun K h=>?_
 obtain ⟨r,hr,hF⟩:=aA hF
 refine zC hf en_26 rfl (aGn hc hr) ?_
 rintro _ w ⟨aj,ag,rfl,hc⟩
 refine ⟨_,rfl,fun a hf=>?_⟩
 refine oB (rows:=([0]:List Int).map aB) (vs:=[(0,i6 0)]) hf hc rfl rfl jA rfl ⟨rfl,rfl,rfl,trivial⟩ rfl rfl fun ak a w hf hc=>?_
 obtain ⟨B,q,hF⟩:=aA hF
 obtain ⟨G1,S,J,hc,I⟩:=zH aO0 hc k1 k1
 obtain ⟨G2,R,O,hc,M⟩:=lend hc k0
 refine zC hf en_25 rfl (aE1 r ([0]:List Int) (J.mono R) O hc q) ?_
 rintro _ w ⟨b,X,rfl,hc⟩
 refine ⟨_,rfl,fun a hf=>?_⟩
 replace hc:=M _ _ hc
 replace hc:=I _ _ hc
 refine sp 5 hf rfl fun a hf=>zT h ?_
 refine wp_seq_k fun K3 h3=>bV ?_
 obtain ⟨y,t,hF⟩:=aA hF
 refine zC hf en_27 rfl (aG1 hc t) ?_
 rintro _ w ⟨aq,ac,af,ad,rfl,hc⟩
 refine ⟨_,rfl,fun a hf=>?_⟩
 obtain ⟨D,u,hF⟩:=aA hF
 obtain ⟨G1,S,J,hc,I⟩:=zH aG3 hc k0 k0
 obtain ⟨G2,R,O,hc,M⟩:=zH aJl hc k0 k0
 refine zC hf aN3 rfl (uH y (J.mono R) O hc u) ?_
 rintro _ w ⟨V,d,rfl,hc⟩
 refine ⟨_,rfl,fun a hf=>?_⟩
 replace hc:=M _ _ hc
 replace hc:=I _ _ hc
 refine sp 5 hf rfl fun a hf=>aP ?_
 replace hc:=((((((hc.drop k7).drop k6).drop k5).drop k3).drop k2).drop k1).drop k0
 refine h3 _ _ ?_
 refine zS fun K h=>oB (rows:=([60,30,10]:List Int).map aB) (vs:=[(0,i6 60),(1,i6 30),(2,i6 10)]) hf hc rfl rfl jA rfl ⟨rfl,rfl,rfl,rfl,rfl,rfl,rfl,rfl,rfl,trivial⟩ rfl rfl fun an a w hf hc=>?_
 obtain ⟨H,s,hF⟩:=aA hF
 obtain ⟨G1,S,J,hc,I⟩:=lend hc k0
 refine zC hf en_28 rfl (aEx ([60,30,10]:List Int) 9 1 J hc s) ?_
 rintro _ w ⟨Z,Y,rfl,hc⟩
 refine ⟨_,rfl,fun a hf=>?_⟩
 replace hc:=I _ _ hc
 refine sp 5 hf rfl fun a hf=>zT h ?_
 refine zS fun K h=>sp 3 hf rfl fun a hf=>jX 3 (fun a=>Has 48 a [(0,.bool false),(1,.slice b B.1.length X),(2,i6 B.2),(3,.slice V D.1.length d),(4,i6 D.2),(5,.slice Z H.1.length Y),(6,i6 H.2),(23,i6 B.2),(24,.bool (B.2 == 0)),(25,.bool (B.2 == 0)),(28,.bool ((B.2 == 0) && (D.2 == 0)))]) hc ?_ ?_
 ·cases hb:(B.2 == 0)
  ·rw [hb] at hf
   refine stS hf rfl rfl rfl fun a hf=>stS hf rfl rfl rfl fun a hf=>sp 1 hf rfl fun a hf=>aP ⟨hf.kp rfl,hc⟩
  ·rw [hb] at hf
   refine sp 3 hf rfl fun a hf=>aP ⟨hf.kp rfl,hc⟩
 intro a w ⟨hf,hc⟩
 refine sp 1 hf rfl fun a hf=>jX 3 (fun a=>Has 48 a [(0,.bool false),(1,.slice b B.1.length X),(2,i6 B.2),(3,.slice V D.1.length d),(4,i6 D.2),(5,.slice Z H.1.length Y),(6,i6 H.2),(23,i6 B.2),(24,.bool (B.2 == 0)),(25,.bool (B.2 == 0)),(28,.bool ((B.2 == 0) && (D.2 == 0))),(29,.bool ((B.2 == 0) && (D.2 == 0))),(32,.bool (((B.2 == 0) && (D.2 == 0)) && (H.2 == 0)))]) hc ?_ ?_
 ·cases hb:((B.2 == 0) && (D.2 == 0))
  ·rw [hb] at hf
   refine stS hf rfl rfl rfl fun a hf=>stS hf rfl rfl rfl fun a hf=>sp 1 hf rfl fun a hf=>aP ⟨hf.kp rfl,hc⟩
  ·rw [hb] at hf
   refine sp 3 hf rfl fun a hf=>aP ⟨hf.kp rfl,hc⟩
 intro a w ⟨hf,hc⟩
 refine sp 1 hf rfl fun a hf=>?_
 obtain ⟨U,j,hF⟩:=aA hF
 refine jX 4 (fun a=>Has 48 a [(0,.bool false),(1,.slice b B.1.length X),(2,i6 B.2),(3,.slice V D.1.length d),(4,i6 D.2),(5,.slice Z H.1.length Y),(6,i6 H.2),(23,i6 B.2),(24,.bool (B.2 == 0)),(25,.bool (B.2 == 0)),(28,.bool ((B.2 == 0) && (D.2 == 0))),(29,.bool ((B.2 == 0) && (D.2 == 0))),(32,.bool (((B.2 == 0) && (D.2 == 0)) && (H.2 == 0))),(33,.bool (((B.2 == 0) && (D.2 == 0)) && (H.2 == 0))),(37,.bool U)]) hc ?_ ?_
 ·cases hb:(((B.2 == 0) && (D.2 == 0)) && (H.2 == 0))
  ·rw [hb] at hf
   have hF:=kI hb j
   obtain rfl:=sj hF
   refine stS hf rfl rfl rfl fun a hf=>stS hf rfl rfl rfl fun a hf=>stS hf rfl rfl rfl fun a hf=>sp 1 hf rfl fun a hf=>aP ⟨hf.kp rfl,hc⟩
  ·rw [hb] at hf
   have hF:=fP hb j
   refine sp 1 hf rfl fun a hf=>oB (rows:=([0,2,4,5]:List Int).map aB) (vs:=[(0,i6 0),(1,i6 2),(2,i6 4),(3,i6 5)]) hf hc rfl rfl jA rfl ⟨rfl,rfl,rfl,rfl,rfl,rfl,rfl,rfl,rfl,rfl,rfl,rfl,trivial⟩ rfl rfl fun ap a w hf hc=>?_
   obtain ⟨aa,p,hF⟩:=aA hF
   refine zQ (v:=.bool aa) hf hc aJ0 rfl (fun w hc=>by obtain ⟨G1,S,J,hc,I⟩:=lend hc k4; obtain ⟨G2,R,O,hc,M⟩:=lend hc k0; exact (pZ B.1 ([0,2,4,5]:List Int) (J.mono R) O hc p).mono fun e w h=>⟨h.1,((I _ _ ((M _ _ h.2).unpick k0)).unpick k4)⟩) fun a w hf hc=>sp 1 hf rfl fun a hf=>?_
   replace hc:=hc.drop k0
   obtain rfl:=sj hF
   exact aP ⟨hf.kp rfl,hc⟩
 intro a w ⟨hf,hc⟩
 refine sp 1 hf rfl fun a hf=>?_
 obtain ⟨g,i,hF⟩:=aA hF
 refine jX 4 (fun a=>Has 48 a [(0,.bool false),(1,.slice b B.1.length X),(2,i6 B.2),(3,.slice V D.1.length d),(4,i6 D.2),(5,.slice Z H.1.length Y),(6,i6 H.2),(23,i6 B.2),(24,.bool (B.2 == 0)),(25,.bool (B.2 == 0)),(28,.bool ((B.2 == 0) && (D.2 == 0))),(29,.bool ((B.2 == 0) && (D.2 == 0))),(32,.bool (((B.2 == 0) && (D.2 == 0)) && (H.2 == 0))),(33,.bool (((B.2 == 0) && (D.2 == 0)) && (H.2 == 0))),(37,.bool U),(38,.bool U),(42,.bool g)]) hc ?_ ?_
 ·cases hb:U
  ·rw [hb] at hf
   try rw [hb] at hc
   have hF:=kI hb i
   obtain rfl:=sj hF
   refine stS hf rfl rfl rfl fun a hf=>stS hf rfl rfl rfl fun a hf=>stS hf rfl rfl rfl fun a hf=>sp 1 hf rfl fun a hf=>aP ⟨hf.kp rfl,hc⟩
  ·rw [hb] at hf
   try rw [hb] at hc
   have hF:=fP hb i
   refine sp 1 hf rfl fun a hf=>oB (rows:=([1,0]:List Int).map aB) (vs:=[(0,i6 1),(1,i6 0)]) hf hc rfl rfl jA rfl ⟨rfl,rfl,rfl,rfl,rfl,rfl,trivial⟩ rfl rfl fun ai a w hf hc=>?_
   obtain ⟨z,o,hF⟩:=aA hF
   refine zQ (v:=.bool z) hf hc aJ0 rfl (fun w hc=>by obtain ⟨G1,S,J,hc,I⟩:=lend hc k3; obtain ⟨G2,R,O,hc,M⟩:=lend hc k0; exact (pZ D.1 ([1,0]:List Int) (J.mono R) O hc o).mono fun e w h=>⟨h.1,((I _ _ ((M _ _ h.2).unpick k0)).unpick k3)⟩) fun a w hf hc=>sp 1 hf rfl fun a hf=>?_
   replace hc:=hc.drop k0
   obtain rfl:=sj hF
   exact aP ⟨hf.kp rfl,hc⟩
 intro a w ⟨hf,hc⟩
 refine sp 1 hf rfl fun a hf=>?_
 obtain ⟨ab,k,hF⟩:=aA hF
 refine jX 4 (fun a=>Has 48 a [(0,.bool false),(1,.slice b B.1.length X),(2,i6 B.2),(3,.slice V D.1.length d),(4,i6 D.2),(5,.slice Z H.1.length Y),(6,i6 H.2),(23,i6 B.2),(24,.bool (B.2 == 0)),(25,.bool (B.2 == 0)),(28,.bool ((B.2 == 0) && (D.2 == 0))),(29,.bool ((B.2 == 0) && (D.2 == 0))),(32,.bool (((B.2 == 0) && (D.2 == 0)) && (H.2 == 0))),(33,.bool (((B.2 == 0) && (D.2 == 0)) && (H.2 == 0))),(37,.bool U),(38,.bool U),(42,.bool g),(43,.bool g),(47,.bool ab)]) hc ?_ ?_
 ·cases hb:g
  ·rw [hb] at hf
   try rw [hb] at hc
   have hF:=kI hb k
   obtain rfl:=sj hF
   refine stS hf rfl rfl rfl fun a hf=>stS hf rfl rfl rfl fun a hf=>stS hf rfl rfl rfl fun a hf=>sp 1 hf rfl fun a hf=>aP ⟨hf.kp rfl,hc⟩
  ·rw [hb] at hf
   try rw [hb] at hc
   have hF:=fP hb k
   refine sp 1 hf rfl fun a hf=>oB (rows:=([5,3,1]:List Int).map aB) (vs:=[(0,i6 5),(1,i6 3),(2,i6 1)]) hf hc rfl rfl jA rfl ⟨rfl,rfl,rfl,rfl,rfl,rfl,rfl,rfl,rfl,trivial⟩ rfl rfl fun am a w hf hc=>?_
   obtain ⟨x,n,hF⟩:=aA hF
   refine zQ (v:=.bool x) hf hc aJ0 rfl (fun w hc=>by obtain ⟨G1,S,J,hc,I⟩:=lend hc k2; obtain ⟨G2,R,O,hc,M⟩:=lend hc k0; exact (pZ H.1 ([5,3,1]:List Int) (J.mono R) O hc n).mono fun e w h=>⟨h.1,((I _ _ ((M _ _ h.2).unpick k0)).unpick k2)⟩) fun a w hf hc=>sp 1 hf rfl fun a hf=>?_
   replace hc:=hc.drop k0
   obtain rfl:=sj hF
   exact aP ⟨hf.kp rfl,hc⟩
 intro a w ⟨hf,hc⟩
 refine sp 1 hf rfl fun a hf=>zT h ?_
 refine wp_ret ?_
 obtain rfl:=sj hF
 replace hc:=(((hc.drop k3).drop k2).drop k1).drop k0
 exact zO1 Tryz.results8 hf rfl ⟨rfl,hc⟩

def nU (N:Nat) (s_:aZ) (n:Int) (out:List Int) (B:Int) (H:Int) (D:Int):Option (bY ((List Int) × Int × Int × Int) ((List Int) × Int × Int)) :=
 cond (decide (B < n))
 (Option.bind (bW N (⟨s_.bytes,H,D⟩:aZ) (W (B + 1))) fun r=>
 Option.bind (room ((out++[B])).length) fun un=>
 Option.bind (bE (out++[B]) r.1) fun I=>
 Option.bind (bE (out++[B]) B) fun J=>
 Option.bind (bE (out++[B]) B) fun M=>
 Option.bind (bE (out++[B]) r.1) fun O=>
 some (.cont ((((out++[B]).set B.toNat I).set r.1.toNat J),W (B + 1),r.2.1,r.2.2)))
 (some (.brk (out,B,H,D)))
def tS (N:Nat) (s_:aZ) (n:Int):Option ((List Int) × Int × Int) :=
 Option.bind (aX (fun s5=>nU N s_ n s5.1 s5.2.1 s5.2.2.1 s5.2.2.2) N (([]:List Int),0,s_.used,s_.mix)) fun x5=>
 exK x5 (fun s5=>some (s5.1,s5.2.2.1,s5.2.2.2)) some
theorem aBy {N:Nat} {G:aT} {Lf:List Ent} {w:World} (s_:aZ) (n:Int) {b_:Nat} {D:Option Addr} {H:Nat} (Y:Rd G 1 D H (s_.bytes.map tI)) (hc:Ctx G (.box b_ [.slice D s_.bytes.length H,i6 s_.used,i6 s_.mix] 70::Lf) w) {X:(List Int) × Int × Int} (hF:tS N s_ n=some X):Calls Tryz.prog 9 #[pq b_,i6 n] w (fun e w=>∃ (v:Option Addr) (t:Nat),e=.returned (.slice v X.1.length t)∧Ctx G (.row v t (X.1.map aB) 3 1::.box b_ [.slice D s_.bytes.length H,i6 X.2.1,i6 X.2.2] 70::Lf) w):=by
 unfold tS at hF
 refine bL Tryz.func9 rfl Tryz.ntmps9 rfl fun a hf=>zS fun K h=>sp 1 hf rfl fun a hf=>zT h ?_
 refine zS fun K h=>sp 1 hf rfl fun a hf=>zT h ?_
 refine wp_seq_k fun K3 h3=>zS fun K h=>sp 1 hf rfl fun a hf=>zT h ?_
 refine wp_block ?_
 obtain ⟨x5,ap,hF⟩:=aA hF
 let S5:((List Int) × Int × Int × Int)→Act→World→Prop:=(fun (zz:(List Int) × Int × Int × Int) a w=>∃ (V:Option Addr) (U:Nat),Has 36 a [(0,pq b_),(1,i6 n),(5,.slice V zz.1.length U),(6,i6 zz.2.1)]∧Ctx G (.row V U (zz.1.map aB) 3 1::.box b_ [.slice D s_.bytes.length H,i6 zz.2.2.1,i6 zz.2.2.2] 70::Lf) w)
 have aq:∀ (zz:(List Int) × Int × Int × Int) a w,x5=.go zz→S5 zz a w→K3 a w:=by
  rintro ⟨out,B,q,p⟩ a w rfl ⟨V,U,hf,hc⟩
  replace hF:=bK hF
  refine h3 _ _ ?_
  refine zS fun K h=>sp 2 hf rfl fun a hf=>zT h ?_
  refine wp_ret ?_
  obtain rfl:=sj hF
  exact zO1 Tryz.results9 hf rfl ⟨V,U,rfl,hc⟩
 have a0:∀ r,x5=.out r→r=X:=by
  rintro r rfl
  exact sj hF
 replace hc:=hc.nilRow 3 1
 refine cZ N (cW (S:=S5) (x:=x5) ?_ N (([]:List Int),0,s_.used,s_.mix) _ _ ⟨none,0,hf.kp rfl,hc⟩ ap)
 clear hF hf hc
 rintro ⟨out,B,q,p⟩ az a w KB5 ⟨V,U,hf,hc⟩ hF Z ak
 unfold nU at hF
 refine wp_seq_k fun K7 h7=>zS fun K h=>sp 3 hf rfl fun a hf=>zT h ?_
 refine zI hf rfl hF ?_ ?_ <;> clear hF <;> intro hF
 ·refine wp_skip ?_
  refine h7 _ _ ?_
  refine wp_seq_k fun K9 h9=>wp_block ?_
  refine zS fun K h=>sp 3 hf rfl fun a hf=>?_
  obtain ⟨r,hr,hF⟩:=aA hF
  refine zC hf uF rfl (cJ (⟨s_.bytes,q,p⟩:aZ) (W (B + 1)) Y (hc.pick k1) hr) ?_
  rintro _ w ⟨rfl,hc⟩
  refine ⟨_,rfl,fun a hf=>?_⟩
  refine sp 1 hf rfl fun a hf=>zT h ?_
  refine zS fun K h=>sp 2 hf rfl fun a hf=>oB (rows:=([B]:List Int).map aB) (vs:=[(0,i6 B)]) hf hc rfl rfl jA rfl ⟨rfl,rfl,rfl,trivial⟩ rfl rfl fun u a w hf hc=>?_
  obtain ⟨un,ai,hF⟩:=aA hF
  refine pC (xs:=out) (ys:=([B]:List Int)) hf hc rfl rfl jA rfl rfl rfl rfl rfl bZ (kC hc m0) (fun _ _=>u2) (by simpa using fD ai) fun av M a w hf hc=>sp 1 hf rfl fun a hf=>zT h ?_
  obtain ⟨O,ac,hF⟩:=aA hF
  have am:=hf
  obtain ⟨g,rfl,qa,qr⟩:=hP hc m2 ac
  have hf:=am
  obtain ⟨R,af,hF⟩:=aA hF
  obtain ⟨aa,ab⟩:=eY hc m2 af
  obtain ⟨ax,b,hF⟩:=aA hF
  obtain ⟨ad,ar⟩:=eY hc m2 b
  obtain ⟨ay,d,hF⟩:=aA hF
  obtain ⟨y,au⟩:=eY hc m2 d
  refine eL (fun θ=>[⟨none,none,0,pq b_⟩,⟨none,none,1,i6 n⟩,⟨none,none,5,.slice (some ⟨g,0,none⟩) ((out++[B]).length) M⟩,⟨none,none,6,i6 B⟩,⟨none,none,7,i6 r.1⟩,⟨some 0,none,21,.slice (some ⟨g,0,none⟩) ((out++[B]).length) M⟩,⟨some 1,none,22,i6 B⟩,⟨some 2,none,23,.slice (some ⟨g,0,none⟩) ((out++[B]).length) M⟩,⟨some 3,none,24,i6 r.1⟩,⟨some 4,none,25,.slice (some ⟨g,0,none⟩) ((out++[B]).length) M⟩,⟨some 5,none,26,i6 r.1⟩,⟨some 6,none,27,.pointer (some ⟨g,r.1.toNat * 1,none⟩)⟩,⟨some 7,none,28,i6 O⟩,⟨some 8,none,29,.slice (some ⟨g,0,none⟩) ((out++[B]).length) M⟩,⟨some 9,none,30,i6 B⟩,⟨some 10,none,31,.pointer (some ⟨g,B.toNat * 1,none⟩)⟩,⟨some 11,none,32,i6 R⟩,⟨some 12,none,33,.pointer (some ⟨g,B.toNat * 1,none⟩)⟩,⟨some 14,none,34,.pointer (some ⟨g,r.1.toNat * 1,none⟩)⟩]) (fun E θ=>.row (some ⟨u,0,none⟩) 1 (([B]:List Int).map aB) 3 1::.box b_ [.slice D s_.bytes.length H,i6 r.2.1,i6 r.2.2] 70::(bif E 15 then .row (some ⟨g,0,none⟩) M ((((out++[B]).set B.toNat O).set r.1.toNat R).map aB) 3 1 else bif E 13 then .row (some ⟨g,0,none⟩) M (((out++[B]).set B.toNat O).map aB) 3 1 else .row (some ⟨g,0,none⟩) M ((out++[B]).map aB) 3 1)::Lf) [(13,6),(15,6),(13,7),(15,7),(11,10),(13,11),(15,10),(15,11),(13,12),(15,12),(15,13),(15,14)] (fun a w=>Has 36 a [(0,pq b_),(1,i6 n),(5,.slice (some ⟨g,0,none⟩) ((out++[B]).length) M),(6,i6 B)]∧Ctx G (.row (some ⟨u,0,none⟩) 1 (([B]:List Int).map aB) 3 1::.box b_ [.slice D s_.bytes.length H,i6 r.2.1,i6 r.2.2] 70::.row (some ⟨g,0,none⟩) M ((((out++[B]).set B.toNat O).set r.1.toNat R).map aB) 3 1::Lf) w) bA (by kernel_rfl) (by kernel_rfl) (fN.of hf ⟨rfl,rfl,rfl,rfl,rfl,trivial,trivial,trivial,trivial,trivial,trivial,trivial,trivial,trivial,trivial,trivial,trivial,trivial,trivial,trivial⟩) hc ⟨?_,?_,?_,?_,?_,?_,?_,?_,?_,?_,?_,?_,?_,?_,?_,?_,trivial⟩ ?_ ?_
  ·intro E θ a w hD hi hp he hc
   have hf:=he.h0.mT he 2 rfl
   refine sp 1 hf rfl fun a hf=>zD θ he hi hf 5 rfl rfl rfl hc
  ·intro E θ a w hD hi hp he hc
   have hf:=he.h0.mT he 3 rfl
   refine sp 1 hf rfl fun a hf=>zD θ he hi hf 6 rfl rfl rfl hc
  ·intro E θ a w hD hi hp he hc
   have hf:=he.h0.mT he 2 rfl
   refine sp 1 hf rfl fun a hf=>zD θ he hi hf 7 rfl rfl rfl hc
  ·intro E θ a w hD hi hp he hc
   have hf:=he.h0.mT he 4 rfl
   refine sp 1 hf rfl fun a hf=>zD θ he hi hf 8 rfl rfl rfl hc
  ·intro E θ a w hD hi hp he hc
   have hf:=he.h0.mT he 2 rfl
   refine sp 1 hf rfl fun a hf=>zD θ he hi hf 9 rfl rfl rfl hc
  ·intro E θ a w hD hi hp he hc
   have hf:=he.h0.mT he 4 rfl
   refine sp 1 hf rfl fun a hf=>zD θ he hi hf 10 rfl rfl rfl hc
  ·intro E θ a w hD hi hp he hc
   have e4:=hp.o 4 rfl
   have e5:=hp.o 5 rfl
   have I:=hD.f 0 rfl hi
   have J:=hD.f 1 rfl hi
   try dsimp only at hc
   rw [I,J] at hc
   have hf:=(he.h0.mP he 9 rfl e4).mP he 10 rfl e5
   refine zP hf rfl (pIA Tryz.underlying23 fO rfl rfl qa) fun a hf=>zD θ he hi hf 11 rfl rfl rfl ?_
   try dsimp only
   rw [aQ 6 I rfl,aQ 6 J rfl]
   exact hc
  ·intro E θ a w hD hi hp he hc
   have e6:=hp.o 6 rfl
   have I:=hD.f 2 rfl hi
   have J:=hD.f 3 rfl hi
   try dsimp only at hc
   rw [I,J] at hc
   have hf:=he.h0.mP he 11 rfl e6
   refine zE hf hc rfl (eP cR rfl (fZ (sz:=1) (i:=r.1.toNat) (j:=0) m2 qr rfl)) fun a w hf hc=>zD θ he hi hf 12 rfl rfl rfl ?_
   try dsimp only
   rw [aQ 7 I rfl,aQ 7 J rfl]
   exact hc
  ·intro E θ a w hD hi hp he hc
   have hf:=he.h0.mT he 2 rfl
   refine sp 1 hf rfl fun a hf=>zD θ he hi hf 13 rfl rfl rfl hc
  ·intro E θ a w hD hi hp he hc
   have hf:=he.h0.mT he 3 rfl
   refine sp 1 hf rfl fun a hf=>zD θ he hi hf 14 rfl rfl rfl hc
  ·intro E θ a w hD hi hp he hc
   have e8:=hp.o 8 rfl
   have e9:=hp.o 9 rfl
   have m:=hD.f 4 rfl hi
   have I:=hD.f 5 rfl m
   have J:=hD.f 6 rfl hi
   try dsimp only at hc
   rw [I,J] at hc
   have hf:=(he.h0.mP he 13 rfl e8).mP he 14 rfl e9
   refine zP hf rfl (pIA Tryz.underlying23 fO rfl rfl aa) fun a hf=>zD θ he hi hf 15 rfl rfl rfl ?_
   try dsimp only
   rw [aQ 10 I rfl,aQ 10 J rfl]
   exact hc
  ·intro E θ a w hD hi hp he hc
   have aj:=hp.o 10 rfl
   have I:=hD.f 5 rfl hi
   have J:=hD.f 7 rfl hi
   try dsimp only at hc
   rw [I,J] at hc
   have hf:=he.h0.mP he 15 rfl aj
   refine zE hf hc rfl (eP cR rfl (fZ (sz:=1) (i:=B.toNat) (j:=0) m2 ab rfl)) fun a w hf hc=>zD θ he hi hf 16 rfl rfl rfl ?_
   try dsimp only
   rw [aQ 11 I rfl,aQ 11 J rfl]
   exact hc
  ·intro E θ a w hD hi hp he hc
   have e0:=hp.o 0 rfl
   have e1:=hp.o 1 rfl
   have I:=hD.f 8 rfl hi
   have J:=hD.f 9 rfl hi
   try dsimp only at hc
   rw [I,J] at hc
   have hf:=(he.h0.mP he 5 rfl e0).mP he 6 rfl e1
   refine zP hf rfl (pIA Tryz.underlying23 fO rfl rfl ad) fun a hf=>zD θ he hi hf 17 rfl rfl rfl ?_
   try dsimp only
   rw [aQ 12 I rfl,aQ 12 J rfl]
   exact hc
  ·intro E θ a w hD hi hp he hc
   have e7:=hp.o 7 rfl
   have ag:=hp.o 12 rfl
   have J:=hD.f 10 rfl hi
   try dsimp only at hc
   rw [hi,J] at hc
   have hf:=(he.h0.mP he 12 rfl e7).mP he 17 rfl ag
   refine yA (sz:=1) (vs:=[i6 O]) (o':=0) (z:=O) (xs:=(out++[B])) hf hc rfl rfl rfl rfl fO rfl (fun x=>(bZ x).1) (mL b) (fun _ _=>rfl) rfl u2 fun w hc=>zG θ he hi hf rfl ?_
   try dsimp only
   rw [aS E 13,aQ 13 J rfl]
   exact hc
  ·intro E θ a w hD hi hp he hc
   have e2:=hp.o 2 rfl
   have e3:=hp.o 3 rfl
   have I:=hp.o 13 rfl
   have J:=hD.f 11 rfl hi
   try dsimp only at hc
   rw [I,J] at hc
   have hf:=(he.h0.mP he 7 rfl e2).mP he 8 rfl e3
   refine zP hf rfl (pIA Tryz.underlying23 fO rfl rfl y) fun a hf=>zD θ he hi hf 18 rfl rfl rfl ?_
   try dsimp only
   rw [eC 14 I,aQ 14 J rfl]
   exact hc
  ·intro E θ a w hD hi hp he hc
   have m:=hp.o 11 rfl
   have an:=hp.o 14 rfl
   have I:=hp.o 13 rfl
   try dsimp only at hc
   rw [I,hi] at hc
   have hf:=(he.h0.mP he 16 rfl m).mP he 18 rfl an
   refine yA (sz:=1) (vs:=[i6 R]) (o':=0) (z:=R) (xs:=((out++[B]).set B.toNat O)) hf hc rfl rfl rfl rfl fO rfl (fun x=>(bZ x).1) (by simpa using mL d) (fun _ _=>rfl) rfl u2 fun w hc=>zG θ he hi hf rfl ?_
   try dsimp only
   rw [eC 15 I,aS E 15]
   exact hc
  ·intro E θ a w s he hc
   have hf:=he.h0
   have I:=s 13 rfl
   have J:=s 15 rfl
   replace hf:=hf.more he 3 rfl (onT)
   replace hf:=hf.more he 2 rfl (onT)
   replace hf:=hf.more he 1 rfl (onT)
   replace hf:=hf.more he 0 rfl (onT)
   try dsimp only at hc
   rw [I,J] at hc
   exact ⟨hf.kp rfl,hc⟩
  rintro a w ⟨hf,hc⟩
  refine h9 _ _ ?_
  refine bV ?_
  refine sp 3 hf rfl fun a hf=>aP ?_
  replace hf:=hf.castAt 5 (v':=.slice (some ⟨g,0,none⟩) ((((out++[B]).set B.toNat O).set r.1.toNat R).length) M) rfl (congrArg (fun k=>Value.slice (some ⟨g,0,none⟩) k M) (by simp))
  replace hc:=((hc.drop k0).pick k0).pick k1
  exact ak ((((out++[B]).set B.toNat O).set r.1.toNat R),W (B + 1),r.2.1,r.2.2) _ _ (sj hF).symm ⟨(some ⟨g,0,none⟩),M,hf.kp rfl,hc⟩
 ·refine wp_exit ?_
  refine aY ?_
  refine aY ?_
  have he:=sj hF
  rw [← he] at Z
  refine fJ ?_
  exact aq _ _ _ Z ⟨V,U,hf.kp rfl,hc⟩

end Go.Nilo
