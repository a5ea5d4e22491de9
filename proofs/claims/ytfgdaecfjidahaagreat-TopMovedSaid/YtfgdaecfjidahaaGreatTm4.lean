/-
 What functions of the Go text compute, as plain functions, and that they do, part 4 of 4. Conditions: what each theorem names.
-/
import Derived.Test.YtfgdaecfjidahaaGreatTm3
import Derived.Test.YtfgdaecfjidahaaGreatProg
set_option linter.unusedVariables false
set_option linter.unusedSimpArgs false
set_option maxRecDepth 100000
set_option maxHeartbeats 4000000
namespace Go.Nilo
open Go.Proofs


def dB (n:Int) (D:Int) (B:Int):Bool :=
 ((decide (D≤n)) && (decide (n≤B)))
theorem pK {G:aU} {Lf:List Ent} {w:World} (n:Int) (B:Int) (D:Int)   (hc:Ctx G (Lf) w) {H:Bool} (hF:dB n B D=H):Calls Tryz.prog 104 #[i6 n,i6 B,i6 D] w (fun e w=>e=.returned (.bool H)∧Ctx G (Lf) w):=by
 unfold dB at hF
 refine bU Tryz.func104 rfl Tryz.ntmps104 rfl fun a hf=>zS fun K h=>sp 1 hf rfl fun a hf=>zT h ?_
 refine zS fun K h=>sp 4 hf rfl fun a hf=>gQ 4 (fun a=>Has 15 a [(0,i6 n),(1,i6 B),(2,i6 D),(6,.bool false),(7,i6 n),(8,i6 B),(9,.bool (decide (B≤n))),(10,.bool (decide (B≤n))),(14,.bool ((decide (B≤n)) && (decide (n≤D))))]) hc ?_ ?_
 ·cases hb:(decide (B≤n))
  ·rw [hb] at hf
   refine stS hf rfl rfl rfl fun a hf=>stS hf rfl rfl rfl fun a hf=>stS hf rfl rfl rfl fun a hf=>sp 1 hf rfl fun a hf=>aS ⟨hf.kp rfl,hc⟩
  ·rw [hb] at hf
   refine sp 4 hf rfl fun a hf=>aS ⟨hf.kp rfl,hc⟩
 intro a w ⟨hf,hc⟩
 refine sp 1 hf rfl fun a hf=>zT h ?_
 refine wp_ret ?_
 obtain rfl:=hF
 exact zO1 Tryz.results104 hf rfl ⟨rfl,hc⟩

def iD (n:Int):Bool :=
 (dB n 0 1000000000)
theorem uZ {G:aU} {Lf:List Ent} {w:World} (n:Int)   (hc:Ctx G (Lf) w) {B:Bool} (hF:iD n=B):Calls Tryz.prog 74 #[i6 n] w (fun e w=>e=.returned (.bool B)∧Ctx G (Lf) w):=by
 unfold iD at hF
 refine bU Tryz.func74 rfl Tryz.ntmps74 rfl fun a hf=>zS fun K h=>sp 1 hf rfl fun a hf=>zT h ?_
 refine zS fun K h=>sp 1 hf rfl fun a hf=>zQ (v:=.bool (dB n 0 1000000000)) hf hc aBv rfl (fun w hc=>pK n 0 1000000000 hc rfl) fun a w hf hc=>sp 1 hf rfl fun a hf=>zT h ?_
 refine wp_ret ?_
 obtain rfl:=hF
 exact zO1 Tryz.results74 hf rfl ⟨rfl,hc⟩

def oX (r:bM) (x:bW):Bool :=
 (((dB r.State 0 (W (x.States - 1))) && (iD r.Amount)) && (dB r.Loss 0 1000))
theorem zF {G:aU} {Lf:List Ent} {w:World} (r:bM) (x:bW) {b_:Nat} {B:Option Addr} {D:Nat} (I:Rd G 3 B D (x.Rights.map cB)) (hc:Ctx G (.box b_ [i6 x.States,.slice B x.Rights.length D] 114::Lf) w) {J:Bool} (hF:oX r x=J):Calls Tryz.prog 106 #[.agg #[i6 r.State,i6 r.Amount,i6 r.Loss],pq b_] w (fun e w=>e=.returned (.bool J)∧Ctx G (.box b_ [i6 x.States,.slice B x.Rights.length D] 114::Lf) w):=by
 unfold oX at hF
 refine bU Tryz.func106 rfl Tryz.ntmps106 rfl fun a hf=>zS fun K h=>zB hf hc rfl fun H a w hf hc=>sp 1 hf rfl fun a hf=>zT h ?_
 refine zS fun K h=>zP hf rfl (pFA aEs rfl) fun a hf=>zL hf hc aY m0 rfl fun a w hf hc=>zP hf rfl (pFA aCh rfl) fun a hf=>zL hf hc aY m1 rfl fun a w hf hc=>sp 1 hf rfl fun a hf=>zQ (v:=.bool (dB r.State 0 (W (x.States - 1)))) hf hc aBv rfl (fun w hc=>pK r.State 0 (W (x.States - 1)) hc rfl) fun a w hf hc=>sp 1 hf rfl fun a hf=>gQ 4 (fun a=>Has 20 a [(1,pq b_),(2,pq H),(3,.bool false),(4,pq H),(5,i6 r.State),(6,pq b_),(7,i6 x.States),(8,i6 (W (x.States - 1))),(9,.bool (dB r.State 0 (W (x.States - 1)))),(10,.bool (dB r.State 0 (W (x.States - 1)))),(14,.bool ((dB r.State 0 (W (x.States - 1))) && (iD r.Amount)))]) hc ?_ ?_
 ·cases hb:(dB r.State 0 (W (x.States - 1)))
  ·rw [hb] at hf
   refine stS hf rfl rfl rfl fun a hf=>stS hf rfl rfl rfl fun a hf=>stS hf rfl rfl rfl fun a hf=>sp 1 hf rfl fun a hf=>aS ⟨hf.kp rfl,hc⟩
  ·rw [hb] at hf
   refine zP hf rfl (pFA aFz rfl) fun a hf=>zL hf hc aY m0 rfl fun a w hf hc=>zQ (v:=.bool (iD r.Amount)) hf hc aL5 rfl (fun w hc=>uZ r.Amount hc rfl) fun a w hf hc=>sp 1 hf rfl fun a hf=>aS ⟨hf.kp rfl,hc⟩
 intro a w ⟨hf,hc⟩
 refine sp 1 hf rfl fun a hf=>gQ 4 (fun a=>Has 20 a [(1,pq b_),(2,pq H),(3,.bool false),(4,pq H),(5,i6 r.State),(6,pq b_),(7,i6 x.States),(8,i6 (W (x.States - 1))),(9,.bool (dB r.State 0 (W (x.States - 1)))),(10,.bool (dB r.State 0 (W (x.States - 1)))),(14,.bool ((dB r.State 0 (W (x.States - 1))) && (iD r.Amount))),(15,.bool ((dB r.State 0 (W (x.States - 1))) && (iD r.Amount))),(19,.bool (((dB r.State 0 (W (x.States - 1))) && (iD r.Amount)) && (dB r.Loss 0 1000)))]) hc ?_ ?_
 ·cases hb:((dB r.State 0 (W (x.States - 1))) && (iD r.Amount))
  ·rw [hb] at hf
   refine stS hf rfl rfl rfl fun a hf=>stS hf rfl rfl rfl fun a hf=>stS hf rfl rfl rfl fun a hf=>sp 1 hf rfl fun a hf=>aS ⟨hf.kp rfl,hc⟩
  ·rw [hb] at hf
   refine zP hf rfl (pFA aFq rfl) fun a hf=>zL hf hc aY m0 rfl fun a w hf hc=>zQ (v:=.bool (dB r.Loss 0 1000)) hf hc aBv rfl (fun w hc=>pK r.Loss 0 1000 hc rfl) fun a w hf hc=>sp 1 hf rfl fun a hf=>aS ⟨hf.kp rfl,hc⟩
 intro a w ⟨hf,hc⟩
 refine sp 1 hf rfl fun a hf=>zT h ?_
 refine wp_ret ?_
 obtain rfl:=hF
 replace hc:=hc.drop k0
 exact zO1 Tryz.results106 hf rfl ⟨rfl,hc⟩

def gN (x:bM) (B:bW):Bool :=
 (!(oX (⟨x.State,x.Amount,x.Loss⟩:bM) B))
theorem pU {G:aU} {Lf:List Ent} {w:World} (x:bM) (H:bW) {b_:Nat} {J:Nat} {B:Option Addr} {D:Nat} (I:Rd G 3 B D (H.Rights.map cB)) (hc:Ctx G (.box b_ [.func (.func 106) #[] #[pq J]] 198::.box J [i6 H.States,.slice B H.Rights.length D] 114::Lf) w) {M:Bool} (hF:gN x H=M):Calls Tryz.prog 129 #[.agg #[i6 x.State,i6 x.Amount,i6 x.Loss],pq b_] w (fun e w=>e=.returned (.bool M)∧Ctx G (.box b_ [.func (.func 106) #[] #[pq J]] 198::.box J [i6 H.States,.slice B H.Rights.length D] 114::Lf) w):=by
 unfold gN at hF
 refine bU Tryz.func129 rfl Tryz.ntmps129 rfl fun a hf=>zS fun K h=>zB hf hc rfl fun O a w hf hc=>sp 1 hf rfl fun a hf=>zT h ?_
 refine zS fun K h=>zL hf hc aO5 m1 rfl fun a w hf hc=>zN hf hc aEd m0 rfl fun a w hf hc=>zQ (v:=.bool (oX (⟨x.State,x.Amount,x.Loss⟩:bM) H)) hf hc aOa rfl (fun w hc=>(zF (⟨x.State,x.Amount,x.Loss⟩:bM) H I (hc.pick k2) rfl).mono fun e w h=>⟨h.1,(h.2.unpick k2)⟩) fun a w hf hc=>sp 2 hf rfl fun a hf=>zT h ?_
 refine wp_ret ?_
 obtain rfl:=hF
 replace hc:=hc.drop k0
 exact zO1 Tryz.results129 hf rfl ⟨rfl,hc⟩

def fV (N:Nat) (s_:List bM) (f_:bW) (x:Int):Option (cP (Int) (Int)) :=
 cond (decide (x < ((s_.length:Nat):Int)))
 (Option.bind (bQ s_ x) fun B=>
 cond (gN B f_)
 (some (.ret x))
 (some (.cont (W (x + 1)))))
 (some (.brk x))
def eD (N:Nat) (s_:List bM) (f_:bW):Option (Int) :=
 Option.bind (bC (fun s4=>fV N s_ f_ s4) N 0) fun x4=>
 exK x4 (fun s4=>some (-1)) some
theorem kO {N:Nat} {G:aU} {Lf:List Ent} {w:World} (s_:List bM) (f_:bW) {O:Option Addr} {R:Nat} {b_:Nat} {H:Nat} {D:Option Addr} {B:Nat} (X:Rd G 3 O R (s_.map cB)) (J:Rd G 3 D B (f_.Rights.map cB)) (hc:Ctx G (.box b_ [.func (.func 106) #[] #[pq H]] 198::.box H [i6 f_.States,.slice D f_.Rights.length B] 114::Lf) w) {U:Int} (hF:eD N s_ f_=some U):Calls Tryz.prog 140 #[.slice O s_.length R,.func (.func 129) #[] #[pq b_]] w (fun e w=>e=.returned (i6 U)∧Ctx G (.box b_ [.func (.func 106) #[] #[pq H]] 198::.box H [i6 f_.States,.slice D f_.Rights.length B] 114::Lf) w):=by
 unfold eD at hF
 refine bU Tryz.func140 rfl Tryz.ntmps140 rfl fun a hf=>zS fun K h=>sp 1 hf rfl fun a hf=>zT h ?_
 refine wp_seq_k fun K2 h2=>zS fun K h=>sp 1 hf rfl fun a hf=>zP hf rfl (cR Tryz.underlying112 rfl) fun a hf=>sp 1 hf rfl fun a hf=>zT h ?_
 refine wp_block ?_
 obtain ⟨x4,Z,hF⟩:=aA hF
 let S4:Int→Act→World→Prop:=(fun (zz:Int) a w=>Has 19 a [(0,.slice O s_.length R),(1,.func (.func 129) #[] #[pq b_]),(7,i6 ((s_.length:Nat):Int)),(8,i6 zz)]∧Ctx G (.box b_ [.func (.func 106) #[] #[pq H]] 198::.box H [i6 f_.States,.slice D f_.Rights.length B] 114::Lf) w)
 have d:∀ (zz:Int) a w,x4=.go zz→S4 zz a w→K2 a w:=by
  rintro x a w rfl ⟨hf,hc⟩
  replace hF:=cI hF
  refine h2 _ _ ?_
  refine zS fun K h=>sp 1 hf rfl fun a hf=>zT h ?_
  refine wp_ret ?_
  obtain rfl:=sj hF
  exact zO1 Tryz.results140 hf rfl ⟨rfl,hc⟩
 have b:∀ r,x4=.out r→r=U:=by
  rintro r rfl
  exact sj hF
 refine eR N (eO (S:=S4) (x:=x4) ?_ N 0 _ _ ⟨hf.kp rfl,hc⟩ Z)
 clear hF hf hc
 rintro x i a w KB4 ⟨hf,hc⟩ hF I Y
 unfold fV at hF
 refine zS fun K h=>sp 1 hf rfl fun a hf=>zT h ?_
 refine wp_seq_k fun K7 h7=>zI hf rfl hF ?_ ?_ <;> clear hF <;> intro hF
 ·refine wp_skip ?_
  refine h7 _ _ ?_
  refine wp_seq_k fun K8 h8=>wp_block ?_
  refine zS fun K h=>sp 2 hf rfl fun a hf=>zT h ?_
  refine zS fun K h=>sp 3 hf rfl fun a hf=>?_
  obtain ⟨M,V,hF⟩:=aA hF
  obtain ⟨g,o,qa,qp⟩:=X.atm V
  refine zP hf rfl (pIA Tryz.underlying112 aD0 rfl rfl qa) fun a hf=>zE hf hc rfl (jE (vs:=[i6 M.State,i6 M.Amount,i6 M.Loss]) aEd rfl rfl (dS qp (n:=3) (o':=0) rfl)) fun a w hf hc=>zQ (v:=.bool (gN M f_)) hf hc aNy rfl (fun w hc=>(pU M f_ J ((hc.pick k1).pick k1) rfl).mono fun e w h=>⟨h.1,((h.2.unpick k1).unpick k1)⟩) fun a w hf hc=>zT h ?_
  refine zI hf rfl hF ?_ ?_ <;> clear hF <;> intro hF
  ·refine zS fun K h=>sp 2 hf rfl fun a hf=>zT h ?_
   refine wp_ret ?_
   refine bT ?_
   refine aQ ?_
   refine aQ ?_
   have he:=sj hF
   rw [← he] at I
   replace hF:=b _ I
   refine bT ?_
   refine aQ ?_
   obtain rfl:=hF
   exact zO1 Tryz.results140 hf rfl ⟨rfl,hc⟩
  ·refine wp_skip ?_
   refine h8 _ _ ?_
   refine eB ?_
   refine sp 2 hf rfl fun a hf=>aS ?_
   exact Y (W (x + 1)) _ _ (sj hF).symm ⟨hf.kp rfl,hc⟩
 ·refine wp_exit ?_
  refine bI ?_
  refine bI ?_
  have he:=sj hF
  rw [← he] at I
  refine fZ ?_
  exact d _ _ _ I ⟨hf.kp rfl,hc⟩

def dM (N:Nat) (s_:List bM) (f_:bW):Option (Bool) :=
 Option.bind (eD N s_ f_) fun r=>
 some (decide (0≤r))
theorem kC {N:Nat} {G:aU} {Lf:List Ent} {w:World} (s_:List bM) (f_:bW) {J:Option Addr} {M:Nat} {b_:Nat} {I:Nat} {D:Option Addr} {B:Nat} (R:Rd G 3 J M (s_.map cB)) (H:Rd G 3 D B (f_.Rights.map cB)) (hc:Ctx G (.box b_ [.func (.func 106) #[] #[pq I]] 198::.box I [i6 f_.States,.slice D f_.Rights.length B] 114::Lf) w) {O:Bool} (hF:dM N s_ f_=some O):Calls Tryz.prog 128 #[.slice J s_.length M,.func (.func 129) #[] #[pq b_]] w (fun e w=>e=.returned (.bool O)∧Ctx G (.box b_ [.func (.func 106) #[] #[pq I]] 198::.box I [i6 f_.States,.slice D f_.Rights.length B] 114::Lf) w):=by
 unfold dM at hF
 refine bU Tryz.func128 rfl Tryz.ntmps128 rfl fun a hf=>zS fun K h=>sp 1 hf rfl fun a hf=>zT h ?_
 refine zS fun K h=>sp 2 hf rfl fun a hf=>?_
 obtain ⟨r,hr,hF⟩:=aA hF
 refine zQ (v:=i6 r) hf hc aOn rfl (fun w hc=>(kO s_ f_ R H ((hc.pick k1).pick k1) hr).mono fun e w h=>⟨h.1,((h.2.unpick k1).unpick k1)⟩) fun a w hf hc=>sp 2 hf rfl fun a hf=>zT h ?_
 refine wp_ret ?_
 obtain rfl:=sj hF
 exact zO1 Tryz.results128 hf rfl ⟨rfl,hc⟩

def kT (N:Nat) (l:List bM) (so:bW):Option (Bool) :=
 Option.bind (dM N l so) fun r=>
 some (!r)
theorem qY {N:Nat} {G:aU} {Lf:List Ent} {w:World} (l:List bM) (so:bW) {M:Option Addr} {J:Nat} {b_:Nat} {D:Option Addr} {B:Nat} (O:Rd G 3 M J (l.map cB)) (H:Rd G 3 D B (so.Rights.map cB)) (hc:Ctx G (.box b_ [i6 so.States,.slice D so.Rights.length B] 114::Lf) w) {I:Bool} (hF:kT N l so=some I):Calls Tryz.prog 105 #[.slice M l.length J,.func (.func 106) #[] #[pq b_]] w (fun e w=>e=.returned (.bool I)∧Ctx G (.box b_ [i6 so.States,.slice D so.Rights.length B] 114::Lf) w):=by
 unfold kT at hF
 refine bU Tryz.func105 rfl Tryz.ntmps105 rfl fun a hf=>zS fun K h=>zB hf hc rfl fun R a w hf hc=>sp 1 hf rfl fun a hf=>zT h ?_
 refine zS fun K h=>sp 1 hf rfl fun a hf=>zP hf rfl (pMF (us:=[pq R]) rfl rfl) fun a hf=>?_
 obtain ⟨r,hr,hF⟩:=aA hF
 refine zQ (v:=.bool r) hf hc aM8 rfl (fun w hc=>(kC l so O H ((hc.pick k1).pick k1) hr).mono fun e w h=>⟨h.1,((h.2.unpick k1).unpick k1)⟩) fun a w hf hc=>sp 2 hf rfl fun a hf=>zT h ?_
 refine wp_ret ?_
 obtain rfl:=sj hF
 replace hc:=hc.drop k0
 exact zO1 Tryz.results105 hf rfl ⟨rfl,hc⟩

def uQ (N:Nat) (c_:bW):Option (Int) :=
 cond ((!(dB c_.States 1 12)) || (!(dB ((c_.Rights.length:Nat):Int) 1 30)))
 (some 3)
 (Option.bind (kT N c_.Rights c_) fun r=>
 cond (!r)
 (some 100)
 (some 0))
theorem aB6 {N:Nat} {G:aU} {Lf:List Ent} {w:World} (c_:bW) {H:Option Addr} {B:Nat} (D:Rd G 3 H B (c_.Rights.map cB)) (hc:Ctx G (Lf) w) {J:Int} (hF:uQ N c_=some J):Calls Tryz.prog 73 #[.agg #[i6 c_.States,.slice H c_.Rights.length B]] w (fun e w=>e=.returned (i6 J)∧Ctx G (Lf) w):=by
 unfold uQ at hF
 refine bU Tryz.func73 rfl Tryz.ntmps73 rfl fun a hf=>zS fun K h=>zB hf hc rfl fun I a w hf hc=>sp 1 hf rfl fun a hf=>zT h ?_
 refine wp_seq_k fun K2 h2=>wp_block ?_
 refine zS fun K h=>zP hf rfl (pFA aCh rfl) fun a hf=>zL hf hc aY m0 rfl fun a w hf hc=>zQ (v:=.bool (dB c_.States 1 12)) hf hc aBv rfl (fun w hc=>pK c_.States 1 12 hc rfl) fun a w hf hc=>sp 2 hf rfl fun a hf=>gQ 6 (fun a=>Has 21 a [(1,pq I),(4,pq I),(5,i6 c_.States),(6,.bool (dB c_.States 1 12)),(7,.bool (!(dB c_.States 1 12))),(8,.bool (!(dB c_.States 1 12))),(14,.bool ((!(dB c_.States 1 12)) || (!(dB ((c_.Rights.length:Nat):Int) 1 30))))]) hc ?_ ?_
 ·cases hb:(!(dB c_.States 1 12))
  ·rw [hb] at hf
   refine zP hf rfl (pFA aB5 rfl) fun a hf=>zL hf hc aGz m0 rfl fun a w hf hc=>zP hf rfl (cR Tryz.underlying112 rfl) fun a hf=>zQ (v:=.bool (dB ((c_.Rights.length:Nat):Int) 1 30)) hf hc aBv rfl (fun w hc=>pK ((c_.Rights.length:Nat):Int) 1 30 hc rfl) fun a w hf hc=>sp 2 hf rfl fun a hf=>aS ⟨hf.kp rfl,hc⟩
  ·rw [hb] at hf
   refine stS hf rfl rfl rfl fun a hf=>stS hf rfl rfl rfl fun a hf=>stS hf rfl rfl rfl fun a hf=>stS hf rfl rfl rfl fun a hf=>stS hf rfl rfl rfl fun a hf=>sp 1 hf rfl fun a hf=>aS ⟨hf.kp rfl,hc⟩
 intro a w ⟨hf,hc⟩
 refine sp 1 hf rfl fun a hf=>zT h ?_
 refine zI hf rfl hF ?_ ?_ <;> clear hF <;> intro hF
 ·refine zS fun K h=>sp 1 hf rfl fun a hf=>zT h ?_
  refine wp_ret ?_
  refine bT ?_
  refine aQ ?_
  obtain rfl:=sj hF
  replace hc:=hc.drop k0
  exact zO1 Tryz.results73 hf rfl ⟨rfl,hc⟩
 ·refine zS fun K h=>zP hf rfl (pFA aB5 rfl) fun a hf=>zL hf hc aGz m0 rfl fun a w hf hc=>zP hf rfl (pMF (us:=[pq I]) rfl rfl) fun a hf=>?_
  obtain ⟨r,hr,hF⟩:=aA hF
  refine zQ (v:=.bool r) hf hc aOh rfl (fun w hc=>(qY c_.Rights c_ D D (hc.pick k0) hr).mono fun e w h=>⟨h.1,(h.2.unpick k0)⟩) fun a w hf hc=>sp 2 hf rfl fun a hf=>zT h ?_
  refine zI hf rfl hF ?_ ?_ <;> clear hF <;> intro hF
  ·refine zS fun K h=>sp 1 hf rfl fun a hf=>zT h ?_
   refine wp_ret ?_
   refine bT ?_
   refine aQ ?_
   obtain rfl:=sj hF
   replace hc:=hc.drop k0
   exact zO1 Tryz.results73 hf rfl ⟨rfl,hc⟩
  ·refine wp_skip ?_
   refine h2 _ _ ?_
   refine zS fun K h=>sp 1 hf rfl fun a hf=>zT h ?_
   refine wp_ret ?_
   obtain rfl:=sj hF
   replace hc:=hc.drop k0
   exact zO1 Tryz.results73 hf rfl ⟨rfl,hc⟩

def nH (N:Nat) (w_:iR) (B:Int):Option (Int) :=
 some B
theorem uJ {N:Nat} {G:aU} {Lf:List Ent} {w:World} (w_:iR) (I:Int) {b_:Nat} {D:Option Addr} {B:Nat} (H:Rd G 3 D B (w_.Compact.Rights.map cB)) (hc:Ctx G (.box b_ (aN [i6 w_.Compact.States,.slice D w_.Compact.Rights.length B] 12 aB w_.got []) 202::Lf) w) {M:Int} (hF:nH N w_ I=some M):Calls Tryz.prog 107 #[pq b_,i6 I] w (fun e w=>∃ (S:Nat) (O:Nat),e=.returned (.func (.func 130) #[] #[pq S,pq O])∧Ctx G (.box S [pq b_] 199::.box O [i6 M] 3::.box b_ (aN [i6 w_.Compact.States,.slice D w_.Compact.Rights.length B] 12 aB w_.got []) 202::Lf) w):=by
 unfold nH at hF
 refine bU Tryz.func107 rfl Tryz.ntmps107 rfl fun a hf=>zS fun K h=>zB hf hc rfl fun R a w hf hc=>zB hf hc rfl fun J a w hf hc=>sp 1 hf rfl fun a hf=>zT h ?_
 refine zS fun K h=>zP hf rfl (pMF (us:=[pq R,pq J]) rfl rfl) fun a hf=>sp 1 hf rfl fun a hf=>zT h ?_
 refine wp_ret ?_
 obtain rfl:=sj hF
 replace hc:=(hc.pick k0).pick k1
 exact zO1 Tryz.results107 hf rfl ⟨R,J,rfl,hc⟩

def nT (N:Nat) {σ:Type} (x:iR) (y:σ→(bM × Int)→Option (σ × Bool)) (H:Int) (B:Int) (sg:σ):Option (cP (Int × Int × σ) (σ × Int)) :=
 cond (decide (H < ((x.Compact.Rights.length:Nat):Int)))
 (Option.bind (bQ x.Compact.Rights H) fun D=>
 Option.bind (y sg (D,min D.Amount B)) fun ry=>
 cond (!ry.2)
 (some (.ret (ry.1,W (B - (min D.Amount B)))))
 (some (.cont (W (H + 1),W (B - (min D.Amount B)),ry.1))))
 (some (.brk (H,B,sg)))
def lZ (N:Nat) {σ:Type} (x:iR) (B:Int) (y:σ→(bM × Int)→Option (σ × Bool)) (D:σ):Option (σ × Int) :=
 Option.bind (bC (fun s3=>nT N x y s3.1 s3.2.1 s3.2.2) N (0,B,D)) fun x3=>
 exK x3 (fun s3=>some (s3.2.2,s3.2.1)) some
theorem sS {N:Nat} {G:aU} {Lf:List Ent} {w:World} {σ:Type} (x:iR) (V:Int) {b_:Nat} {I:Nat} {D:Option Addr} {B:Nat} {M:Nat} (R:Rd G 3 D B (x.Compact.Rights.map cB)) (J:σ→List Ent→Prop) (y:σ→(bM × Int)→Option (σ × Bool)) {l:Nat} (hy:oI Tryz.prog G l (fun x:(bM × Int)=>[.agg #[i6 x.1.State,i6 x.1.Amount,i6 x.1.Loss],i6 x.2]) J y) (b:σ) {A0 Ls1:List Ent} (i:J b (A0++(.box I (aN [i6 x.Compact.States,.slice D x.Compact.Rights.length B] 12 aB x.got []) 202::Ls1))) (hc:Ctx G (.box b_ [pq I] 199::.box M [i6 V] 3::((A0++(.box I (aN [i6 x.Compact.States,.slice D x.Compact.Rights.length B] 12 aB x.got []) 202::Ls1))++Lf)) w) {Y:σ × Int} (hF:lZ N x V y b=some Y):Calls Tryz.prog 130 #[.func (.yield l) #[] #[],pq b_,pq M] w (fun e w=>(∃ v,e=.returned v)∧∃ L,J Y.1 L∧Ctx G (.box b_ [pq I] 199::.box M [i6 Y.2] 3::(L++Lf)) w):=by
 unfold lZ at hF
 refine bU Tryz.func130 rfl Tryz.ntmps130 rfl fun a hf=>?_
 replace hc:Ctx G (.box I (aN [i6 x.Compact.States,.slice D x.Compact.Rights.length B] 12 aB x.got []) 202::.box b_ [pq I] 199::.box M [i6 V] 3::((A0++Ls1)++Lf)) w:=aFy [.box b_ [pq I] 199,.box M [i6 V] 3] hc
 refine zS fun K h=>zL hf hc aBn m1 rfl fun a w hf hc=>sp 1 hf rfl fun a hf=>zP hf rfl (pFA aFk rfl) fun a hf=>zP hf rfl (pFA aB5 rfl) fun a hf=>zL hf hc aGz m0 rfl fun a w hf hc=>zP hf rfl (cR Tryz.underlying112 rfl) fun a hf=>sp 1 hf rfl fun a hf=>zT h ?_
 refine lH fun K2 h2=>wp_block ?_
 replace hc:Ctx G (.box b_ [pq I] 199::.box M [i6 V] 3::((A0++(.box I (aN [i6 x.Compact.States,.slice D x.Compact.Rights.length B] 12 aB x.got []) 202::Ls1))++Lf)) w:=aI0 [.box b_ [pq I] 199,.box M [i6 V] 3] hc
 obtain ⟨x3,m,hF⟩:=aA hF
 let S3:(Int × Int × σ)→Act→World→Prop:=(fun (zz:Int × Int × σ) a w=>∃ (Ls:List Ent),J zz.2.2 Ls∧Has 30 a [(0,.func (.yield l) #[] #[]),(2,pq M),(11,.slice D x.Compact.Rights.length B),(12,i6 ((x.Compact.Rights.length:Nat):Int)),(13,i6 zz.1)]∧Ctx G (.box b_ [pq I] 199::.box M [i6 zz.2.1] 3::(Ls++Lf)) w)
 have k:∀ (zz:Int × Int × σ) a w,x3=.go zz→S3 zz a w→K2 a w:=by
  rintro ⟨d,O,sg⟩ a w rfl ⟨Ls,hJ,hf,hc⟩
  replace hF:=cI hF
  refine h2 _ _ ?_
  obtain rfl:=sj hF
  exact rG (by simp) rfl Tryz.results130 hf ⟨⟨_,rfl⟩,Ls,hJ,hc⟩
 have p:∀ r,x3=.out r→r=Y:=by
  rintro r rfl
  exact sj hF
 refine eR N (eO (S:=S3) (x:=x3) ?_ N (0,V,b) _ _ ⟨(A0++(.box I (aN [i6 x.Compact.States,.slice D x.Compact.Rights.length B] 12 aB x.got []) 202::Ls1)),i,hf.kp rfl,hc⟩ m)
 clear hF hf hc
 rintro ⟨d,O,sg⟩ t a w KB3 ⟨Ls,hJ,hf,hc⟩ hF U j
 unfold nT at hF
 refine zS fun K h=>sp 1 hf rfl fun a hf=>zT h ?_
 refine wp_seq_k fun K5 h5=>zI hf rfl hF ?_ ?_ <;> clear hF <;> intro hF
 ·refine wp_skip ?_
  refine h5 _ _ ?_
  refine wp_seq_k fun K6 h6=>wp_block ?_
  refine zS fun K h=>?_
  obtain ⟨H,g,hF⟩:=aA hF
  obtain ⟨u,o,qa,qp⟩:=R.atm g
  refine zP hf rfl (pIA Tryz.underlying112 aD0 rfl rfl qa) fun a hf=>zE hf hc rfl (jE (vs:=[i6 H.State,i6 H.Amount,i6 H.Loss]) aEd rfl rfl (dS qp (n:=3) (o':=0) rfl)) fun a w hf hc=>zA hf hc aK0 rfl fun X a w hf hc=>zW hf hc aD0 u0 rfl fun w hc=>zT h ?_
  refine zS fun K h=>zP hf rfl (pFA aFz rfl) fun a hf=>zL hf hc aY m0 rfl fun a w hf hc=>zL hf hc aY m2 rfl fun a w hf hc=>zP hf rfl (aC3 rfl rfl) fun a hf=>sp 1 hf rfl fun a hf=>zT h ?_
  refine zS fun K h=>zL hf hc aY m2 rfl fun a w hf hc=>sp 2 hf rfl fun a hf=>zW hf hc eQ u2 rfl fun w hc=>zT h ?_
  refine wp_seq_k fun K10 q=>?_
  obtain ⟨ry,s,hF⟩:=aA hF
  refine yReg 3 (fun a w=>Has 30 a [(0,.func (.yield l) #[] #[]),(2,pq M),(11,.slice D x.Compact.Rights.length B),(12,i6 ((x.Compact.Rights.length:Nat):Int)),(13,i6 d),(5,pq X),(6,i6 (min H.Amount O)),(24,.func (.yield l) #[] #[]),(25,.agg #[i6 H.State,i6 H.Amount,i6 H.Loss]),(26,i6 (min H.Amount O))]∧Ctx G (.box X [i6 H.State,i6 H.Amount,i6 H.Loss] 167::.box b_ [pq I] 199::.box M [i6 (W (O - (min H.Amount O)))] 3::(Ls++Lf)) w) (fun _ _ h=>by obtain ⟨⟨_,h⟩,_⟩:=h; cases h) ?_ ?_
  ·refine sp 1 hf rfl fun a hf=>zN hf hc aEd m0 rfl fun a w hf hc=>sp 1 hf rfl fun a hf=>aS ⟨hf.kp rfl,hc⟩
  rintro a w ⟨hf,hc⟩
  refine stY (own:=[.box X [i6 H.State,i6 H.Amount,i6 H.Loss] 167,.box b_ [pq I] 199,.box M [i6 (W (O - (min H.Amount O)))] 3]) (v:=(H,min H.Amount O)) hy hJ s hf hc rfl rfl rfl rfl rfl rfl fun a w Ls_1 Z hf hc=>?_
  replace hc:Ctx G (.box X [i6 H.State,i6 H.Amount,i6 H.Loss] 167::.box b_ [pq I] 199::.box M [i6 (W (O - (min H.Amount O)))] 3::(Ls_1++Lf)) w:=hc
  refine aH2 (fun _ _ h=>by obtain ⟨⟨_,h⟩,_⟩:=h; cases h) ?_
  refine sp 1 hf rfl fun a hf=>aS ?_
  refine q _ _ ?_
  refine zI hf rfl hF ?_ ?_ <;> clear hF <;> intro hF
  ·refine wp_ret ?_
   refine bT ?_
   refine aQ ?_
   refine aQ ?_
   have he:=sj hF
   rw [← he] at U
   replace hF:=p _ U
   refine bT ?_
   refine aQ ?_
   obtain rfl:=hF
   replace hc:=hc.drop k0
   exact rG (by simp) rfl Tryz.results130 hf ⟨⟨_,rfl⟩,Ls_1,Z,hc⟩
  ·refine wp_skip ?_
   refine h6 _ _ ?_
   refine eB ?_
   refine sp 2 hf rfl fun a hf=>aS ?_
   replace hc:=hc.drop k0
   exact j (W (d + 1),W (O - (min H.Amount O)),ry.1) _ _ (sj hF).symm ⟨Ls_1,Z,hf.kp rfl,hc⟩
 ·refine wp_exit ?_
  refine bI ?_
  refine bI ?_
  have he:=sj hF
  rw [← he] at U
  refine fZ ?_
  exact k _ _ _ U ⟨Ls,hJ,hf.kp rfl,hc⟩

def jL (N:Nat) (s_:List Int):Option ((List Int)) :=
 Option.bind (rR (s_).length) fun un=>
 some s_
theorem sL {N:Nat} {G:aU} {Lf:List Ent} {w:World} (s_:List Int) {D:Option Addr} {I:Nat} (H:Rd G 1 D I (s_.map aB)) (hc:Ctx G (Lf) w) {B:(List Int)} (hF:jL N s_=some B):Calls Tryz.prog 108 #[.slice D s_.length I] w (fun e w=>∃ (J:Option Addr) (M:Nat),e=.returned (.slice J B.length M)∧Ctx G (.row J M (B.map aB) 3 1::Lf) w):=by
 unfold jL at hF
 refine bU Tryz.func108 rfl Tryz.ntmps108 rfl fun a hf=>zS fun K h=>sp 1 hf rfl fun a hf=>zT h ?_
 refine wp_seq_k fun K2 h2=>zS fun K h=>sp 1 hf rfl fun a hf=>zP hf rfl (pEqN Tryz.underlying26 rfl rfl) fun a hf=>zT h ?_
 rcases aEh H with ⟨hp,hx⟩ | hp
 ·rw [hp] at hf
  replace hF:(some ([]:List Int))=some B:=by
   try rw [hx] at hF
   exact hF
  refine aG1 hf rfl ?_
  refine zS fun K h=>sp 1 hf rfl fun a hf=>zT h ?_
  refine wp_ret ?_
  refine aQ ?_
  obtain rfl:=sj hF
  replace hc:=hc.nilRow 3 1
  exact zO1 Tryz.results108 hf rfl ⟨none,0,rfl,hc⟩
 ·rw [hp] at hf
  refine aDv hf rfl ?_
  refine wp_skip ?_
  refine h2 _ _ ?_
  refine zS fun K h=>pJ (rows:=([]:List Int).map aB) (vs:=[]) hf hc rfl rfl qG rfl trivial rfl rfl fun U a w hf hc=>sp 1 hf rfl fun a hf=>?_
  obtain ⟨un,R,hF⟩:=aA hF
  refine qI (xs:=([]:List Int)) (ys:=s_) hf hc rfl rfl qG rfl rfl rfl rfl rfl bA (aGo hc H) (fun _ _=>u0) (by simpa using gJ R) fun O S a w hf hc=>sp 1 hf rfl fun a hf=>zT h ?_
  refine wp_ret ?_
  obtain rfl:=sj hF
  exact zO1 Tryz.results108 hf rfl ⟨O,S,rfl,hc⟩

def oD (N:Nat) (x:Nat→Int) (xv:bM) (B:Int):Option (Rs ((Nat→Int))) :=
 Option.bind (inR xv.State 12) fun un=>
 Option.bind (inR xv.State 12) fun D=>
 some (.go (kU x xv.State.toNat (W ((x xv.State.toNat) + (W ((W (B * (W (1000 - xv.Loss)))).tdiv 1000))))))
def vI (N:Nat) (c_:bW) (H:Int):Option ((List Int)) :=
 Option.bind (nH N (⟨c_,(fun _=>0)⟩:iR) H) fun r=>
 Option.bind (lZ N (⟨c_,(fun _=>0)⟩:iR) r (rY (fun (zz:(Nat→Int)) (D:(bM × Int))=>oD N zz D.1 D.2)) (.go (fun _=>0))) fun x5=>
 rsK x5.1 (fun B=>Option.bind (rO (aL 12 B) 0 c_.States) fun sub=>
 Option.bind (jL N sub) fun I=>
 some I) (fun B=>none)
theorem aB8 {N:Nat} {G:aU} {Lf:List Ent} {w:World} (c_:bW) (i:Int) {B:Option Addr} {D:Nat} (O:Rd G 3 B D (c_.Rights.map cB)) (hc:Ctx G (Lf) w) {g:(List Int)} (hF:vI N c_ i=some g):Calls Tryz.prog 75 #[.agg #[i6 c_.States,.slice B c_.Rights.length D],i6 i] w (fun e w=>∃ (t:Option Addr) (s:Nat),e=.returned (.slice t g.length s)∧Ctx G (.row t s (g.map aB) 3 1::Lf) w):=by
 unfold vI at hF
 refine xK Tryz.func75 rfl Tryz.ntmps75 rfl fun a hf=>zS fun K h=>zB hf hc rfl fun av a w hf hc=>sp 1 hf rfl fun a hf=>zT h ?_
 refine zS fun K h=>zN hf hc aDz m0 rfl fun a w hf hc=>zP hf rfl (bL (cells:=(aN [i6 c_.States,.slice B c_.Rights.length D] 12 aB (fun _=>0) [])) aPa rfl rfl) fun a hf=>stBx (cs:=(aN [i6 c_.States,.slice B c_.Rights.length D] 12 aB (fun _=>0) [])) hf hc rfl rfl rfl rfl fun H a w hf hc=>zA hf hc aNn rfl fun I a w hf hc=>zW hf hc aPh u0 rfl fun w hc=>zT h ?_
 refine wp_seq_k fun K3 h3=>zS fun K h=>zL hf hc aBn m0 rfl fun a w hf hc=>sp 1 hf rfl fun a hf=>?_
 obtain ⟨r,hr,hF⟩:=aA hF
 refine zC hf aN1 rfl (uJ (⟨c_,(fun _=>0)⟩:iR) i O (hc.pick k1) hr) ?_
 rintro _ w ⟨S,U,rfl,hc⟩
 refine ⟨_,rfl,fun a hf=>?_⟩
 refine zT h ?_
 obtain ⟨x5,ac,hF⟩:=aA hF
 replace hc:=hc.drop k4
 refine aLx (C:=[.box S [pq H] 199,.box U [i6 r] 3]) (C2:=[.box S [pq H] 199,.box U [i6 x5.2] 3]) (L0:=[.box H (aN [i6 c_.States,.slice B c_.Rights.length D] 12 aB ((fun _=>0)) []) 202,.box I [pq H] 199]) (Lf:=Lf) (encs:=fun x:(bM × Int)=>[.agg #[i6 x.1.State,i6 x.1.Amount,i6 x.1.Loss],i6 x.2]) (fun (zz:(Nat→Int)) L=>L=[.box H (aN [i6 c_.States,.slice B c_.Rights.length D] 12 aB zz []) 202,.box I [pq H] 199]) (fun (zz:(Nat→Int)) (v:(bM × Int))=>oD N zz v.1 v.2) (fun _=>0) x5.1 hf hc rfl aPj (fun _=>rfl) rfl rfl ?_ ?_ ?_ ?_
 ·intro lq mq J A Lx w hy hJ hc
  exact sS (⟨c_,(fun _=>0)⟩:iR) r O J _ hy _ hJ hc ac
 ·clear hF hf hc
  rintro lq mq x ⟨xv,M⟩ oq _ Lr Lb a w au rfl hF hf hc hK
  replace hf:Has 43 a [(5,pq I),(14,.agg #[i6 xv.State,i6 xv.Amount,i6 xv.Loss]),(15,i6 M)]:=hf.kp rfl
  replace hc:Ctx G (.box H (aN [i6 c_.States,.slice B c_.Rights.length D] 12 aB x []) 202::.box I [pq H] 199::Lr) w:=hc
  replace hF:oD N x xv M=some oq:=hF
  unfold oD at hF
  refine qA fun K6 h6=>mU (fun _ _ h=>h) rfl ?_
  refine zA hf hc aK0 rfl fun V a w hf hc=>zW hf hc aD0 u0 rfl fun w hc=>aS ?_
  refine h6 _ _ ?_
  refine mU (fun _ _ h=>h) rfl ?_
  refine sp 1 hf rfl fun a hf=>aS ?_
  refine hK _ _ [.box V [i6 xv.State,i6 xv.Amount,i6 xv.Loss] 167,.box H (aN [i6 c_.States,.slice B c_.Rights.length D] 12 aB x []) 202,.box I [pq H] 199] hc fun w hc=>?_
  replace hc:Ctx G (.box V [i6 xv.State,i6 xv.Amount,i6 xv.Loss] 167::.box H (aN [i6 c_.States,.slice B c_.Rights.length D] 12 aB x []) 202::.box I [pq H] 199::Lb) w:=hc
  refine rK fun K7 h7=>pW ?_
  obtain ⟨un,q,hF⟩:=aA hF
  obtain ⟨aq,b,hF⟩:=aA hF
  refine tZ (fun _ _ h=>h) rfl (fun θ=>[⟨none,none,5,pq I⟩,⟨none,none,6,pq V⟩,⟨none,none,7,i6 M⟩,⟨some 0,none,16,pq H⟩,⟨some 1,none,17,pq V⟩,⟨some 2,none,18,i6 xv.State⟩,⟨some 3,none,19,pq H⟩,⟨some 4,none,20,.pointer (some ⟨H,2,none⟩)⟩,⟨some 5,none,21,.pointer (some ⟨H,2 + xv.State.toNat * 1,none⟩)⟩,⟨some 6,none,22,i6 (x xv.State.toNat)⟩,⟨some 7,none,23,i6 M⟩,⟨some 8,none,24,.pointer (some ⟨V,2,none⟩)⟩,⟨some 9,none,25,i6 xv.Loss⟩,⟨some 10,none,26,i6 (W (1000 - xv.Loss))⟩,⟨some 11,none,27,i6 (W (M * (W (1000 - xv.Loss))))⟩,⟨some 12,none,28,i6 (W ((W (M * (W (1000 - xv.Loss)))).tdiv 1000))⟩,⟨some 13,none,29,i6 (W ((x xv.State.toNat) + (W ((W (M * (W (1000 - xv.Loss)))).tdiv 1000))))⟩,⟨some 14,none,30,pq H⟩,⟨some 15,none,31,.pointer (some ⟨H,2,none⟩)⟩,⟨some 16,none,32,.pointer (some ⟨H,2 + xv.State.toNat * 1,none⟩)⟩]) (fun E θ=>.box V [i6 xv.State,i6 xv.Amount,i6 xv.Loss] 167::(bif E 17 then .box H (aN [i6 c_.States,.slice B c_.Rights.length D] 12 aB (kU x xv.State.toNat (W ((x xv.State.toNat) + (W ((W (M * (W (1000 - xv.Loss)))).tdiv 1000))))) []) 202 else .box H (aN [i6 c_.States,.slice B c_.Rights.length D] 12 aB x []) 202)::.box I [pq H] 199::Lb) [(17,6)] (fun a w=>Has 43 a [(5,pq I)]∧Ctx G (.box V [i6 xv.State,i6 xv.Amount,i6 xv.Loss] 167::.box H (aN [i6 c_.States,.slice B c_.Rights.length D] 12 aB (kU x xv.State.toNat (W ((x xv.State.toNat) + (W ((W (M * (W (1000 - xv.Loss)))).tdiv 1000))))) []) 202::.box I [pq H] 199::Lb) w) aW (by kernel_rfl) (by kernel_rfl) (eV.of hf ⟨rfl,rfl,rfl,trivial,trivial,trivial,trivial,trivial,trivial,trivial,trivial,trivial,trivial,trivial,trivial,trivial,trivial,trivial,trivial,trivial,trivial⟩) hc ⟨?_,?_,?_,?_,?_,?_,?_,?_,?_,?_,?_,?_,?_,?_,?_,?_,?_,?_,trivial⟩ ?_ ?_
  ·intro E θ a w hD hi hp he hc
   have hf:=he.h0.mT he 0 rfl
   refine zL hf hc aBn m2 rfl fun a w hf hc=>zD θ he hi hf 3 rfl rfl rfl hc
  ·intro E θ a w hD hi hp he hc
   have hf:=he.h0.mT he 1 rfl
   refine zP hf rfl (pFA aEs rfl) fun a hf=>zD θ he hi hf 4 rfl rfl rfl hc
  ·intro E θ a w hD hi hp he hc
   have e1:=hp.o 1 rfl
   have hf:=he.h0.mP he 4 rfl e1
   refine zL hf hc aY m0 rfl fun a w hf hc=>zD θ he hi hf 5 rfl rfl rfl hc
  ·intro E θ a w hD hi hp he hc
   have e0:=hp.o 0 rfl
   have hf:=he.h0.mP he 3 rfl e0
   refine sp 1 hf rfl fun a hf=>zD θ he hi hf 6 rfl rfl rfl hc
  ·intro E θ a w hD hi hp he hc
   have e3:=hp.o 3 rfl
   have hf:=he.h0.mP he 6 rfl e3
   refine zP hf rfl (pFA aBj rfl) fun a hf=>zD θ he hi hf 7 rfl rfl rfl hc
  ·intro E θ a w hD hi hp he hc
   have e2:=hp.o 2 rfl
   have e4:=hp.o 4 rfl
   have hf:=(he.h0.mP he 5 rfl e2).mP he 7 rfl e4
   refine zP hf rfl (kK Tryz.underlying200 eQ rfl rfl (aT q).1 (aT q).2) fun a hf=>zD θ he hi hf 8 rfl rfl rfl hc
  ·intro E θ a w hD hi hp he hc
   have e5:=hp.o 5 rfl
   have k:=hD.f 0 rfl hi
   try dsimp only at hc
   rw [k] at hc
   have hf:=he.h0.mP he 8 rfl e5
   refine zE hf hc rfl (cN aY rfl (gF (j:=0) m1 (fun x=>(bA x).1) rfl q rfl)) fun a w hf hc=>zD θ he hi hf 9 rfl rfl rfl ?_
   try dsimp only
   rw [aV 6 k rfl]
   exact hc
  ·intro E θ a w hD hi hp he hc
   have hf:=he.h0.mT he 2 rfl
   refine sp 1 hf rfl fun a hf=>zD θ he hi hf 10 rfl rfl rfl hc
  ·intro E θ a w hD hi hp he hc
   have hf:=he.h0.mT he 1 rfl
   refine zP hf rfl (pFA aFq rfl) fun a hf=>zD θ he hi hf 11 rfl rfl rfl hc
  ·intro E θ a w hD hi hp he hc
   have e8:=hp.o 8 rfl
   have hf:=he.h0.mP he 11 rfl e8
   refine zL hf hc aY m0 rfl fun a w hf hc=>zD θ he hi hf 12 rfl rfl rfl hc
  ·intro E θ a w hD hi hp he hc
   have e9:=hp.o 9 rfl
   have hf:=he.h0.mP he 12 rfl e9
   refine sp 1 hf rfl fun a hf=>zD θ he hi hf 13 rfl rfl rfl hc
  ·intro E θ a w hD hi hp he hc
   have e7:=hp.o 7 rfl
   have d:=hp.o 10 rfl
   have hf:=(he.h0.mP he 10 rfl e7).mP he 13 rfl d
   refine sp 1 hf rfl fun a hf=>zD θ he hi hf 14 rfl rfl rfl hc
  ·intro E θ a w hD hi hp he hc
   have ag:=hp.o 11 rfl
   have hf:=he.h0.mP he 14 rfl ag
   refine zP hf rfl (aI5 rfl rfl (by decide)) fun a hf=>zD θ he hi hf 15 rfl rfl rfl hc
  ·intro E θ a w hD hi hp he hc
   have e6:=hp.o 6 rfl
   have ai:=hp.o 12 rfl
   have hf:=(he.h0.mP he 9 rfl e6).mP he 15 rfl ai
   refine sp 1 hf rfl fun a hf=>zD θ he hi hf 16 rfl rfl rfl hc
  ·intro E θ a w hD hi hp he hc
   have e0:=hp.o 0 rfl
   have hf:=he.h0.mP he 3 rfl e0
   refine sp 1 hf rfl fun a hf=>zD θ he hi hf 17 rfl rfl rfl hc
  ·intro E θ a w hD hi hp he hc
   have aj:=hp.o 14 rfl
   have hf:=he.h0.mP he 17 rfl aj
   refine zP hf rfl (pFA aBj rfl) fun a hf=>zD θ he hi hf 18 rfl rfl rfl hc
  ·intro E θ a w hD hi hp he hc
   have e2:=hp.o 2 rfl
   have af:=hp.o 15 rfl
   have hf:=(he.h0.mP he 5 rfl e2).mP he 18 rfl af
   refine zP hf rfl (kK Tryz.underlying200 eQ rfl rfl (aT b).1 (aT b).2) fun a hf=>zD θ he hi hf 19 rfl rfl rfl hc
  ·intro E θ a w hD hi hp he hc
   have ap:=hp.o 13 rfl
   have am:=hp.o 16 rfl
   try dsimp only at hc
   rw [hi] at hc
   have hf:=(he.h0.mP he 16 rfl ap).mP he 19 rfl am
   refine aEn (vs:=[i6 (W ((x xv.State.toNat) + (W ((W (M * (W (1000 - xv.Loss)))).tdiv 1000))))]) (o':=0) (z:=W ((x xv.State.toNat) + (W ((W (M * (W (1000 - xv.Loss)))).tdiv 1000)))) hf hc rfl rfl rfl rfl eQ rfl (fun x=>(bA x).1) rfl b rfl rfl u1 fun w hc=>zG θ he hi hf rfl ?_
   try dsimp only
   rw [aX E 17]
   exact hc
  ·intro E θ a w Z he hc
   have hf:=he.h0
   have k:=Z 17 rfl
   replace hf:=hf.more he 0 rfl (onT)
   try dsimp only at hc
   rw [k] at hc
   exact ⟨hf.kp rfl,hc⟩
  rintro a w ⟨hf,hc⟩
  refine h7 _ _ ?_
  replace hc:=hc.drop k0
  exact ⟨(kU x xv.State.toNat (W ((x xv.State.toNat) + (W ((W (M * (W (1000 - xv.Loss)))).tdiv 1000))))),_,(sj hF).symm,rfl,hc⟩
 ·rintro D_1 x _ a w n rfl hf hc
  replace hf:Has ⟨43,jA (D_1::[])⟩ a [(5,pq I)]:=hf.kp rfl
  replace hc:Ctx G (.box S [pq H] 199::.box U [i6 x5.2] 3::.box H (aN [i6 c_.States,.slice B c_.Rights.length D] 12 aB x []) 202::.box I [pq H] 199::(kV (D_1::[])++Lf)) w:=kS (C:=[.box S [pq H] 199,.box U [i6 x5.2] 3]) (L:=[.box H (aN [i6 c_.States,.slice B c_.Rights.length D] 12 aB x []) 202,.box I [pq H] 199]) hc
  replace hF:(Option.bind (rO (aL 12 x) 0 c_.States) fun sub=>Option.bind (jL N sub) fun R=>some R)=some g:=by rcases n with h_ | h_ <;> (rw [h_] at hF; exact hF)
  refine h3 _ _ ?_
  refine wp_seq_k fun K8 h8=>?_
  obtain ⟨sub,m,hF⟩:=aA hF
  obtain ⟨R,ab,hF⟩:=aA hF
  replace hc:=hc.nilRow 0 0
  refine iE (fun θ=>[⟨none,none,5,pq I⟩,⟨some 0,none,33,pq H⟩,⟨some 1,none,34,pq H⟩,⟨some 2,none,35,.pointer (some ⟨H,2,none⟩)⟩,⟨some 3,none,36,pq H⟩,⟨some 4,none,37,pq H⟩,⟨some 5,none,38,pq H⟩,⟨some 6,none,39,pq H⟩,⟨some 7,none,40,i6 c_.States⟩,⟨some 8,none,41,.slice (uI (some ⟨H,2,none⟩) 12 (0:Int).toNat 1) sub.length (12 - (0:Int).toNat)⟩,⟨some 9,none,42,.slice ((θ 72).p) R.length ((θ 72).c)⟩,⟨some 10,none,4,.slice ((θ 72).p) R.length ((θ 72).c)⟩]) (fun E θ=>(bif E 9 then .row ((θ 72).p) ((θ 72).c) (R.map aB) 3 1 else .row none 0 [] 0 0)::.box S [pq H] 199::.box U [i6 x5.2] 3::.box H (aN [i6 c_.States,.slice B c_.Rights.length D] 12 aB x []) 202::.box I [pq H] 199::(kV (D_1::[])++Lf)) [(10,9)] (fun a w=>∃ (X:Option Addr) (Y:Nat),Has ⟨43,jA (D_1::[])⟩ a [(4,.slice X R.length Y)]∧Ctx G (.row X Y (R.map aB) 3 1::.box S [pq H] 199::.box U [i6 x5.2] 3::.box H (aN [i6 c_.States,.slice B c_.Rights.length D] 12 aB x []) 202::.box I [pq H] 199::(kV (D_1::[])++Lf)) w) aW (by kernel_rfl) (by kernel_rfl) (eV.of hf ⟨rfl,trivial,trivial,trivial,trivial,trivial,trivial,trivial,trivial,trivial,trivial,trivial,trivial⟩) hc ⟨?_,?_,?_,?_,?_,?_,?_,?_,?_,?_,?_,trivial⟩ ?_ ?_
  ·intro E θ a w hD hi hp he hc
   have hf:=he.h0.mT he 0 rfl
   refine zL hf hc aBn m4 rfl fun a w hf hc=>zD θ he hi hf 1 rfl rfl rfl hc
  ·intro E θ a w hD hi hp he hc
   have e0:=hp.o 0 rfl
   have hf:=he.h0.mP he 1 rfl e0
   refine sp 1 hf rfl fun a hf=>zD θ he hi hf 2 rfl rfl rfl hc
  ·intro E θ a w hD hi hp he hc
   have e1:=hp.o 1 rfl
   have hf:=he.h0.mP he 2 rfl e1
   refine zP hf rfl (pFA aBj rfl) fun a hf=>zD θ he hi hf 3 rfl rfl rfl hc
  ·intro E θ a w hD hi hp he hc
   have hf:=he.h0.mT he 0 rfl
   refine zL hf hc aBn m4 rfl fun a w hf hc=>zD θ he hi hf 4 rfl rfl rfl hc
  ·intro E θ a w hD hi hp he hc
   have e3:=hp.o 3 rfl
   have hf:=he.h0.mP he 4 rfl e3
   refine sp 1 hf rfl fun a hf=>zD θ he hi hf 5 rfl rfl rfl hc
  ·intro E θ a w hD hi hp he hc
   have e4:=hp.o 4 rfl
   have hf:=he.h0.mP he 5 rfl e4
   refine zP hf rfl (pFA aFk rfl) fun a hf=>zD θ he hi hf 6 rfl rfl rfl hc
  ·intro E θ a w hD hi hp he hc
   have e5:=hp.o 5 rfl
   have hf:=he.h0.mP he 6 rfl e5
   refine zP hf rfl (pFA aCh rfl) fun a hf=>zD θ he hi hf 7 rfl rfl rfl hc
  ·intro E θ a w hD hi hp he hc
   have e6:=hp.o 6 rfl
   have hf:=he.h0.mP he 7 rfl e6
   refine zL hf hc aY m3 rfl fun a w hf hc=>zD θ he hi hf 8 rfl rfl rfl hc
  ·intro E θ a w hD hi hp he hc
   have e2:=hp.o 2 rfl
   have e7:=hp.o 7 rfl
   have hf:=(he.h0.mP he 3 rfl e2).mP he 8 rfl e7
   refine zP hf rfl (pSlA (xs:=(aL 12 x)) Tryz.underlying200 eQ rfl vO rfl rfl m) fun a hf=>zD θ he hi hf 9 rfl rfl rfl hc
  ·intro E θ a w hD hi hp he hc
   have e8:=hp.o 8 rfl
   have d:=hD.f 0 rfl hi
   try dsimp only at hc
   rw [hi] at hc
   have hf:=he.h0.mP he 9 rfl e8
   obtain ⟨G1,ar,aa,hc,y⟩:=lendB hc k3
   refine zC hf aOf rfl (sL sub (Rd.sub (rdA (fun x=>(bA x).1) aa rfl rfl) m) hc ab) ?_
   rintro _ w ⟨ad,an,rfl,hc⟩
   refine ⟨_,rfl,fun a hf=>?_⟩
   replace hc:=y _ _ hc
   refine aS ?_
   refine dA ?_
   intro ds u ak
   replace hc:=((((hc.drop k2).pick k0).pick k3).pick k3).pick k3
   refine ⟨(sK θ 72 ⟨0,ad,an,(fun _=>(none,0))⟩),he.put hi ak hf rfl [10] ⟨⟨d,rfl⟩,trivial⟩ ⟨qq,qq,qq,qq,qq,qq,qq,qq,qq,qq,qq,trivial,trivial⟩,?_⟩
   try dsimp only
   rw [aX E 9]
   exact hc
  ·intro E θ a w hD hi hp he hc
   have e9:=hp.o 9 rfl
   have hf:=he.h0.mP he 10 rfl e9
   refine sp 1 hf rfl fun a hf=>zD θ he hi hf 11 rfl rfl rfl hc
  ·intro E θ a w Z he hc
   have hf:=he.h0
   have e9:=Z 9 rfl
   have d:=Z 10 rfl
   replace hf:=hf.more he 11 rfl (onP d)
   try dsimp only at hc
   rw [e9] at hc
   exact ⟨(θ 72).p,(θ 72).c,hf.kp rfl,hc⟩
  rintro a w ⟨X,Y,hf,hc⟩
  refine h8 _ _ ?_
  refine wp_ret ?_
  obtain rfl:=sj hF
  replace hc:=(((hc.drop k4).drop k3).drop k2).drop k1
  refine wV hf ?_
  refine uC [.row X Y (R.map aB) 3 1] (D_1::[]) hc fun w hc=>?_
  replace hc:Ctx G (.row X Y (R.map aB) 3 1::Lf) w:=hc
  exact aDg Tryz.results75 hf hc (show eZ _ 4=_ from rfl) ⟨X,Y,rfl,hc⟩
 ·rintro D_1 x _ a w n rfl hf hc
  replace hf:Has ⟨43,jA (D_1::[])⟩ a [(5,pq I)]:=hf.kp rfl
  replace hc:Ctx G (.box S [pq H] 199::.box U [i6 x5.2] 3::.box H (aN [i6 c_.States,.slice B c_.Rights.length D] 12 aB x []) 202::.box I [pq H] 199::(kV (D_1::[])++Lf)) w:=kS (C:=[.box S [pq H] 199,.box U [i6 x5.2] 3]) (L:=[.box H (aN [i6 c_.States,.slice B c_.Rights.length D] 12 aB x []) 202,.box I [pq H] 199]) hc
  replace hF:(none)=some g:=by rw [n] at hF; exact hF
  cases hF

def wS (N:Nat) (c_:bW) (B:Int):Option ((List Int) × Int) :=
 Option.bind (uQ N c_) fun r=>
 cond (r != 0)
 (some (([]:List Int),r))
 (cond (!(iD B))
 (some (([]:List Int),4))
 (Option.bind (vI N c_ B) fun D=>
 some (D,0)))
theorem aCu {N:Nat} {G:aU} {Lf:List Ent} {w:World} (c_:bW) (I:Int) {H:Option Addr} {B:Nat} (D:Rd G 3 H B (c_.Rights.map cB)) (hc:Ctx G (Lf) w) {J:(List Int) × Int} (hF:wS N c_ I=some J):Calls Tryz.prog 36 #[.agg #[i6 c_.States,.slice H c_.Rights.length B],i6 I] w (fun e w=>∃ (M:Option Addr) (O:Nat),e=.returned (.tuple #[.slice M J.1.length O,i6 J.2])∧Ctx G (.row M O (J.1.map aB) 3 1::Lf) w):=by
 unfold wS at hF
 refine bU Tryz.func36 rfl Tryz.ntmps36 rfl fun a hf=>zS fun K h=>zB hf hc rfl fun X a w hf hc=>sp 2 hf rfl fun a hf=>zT h ?_
 refine zS fun K h=>zN hf hc aDz m0 rfl fun a w hf hc=>?_
 obtain ⟨r,hr,hF⟩:=aA hF
 refine zQ (v:=i6 r) hf hc en_73 rfl (fun w hc=>aB6 c_ D hc hr) fun a w hf hc=>sp 1 hf rfl fun a hf=>zT h ?_
 refine wp_seq_k fun K3 h3=>wp_block ?_
 refine zS fun K h=>sp 3 hf rfl fun a hf=>zT h ?_
 refine zI hf rfl hF ?_ ?_ <;> clear hF <;> intro hF
 ·refine zS fun K h=>sp 3 hf rfl fun a hf=>zT h ?_
  refine wp_ret ?_
  refine bT ?_
  refine aQ ?_
  obtain rfl:=sj hF
  replace hc:=hc.nilRow 3 1
  replace hc:=hc.drop k1
  exact zO2 Tryz.results36 hf rfl rfl ⟨none,0,rfl,hc⟩
 ·refine zS fun K h=>sp 1 hf rfl fun a hf=>zQ (v:=.bool (iD I)) hf hc aL5 rfl (fun w hc=>uZ I hc rfl) fun a w hf hc=>sp 2 hf rfl fun a hf=>zT h ?_
  refine zI hf rfl hF ?_ ?_ <;> clear hF <;> intro hF
  ·refine zS fun K h=>sp 2 hf rfl fun a hf=>zT h ?_
   refine wp_ret ?_
   refine bT ?_
   refine aQ ?_
   obtain rfl:=sj hF
   replace hc:=hc.nilRow 3 1
   replace hc:=hc.drop k1
   exact zO2 Tryz.results36 hf rfl rfl ⟨none,0,rfl,hc⟩
  ·refine wp_skip ?_
   refine h3 _ _ ?_
   refine zS fun K h=>zN hf hc aDz m0 rfl fun a w hf hc=>sp 1 hf rfl fun a hf=>?_
   obtain ⟨V,R,hF⟩:=aA hF
   refine zC hf en_75 rfl (aB8 c_ I D hc R) ?_
   rintro _ w ⟨S,U,rfl,hc⟩
   refine ⟨_,rfl,fun a hf=>?_⟩
   refine sp 2 hf rfl fun a hf=>zT h ?_
   refine wp_ret ?_
   obtain rfl:=sj hF
   replace hc:=hc.drop k1
   exact zO2 Tryz.results36 hf rfl rfl ⟨S,U,rfl,hc⟩

def uB (N:Nat) (a_:List Int) (b_:List Int) (B:Int):Option (cP (Int) (Bool)) :=
 cond (decide (B < ((a_.length:Nat):Int)))
 (Option.bind (bQ a_ B) fun H=>
 Option.bind (bQ b_ B) fun D=>
 cond (H != D)
 (some (.ret false))
 (some (.cont (W (B + 1)))))
 (some (.brk B))
def tP (N:Nat) (a_:List Int) (b_:List Int):Option (Bool) :=
 cond (((a_.length:Nat):Int) != ((b_.length:Nat):Int))
 (some false)
 (Option.bind (bC (fun s7=>uB N a_ b_ s7) N 0) fun x7=>
 exK x7 (fun s7=>some true) some)
theorem aAh {N:Nat} {G:aU} {Lf:List Ent} {w:World} (a_:List Int) (b_:List Int) {I:Option Addr} {D:Nat} {J:Option Addr} {H:Nat} (Z:Rd G 1 I D (a_.map aB)) (R:Rd G 1 J H (b_.map aB)) (hc:Ctx G (Lf) w) {M:Bool} (hF:tP N a_ b_=some M):Calls Tryz.prog 38 #[.slice I a_.length D,.slice J b_.length H] w (fun e w=>e=.returned (.bool M)∧Ctx G (Lf) w):=by
 unfold tP at hF
 refine bU Tryz.func38 rfl Tryz.ntmps38 rfl fun a hf=>zS fun K h=>sp 1 hf rfl fun a hf=>zT h ?_
 refine wp_seq_k fun K2 h2=>zS fun K h=>sp 1 hf rfl fun a hf=>zP hf rfl (cR Tryz.underlying26 rfl) fun a hf=>sp 1 hf rfl fun a hf=>zP hf rfl (cR Tryz.underlying26 rfl) fun a hf=>sp 1 hf rfl fun a hf=>zT h ?_
 refine zI hf rfl hF ?_ ?_ <;> clear hF <;> intro hF
 ·refine zS fun K h=>sp 1 hf rfl fun a hf=>zT h ?_
  refine wp_ret ?_
  refine aQ ?_
  obtain rfl:=sj hF
  exact zO1 Tryz.results38 hf rfl ⟨rfl,hc⟩
 ·refine wp_skip ?_
  refine h2 _ _ ?_
  refine wp_seq_k fun K5 h5=>zS fun K h=>sp 1 hf rfl fun a hf=>zT h ?_
  refine wp_block ?_
  obtain ⟨x7,m,hF⟩:=aA hF
  let S7:Int→Act→World→Prop:=(fun (zz:Int) a w=>Has 26 a [(0,.slice I a_.length D),(1,.slice J b_.length H),(5,i6 zz)]∧Ctx G (Lf) w)
  have i:∀ (zz:Int) a w,x7=.go zz→S7 zz a w→K5 a w:=by
   rintro O a w rfl ⟨hf,hc⟩
   replace hF:=cI hF
   refine h5 _ _ ?_
   refine zS fun K h=>sp 1 hf rfl fun a hf=>zT h ?_
   refine wp_ret ?_
   obtain rfl:=sj hF
   exact zO1 Tryz.results38 hf rfl ⟨rfl,hc⟩
  have k:∀ r,x7=.out r→r=M:=by
   rintro r rfl
   exact sj hF
  refine eR N (eO (S:=S7) (x:=x7) ?_ N 0 _ _ ⟨hf.kp rfl,hc⟩ m)
  clear hF hf hc
  rintro O t a w KB7 ⟨hf,hc⟩ hF B b
  unfold uB at hF
  refine wp_seq_k fun K9 h9=>zS fun K h=>sp 2 hf rfl fun a hf=>zP hf rfl (cR Tryz.underlying26 rfl) fun a hf=>sp 1 hf rfl fun a hf=>zT h ?_
  refine zI hf rfl hF ?_ ?_ <;> clear hF <;> intro hF
  ·refine wp_skip ?_
   refine h9 _ _ ?_
   refine wp_seq_k fun K11 d=>wp_block ?_
   refine wp_seq_k fun K12 g=>?_
   obtain ⟨q,Y,hF⟩:=aA hF
   obtain ⟨s,o,qa,qp⟩:=Z.atm Y
   obtain ⟨u,U,hF⟩:=aA hF
   obtain ⟨n,p,X,V⟩:=R.atm U
   refine cQ hc aW (by kernel_rfl) ?_
   refine qE hf rfl rfl rfl (Pu.ev (pM rfl)) fun a hf=>qE hf rfl rfl rfl (Pu.ev (pM rfl)) fun a hf=>qE hf rfl rfl rfl (Pu.ev (pIA Tryz.underlying26 eQ rfl rfl qa)) fun a hf=>qE hf rfl rfl rfl (cN aY rfl (gO (j:=0) qp rfl)) fun a hf=>qE hf rfl rfl rfl (Pu.ev (pM rfl)) fun a hf=>qE hf rfl rfl rfl (Pu.ev (pM rfl)) fun a hf=>qE hf rfl rfl rfl (Pu.ev (pIA Tryz.underlying26 eQ rfl rfl X)) fun a hf=>qE hf rfl rfl rfl (cN aY rfl (gO (j:=0) V rfl)) fun a hf=>qE hf rfl rfl rfl (Pu.ev (pNe rfl rfl)) fun a hf=>?_
   intro w hc
   refine g _ _ ?_
   refine zI hf rfl hF ?_ ?_ <;> clear hF <;> intro hF
   ·refine zS fun K h=>sp 1 hf rfl fun a hf=>zT h ?_
    refine wp_ret ?_
    refine bT ?_
    refine aQ ?_
    refine aQ ?_
    have he:=sj hF
    rw [← he] at B
    replace hF:=k _ B
    refine bT ?_
    refine aQ ?_
    obtain rfl:=hF
    exact zO1 Tryz.results38 hf rfl ⟨rfl,hc⟩
   ·refine wp_skip ?_
    refine d _ _ ?_
    refine eB ?_
    refine sp 3 hf rfl fun a hf=>aS ?_
    exact b (W (O + 1)) _ _ (sj hF).symm ⟨hf.kp rfl,hc⟩
  ·refine wp_exit ?_
   refine bI ?_
   refine bI ?_
   have he:=sj hF
   rw [← he] at B
   refine fZ ?_
   exact i _ _ _ B ⟨hf.kp rfl,hc⟩

def rU (N:Nat)  : Option (Bool) :=
 Option.bind (uW N 148) fun r=>
 Option.bind (sM N r 0 2) fun D=>
 Option.bind (wN N 58) fun J=>
 Option.bind (tO N J 1 2) fun B=>
 Option.bind (yO N) fun M=>
 Option.bind (wS N M 120) fun H=>
 Option.bind (cond (((((D.2 == 0) && (B.2 == 0)) && (H.2 == 0)) && (D.1.Lo == 147 && D.1.Hi == 151)) && (B.1.Lo == 86 && B.1.Hi == 90)) (Option.bind (tP N H.1 ([95,18]:List Int)) fun I=>
 some I) (some false)) fun O=>
 some O
theorem aB3 {N:Nat} {G:aU} {Lf:List Ent} {w:World}    (hc:Ctx G (Lf) w) {X:Bool} (hF:rU N=some X):Calls Tryz.prog 15 #[] w (fun e w=>e=.returned (.bool X)∧Ctx G (Lf) w):=by
 unfold rU at hF
 refine bU Tryz.func15 rfl Tryz.ntmps15 rfl fun a hf=>zS fun K h=>sp 1 hf rfl fun a hf=>zT h ?_
 refine zS fun K h=>?_
 obtain ⟨r,hr,hF⟩:=aA hF
 refine zC hf en_33 rfl (aBt 148 hc hr) ?_
 rintro _ w ⟨t,aa,rfl,hc⟩
 refine ⟨_,rfl,fun a hf=>?_⟩
 obtain ⟨B,g,hF⟩:=aA hF
 refine zQ (v:=.tuple #[.agg #[i6 B.1.Lo,i6 B.1.Hi],i6 B.2]) hf hc en_32 rfl (fun w hc=>by obtain ⟨G1,U,I,hc,J⟩:=lend hc k0; exact (zH r 0 2 I hc g).mono fun e w h=>⟨h.1,((J _ _ h.2).unpick k0)⟩) fun a w hf hc=>sp 3 hf rfl fun a hf=>zA hf hc uF rfl fun O a w hf hc=>zW hf hc fN u0 rfl fun w hc=>sp 1 hf rfl fun a hf=>zT h ?_
 refine zS fun K h=>?_
 obtain ⟨q,Z,hF⟩:=aA hF
 refine zC hf en_35 rfl (aCv 58 hc Z) ?_
 rintro _ w ⟨u,x,rfl,hc⟩
 refine ⟨_,rfl,fun a hf=>?_⟩
 obtain ⟨D,m,hF⟩:=aA hF
 refine zQ (v:=.tuple #[.agg #[i6 D.1.Lo,i6 D.1.Hi],i6 D.2]) hf hc en_34 rfl (fun w hc=>by obtain ⟨G1,U,I,hc,J⟩:=lend hc k0; exact (aAp q 1 2 I hc m).mono fun e w h=>⟨h.1,((J _ _ h.2).unpick k0)⟩) fun a w hf hc=>sp 3 hf rfl fun a hf=>zA hf hc uF rfl fun M a w hf hc=>zW hf hc fN u0 rfl fun w hc=>sp 1 hf rfl fun a hf=>zT h ?_
 refine zS fun K h=>?_
 obtain ⟨n,i,hF⟩:=aA hF
 refine zC hf en_37 rfl (aD6 hc i) ?_
 rintro _ w ⟨z,s,rfl,hc⟩
 refine ⟨_,rfl,fun a hf=>?_⟩
 obtain ⟨H,k,hF⟩:=aA hF
 obtain ⟨G1,U,I,hc,J⟩:=lend hc k0
 refine zC hf en_36 rfl (aCu n 120 I hc k) ?_
 rintro _ w ⟨S,R,rfl,hc⟩
 refine ⟨_,rfl,fun a hf=>?_⟩
 replace hc:=J _ _ hc
 refine sp 5 hf rfl fun a hf=>zT h ?_
 refine zS fun K h=>sp 3 hf rfl fun a hf=>gQ 3 (fun a=>Has 47 a [(0,.bool false),(1,pq O),(2,i6 B.2),(3,pq M),(4,i6 D.2),(5,.slice S H.1.length R),(6,i6 H.2),(22,i6 B.2),(23,.bool (B.2 == 0)),(24,.bool (B.2 == 0)),(27,.bool ((B.2 == 0) && (D.2 == 0)))]) hc ?_ ?_
 ·cases hb:(B.2 == 0)
  ·rw [hb] at hf
   refine stS hf rfl rfl rfl fun a hf=>stS hf rfl rfl rfl fun a hf=>sp 1 hf rfl fun a hf=>aS ⟨hf.kp rfl,hc⟩
  ·rw [hb] at hf
   refine sp 3 hf rfl fun a hf=>aS ⟨hf.kp rfl,hc⟩
 intro a w ⟨hf,hc⟩
 refine sp 1 hf rfl fun a hf=>gQ 3 (fun a=>Has 47 a [(0,.bool false),(1,pq O),(2,i6 B.2),(3,pq M),(4,i6 D.2),(5,.slice S H.1.length R),(6,i6 H.2),(22,i6 B.2),(23,.bool (B.2 == 0)),(24,.bool (B.2 == 0)),(27,.bool ((B.2 == 0) && (D.2 == 0))),(28,.bool ((B.2 == 0) && (D.2 == 0))),(31,.bool (((B.2 == 0) && (D.2 == 0)) && (H.2 == 0)))]) hc ?_ ?_
 ·cases hb:((B.2 == 0) && (D.2 == 0))
  ·rw [hb] at hf
   refine stS hf rfl rfl rfl fun a hf=>stS hf rfl rfl rfl fun a hf=>sp 1 hf rfl fun a hf=>aS ⟨hf.kp rfl,hc⟩
  ·rw [hb] at hf
   refine sp 3 hf rfl fun a hf=>aS ⟨hf.kp rfl,hc⟩
 intro a w ⟨hf,hc⟩
 refine sp 1 hf rfl fun a hf=>gQ 4 (fun a=>Has 47 a [(0,.bool false),(1,pq O),(2,i6 B.2),(3,pq M),(4,i6 D.2),(5,.slice S H.1.length R),(6,i6 H.2),(22,i6 B.2),(23,.bool (B.2 == 0)),(24,.bool (B.2 == 0)),(27,.bool ((B.2 == 0) && (D.2 == 0))),(28,.bool ((B.2 == 0) && (D.2 == 0))),(31,.bool (((B.2 == 0) && (D.2 == 0)) && (H.2 == 0))),(32,.bool (((B.2 == 0) && (D.2 == 0)) && (H.2 == 0))),(36,.bool ((((B.2 == 0) && (D.2 == 0)) && (H.2 == 0)) && (B.1.Lo == 147 && B.1.Hi == 151)))]) hc ?_ ?_
 ·cases hb:(((B.2 == 0) && (D.2 == 0)) && (H.2 == 0))
  ·rw [hb] at hf
   refine stS hf rfl rfl rfl fun a hf=>stS hf rfl rfl rfl fun a hf=>stS hf rfl rfl rfl fun a hf=>sp 1 hf rfl fun a hf=>aS ⟨hf.kp rfl,hc⟩
  ·rw [hb] at hf
   refine zN hf hc iS m4 rfl fun a w hf hc=>zP hf rfl (bL (cells:=[i6 147,i6 151]) qD rfl rfl) fun a hf=>zP hf rfl (pEqA aMx rfl rfl (aJn _ _ _ _)) fun a hf=>sp 1 hf rfl fun a hf=>aS ⟨hf.kp rfl,hc⟩
 intro a w ⟨hf,hc⟩
 refine sp 1 hf rfl fun a hf=>gQ 4 (fun a=>Has 47 a [(0,.bool false),(1,pq O),(2,i6 B.2),(3,pq M),(4,i6 D.2),(5,.slice S H.1.length R),(6,i6 H.2),(22,i6 B.2),(23,.bool (B.2 == 0)),(24,.bool (B.2 == 0)),(27,.bool ((B.2 == 0) && (D.2 == 0))),(28,.bool ((B.2 == 0) && (D.2 == 0))),(31,.bool (((B.2 == 0) && (D.2 == 0)) && (H.2 == 0))),(32,.bool (((B.2 == 0) && (D.2 == 0)) && (H.2 == 0))),(36,.bool ((((B.2 == 0) && (D.2 == 0)) && (H.2 == 0)) && (B.1.Lo == 147 && B.1.Hi == 151))),(37,.bool ((((B.2 == 0) && (D.2 == 0)) && (H.2 == 0)) && (B.1.Lo == 147 && B.1.Hi == 151))),(41,.bool (((((B.2 == 0) && (D.2 == 0)) && (H.2 == 0)) && (B.1.Lo == 147 && B.1.Hi == 151)) && (D.1.Lo == 86 && D.1.Hi == 90)))]) hc ?_ ?_
 ·cases hb:((((B.2 == 0) && (D.2 == 0)) && (H.2 == 0)) && (B.1.Lo == 147 && B.1.Hi == 151))
  ·rw [hb] at hf
   refine stS hf rfl rfl rfl fun a hf=>stS hf rfl rfl rfl fun a hf=>stS hf rfl rfl rfl fun a hf=>sp 1 hf rfl fun a hf=>aS ⟨hf.kp rfl,hc⟩
  ·rw [hb] at hf
   refine zN hf hc iS m2 rfl fun a w hf hc=>zP hf rfl (bL (cells:=[i6 86,i6 90]) qD rfl rfl) fun a hf=>zP hf rfl (pEqA aMx rfl rfl (aJn _ _ _ _)) fun a hf=>sp 1 hf rfl fun a hf=>aS ⟨hf.kp rfl,hc⟩
 intro a w ⟨hf,hc⟩
 refine sp 1 hf rfl fun a hf=>?_
 obtain ⟨o,V,hF⟩:=aA hF
 refine gQ 4 (fun a=>Has 47 a [(0,.bool false),(1,pq O),(2,i6 B.2),(3,pq M),(4,i6 D.2),(5,.slice S H.1.length R),(6,i6 H.2),(22,i6 B.2),(23,.bool (B.2 == 0)),(24,.bool (B.2 == 0)),(27,.bool ((B.2 == 0) && (D.2 == 0))),(28,.bool ((B.2 == 0) && (D.2 == 0))),(31,.bool (((B.2 == 0) && (D.2 == 0)) && (H.2 == 0))),(32,.bool (((B.2 == 0) && (D.2 == 0)) && (H.2 == 0))),(36,.bool ((((B.2 == 0) && (D.2 == 0)) && (H.2 == 0)) && (B.1.Lo == 147 && B.1.Hi == 151))),(37,.bool ((((B.2 == 0) && (D.2 == 0)) && (H.2 == 0)) && (B.1.Lo == 147 && B.1.Hi == 151))),(41,.bool (((((B.2 == 0) && (D.2 == 0)) && (H.2 == 0)) && (B.1.Lo == 147 && B.1.Hi == 151)) && (D.1.Lo == 86 && D.1.Hi == 90))),(42,.bool (((((B.2 == 0) && (D.2 == 0)) && (H.2 == 0)) && (B.1.Lo == 147 && B.1.Hi == 151)) && (D.1.Lo == 86 && D.1.Hi == 90))),(46,.bool o)]) hc ?_ ?_
 ·cases hb:(((((B.2 == 0) && (D.2 == 0)) && (H.2 == 0)) && (B.1.Lo == 147 && B.1.Hi == 151)) && (D.1.Lo == 86 && D.1.Hi == 90))
  ·rw [hb] at hf
   have hF:=mR hb V
   obtain rfl:=sj hF
   refine stS hf rfl rfl rfl fun a hf=>stS hf rfl rfl rfl fun a hf=>stS hf rfl rfl rfl fun a hf=>sp 1 hf rfl fun a hf=>aS ⟨hf.kp rfl,hc⟩
  ·rw [hb] at hf
   have hF:=mN hb V
   refine sp 1 hf rfl fun a hf=>pJ (rows:=([95,18]:List Int).map aB) (vs:=[(0,i6 95),(1,i6 18)]) hf hc rfl rfl qG rfl ⟨rfl,rfl,rfl,rfl,rfl,rfl,trivial⟩ rfl rfl fun y a w hf hc=>?_
   obtain ⟨p,b,hF⟩:=aA hF
   refine zQ (v:=.bool p) hf hc en_38 rfl (fun w hc=>by obtain ⟨G1,U,I,hc,J⟩:=lend hc k2; obtain ⟨G2,j,Y,hc,d⟩:=lend hc k0; exact (aAh H.1 ([95,18]:List Int) (I.mono j) Y hc b).mono fun e w h=>⟨h.1,((J _ _ ((d _ _ h.2).unpick k0)).unpick k2)⟩) fun a w hf hc=>sp 1 hf rfl fun a hf=>?_
   replace hc:=hc.drop k0
   obtain rfl:=sj hF
   exact aS ⟨hf.kp rfl,hc⟩
 intro a w ⟨hf,hc⟩
 refine sp 1 hf rfl fun a hf=>zT h ?_
 refine wp_ret ?_
 obtain rfl:=sj hF
 replace hc:=(((((hc.drop k5).drop k4).drop k3).drop k2).drop k1).drop k0
 exact zO1 Tryz.results15 hf rfl ⟨rfl,hc⟩

def iW (N:Nat) (H:List Int) (U:Int × Int × Int) (O:List Int) (d:Int) (V:Int) (X:Int) (S:List aJ) (now:Int):Option (cP ((List Int) × Int × Int × Int × (List aJ)) (Bool)) :=
 Option.bind (dP N (⟨H,V,X⟩:bG) (-90) 150) fun I=>
 Option.bind (nM N ([(⟨(-500),0⟩:aG),(⟨500,W (2000 + U.1)⟩:aG)]:List aG) I.1 0) fun B=>
 cond ((B.2 != 0) || (decide (B.1.D < 1)))
 (some (.ret false))
 (Option.bind (nz B.1.D) fun un=>
 Option.bind (cH N (⟨H,I.2.1,I.2.2⟩:bG) 6) fun M=>
 Option.bind (nz B.1.D) fun Y=>
 Option.bind (cH N (⟨H,M.2.1,M.2.2⟩:bG) 6) fun J=>
 Option.bind (rR ((S++[(⟨d,W (I.1 + now),(⟨max 0 (W ((W (B.1.N.tdiv B.1.D)) - M.1)),W ((W ((W ((W (B.1.N + B.1.D)) - 1)).tdiv B.1.D)) + J.1)⟩:aC)⟩:aJ)])).length) fun b=>
 Option.bind (rR ((O++[now])).length) fun Z=>
 Option.bind (dP N (⟨H,J.2.1,J.2.2⟩:bG) 2 9) fun R=>
 some (.cont ((O++[now]),W (d + R.1),R.2.1,R.2.2,(S++[(⟨d,W (I.1 + now),(⟨max 0 (W ((W (B.1.N.tdiv B.1.D)) - M.1)),W ((W ((W ((W (B.1.N + B.1.D)) - 1)).tdiv B.1.D)) + J.1)⟩:aC)⟩:aJ)]))))
def eY (N:Nat) (D:List Int) (O:Int) (day:Int) (M:Int × Int × Int) (B:List Int) (d:Int) (H:Int) (I:Int) (J:List aJ):Option (cP ((List Int) × Int × Int × Int × (List aJ)) (Bool)) :=
 cond (decide (d < 40))
 (cond (decide ((W (1 + ((W (day)).tmod 29)))≤d))
 (iW N D M B d H I J ((W (O)).tmod 80))
 (iW N D M B d H I J 0))
 (some (.brk (B,d,H,I,J)))
def iV (N:Nat) (B:Int) (D:List aF):Option (cP ((List aF) × Int) (Bool)) :=
 some (.cont (D,W (B + 1)))
def iY (N:Nat) (J:Int) (day:Int) (O:aO × (List Int) × Int × Int) (B:Int) (I:aF) (H:List aF):Option (cP ((List aF) × Int) (Bool)) :=
 cond ((decide ((W (1 + ((W (day)).tmod 29)))≤I.Day)) && (I.To == (W (O.1.Marks - 1))))
 (Option.bind (bQ H B) fun M=>
 Option.bind (bQ H B) fun D=>
 iV N B (H.set B.toNat (⟨D.From,D.To,D.Day,W (M.Rise - ((W (J)).tmod 80)),D.Error⟩:aF)))
 (iV N B H)
def iI (N:Nat) (J:Int) (day:Int) (H:aO × (List Int) × Int × Int) (x:List aF) (I:Int):Option (cP ((List aF) × Int) (Bool)) :=
 cond (decide (I < ((H.1.Lines.length:Nat):Int)))
 (Option.bind (bQ x I) fun U=>
 cond ((decide ((W (1 + ((W (day)).tmod 29)))≤U.Day)) && (U.From == (W (H.1.Marks - 1))))
 (Option.bind (bQ x I) fun j=>
 Option.bind (bQ x I) fun S=>
 iY N J day H I U (x.set I.toNat (⟨S.From,S.To,S.Day,W (j.Rise + ((W (J)).tmod 80)),S.Error⟩:aF)))
 (iY N J day H I U x))
 (some (.brk (x,I)))
noncomputable def top_TopMoved (N:Nat) (R:List Int) (B:List Int) (J:Int) (day:Int):Option (Bool) :=
 Option.bind (aAz N R) fun r=>
 Option.bind (oP N (⟨R,r.1,r.2⟩:bG) 6) fun H=>
 Option.bind (aAz N B) fun b=>
 Option.bind (bC (fun s8=>iI N J day H s8.1 s8.2) N (H.1.Lines,0)) fun x8=>
 exK x8 (fun s8=>Option.bind (kE N (⟨H.1.Marks,s8.1⟩:aO)) fun d=>
 Option.bind (level_Convict N (⟨H.1.Marks,s8.1⟩:aO)) fun O=>
 cond ((((d.2 != 0) || (d.1 != (O.2 == 8))) || ((O.2 == 0) && (O.1 != (W (H.1.Marks - 1))))) || (((O.2 != 0) && (O.2 != 8)) && (O.2 != 11)))
 (some false)
 (Option.bind (cH N (⟨B,b.1,b.2⟩:bG) 500) fun M=>
 Option.bind (cH N (⟨B,M.2.1,M.2.2⟩:bG) 3) fun V=>
 Option.bind (bC (fun D=>eY N B J day M D.1 D.2.1 D.2.2.1 D.2.2.2.1 D.2.2.2.2) N (([]:List Int),V.1,V.2.1,V.2.2,([]:List aJ))) fun m=>
 exK m (fun D=>Option.bind (nV N (⟨([(⟨(-500),0⟩:aG),(⟨500,W (2000 + M.1)⟩:aG)]:List aG),D.2.2.2.2⟩:aR) D.1) fun X=>
 Option.bind (nP N (⟨([(⟨(-500),0⟩:aG),(⟨500,W (2000 + M.1)⟩:aG)]:List aG),D.2.2.2.2⟩:aR)) fun Y=>
 Option.bind (jY N (⟨([(⟨(-500),0⟩:aG),(⟨500,W (2000 + M.1)⟩:aG)]:List aG),D.2.2.2.2⟩:aR)) fun g=>
 Option.bind (mG N (⟨([(⟨(-500),0⟩:aG),(⟨500,W (2000 + M.1)⟩:aG)]:List aG),D.2.2.2.2⟩:aR) g.1) fun Z=>
 Option.bind (cond (((((((X.2 == 0) && (Y.2.2 == 0)) && (g.2 == 0)) && (Z.2 == 0)) && (decide (Y.2.1≤X.1))) && (decide (X.1≤((W (J)).tmod 80)))) && (Z.1 == Y.2.1)) (Option.bind (rU N) fun i=>
 some i) (some false)) fun k=>
 some k) some)) some
theorem aAo {N:Nat} {G:aU} {Lf:List Ent} {w:World} (an:List Int) (R:List Int) (U:Int) (day:Int) {bc:Option Addr} {bb:Nat} {X:Option Addr} {Y:Nat} (ba:Rd G 1 bc bb (an.map qP)) (aa:Rd G 1 X Y (R.map qP)) (hc:Ctx G (Lf) w) {b7:Bool} (hF:top_TopMoved N an R U day=some b7):Calls Tryz.prog 3 #[.slice bc an.length bb,.slice X R.length Y,.int .u8 U,.int .u8 day] w (fun e w=>e=.returned (.bool b7)∧Ctx G (Lf) w):=by
 unfold top_TopMoved at hF
 refine bU Tryz.func3 rfl Tryz.ntmps3 rfl fun a hf=>zS fun K h=>sp 1 hf rfl fun a hf=>zT h ?_
 refine zS fun K h=>sp 1 hf rfl fun a hf=>?_
 obtain ⟨r,hr,hF⟩:=aA hF
 refine zC hf en_5 rfl (aBx an ba hc hr) ?_
 rintro _ w ⟨ia,rfl,hc⟩
 refine ⟨_,rfl,fun a hf=>?_⟩
 obtain ⟨Z,c8,hF⟩:=aA hF
 refine zC hf en_4 rfl (aCq (⟨an,r.1,r.2⟩:bG) 6 ba (hc.pick k0) c8) ?_
 rintro _ w ⟨dr,d7,g9,ii,rfl,hc⟩
 refine ⟨_,rfl,fun a hf=>?_⟩
 refine sp 3 hf rfl fun a hf=>zA hf hc aC2 rfl fun az a w hf hc=>zW hf hc aDd u0 rfl fun w hc=>sp 1 hf rfl fun a hf=>zT h ?_
 refine zS fun K h=>sp 1 hf rfl fun a hf=>?_
 obtain ⟨av,dj,hF⟩:=aA hF
 refine zC hf en_5 rfl (aBx R aa hc dj) ?_
 rintro _ w ⟨y,rfl,hc⟩
 refine ⟨_,rfl,fun a hf=>?_⟩
 refine sp 1 hf rfl fun a hf=>zT h ?_
 refine zS fun K h=>sp 1 hf rfl fun a hf=>zP hf rfl (pCv Tryz.underlying5 Tryz.underlying3 rfl) fun a hf=>zP hf rfl (aG3 rfl rfl (by decide)) fun a hf=>sp 1 hf rfl fun a hf=>zP hf rfl (pCv Tryz.underlying5 Tryz.underlying3 rfl) fun a hf=>zP hf rfl (aG3 rfl rfl (by decide)) fun a hf=>sp 3 hf rfl fun a hf=>zT h ?_
 refine zS fun K h=>zP hf rfl (pFA gW rfl) fun a hf=>zL hf hc aY m1 rfl fun a w hf hc=>sp 2 hf rfl fun a hf=>zT h ?_
 refine wp_seq_k fun K6 h6=>zS fun K h=>zP hf rfl (pFA kW rfl) fun a hf=>zL hf hc sE m1 rfl fun a w hf hc=>zP hf rfl (cR Tryz.underlying23 rfl) fun a hf=>sp 1 hf rfl fun a hf=>zT h ?_
 refine wp_block ?_
 obtain ⟨x8,gy,hF⟩:=aA hF
 let S8:((List aF) × Int)→Act→World→Prop:=(fun (zz:(List aF) × Int) a w=>∃ (bq:Option Addr) (ap:Nat),Has 268 a [(9,pq az),(11,pq y),(12,i6 ((W (U)).tmod 80)),(13,i6 (W (1 + ((W (day)).tmod 29)))),(14,i6 (W (Z.1.Marks - 1))),(55,.slice bq zz.1.length ap),(56,i6 ((Z.1.Lines.length:Nat):Int)),(57,i6 zz.2)]∧Ctx G (.box y [.slice X R.length Y,i6 av.1,i6 av.2] 65::.box az [i6 Z.1.Marks,.slice bq zz.1.length ap] 25::.row bq ap (zz.1.map aM) 32 5::Lf) w)
 have gx:∀ (zz:(List aF) × Int) a w,x8=.go zz→S8 zz a w→K6 a w:=by
  rintro ⟨x,ac⟩ a w rfl ⟨bq,ap,hf,hc⟩
  replace hF:=cI hF
  refine h6 _ _ ?_
  refine zS fun K h=>zN hf hc oN m1 rfl fun a w hf hc=>?_
  obtain ⟨O,dd,hF⟩:=aA hF
  refine zQ (v:=.tuple #[.bool O.1,i6 O.2]) hf hc en_6 rfl (fun w hc=>by obtain ⟨G1,a8,aj,hc,ai⟩:=lend hc k2; exact (aAm (⟨Z.1.Marks,x⟩:aO) aj hc dd).mono fun e w h=>⟨h.1,((ai _ _ h.2).unpick k2)⟩) fun a w hf hc=>sp 5 hf rfl fun a hf=>zT h ?_
  refine zS fun K h=>zN hf hc oN m1 rfl fun a w hf hc=>?_
  obtain ⟨J,db,hF⟩:=aA hF
  refine zQ (v:=.tuple #[i6 J.1,i6 J.2]) hf hc en_7 rfl (fun w hc=>by obtain ⟨G1,a8,aj,hc,ai⟩:=lend hc k2; exact (zO (⟨Z.1.Marks,x⟩:aO) aj hc db).mono fun e w h=>⟨h.1,((ai _ _ h.2).unpick k2)⟩) fun a w hf hc=>sp 5 hf rfl fun a hf=>zT h ?_
  refine wp_seq_k fun K11 gu=>zS fun K h=>sp 3 hf rfl fun a hf=>gQ 5 (fun a=>Has 268 a [(11,pq y),(12,i6 ((W (U)).tmod 80)),(13,i6 (W (1 + ((W (day)).tmod 29)))),(14,i6 (W (Z.1.Marks - 1))),(17,.bool O.1),(18,i6 O.2),(19,i6 J.1),(20,i6 J.2),(113,i6 O.2),(114,.bool (O.2 != 0)),(115,.bool (O.2 != 0)),(120,.bool ((O.2 != 0) || (O.1 != (J.2 == 8))))]) hc ?_ ?_
  ·cases hb:(O.2 != 0)
   ·rw [hb] at hf
    refine sp 3 hf rfl fun a hf=>zP hf rfl (pNeB Tryz.underlying4 rfl rfl) fun a hf=>sp 1 hf rfl fun a hf=>aS ⟨hf.kp rfl,hc⟩
   ·rw [hb] at hf
    refine stS hf rfl rfl rfl fun a hf=>stS hf rfl rfl rfl fun a hf=>stS hf rfl rfl rfl fun a hf=>stS hf rfl rfl rfl fun a hf=>sp 1 hf rfl fun a hf=>aS ⟨hf.kp rfl,hc⟩
  intro a w ⟨hf,hc⟩
  refine sp 1 hf rfl fun a hf=>gQ 8 (fun a=>Has 268 a [(11,pq y),(12,i6 ((W (U)).tmod 80)),(13,i6 (W (1 + ((W (day)).tmod 29)))),(14,i6 (W (Z.1.Marks - 1))),(17,.bool O.1),(18,i6 O.2),(19,i6 J.1),(20,i6 J.2),(113,i6 O.2),(114,.bool (O.2 != 0)),(115,.bool (O.2 != 0)),(120,.bool ((O.2 != 0) || (O.1 != (J.2 == 8)))),(121,.bool ((O.2 != 0) || (O.1 != (J.2 == 8)))),(129,.bool (((O.2 != 0) || (O.1 != (J.2 == 8))) || ((J.2 == 0) && (J.1 != (W (Z.1.Marks - 1))))))]) hc ?_ ?_
  ·cases hb:((O.2 != 0) || (O.1 != (J.2 == 8)))
   ·rw [hb] at hf
    refine sp 3 hf rfl fun a hf=>gQ 4 (fun a=>Has 268 a [(11,pq y),(12,i6 ((W (U)).tmod 80)),(13,i6 (W (1 + ((W (day)).tmod 29)))),(14,i6 (W (Z.1.Marks - 1))),(17,.bool O.1),(18,i6 O.2),(19,i6 J.1),(20,i6 J.2),(113,i6 O.2),(114,.bool (O.2 != 0)),(115,.bool (O.2 != 0)),(120,.bool false),(121,.bool false),(122,i6 J.2),(123,.bool (J.2 == 0)),(124,.bool (J.2 == 0)),(128,.bool ((J.2 == 0) && (J.1 != (W (Z.1.Marks - 1)))))]) hc ?_ ?_
    ·cases hb:(J.2 == 0)
     ·rw [hb] at hf
      refine stS hf rfl rfl rfl fun a hf=>stS hf rfl rfl rfl fun a hf=>stS hf rfl rfl rfl fun a hf=>sp 1 hf rfl fun a hf=>aS ⟨hf.kp rfl,hc⟩
     ·rw [hb] at hf
      refine sp 4 hf rfl fun a hf=>aS ⟨hf.kp rfl,hc⟩
    intro a w ⟨hf,hc⟩
    refine sp 1 hf rfl fun a hf=>aS ⟨hf.kp rfl,hc⟩
   ·rw [hb] at hf
    refine stS hf rfl rfl rfl fun a hf=>stS hf rfl rfl rfl fun a hf=>stS hf rfl rfl rfl fun a hf=>stS hf rfl rfl rfl fun a hf=>stS hf rfl rfl rfl fun a hf=>stS hf rfl rfl rfl fun a hf=>stS hf rfl rfl rfl fun a hf=>sp 1 hf rfl fun a hf=>aS ⟨hf.kp rfl,hc⟩
  intro a w ⟨hf,hc⟩
  refine sp 1 hf rfl fun a hf=>gQ 11 (fun a=>Has 268 a [(11,pq y),(12,i6 ((W (U)).tmod 80)),(13,i6 (W (1 + ((W (day)).tmod 29)))),(14,i6 (W (Z.1.Marks - 1))),(17,.bool O.1),(18,i6 O.2),(19,i6 J.1),(20,i6 J.2),(113,i6 O.2),(114,.bool (O.2 != 0)),(115,.bool (O.2 != 0)),(120,.bool ((O.2 != 0) || (O.1 != (J.2 == 8)))),(121,.bool ((O.2 != 0) || (O.1 != (J.2 == 8)))),(129,.bool (((O.2 != 0) || (O.1 != (J.2 == 8))) || ((J.2 == 0) && (J.1 != (W (Z.1.Marks - 1)))))),(130,.bool (((O.2 != 0) || (O.1 != (J.2 == 8))) || ((J.2 == 0) && (J.1 != (W (Z.1.Marks - 1)))))),(141,.bool ((((O.2 != 0) || (O.1 != (J.2 == 8))) || ((J.2 == 0) && (J.1 != (W (Z.1.Marks - 1))))) || (((J.2 != 0) && (J.2 != 8)) && (J.2 != 11))))]) hc ?_ ?_
  ·cases hb:(((O.2 != 0) || (O.1 != (J.2 == 8))) || ((J.2 == 0) && (J.1 != (W (Z.1.Marks - 1)))))
   ·rw [hb] at hf
    refine sp 3 hf rfl fun a hf=>gQ 3 (fun a=>Has 268 a [(11,pq y),(12,i6 ((W (U)).tmod 80)),(13,i6 (W (1 + ((W (day)).tmod 29)))),(14,i6 (W (Z.1.Marks - 1))),(17,.bool O.1),(18,i6 O.2),(19,i6 J.1),(20,i6 J.2),(113,i6 O.2),(114,.bool (O.2 != 0)),(115,.bool (O.2 != 0)),(120,.bool ((O.2 != 0) || (O.1 != (J.2 == 8)))),(121,.bool ((O.2 != 0) || (O.1 != (J.2 == 8)))),(129,.bool false),(130,.bool false),(131,i6 J.2),(132,.bool (J.2 != 0)),(133,.bool (J.2 != 0)),(136,.bool ((J.2 != 0) && (J.2 != 8)))]) hc ?_ ?_
    ·cases hb:(J.2 != 0)
     ·rw [hb] at hf
      refine stS hf rfl rfl rfl fun a hf=>stS hf rfl rfl rfl fun a hf=>sp 1 hf rfl fun a hf=>aS ⟨hf.kp rfl,hc⟩
     ·rw [hb] at hf
      refine sp 3 hf rfl fun a hf=>aS ⟨hf.kp rfl,hc⟩
    intro a w ⟨hf,hc⟩
    refine sp 1 hf rfl fun a hf=>gQ 3 (fun a=>Has 268 a [(11,pq y),(12,i6 ((W (U)).tmod 80)),(13,i6 (W (1 + ((W (day)).tmod 29)))),(14,i6 (W (Z.1.Marks - 1))),(17,.bool O.1),(18,i6 O.2),(19,i6 J.1),(20,i6 J.2),(113,i6 O.2),(114,.bool (O.2 != 0)),(115,.bool (O.2 != 0)),(120,.bool ((O.2 != 0) || (O.1 != (J.2 == 8)))),(121,.bool ((O.2 != 0) || (O.1 != (J.2 == 8)))),(129,.bool false),(130,.bool false),(131,i6 J.2),(132,.bool (J.2 != 0)),(133,.bool (J.2 != 0)),(136,.bool ((J.2 != 0) && (J.2 != 8))),(137,.bool ((J.2 != 0) && (J.2 != 8))),(140,.bool (((J.2 != 0) && (J.2 != 8)) && (J.2 != 11)))]) hc ?_ ?_
    ·cases hb:((J.2 != 0) && (J.2 != 8))
     ·rw [hb] at hf
      refine stS hf rfl rfl rfl fun a hf=>stS hf rfl rfl rfl fun a hf=>sp 1 hf rfl fun a hf=>aS ⟨hf.kp rfl,hc⟩
     ·rw [hb] at hf
      refine sp 3 hf rfl fun a hf=>aS ⟨hf.kp rfl,hc⟩
    intro a w ⟨hf,hc⟩
    refine sp 1 hf rfl fun a hf=>aS ⟨hf.kp rfl,hc⟩
   ·rw [hb] at hf
    refine stS hf rfl rfl rfl fun a hf=>stS hf rfl rfl rfl fun a hf=>stS hf rfl rfl rfl fun a hf=>stS hf rfl rfl rfl fun a hf=>stS hf rfl rfl rfl fun a hf=>stS hf rfl rfl rfl fun a hf=>stS hf rfl rfl rfl fun a hf=>stS hf rfl rfl rfl fun a hf=>stS hf rfl rfl rfl fun a hf=>stS hf rfl rfl rfl fun a hf=>sp 1 hf rfl fun a hf=>aS ⟨hf.kp rfl,hc⟩
  intro a w ⟨hf,hc⟩
  refine zT h ?_
  refine zI hf rfl hF ?_ ?_ <;> clear hF <;> intro hF
  ·refine zS fun K h=>sp 1 hf rfl fun a hf=>zT h ?_
   refine wp_ret ?_
   refine aQ ?_
   obtain rfl:=sj hF
   replace hc:=((hc.drop k2).drop k1).drop k0
   exact zO1 Tryz.results3 hf rfl ⟨rfl,hc⟩
  ·refine wp_skip ?_
   refine gu _ _ ?_
   refine zS fun K h=>zP hf rfl (bL (cells:=[i6 (-500),i6 0]) aL2 rfl rfl) fun a hf=>sp 1 hf rfl fun a hf=>?_
   obtain ⟨ak,c0,hF⟩:=aA hF
   refine zC hf aD4 rfl (dV (⟨R,av.1,av.2⟩:bG) 500 aa (hc.pick k0) c0) ?_
   rintro _ w ⟨rfl,hc⟩
   refine ⟨_,rfl,fun a hf=>?_⟩
   refine sp 1 hf rfl fun a hf=>zP hf rfl (bL (cells:=[i6 500,i6 (W (2000 + ak.1))]) aL2 rfl rfl) fun a hf=>pJ (rows:=([(⟨(-500),0⟩:aG),(⟨500,W (2000 + ak.1)⟩:aG)]:List aG).map bF) (vs:=[(0,.agg #[i6 (-500),i6 0]),(1,.agg #[i6 500,i6 (W (2000 + ak.1))])]) hf hc rfl rfl sl_41 rfl ⟨rfl,rfl,rfl,rfl,rfl,rfl,trivial⟩ rfl rfl fun a0 a w hf hc=>zP hf rfl (bL (cells:=[.slice (some ⟨a0,0,none⟩) 2 2,.slice none 0 0]) bt_44 rfl rfl) fun a hf=>zA hf hc zr_44 rfl fun aq a w hf hc=>zW hf hc sz_44 u0 rfl fun w hc=>zT h ?_
   refine zS fun K h=>sp 1 hf rfl fun a hf=>zT h ?_
   refine wp_seq_k fun K16 d3=>zS fun K h=>sp 1 hf rfl fun a hf=>?_
   obtain ⟨ca,c4,hF⟩:=aA hF
   refine zC hf aD4 rfl (dV (⟨R,ak.2.1,ak.2.2⟩:bG) 3 aa (hc.pick k2) c4) ?_
   rintro _ w ⟨rfl,hc⟩
   refine ⟨_,rfl,fun a hf=>?_⟩
   refine sp 1 hf rfl fun a hf=>zT h ?_
   refine wp_block ?_
   obtain ⟨b9,c6,hF⟩:=aA hF
   let S18:((List Int) × Int × Int × Int × (List aJ))→Act→World→Prop:=(fun (zz:(List Int) × Int × Int × Int × (List aJ)) a w=>∃ (ax:Option Addr) (au:Nat) (a2:Option Addr) (a1:Nat),Has 268 a [(11,pq y),(12,i6 ((W (U)).tmod 80)),(13,i6 (W (1 + ((W (day)).tmod 29)))),(21,pq aq),(22,.slice ax zz.1.length au),(23,i6 zz.2.1)]∧Ctx G (.row a2 a1 (zz.2.2.2.2.map bB) 53 4::.row ax au (zz.1.map aB) 3 1::.box y [.slice X R.length Y,i6 zz.2.2.1,i6 zz.2.2.2.1] 65::.box aq [.slice (some ⟨a0,0,none⟩) 2 2,.slice a2 zz.2.2.2.2.length a1] 44::.row (some ⟨a0,0,none⟩) 2 (([(⟨(-500),0⟩:aG),(⟨500,W (2000 + ak.1)⟩:aG)]:List aG).map bF) 39 2::Lf) w)
   have da:∀ (zz:(List Int) × Int × Int × Int × (List aJ)) a w,b9=.go zz→S18 zz a w→K16 a w:=by
    rintro ⟨ab,d,b3,b6,ag⟩ a w rfl ⟨ax,au,a2,a1,hf,hc⟩
    replace hF:=cI hF
    refine d3 _ _ ?_
    refine zS fun K h=>zN hf hc wJ m3 rfl fun a w hf hc=>sp 1 hf rfl fun a hf=>?_
    obtain ⟨H,df,hF⟩:=aA hF
    refine zQ (v:=.tuple #[i6 H.1,i6 H.2]) hf hc en_11 rfl (fun w hc=>by obtain ⟨G1,a8,aj,hc,ai⟩:=lend hc k4; obtain ⟨G2,a5,a4,hc,a3⟩:=lend hc k0; obtain ⟨G3,bj,bx,hc,bv⟩:=lend hc k0; exact (aCg (⟨([(⟨(-500),0⟩:aG),(⟨500,W (2000 + ak.1)⟩:aG)]:List aG),ag⟩:aR) ab ((aj.mono a5).mono bj) (a4.mono bj) bx hc df).mono fun e w h=>⟨h.1,((ai _ _ ((a3 _ _ ((bv _ _ h.2).unpick k0)).unpick k0)).unpick k4)⟩) fun a w hf hc=>sp 5 hf rfl fun a hf=>zT h ?_
    refine zS fun K h=>zN hf hc wJ m3 rfl fun a w hf hc=>?_
    obtain ⟨I,dn,hF⟩:=aA hF
    obtain ⟨G1,a8,aj,hc,ai⟩:=lend hc k4
    obtain ⟨G2,a5,a4,hc,a3⟩:=lend hc k0
    refine zC hf en_12 rfl (aBb (⟨([(⟨(-500),0⟩:aG),(⟨500,W (2000 + ak.1)⟩:aG)]:List aG),ag⟩:aR) (aj.mono a5) a4 hc dn) ?_
    rintro _ w ⟨ic,ij,rfl,hc⟩
    refine ⟨_,rfl,fun a hf=>?_⟩
    replace hc:=a3 _ _ hc
    replace hc:=ai _ _ hc
    refine sp 7 hf rfl fun a hf=>zT h ?_
    refine zS fun K h=>zN hf hc wJ m5 rfl fun a w hf hc=>?_
    obtain ⟨V,c1,hF⟩:=aA hF
    obtain ⟨G1,a8,aj,hc,ai⟩:=lend hc k0
    obtain ⟨G2,a5,a4,hc,a3⟩:=lend hc k0
    refine zC hf en_13 rfl (aAn (⟨([(⟨(-500),0⟩:aG),(⟨500,W (2000 + ak.1)⟩:aG)]:List aG),ag⟩:aR) (aj.mono a5) a4 hc c1) ?_
    rintro _ w ⟨g7,g8,rfl,hc⟩
    refine ⟨_,rfl,fun a hf=>?_⟩
    replace hc:=a3 _ _ hc
    replace hc:=ai _ _ hc
    refine sp 5 hf rfl fun a hf=>zT h ?_
    refine zS fun K h=>zN hf hc wJ m6 rfl fun a w hf hc=>sp 1 hf rfl fun a hf=>?_
    obtain ⟨M,ci,hF⟩:=aA hF
    refine zQ (v:=.tuple #[i6 M.1,i6 M.2]) hf hc en_14 rfl (fun w hc=>by obtain ⟨G1,a8,aj,hc,ai⟩:=lend hc k0; obtain ⟨G2,a5,a4,hc,a3⟩:=lend hc k0; obtain ⟨G3,bj,bx,hc,bv⟩:=lend hc k0; exact (aAi (⟨([(⟨(-500),0⟩:aG),(⟨500,W (2000 + ak.1)⟩:aG)]:List aG),ag⟩:aR) V.1 ((aj.mono a5).mono bj) (a4.mono bj) bx hc ci).mono fun e w h=>⟨h.1,((ai _ _ ((a3 _ _ ((bv _ _ h.2).unpick k0)).unpick k0)).unpick k0)⟩) fun a w hf hc=>sp 5 hf rfl fun a hf=>zT h ?_
    refine zS fun K h=>sp 3 hf rfl fun a hf=>gQ 3 (fun a=>Has 268 a [(12,i6 ((W (U)).tmod 80)),(28,i6 H.1),(18,i6 H.2),(30,i6 I.2.1),(31,i6 I.2.2),(33,i6 V.2),(34,i6 M.1),(35,i6 M.2),(236,i6 H.2),(237,.bool (H.2 == 0)),(238,.bool (H.2 == 0)),(241,.bool ((H.2 == 0) && (I.2.2 == 0)))]) hc ?_ ?_
    ·cases hb:(H.2 == 0)
     ·rw [hb] at hf
      refine stS hf rfl rfl rfl fun a hf=>stS hf rfl rfl rfl fun a hf=>sp 1 hf rfl fun a hf=>aS ⟨hf.kp rfl,hc⟩
     ·rw [hb] at hf
      refine sp 3 hf rfl fun a hf=>aS ⟨hf.kp rfl,hc⟩
    intro a w ⟨hf,hc⟩
    refine sp 1 hf rfl fun a hf=>gQ 3 (fun a=>Has 268 a [(12,i6 ((W (U)).tmod 80)),(28,i6 H.1),(18,i6 H.2),(30,i6 I.2.1),(31,i6 I.2.2),(33,i6 V.2),(34,i6 M.1),(35,i6 M.2),(236,i6 H.2),(237,.bool (H.2 == 0)),(238,.bool (H.2 == 0)),(241,.bool ((H.2 == 0) && (I.2.2 == 0))),(242,.bool ((H.2 == 0) && (I.2.2 == 0))),(245,.bool (((H.2 == 0) && (I.2.2 == 0)) && (V.2 == 0)))]) hc ?_ ?_
    ·cases hb:((H.2 == 0) && (I.2.2 == 0))
     ·rw [hb] at hf
      refine stS hf rfl rfl rfl fun a hf=>stS hf rfl rfl rfl fun a hf=>sp 1 hf rfl fun a hf=>aS ⟨hf.kp rfl,hc⟩
     ·rw [hb] at hf
      refine sp 3 hf rfl fun a hf=>aS ⟨hf.kp rfl,hc⟩
    intro a w ⟨hf,hc⟩
    refine sp 1 hf rfl fun a hf=>gQ 3 (fun a=>Has 268 a [(12,i6 ((W (U)).tmod 80)),(28,i6 H.1),(18,i6 H.2),(30,i6 I.2.1),(31,i6 I.2.2),(33,i6 V.2),(34,i6 M.1),(35,i6 M.2),(236,i6 H.2),(237,.bool (H.2 == 0)),(238,.bool (H.2 == 0)),(241,.bool ((H.2 == 0) && (I.2.2 == 0))),(242,.bool ((H.2 == 0) && (I.2.2 == 0))),(245,.bool (((H.2 == 0) && (I.2.2 == 0)) && (V.2 == 0))),(246,.bool (((H.2 == 0) && (I.2.2 == 0)) && (V.2 == 0))),(249,.bool ((((H.2 == 0) && (I.2.2 == 0)) && (V.2 == 0)) && (M.2 == 0)))]) hc ?_ ?_
    ·cases hb:(((H.2 == 0) && (I.2.2 == 0)) && (V.2 == 0))
     ·rw [hb] at hf
      refine stS hf rfl rfl rfl fun a hf=>stS hf rfl rfl rfl fun a hf=>sp 1 hf rfl fun a hf=>aS ⟨hf.kp rfl,hc⟩
     ·rw [hb] at hf
      refine sp 3 hf rfl fun a hf=>aS ⟨hf.kp rfl,hc⟩
    intro a w ⟨hf,hc⟩
    refine sp 1 hf rfl fun a hf=>gQ 4 (fun a=>Has 268 a [(12,i6 ((W (U)).tmod 80)),(28,i6 H.1),(18,i6 H.2),(30,i6 I.2.1),(31,i6 I.2.2),(33,i6 V.2),(34,i6 M.1),(35,i6 M.2),(236,i6 H.2),(237,.bool (H.2 == 0)),(238,.bool (H.2 == 0)),(241,.bool ((H.2 == 0) && (I.2.2 == 0))),(242,.bool ((H.2 == 0) && (I.2.2 == 0))),(245,.bool (((H.2 == 0) && (I.2.2 == 0)) && (V.2 == 0))),(246,.bool (((H.2 == 0) && (I.2.2 == 0)) && (V.2 == 0))),(249,.bool ((((H.2 == 0) && (I.2.2 == 0)) && (V.2 == 0)) && (M.2 == 0))),(250,.bool ((((H.2 == 0) && (I.2.2 == 0)) && (V.2 == 0)) && (M.2 == 0))),(254,.bool (((((H.2 == 0) && (I.2.2 == 0)) && (V.2 == 0)) && (M.2 == 0)) && (decide (I.2.1≤H.1))))]) hc ?_ ?_
    ·cases hb:((((H.2 == 0) && (I.2.2 == 0)) && (V.2 == 0)) && (M.2 == 0))
     ·rw [hb] at hf
      refine stS hf rfl rfl rfl fun a hf=>stS hf rfl rfl rfl fun a hf=>stS hf rfl rfl rfl fun a hf=>sp 1 hf rfl fun a hf=>aS ⟨hf.kp rfl,hc⟩
     ·rw [hb] at hf
      refine sp 4 hf rfl fun a hf=>aS ⟨hf.kp rfl,hc⟩
    intro a w ⟨hf,hc⟩
    refine sp 1 hf rfl fun a hf=>gQ 4 (fun a=>Has 268 a [(12,i6 ((W (U)).tmod 80)),(28,i6 H.1),(18,i6 H.2),(30,i6 I.2.1),(31,i6 I.2.2),(33,i6 V.2),(34,i6 M.1),(35,i6 M.2),(236,i6 H.2),(237,.bool (H.2 == 0)),(238,.bool (H.2 == 0)),(241,.bool ((H.2 == 0) && (I.2.2 == 0))),(242,.bool ((H.2 == 0) && (I.2.2 == 0))),(245,.bool (((H.2 == 0) && (I.2.2 == 0)) && (V.2 == 0))),(246,.bool (((H.2 == 0) && (I.2.2 == 0)) && (V.2 == 0))),(249,.bool ((((H.2 == 0) && (I.2.2 == 0)) && (V.2 == 0)) && (M.2 == 0))),(250,.bool ((((H.2 == 0) && (I.2.2 == 0)) && (V.2 == 0)) && (M.2 == 0))),(254,.bool (((((H.2 == 0) && (I.2.2 == 0)) && (V.2 == 0)) && (M.2 == 0)) && (decide (I.2.1≤H.1)))),(255,.bool (((((H.2 == 0) && (I.2.2 == 0)) && (V.2 == 0)) && (M.2 == 0)) && (decide (I.2.1≤H.1)))),(259,.bool ((((((H.2 == 0) && (I.2.2 == 0)) && (V.2 == 0)) && (M.2 == 0)) && (decide (I.2.1≤H.1))) && (decide (H.1≤((W (U)).tmod 80)))))]) hc ?_ ?_
    ·cases hb:(((((H.2 == 0) && (I.2.2 == 0)) && (V.2 == 0)) && (M.2 == 0)) && (decide (I.2.1≤H.1)))
     ·rw [hb] at hf
      refine stS hf rfl rfl rfl fun a hf=>stS hf rfl rfl rfl fun a hf=>stS hf rfl rfl rfl fun a hf=>sp 1 hf rfl fun a hf=>aS ⟨hf.kp rfl,hc⟩
     ·rw [hb] at hf
      refine sp 4 hf rfl fun a hf=>aS ⟨hf.kp rfl,hc⟩
    intro a w ⟨hf,hc⟩
    refine sp 1 hf rfl fun a hf=>gQ 4 (fun a=>Has 268 a [(12,i6 ((W (U)).tmod 80)),(28,i6 H.1),(18,i6 H.2),(30,i6 I.2.1),(31,i6 I.2.2),(33,i6 V.2),(34,i6 M.1),(35,i6 M.2),(236,i6 H.2),(237,.bool (H.2 == 0)),(238,.bool (H.2 == 0)),(241,.bool ((H.2 == 0) && (I.2.2 == 0))),(242,.bool ((H.2 == 0) && (I.2.2 == 0))),(245,.bool (((H.2 == 0) && (I.2.2 == 0)) && (V.2 == 0))),(246,.bool (((H.2 == 0) && (I.2.2 == 0)) && (V.2 == 0))),(249,.bool ((((H.2 == 0) && (I.2.2 == 0)) && (V.2 == 0)) && (M.2 == 0))),(250,.bool ((((H.2 == 0) && (I.2.2 == 0)) && (V.2 == 0)) && (M.2 == 0))),(254,.bool (((((H.2 == 0) && (I.2.2 == 0)) && (V.2 == 0)) && (M.2 == 0)) && (decide (I.2.1≤H.1)))),(255,.bool (((((H.2 == 0) && (I.2.2 == 0)) && (V.2 == 0)) && (M.2 == 0)) && (decide (I.2.1≤H.1)))),(259,.bool ((((((H.2 == 0) && (I.2.2 == 0)) && (V.2 == 0)) && (M.2 == 0)) && (decide (I.2.1≤H.1))) && (decide (H.1≤((W (U)).tmod 80))))),(260,.bool ((((((H.2 == 0) && (I.2.2 == 0)) && (V.2 == 0)) && (M.2 == 0)) && (decide (I.2.1≤H.1))) && (decide (H.1≤((W (U)).tmod 80))))),(264,.bool (((((((H.2 == 0) && (I.2.2 == 0)) && (V.2 == 0)) && (M.2 == 0)) && (decide (I.2.1≤H.1))) && (decide (H.1≤((W (U)).tmod 80)))) && (M.1 == I.2.1)))]) hc ?_ ?_
    ·cases hb:((((((H.2 == 0) && (I.2.2 == 0)) && (V.2 == 0)) && (M.2 == 0)) && (decide (I.2.1≤H.1))) && (decide (H.1≤((W (U)).tmod 80))))
     ·rw [hb] at hf
      refine stS hf rfl rfl rfl fun a hf=>stS hf rfl rfl rfl fun a hf=>stS hf rfl rfl rfl fun a hf=>sp 1 hf rfl fun a hf=>aS ⟨hf.kp rfl,hc⟩
     ·rw [hb] at hf
      refine sp 4 hf rfl fun a hf=>aS ⟨hf.kp rfl,hc⟩
    intro a w ⟨hf,hc⟩
    refine sp 1 hf rfl fun a hf=>?_
    obtain ⟨gc,cf,hF⟩:=aA hF
    refine gQ 2 (fun a=>Has 268 a [(12,i6 ((W (U)).tmod 80)),(28,i6 H.1),(18,i6 H.2),(30,i6 I.2.1),(31,i6 I.2.2),(33,i6 V.2),(34,i6 M.1),(35,i6 M.2),(236,i6 H.2),(237,.bool (H.2 == 0)),(238,.bool (H.2 == 0)),(241,.bool ((H.2 == 0) && (I.2.2 == 0))),(242,.bool ((H.2 == 0) && (I.2.2 == 0))),(245,.bool (((H.2 == 0) && (I.2.2 == 0)) && (V.2 == 0))),(246,.bool (((H.2 == 0) && (I.2.2 == 0)) && (V.2 == 0))),(249,.bool ((((H.2 == 0) && (I.2.2 == 0)) && (V.2 == 0)) && (M.2 == 0))),(250,.bool ((((H.2 == 0) && (I.2.2 == 0)) && (V.2 == 0)) && (M.2 == 0))),(254,.bool (((((H.2 == 0) && (I.2.2 == 0)) && (V.2 == 0)) && (M.2 == 0)) && (decide (I.2.1≤H.1)))),(255,.bool (((((H.2 == 0) && (I.2.2 == 0)) && (V.2 == 0)) && (M.2 == 0)) && (decide (I.2.1≤H.1)))),(259,.bool ((((((H.2 == 0) && (I.2.2 == 0)) && (V.2 == 0)) && (M.2 == 0)) && (decide (I.2.1≤H.1))) && (decide (H.1≤((W (U)).tmod 80))))),(260,.bool ((((((H.2 == 0) && (I.2.2 == 0)) && (V.2 == 0)) && (M.2 == 0)) && (decide (I.2.1≤H.1))) && (decide (H.1≤((W (U)).tmod 80))))),(264,.bool (((((((H.2 == 0) && (I.2.2 == 0)) && (V.2 == 0)) && (M.2 == 0)) && (decide (I.2.1≤H.1))) && (decide (H.1≤((W (U)).tmod 80)))) && (M.1 == I.2.1))),(265,.bool (((((((H.2 == 0) && (I.2.2 == 0)) && (V.2 == 0)) && (M.2 == 0)) && (decide (I.2.1≤H.1))) && (decide (H.1≤((W (U)).tmod 80)))) && (M.1 == I.2.1))),(267,.bool gc)]) hc ?_ ?_
    ·cases hb:(((((((H.2 == 0) && (I.2.2 == 0)) && (V.2 == 0)) && (M.2 == 0)) && (decide (I.2.1≤H.1))) && (decide (H.1≤((W (U)).tmod 80)))) && (M.1 == I.2.1))
     ·rw [hb] at hf
      have hF:=mR hb cf
      obtain rfl:=sj hF
      refine stS hf rfl rfl rfl fun a hf=>sp 1 hf rfl fun a hf=>aS ⟨hf.kp rfl,hc⟩
     ·rw [hb] at hf
      have hF:=mN hb cf
      obtain ⟨c2,ck,hF⟩:=aA hF
      refine zQ (v:=.bool c2) hf hc en_15 rfl (fun w hc=>aB3 hc ck) fun a w hf hc=>sp 1 hf rfl fun a hf=>?_
      obtain rfl:=sj hF
      exact aS ⟨hf.kp rfl,hc⟩
    intro a w ⟨hf,hc⟩
    refine sp 1 hf rfl fun a hf=>zT h ?_
    refine wp_ret ?_
    obtain rfl:=sj hF
    replace hc:=((((((hc.drop k6).drop k5).drop k4).drop k3).drop k2).drop k1).drop k0
    exact zO1 Tryz.results3 hf rfl ⟨rfl,hc⟩
   have c7:∀ r,b9=.out r→r=b7:=by
    rintro r rfl
    exact sj hF
   replace hc:=hc.nilRow 3 1
   replace hc:=hc.nilRow 53 4
   replace hc:=(hc.drop k6).drop k5
   refine eR N (eO (S:=S18) (x:=b9) ?_ N (([]:List Int),ca.1,ca.2.1,ca.2.2,([]:List aJ)) _ _ ⟨none,0,none,0,hf.kp rfl,hc⟩ c6)
   clear hF hf hc
   rintro ⟨ab,d,b3,b6,ag⟩ dc a w KB18 ⟨ax,au,a2,a1,hf,hc⟩ hF a6 cx
   unfold eY at hF
   refine wp_seq_k fun K24 d1=>zS fun K h=>sp 2 hf rfl fun a hf=>zT h ?_
   refine zI hf rfl hF ?_ ?_ <;> clear hF <;> intro hF
   ·refine wp_skip ?_
    refine d1 _ _ ?_
    refine wp_seq_k fun K26 gb=>wp_block ?_
    refine zS fun K h=>sp 1 hf rfl fun a hf=>zT h ?_
    refine wp_seq_k fun K28 d4=>?_
    have cg:∀ (now:Int) a w,Has 268 a [(11,pq y),(12,i6 ((W (U)).tmod 80)),(13,i6 (W (1 + ((W (day)).tmod 29)))),(21,pq aq),(22,.slice ax ab.length au),(23,i6 d),(24,i6 now)]→Ctx G (.row a2 a1 (ag.map bB) 53 4::.row ax au (ab.map aB) 3 1::.box y [.slice X R.length Y,i6 b3,i6 b6] 65::.box aq [.slice (some ⟨a0,0,none⟩) 2 2,.slice a2 ag.length a1] 44::.row (some ⟨a0,0,none⟩) 2 (([(⟨(-500),0⟩:aG),(⟨500,W (2000 + ak.1)⟩:aG)]:List aG).map bF) 39 2::Lf) w→iW N R ak ab d b3 b6 ag now=some dc→K28 a w:=by
     repeat (clear hF)
     repeat (clear hc)
     repeat (clear hf)
     intro now a w hf hc hF
     unfold iW at hF
     refine d4 _ _ ?_
     refine zS fun K h=>sp 1 hf rfl fun a hf=>?_
     obtain ⟨s,cr,hF⟩:=aA hF
     refine zC hf aI1 rfl (fT (⟨R,b3,b6⟩:bG) (-90) 150 aa (hc.pick k2) cr) ?_
     rintro _ w ⟨rfl,hc⟩
     refine ⟨_,rfl,fun a hf=>?_⟩
     refine sp 1 hf rfl fun a hf=>zT h ?_
     refine zS fun K h=>zP hf rfl (pFA aAw rfl) fun a hf=>zL hf hc aId m3 rfl fun a w hf hc=>sp 1 hf rfl fun a hf=>?_
     obtain ⟨B,cp,hF⟩:=aA hF
     refine zQ (v:=.tuple #[.agg #[i6 B.1.N,i6 B.1.D],i6 B.2]) hf hc en_10 rfl (fun w hc=>by obtain ⟨G1,a8,aj,hc,ai⟩:=lend hc k4; exact (aA5 ([(⟨(-500),0⟩:aG),(⟨500,W (2000 + ak.1)⟩:aG)]:List aG) s.1 0 aj hc cp).mono fun e w h=>⟨h.1,((ai _ _ h.2).unpick k4)⟩) fun a w hf hc=>sp 3 hf rfl fun a hf=>zA hf hc aC7 rfl fun a7 a w hf hc=>zW hf hc xH u0 rfl fun w hc=>sp 1 hf rfl fun a hf=>zT h ?_
     refine wp_seq_k fun K31 dz=>zS fun K h=>sp 3 hf rfl fun a hf=>gQ 4 (fun a=>Has 268 a [(11,pq y),(12,i6 ((W (U)).tmod 80)),(13,i6 (W (1 + ((W (day)).tmod 29)))),(21,pq aq),(22,.slice ax ab.length au),(23,i6 d),(24,i6 now),(25,i6 s.1),(26,pq a7),(27,i6 B.2),(170,i6 B.2),(171,.bool (B.2 != 0)),(172,.bool (B.2 != 0)),(176,.bool ((B.2 != 0) || (decide (B.1.D < 1))))]) hc ?_ ?_
     ·cases hb:(B.2 != 0)
      ·rw [hb] at hf
       refine zP hf rfl (pFA wA rfl) fun a hf=>zL hf hc aY m0 rfl fun a w hf hc=>sp 2 hf rfl fun a hf=>aS ⟨hf.kp rfl,hc⟩
      ·rw [hb] at hf
       refine stS hf rfl rfl rfl fun a hf=>stS hf rfl rfl rfl fun a hf=>stS hf rfl rfl rfl fun a hf=>sp 1 hf rfl fun a hf=>aS ⟨hf.kp rfl,hc⟩
     intro a w ⟨hf,hc⟩
     refine zT h ?_
     refine zI hf rfl hF ?_ ?_ <;> clear hF <;> intro hF
     ·refine zS fun K h=>sp 1 hf rfl fun a hf=>zT h ?_
      refine wp_ret ?_
      refine aQ ?_
      refine bT ?_
      refine aQ ?_
      refine aQ ?_
      have he:=sj hF
      rw [← he] at a6
      replace hF:=c7 _ a6
      refine bT ?_
      refine aQ ?_
      obtain rfl:=hF
      replace hc:=(((((hc.drop k5).drop k4).drop k3).drop k2).drop k1).drop k0
      exact zO1 Tryz.results3 hf rfl ⟨rfl,hc⟩
     ·refine wp_skip ?_
      refine dz _ _ ?_
      refine wp_seq_k fun K34 dt=>?_
      obtain ⟨un,gv,hF⟩:=aA hF
      obtain ⟨t,cn,hF⟩:=aA hF
      obtain ⟨g3,cs,hF⟩:=aA hF
      obtain ⟨q,ct,hF⟩:=aA hF
      obtain ⟨g5,cq,hF⟩:=aA hF
      replace hc:=hc.nilRow 0 0
      refine iE (fun θ=>(⟨none,none,11,pq y⟩::⟨none,none,12,i6 ((W (U)).tmod 80)⟩::⟨none,none,13,i6 (W (1 + ((W (day)).tmod 29)))⟩::⟨none,none,21,pq aq⟩::⟨none,none,22,.slice ax ab.length au⟩::⟨none,none,23,i6 d⟩::⟨none,none,24,i6 now⟩::⟨none,none,25,i6 s.1⟩::⟨none,none,26,pq a7⟩::⟨some 0,none,177,.pointer (some ⟨aq,1,none⟩)⟩::⟨some 1,none,178,.slice a2 ag.length a1⟩::⟨some 2,none,179,i6 d⟩::⟨some 3,none,180,i6 s.1⟩::⟨some 4,none,181,i6 now⟩::⟨some 5,none,182,i6 (W (s.1 + now))⟩::⟨some 6,none,183,pq a7⟩::⟨some 7,none,184,i6 B.1.N⟩::⟨some 8,none,185,.pointer (some ⟨a7,1,none⟩)⟩::⟨some 9,none,186,i6 B.1.D⟩::⟨some 10,none,187,i6 (W (B.1.N.tdiv B.1.D))⟩::⟨some 11,none,188,pq y⟩::⟨some 12,none,189,i6 t.1⟩::⟨some 13,none,190,i6 (W ((W (B.1.N.tdiv B.1.D)) - t.1))⟩::⟨some 14,none,191,i6 (max 0 (W ((W (B.1.N.tdiv B.1.D)) - t.1)))⟩::⟨some 15,none,192,pq a7⟩::⟨some 16,none,193,i6 B.1.N⟩::⟨some 17,none,194,.pointer (some ⟨a7,1,none⟩)⟩::⟨some 18,none,195,i6 B.1.D⟩::⟨some 19,none,196,i6 (W (B.1.N + B.1.D))⟩::⟨some 20,none,197,i6 (W ((W (B.1.N + B.1.D)) - 1))⟩::⟨some 21,none,198,.pointer (some ⟨a7,1,none⟩)⟩::⟨some 22,none,199,i6 B.1.D⟩::⟨some 23,none,200,i6 (W ((W ((W (B.1.N + B.1.D)) - 1)).tdiv B.1.D))⟩::⟨some 24,none,201,pq y⟩::⟨some 25,none,202,i6 q.1⟩::⟨some 26,none,203,i6 (W ((W ((W ((W (B.1.N + B.1.D)) - 1)).tdiv B.1.D)) + q.1))⟩::⟨some 27,none,204,.agg #[i6 (max 0 (W ((W (B.1.N.tdiv B.1.D)) - t.1))),i6 (W ((W ((W ((W (B.1.N + B.1.D)) - 1)).tdiv B.1.D)) + q.1))]⟩::⟨some 28,none,205,.agg #[i6 d,i6 (W (s.1 + now)),i6 (max 0 (W ((W (B.1.N.tdiv B.1.D)) - t.1))),i6 (W ((W ((W ((W (B.1.N + B.1.D)) - 1)).tdiv B.1.D)) + q.1))]⟩::⟨some 29,none,206,.slice (some ⟨(θ 232).b,0,none⟩) 1 1⟩::⟨some 30,none,207,.slice ((θ 240).p) ((ag++[(⟨d,W (s.1 + now),(⟨max 0 (W ((W (B.1.N.tdiv B.1.D)) - t.1)),W ((W ((W ((W (B.1.N + B.1.D)) - 1)).tdiv B.1.D)) + q.1)⟩:aC)⟩:aJ)]).length) ((θ 240).c)⟩::⟨some 31,none,208,.pointer (some ⟨aq,1,none⟩)⟩::[])) (fun E θ=>(bif E 29 then .row (some ⟨(θ 232).b,0,none⟩) 1 (([(⟨d,W (s.1 + now),(⟨max 0 (W ((W (B.1.N.tdiv B.1.D)) - t.1)),W ((W ((W ((W (B.1.N + B.1.D)) - 1)).tdiv B.1.D)) + q.1)⟩:aC)⟩:aJ)]:List aJ).map bB) 53 4 else .row none 0 [] 0 0)::.box a7 [i6 B.1.N,i6 B.1.D] 47::(bif E 25 then .box y [.slice X R.length Y,i6 q.2.1,i6 q.2.2] 65 else bif E 12 then .box y [.slice X R.length Y,i6 t.2.1,i6 t.2.2] 65 else .box y [.slice X R.length Y,i6 s.2.1,i6 s.2.2] 65)::(bif E 30 then .row ((θ 240).p) ((θ 240).c) ((ag++[(⟨d,W (s.1 + now),(⟨max 0 (W ((W (B.1.N.tdiv B.1.D)) - t.1)),W ((W ((W ((W (B.1.N + B.1.D)) - 1)).tdiv B.1.D)) + q.1)⟩:aC)⟩:aJ)]).map bB) 53 4 else .row a2 a1 (ag.map bB) 53 4)::.row ax au (ab.map aB) 3 1::(bif E 32 then .box aq [.slice (some ⟨a0,0,none⟩) 2 2,.slice ((θ 240).p) ((ag++[(⟨d,W (s.1 + now),(⟨max 0 (W ((W (B.1.N.tdiv B.1.D)) - t.1)),W ((W ((W ((W (B.1.N + B.1.D)) - 1)).tdiv B.1.D)) + q.1)⟩:aC)⟩:aJ)]).length) ((θ 240).c)] 44 else .box aq [.slice (some ⟨a0,0,none⟩) 2 2,.slice a2 ag.length a1] 44)::.row (some ⟨a0,0,none⟩) 2 (([(⟨(-500),0⟩:aG),(⟨500,W (2000 + ak.1)⟩:aG)]:List aG).map bF) 39 2::Lf) [(32,1),(25,12),(32,30)] (fun a w=>∃ (cv:Nat) (b5:Option Addr) (b2:Nat),Has 268 a [(11,pq y),(12,i6 ((W (U)).tmod 80)),(13,i6 (W (1 + ((W (day)).tmod 29)))),(21,pq aq),(22,.slice ax ab.length au),(23,i6 d),(24,i6 now)]∧Ctx G (.row (some ⟨cv,0,none⟩) 1 (([(⟨d,W (s.1 + now),(⟨max 0 (W ((W (B.1.N.tdiv B.1.D)) - t.1)),W ((W ((W ((W (B.1.N + B.1.D)) - 1)).tdiv B.1.D)) + q.1)⟩:aC)⟩:aJ)]:List aJ).map bB) 53 4::.box a7 [i6 B.1.N,i6 B.1.D] 47::.box y [.slice X R.length Y,i6 q.2.1,i6 q.2.2] 65::.row b5 b2 ((ag++[(⟨d,W (s.1 + now),(⟨max 0 (W ((W (B.1.N.tdiv B.1.D)) - t.1)),W ((W ((W ((W (B.1.N + B.1.D)) - 1)).tdiv B.1.D)) + q.1)⟩:aC)⟩:aJ)]).map bB) 53 4::.row ax au (ab.map aB) 3 1::.box aq [.slice (some ⟨a0,0,none⟩) 2 2,.slice b5 ((ag++[(⟨d,W (s.1 + now),(⟨max 0 (W ((W (B.1.N.tdiv B.1.D)) - t.1)),W ((W ((W ((W (B.1.N + B.1.D)) - 1)).tdiv B.1.D)) + q.1)⟩:aC)⟩:aJ)]).length) b2] 44::.row (some ⟨a0,0,none⟩) 2 (([(⟨(-500),0⟩:aG),(⟨500,W (2000 + ak.1)⟩:aG)]:List aG).map bF) 39 2::Lf) w) aW (by kernel_rfl) (by kernel_rfl) (eV.of hf ⟨rfl,rfl,rfl,rfl,rfl,rfl,rfl,rfl,rfl,trivial,trivial,trivial,trivial,trivial,trivial,trivial,trivial,trivial,trivial,trivial,trivial,trivial,trivial,trivial,trivial,trivial,trivial,trivial,trivial,trivial,trivial,trivial,trivial,trivial,trivial,trivial,trivial,trivial,trivial,trivial,trivial,trivial⟩) hc ⟨?_,?_,?_,?_,?_,?_,?_,?_,?_,?_,?_,?_,?_,?_,?_,?_,?_,?_,?_,?_,?_,?_,?_,?_,?_,?_,?_,?_,?_,?_,?_,?_,?_,trivial⟩ ?_ ?_
      ·intro E θ a w hD hi hp he hc
       have hf:=he.h0.mT he 3 rfl
       refine zP hf rfl (pFA oU rfl) fun a hf=>zD θ he hi hf 9 rfl rfl rfl hc
      ·intro E θ a w hD hi hp he hc
       have e0:=hp.o 0 rfl
       have bf:=hD.f 0 rfl hi
       try dsimp only at hc
       rw [bf] at hc
       have hf:=he.h0.mP he 9 rfl e0
       refine zL hf hc yA m5 rfl fun a w hf hc=>zD θ he hi hf 10 rfl rfl rfl ?_
       try dsimp only
       rw [aV 1 bf rfl]
       exact hc
      ·intro E θ a w hD hi hp he hc
       have hf:=he.h0.mT he 5 rfl
       refine sp 1 hf rfl fun a hf=>zD θ he hi hf 11 rfl rfl rfl hc
      ·intro E θ a w hD hi hp he hc
       have hf:=he.h0.mT he 7 rfl
       refine sp 1 hf rfl fun a hf=>zD θ he hi hf 12 rfl rfl rfl hc
      ·intro E θ a w hD hi hp he hc
       have hf:=he.h0.mT he 6 rfl
       refine sp 1 hf rfl fun a hf=>zD θ he hi hf 13 rfl rfl rfl hc
      ·intro E θ a w hD hi hp he hc
       have e3:=hp.o 3 rfl
       have e4:=hp.o 4 rfl
       have hf:=(he.h0.mP he 12 rfl e3).mP he 13 rfl e4
       refine sp 1 hf rfl fun a hf=>zD θ he hi hf 14 rfl rfl rfl hc
      ·intro E θ a w hD hi hp he hc
       have hf:=he.h0.mT he 8 rfl
       refine zP hf rfl (pFA aAt rfl) fun a hf=>zD θ he hi hf 15 rfl rfl rfl hc
      ·intro E θ a w hD hi hp he hc
       have e6:=hp.o 6 rfl
       have hf:=he.h0.mP he 15 rfl e6
       refine zL hf hc aY m1 rfl fun a w hf hc=>zD θ he hi hf 16 rfl rfl rfl hc
      ·intro E θ a w hD hi hp he hc
       have hf:=he.h0.mT he 8 rfl
       refine zP hf rfl (pFA wA rfl) fun a hf=>zD θ he hi hf 17 rfl rfl rfl hc
      ·intro E θ a w hD hi hp he hc
       have e8:=hp.o 8 rfl
       have hf:=he.h0.mP he 17 rfl e8
       refine zL hf hc aY m1 rfl fun a w hf hc=>zD θ he hi hf 18 rfl rfl rfl hc
      ·intro E θ a w hD hi hp he hc
       have e7:=hp.o 7 rfl
       have e9:=hp.o 9 rfl
       have hf:=(he.h0.mP he 16 rfl e7).mP he 18 rfl e9
       refine zP hf rfl (aI5 rfl rfl (qJ gv)) fun a hf=>zD θ he hi hf 19 rfl rfl rfl hc
      ·intro E θ a w hD hi hp he hc
       have hf:=he.h0.mT he 0 rfl
       refine sp 1 hf rfl fun a hf=>zD θ he hi hf 20 rfl rfl rfl hc
      ·intro E θ a w hD hi hp he hc
       have gn:=hp.o 11 rfl
       have br:=hD.f 1 rfl hi
       try dsimp only at hc
       rw [hi,br] at hc
       have hf:=he.h0.mP he 20 rfl gn
       refine zC hf aD4 rfl (dV (⟨R,s.2.1,s.2.2⟩:bG) 6 aa (hc.pick k2) cn) ?_
       rintro _ w ⟨rfl,hc⟩
       refine ⟨_,rfl,fun a hf=>?_⟩
       refine aS ?_
       refine dA ?_
       intro ds u bk
       replace hc:=((hc.pick k0).pick k2).pick k2
       refine ⟨θ,he.put0 hi bk hf rfl 21 rfl rfl,?_⟩
       try dsimp only
       rw [aX E 12,aV 12 br rfl]
       exact hc
      ·intro E θ a w hD hi hp he hc
       have dv:=hp.o 10 rfl
       have bm:=hp.o 12 rfl
       have hf:=(he.h0.mP he 19 rfl dv).mP he 21 rfl bm
       refine sp 1 hf rfl fun a hf=>zD θ he hi hf 22 rfl rfl rfl hc
      ·intro E θ a w hD hi hp he hc
       have g0:=hp.o 13 rfl
       have hf:=he.h0.mP he 22 rfl g0
       refine zP hf rfl (aHr rfl rfl) fun a hf=>zD θ he hi hf 23 rfl rfl rfl hc
      ·intro E θ a w hD hi hp he hc
       have hf:=he.h0.mT he 8 rfl
       refine zP hf rfl (pFA aAt rfl) fun a hf=>zD θ he hi hf 24 rfl rfl rfl hc
      ·intro E θ a w hD hi hp he hc
       have gd:=hp.o 15 rfl
       have hf:=he.h0.mP he 24 rfl gd
       refine zL hf hc aY m1 rfl fun a w hf hc=>zD θ he hi hf 25 rfl rfl rfl hc
      ·intro E θ a w hD hi hp he hc
       have hf:=he.h0.mT he 8 rfl
       refine zP hf rfl (pFA wA rfl) fun a hf=>zD θ he hi hf 26 rfl rfl rfl hc
      ·intro E θ a w hD hi hp he hc
       have gg:=hp.o 17 rfl
       have hf:=he.h0.mP he 26 rfl gg
       refine zL hf hc aY m1 rfl fun a w hf hc=>zD θ he hi hf 27 rfl rfl rfl hc
      ·intro E θ a w hD hi hp he hc
       have d6:=hp.o 16 rfl
       have d8:=hp.o 18 rfl
       have hf:=(he.h0.mP he 25 rfl d6).mP he 27 rfl d8
       refine sp 1 hf rfl fun a hf=>zD θ he hi hf 28 rfl rfl rfl hc
      ·intro E θ a w hD hi hp he hc
       have du:=hp.o 19 rfl
       have hf:=he.h0.mP he 28 rfl du
       refine sp 1 hf rfl fun a hf=>zD θ he hi hf 29 rfl rfl rfl hc
      ·intro E θ a w hD hi hp he hc
       have hf:=he.h0.mT he 8 rfl
       refine zP hf rfl (pFA wA rfl) fun a hf=>zD θ he hi hf 30 rfl rfl rfl hc
      ·intro E θ a w hD hi hp he hc
       have d9:=hp.o 21 rfl
       have hf:=he.h0.mP he 30 rfl d9
       refine zL hf hc aY m1 rfl fun a w hf hc=>zD θ he hi hf 31 rfl rfl rfl hc
      ·intro E θ a w hD hi hp he hc
       have gf:=hp.o 20 rfl
       have gi:=hp.o 22 rfl
       have hf:=(he.h0.mP he 29 rfl gf).mP he 31 rfl gi
       refine zP hf rfl (aI5 rfl rfl (qJ cs)) fun a hf=>zD θ he hi hf 32 rfl rfl rfl hc
      ·intro E θ a w hD hi hp he hc
       have hf:=he.h0.mT he 0 rfl
       refine sp 1 hf rfl fun a hf=>zD θ he hi hf 33 rfl rfl rfl hc
      ·intro E θ a w hD hi hp he hc
       have ga:=hp.o 24 rfl
       have bm:=hp.o 12 rfl
       try dsimp only at hc
       rw [bm,hi] at hc
       have hf:=he.h0.mP he 33 rfl ga
       refine zC hf aD4 rfl (dV (⟨R,t.2.1,t.2.2⟩:bG) 6 aa (hc.pick k2) ct) ?_
       rintro _ w ⟨rfl,hc⟩
       refine ⟨_,rfl,fun a hf=>?_⟩
       refine aS ?_
       refine dA ?_
       intro ds u bk
       replace hc:=((hc.pick k0).pick k2).pick k2
       refine ⟨θ,he.put0 hi bk hf rfl 34 rfl rfl,?_⟩
       try dsimp only
       rw [eL 25 bm,aX E 25]
       exact hc
      ·intro E θ a w hD hi hp he hc
       have gz:=hp.o 23 rfl
       have br:=hp.o 25 rfl
       have hf:=(he.h0.mP he 32 rfl gz).mP he 34 rfl br
       refine sp 1 hf rfl fun a hf=>zD θ he hi hf 35 rfl rfl rfl hc
      ·intro E θ a w hD hi hp he hc
       have gr:=hp.o 14 rfl
       have gs:=hp.o 26 rfl
       have hf:=(he.h0.mP he 23 rfl gr).mP he 35 rfl gs
       refine zP hf rfl (bL (cells:=[i6 (max 0 (W ((W (B.1.N.tdiv B.1.D)) - t.1))),i6 (W ((W ((W ((W (B.1.N + B.1.D)) - 1)).tdiv B.1.D)) + q.1))]) qD rfl rfl) fun a hf=>zD θ he hi hf 36 rfl rfl rfl hc
      ·intro E θ a w hD hi hp he hc
       have e2:=hp.o 2 rfl
       have e5:=hp.o 5 rfl
       have d5:=hp.o 27 rfl
       have hf:=((he.h0.mP he 11 rfl e2).mP he 14 rfl e5).mP he 36 rfl d5
       refine zP hf rfl (bL (cells:=[i6 d,i6 (W (s.1 + now)),i6 (max 0 (W ((W (B.1.N.tdiv B.1.D)) - t.1))),i6 (W ((W ((W ((W (B.1.N + B.1.D)) - 1)).tdiv B.1.D)) + q.1))]) bt_53 rfl rfl) fun a hf=>zD θ he hi hf 37 rfl rfl rfl hc
      ·intro E θ a w hD hi hp he hc
       have g1:=hp.o 28 rfl
       try dsimp only at hc
       rw [hi] at hc
       have hf:=he.h0.mP he 37 rfl g1
       refine pJ (rows:=([(⟨d,W (s.1 + now),(⟨max 0 (W ((W (B.1.N.tdiv B.1.D)) - t.1)),W ((W ((W ((W (B.1.N + B.1.D)) - 1)).tdiv B.1.D)) + q.1)⟩:aC)⟩:aJ)]:List aJ).map bB) (vs:=[(0,.agg #[i6 d,i6 (W (s.1 + now)),i6 (max 0 (W ((W (B.1.N.tdiv B.1.D)) - t.1))),i6 (W ((W ((W ((W (B.1.N + B.1.D)) - 1)).tdiv B.1.D)) + q.1))])]) hf hc rfl rfl aM1 rfl ⟨rfl,rfl,rfl,trivial⟩ rfl rfl fun gj a w hf hc=>aS ?_
       refine dA ?_
       intro ds u bk
       replace hc:=hc.drop k1
       refine ⟨(sK θ 232 ⟨gj,none,0,(fun _=>(none,0))⟩),he.put hi bk hf rfl [] trivial ⟨qq,qq,qq,qq,qq,qq,qq,qq,qq,qq,qq,qq,qq,qq,qq,qq,qq,qq,qq,qq,qq,qq,qq,qq,qq,qq,qq,qq,qq,qq,qq,qq,qq,qq,qq,qq,qq,qq,qq,qq,qq,trivial⟩,?_⟩
       try dsimp only
       rw [aX E 29]
       exact hc
      ·intro E θ a w hD hi hp he hc
       have e1:=hp.o 1 rfl
       have bt:=hp.o 29 rfl
       have bf:=hD.f 2 rfl hi
       try dsimp only at hc
       rw [bt,hi,bf] at hc
       have hf:=(he.h0.mP he 10 rfl e1).mP he 38 rfl bt
       refine qI (xs:=ag) (ys:=([(⟨d,W (s.1 + now),(⟨max 0 (W ((W (B.1.N.tdiv B.1.D)) - t.1)),W ((W ((W ((W (B.1.N + B.1.D)) - 1)).tdiv B.1.D)) + q.1)⟩:aC)⟩:aJ)]:List aJ)) hf hc rfl rfl aM1 rfl rfl rfl rfl rfl uL (mJ hc m0) (fun _ _=>u3) (by simpa using gJ cq) fun dy gk a w hf hc=>aS ?_
       refine dA ?_
       intro ds u bk
       refine ⟨(sK θ 240 ⟨0,dy,gk,(fun _=>(none,0))⟩),he.put hi bk hf rfl [] trivial ⟨qq,qq,qq,qq,qq,qq,qq,qq,qq,qq,qq,qq,qq,qq,qq,qq,qq,qq,qq,qq,qq,qq,qq,qq,qq,qq,qq,qq,qq,qq,qq,qq,qq,qq,qq,qq,qq,qq,qq,qq,qq,trivial⟩,?_⟩
       try dsimp only
       rw [eL 30 bt,aX E 30,aV 30 bf rfl]
       exact hc
      ·intro E θ a w hD hi hp he hc
       have hf:=he.h0.mT he 3 rfl
       refine zP hf rfl (pFA oU rfl) fun a hf=>zD θ he hi hf 40 rfl rfl rfl hc
      ·intro E θ a w hD hi hp he hc
       have cd:=hp.o 30 rfl
       have gp:=hp.o 31 rfl
       try dsimp only at hc
       rw [hi] at hc
       have hf:=(he.h0.mP he 39 rfl cd).mP he 40 rfl gp
       refine zW hf hc sz_42 u5 rfl fun w hc=>zG θ he hi hf rfl ?_
       try dsimp only
       rw [aX E 32]
       exact hc
      ·intro E θ a w bd he hc
       have hf:=he.h0
       have bm:=bd 12 rfl
       have br:=bd 25 rfl
       have bt:=bd 29 rfl
       have cd:=bd 30 rfl
       have bf:=bd 32 rfl
       replace hf:=hf.more he 6 rfl (onT)
       replace hf:=hf.more he 5 rfl (onT)
       replace hf:=hf.more he 4 rfl (onT)
       replace hf:=hf.more he 3 rfl (onT)
       replace hf:=hf.more he 2 rfl (onT)
       replace hf:=hf.more he 1 rfl (onT)
       replace hf:=hf.more he 0 rfl (onT)
       try dsimp only at hc
       rw [bm,br,bt,cd,bf] at hc
       exact ⟨(θ 232).b,(θ 240).p,(θ 240).c,hf.kp rfl,hc⟩
      rintro a w ⟨cv,b5,b2,hf,hc⟩
      refine dt _ _ ?_
      refine eB ?_
      refine sp 2 hf rfl fun a hf=>pJ (rows:=([now]:List Int).map aB) (vs:=[(0,i6 now)]) hf hc rfl rfl qG rfl ⟨rfl,rfl,rfl,trivial⟩ rfl rfl fun ig a w hf hc=>?_
      obtain ⟨g4,cm,hF⟩:=aA hF
      refine qI (xs:=ab) (ys:=([now]:List Int)) hf hc rfl rfl qG rfl rfl rfl rfl rfl bA (mJ hc m0) (fun _ _=>u5) (by simpa using gJ cm) fun dg cy a w hf hc=>sp 1 hf rfl fun a hf=>aS ?_
      refine gb _ _ ?_
      refine eB ?_
      refine sp 2 hf rfl fun a hf=>?_
      obtain ⟨b0,cj,hF⟩:=aA hF
      refine zC hf aI1 rfl (fT (⟨R,q.2.1,q.2.2⟩:bG) 2 9 aa (hc.pick k3) cj) ?_
      rintro _ w ⟨rfl,hc⟩
      refine ⟨_,rfl,fun a hf=>?_⟩
      refine sp 2 hf rfl fun a hf=>aS ?_
      replace hc:=(((((hc.drop k3).drop k2).drop k1).pick k0).pick k2).pick k2
      exact cx ((ab++[now]),W (d + b0.1),b0.2.1,b0.2.2,(ag++[(⟨d,W (s.1 + now),(⟨max 0 (W ((W (B.1.N.tdiv B.1.D)) - t.1)),W ((W ((W ((W (B.1.N + B.1.D)) - 1)).tdiv B.1.D)) + q.1)⟩:aC)⟩:aJ)])) _ _ (sj hF).symm ⟨dg,cy,b5,b2,hf.kp rfl,hc⟩
    refine zS fun K h=>sp 3 hf rfl fun a hf=>zT h ?_
    refine zI hf rfl hF ?_ ?_ <;> clear hF <;> intro hF
    ·refine eB ?_
     refine sp 2 hf rfl fun a hf=>aS ?_
     exact cg ((W (U)).tmod 80) _ _  (hf.kp rfl) hc hF
    ·refine wp_skip ?_
     exact cg 0 _ _  (hf.kp rfl) hc hF
   ·refine wp_exit ?_
    refine bI ?_
    refine bI ?_
    have he:=sj hF
    rw [← he] at a6
    refine fZ ?_
    exact da _ _ _ a6 ⟨ax,au,a2,a1,hf.kp rfl,hc⟩
 have ib:∀ r,x8=.out r→r=b7:=by
  rintro r rfl
  exact sj hF
 replace hc:=(hc.drop k4).drop k3
 refine eR N (eO (S:=S8) (x:=x8) ?_ N (Z.1.Lines,0) _ _ ⟨dr,d7,hf.kp rfl,hc⟩ gy)
 clear hF hf hc
 rintro ⟨x,ac⟩ cu a w KB8 ⟨bq,ap,hf,hc⟩ hF b4 d0
 unfold iI at hF
 refine zS fun K h=>sp 1 hf rfl fun a hf=>zT h ?_
 refine wp_seq_k fun K37 gq=>zI hf rfl hF ?_ ?_ <;> clear hF <;> intro hF
 ·refine wp_skip ?_
  refine gq _ _ ?_
  refine wp_seq_k fun K38 dx=>?_
  have cb:∀ (bs:List aF) (bg:Option Addr) (bi:Nat) a w,Has 268 a [(9,pq az),(11,pq y),(12,i6 ((W (U)).tmod 80)),(13,i6 (W (1 + ((W (day)).tmod 29)))),(14,i6 (W (Z.1.Marks - 1))),(55,.slice bg bs.length bi),(56,i6 ((Z.1.Lines.length:Nat):Int)),(57,i6 ac)]→Ctx G (.box y [.slice X R.length Y,i6 av.1,i6 av.2] 65::.box az [i6 Z.1.Marks,.slice bg bs.length bi] 25::.row bg bi (bs.map aM) 32 5::Lf) w→iV N ac bs=some cu→K38 a w:=by
   repeat (clear hF)
   repeat (clear hc)
   repeat (clear hf)
   intro bs bg bi a w hf hc hF
   unfold iV at hF
   refine dx _ _ ?_
   refine eB ?_
   refine sp 2 hf rfl fun a hf=>aS ?_
   exact d0 (bs,W (ac + 1)) _ _ (sj hF).symm ⟨bg,bi,hf.kp rfl,hc⟩
  refine wp_block ?_
  refine zS fun K h=>sp 1 hf rfl fun a hf=>?_
  obtain ⟨m,c5,hF⟩:=aA hF
  obtain ⟨g,rfl,qa,qr⟩:=jM hc m2 c5
  refine zP hf rfl (pIA Tryz.underlying23 rA rfl rfl qa) fun a hf=>zE hf hc rfl (jE (vs:=[i6 m.From,i6 m.To,i6 m.Day,i6 m.Rise,i6 m.Error]) aAa rfl rfl (jV (sz:=5) (i:=ac.toNat) m2 qr (n:=5) (o':=0) rfl)) fun a w hf hc=>zA hf hc aH4 rfl fun ay a w hf hc=>sp 1 hf rfl fun a hf=>zW hf hc rA u0 rfl fun w hc=>zT h ?_
  refine wp_seq_k fun K40 d2=>?_
  have cc:∀ (ar:List aF) (a9:Option Addr) (am:Nat) a w,Has 268 a [(9,pq az),(11,pq y),(12,i6 ((W (U)).tmod 80)),(13,i6 (W (1 + ((W (day)).tmod 29)))),(14,i6 (W (Z.1.Marks - 1))),(15,i6 ac),(16,pq ay),(55,.slice a9 ar.length am),(56,i6 ((Z.1.Lines.length:Nat):Int)),(57,i6 ac)]→Ctx G (.box ay [i6 m.From,i6 m.To,i6 m.Day,i6 m.Rise,i6 m.Error] 32::.box y [.slice X R.length Y,i6 av.1,i6 av.2] 65::.box az [i6 Z.1.Marks,.slice a9 ar.length am] 25::.row a9 am (ar.map aM) 32 5::Lf) w→iY N U day Z ac m ar=some cu→K40 a w:=by
   repeat (clear hF)
   repeat (clear hc)
   repeat (clear hf)
   intro ar a9 am a w hf hc hF
   unfold iY at hF
   refine d2 _ _ ?_
   refine zS fun K h=>zP hf rfl (pFA xM rfl) fun a hf=>zL hf hc aY m0 rfl fun a w hf hc=>sp 3 hf rfl fun a hf=>gQ 5 (fun a=>Has 268 a [(9,pq az),(11,pq y),(12,i6 ((W (U)).tmod 80)),(13,i6 (W (1 + ((W (day)).tmod 29)))),(14,i6 (W (Z.1.Marks - 1))),(15,i6 ac),(16,pq ay),(55,.slice a9 ar.length am),(56,i6 ((Z.1.Lines.length:Nat):Int)),(57,i6 ac),(82,.pointer (some ⟨ay,2,none⟩)),(83,i6 m.Day),(84,i6 (W (1 + ((W (day)).tmod 29)))),(85,.bool (decide ((W (1 + ((W (day)).tmod 29)))≤m.Day))),(86,.bool (decide ((W (1 + ((W (day)).tmod 29)))≤m.Day))),(91,.bool ((decide ((W (1 + ((W (day)).tmod 29)))≤m.Day)) && (m.To == (W (Z.1.Marks - 1)))))]) hc ?_ ?_
   ·cases hb:(decide ((W (1 + ((W (day)).tmod 29)))≤m.Day))
    ·rw [hb] at hf
     refine stS hf rfl rfl rfl fun a hf=>stS hf rfl rfl rfl fun a hf=>stS hf rfl rfl rfl fun a hf=>stS hf rfl rfl rfl fun a hf=>sp 1 hf rfl fun a hf=>aS ⟨hf.kp rfl,hc⟩
    ·rw [hb] at hf
     refine zP hf rfl (pFA vX rfl) fun a hf=>zL hf hc aY m0 rfl fun a w hf hc=>sp 3 hf rfl fun a hf=>aS ⟨hf.kp rfl,hc⟩
   intro a w ⟨hf,hc⟩
   refine zT h ?_
   refine zI hf rfl hF ?_ ?_ <;> clear hF <;> intro hF
   ·refine eB ?_
    refine zP hf rfl (pFA kW rfl) fun a hf=>zL hf hc sE m2 rfl fun a w hf hc=>sp 1 hf rfl fun a hf=>?_
    obtain ⟨bp,di,hF⟩:=aA hF
    obtain ⟨bu,rfl,cz,dq⟩:=jM hc m3 di
    refine zP hf rfl (pIA Tryz.underlying23 rA rfl rfl cz) fun a hf=>zP hf rfl (pFA sH rfl) fun a hf=>zE hf hc rfl (cN aY rfl (iC (sz:=5) (i:=ac.toNat) (j:=3) m3 dq rfl)) fun a w hf hc=>sp 2 hf rfl fun a hf=>?_
    obtain ⟨af,bz,hF⟩:=aA hF
    obtain ⟨dp,g6⟩:=iF hc m3 bz
    refine zP hf rfl (pIA Tryz.underlying23 rA rfl rfl dp) fun a hf=>zP hf rfl (pFA sH rfl) fun a hf=>aCs (sz:=5) (vs:=[i6 (W (bp.Rise - ((W (U)).tmod 80)))]) (o':=3) (z:=(⟨af.From,af.To,af.Day,W (bp.Rise - ((W (U)).tmod 80)),af.Error⟩:aF)) (xs:=ar) hf hc rfl rfl rfl rfl eQ rfl (fun x=>(gR x).1) (nA bz) (fun e' b8=>by cases (b8.symm.trans (jQ bz).2); rfl) rfl u3 fun w hc=>aS ?_
    replace hc:Ctx G (.box ay [i6 m.From,i6 m.To,i6 m.Day,i6 m.Rise,i6 m.Error] 32::.box y [.slice X R.length Y,i6 av.1,i6 av.2] 65::.box az [i6 Z.1.Marks,.slice (some ⟨bu,0,none⟩) ((ar.set ac.toNat (⟨af.From,af.To,af.Day,W (bp.Rise - ((W (U)).tmod 80)),af.Error⟩:aF)).length) am] 25::.row (some ⟨bu,0,none⟩) am ((ar.set ac.toNat (⟨af.From,af.To,af.Day,W (bp.Rise - ((W (U)).tmod 80)),af.Error⟩:aF)).map aM) 32 5::Lf) w:=by simp only [List.length_set] at hc ⊢; exact hc
    replace hf:=hf.castAt 55 (v':=.slice (some ⟨bu,0,none⟩) ((ar.set ac.toNat (⟨af.From,af.To,af.Day,W (bp.Rise - ((W (U)).tmod 80)),af.Error⟩:aF)).length) am) rfl (congrArg (fun k=>Value.slice (some ⟨bu,0,none⟩) k am) (by simp))
    replace hc:=hc.drop k0
    exact cb (ar.set ac.toNat (⟨af.From,af.To,af.Day,W (bp.Rise - ((W (U)).tmod 80)),af.Error⟩:aF)) (some ⟨bu,0,none⟩) am _ _  (hf.kp rfl) hc hF
   ·refine wp_skip ?_
    replace hc:=hc.drop k0
    exact cb ar a9 am _ _  (hf.kp rfl) hc hF
  refine zS fun K h=>zP hf rfl (pFA xM rfl) fun a hf=>zL hf hc aY m0 rfl fun a w hf hc=>sp 3 hf rfl fun a hf=>gQ 5 (fun a=>Has 268 a [(9,pq az),(11,pq y),(12,i6 ((W (U)).tmod 80)),(13,i6 (W (1 + ((W (day)).tmod 29)))),(14,i6 (W (Z.1.Marks - 1))),(55,.slice (some ⟨g,0,none⟩) x.length ap),(56,i6 ((Z.1.Lines.length:Nat):Int)),(57,i6 ac),(16,pq ay),(15,i6 ac),(62,.pointer (some ⟨ay,2,none⟩)),(63,i6 m.Day),(64,i6 (W (1 + ((W (day)).tmod 29)))),(65,.bool (decide ((W (1 + ((W (day)).tmod 29)))≤m.Day))),(66,.bool (decide ((W (1 + ((W (day)).tmod 29)))≤m.Day))),(71,.bool ((decide ((W (1 + ((W (day)).tmod 29)))≤m.Day)) && (m.From == (W (Z.1.Marks - 1)))))]) hc ?_ ?_
  ·cases hb:(decide ((W (1 + ((W (day)).tmod 29)))≤m.Day))
   ·rw [hb] at hf
    refine stS hf rfl rfl rfl fun a hf=>stS hf rfl rfl rfl fun a hf=>stS hf rfl rfl rfl fun a hf=>stS hf rfl rfl rfl fun a hf=>sp 1 hf rfl fun a hf=>aS ⟨hf.kp rfl,hc⟩
   ·rw [hb] at hf
    refine zP hf rfl (pFA vT rfl) fun a hf=>zL hf hc aY m0 rfl fun a w hf hc=>sp 3 hf rfl fun a hf=>aS ⟨hf.kp rfl,hc⟩
  intro a w ⟨hf,hc⟩
  refine zT h ?_
  refine zI hf rfl hF ?_ ?_ <;> clear hF <;> intro hF
  ·refine eB ?_
   refine zP hf rfl (pFA kW rfl) fun a hf=>zL hf hc sE m2 rfl fun a w hf hc=>sp 1 hf rfl fun a hf=>?_
   obtain ⟨bn,c3,hF⟩:=aA hF
   obtain ⟨dk,dm⟩:=iF hc m3 c3
   refine zP hf rfl (pIA Tryz.underlying23 rA rfl rfl dk) fun a hf=>zP hf rfl (pFA sH rfl) fun a hf=>zE hf hc rfl (cN aY rfl (iC (sz:=5) (i:=ac.toNat) (j:=3) m3 dm rfl)) fun a w hf hc=>sp 2 hf rfl fun a hf=>?_
   obtain ⟨ad,b1,hF⟩:=aA hF
   obtain ⟨c9,g2⟩:=iF hc m3 b1
   refine zP hf rfl (pIA Tryz.underlying23 rA rfl rfl c9) fun a hf=>zP hf rfl (pFA sH rfl) fun a hf=>aCs (sz:=5) (vs:=[i6 (W (bn.Rise + ((W (U)).tmod 80)))]) (o':=3) (z:=(⟨ad.From,ad.To,ad.Day,W (bn.Rise + ((W (U)).tmod 80)),ad.Error⟩:aF)) (xs:=x) hf hc rfl rfl rfl rfl eQ rfl (fun x=>(gR x).1) (nA b1) (fun e' b8=>by cases (b8.symm.trans (jQ b1).2); rfl) rfl u3 fun w hc=>aS ?_
   replace hc:Ctx G (.box ay [i6 m.From,i6 m.To,i6 m.Day,i6 m.Rise,i6 m.Error] 32::.box y [.slice X R.length Y,i6 av.1,i6 av.2] 65::.box az [i6 Z.1.Marks,.slice (some ⟨g,0,none⟩) ((x.set ac.toNat (⟨ad.From,ad.To,ad.Day,W (bn.Rise + ((W (U)).tmod 80)),ad.Error⟩:aF)).length) ap] 25::.row (some ⟨g,0,none⟩) ap ((x.set ac.toNat (⟨ad.From,ad.To,ad.Day,W (bn.Rise + ((W (U)).tmod 80)),ad.Error⟩:aF)).map aM) 32 5::Lf) w:=by simp only [List.length_set] at hc ⊢; exact hc
   replace hf:=hf.castAt 55 (v':=.slice (some ⟨g,0,none⟩) ((x.set ac.toNat (⟨ad.From,ad.To,ad.Day,W (bn.Rise + ((W (U)).tmod 80)),ad.Error⟩:aF)).length) ap) rfl (congrArg (fun k=>Value.slice (some ⟨g,0,none⟩) k ap) (by simp))
   exact cc (x.set ac.toNat (⟨ad.From,ad.To,ad.Day,W (bn.Rise + ((W (U)).tmod 80)),ad.Error⟩:aF)) (some ⟨g,0,none⟩) ap _ _  (hf.kp rfl) hc hF
  ·refine wp_skip ?_
   exact cc x (some ⟨g,0,none⟩) ap _ _  (hf.kp rfl) hc hF
 ·refine wp_exit ?_
  refine bI ?_
  refine bI ?_
  have he:=sj hF
  rw [← he] at b4
  refine fZ ?_
  exact gx _ _ _ b4 ⟨bq,ap,hf.kp rfl,hc⟩

end Go.Nilo
