/-
 What functions of the Go text compute, as plain functions, and that they do, part 2 of 5. Conditions: what each theorem names.
-/
import Derived.Test.YtbkcdekgmilmcaaGreatTw1
import Derived.Test.YtbkcdekgmilmcaaGreatProg
set_option linter.unusedVariables false
set_option linter.unusedSimpArgs false
set_option maxRecDepth 100000
set_option maxHeartbeats 4000000
namespace Go.Nilo
open Go.Proofs


def fC (N:Nat) (w_:aF) (H:aR) (x:List Int) (xv:Int) (B:Int):Option (Rs ((List Int))) :=
 Option.bind (iV N w_ B H.Station) fun D=>
 cond (D.2 && (decide ((W (H.Lead + w_.River.Delay.Hi))≤D.1.Lo)))
 (Option.bind (room ((x++[B])).length) fun un=>
 some (.go (x++[B])))
 (some (.go x))
def bN (N:Nat) (w_:aF) (d:aC):Option ((List Int)) :=
 Option.bind (bE w_.River.Towns d.Town) fun H=>
 Option.bind (gW N w_.River d.Spring) fun r=>
 Option.bind (iD N r.1 (⟨w_.River.Down,w_.River.Travel,w_.River.Springs,w_.River.Towns,(⟨r.2.1,r.2.2⟩:aN),w_.River.Floods⟩:aH) (rY (fun (zz:(List Int)) (D:(Int × Int))=>fC N w_ H zz D.1 D.2)) (.go ([]:List Int))) fun x9=>
 rsK x9.1 (fun B=>Option.bind (okF (w_.found (d.Spring,d.Town)) B) fun I=>
 some B) (fun B=>none)
theorem iS {N:Nat} {G:aT} {Lf:List Ent} {w:World} (w_:aF) (d:aC) {b_:Nat} {V:Option Addr} {U:Nat} {M:Option Addr} {H:Nat} {B:Option Addr} {D:Nat} {R:Option Addr} {S:Nat} {O:Option Addr} {I:Nat} {mb:Nat} {bf:Hds} (aa:Rd G 1 V U (w_.River.Down.map aB)) (t:Rd G 2 M H (w_.River.Travel.map aI)) (s:Rd G 1 B D (w_.River.Springs.map aB)) (q:Rd G 3 R S (w_.River.Towns.map aG)) (y:RdT cH G 2 O I w_.River.Floods) (hc:Ctx G (.box b_ [.slice V w_.River.Down.length U,.slice M w_.River.Travel.length H,.slice B w_.River.Springs.length D,.slice R w_.River.Towns.length S,i6 w_.River.Delay.Lo,i6 w_.River.Delay.Hi,.slice O w_.River.Floods.length I,.map (some mb)] 102::bI mb aW w_.found 3 bf::Lf) w) {ak:(List Int)} (hF:bN N w_ d=some ak):Calls Tryz.prog 37 #[pq b_,.agg #[i6 d.Spring,i6 d.Town]] w (fun e w=>∃ (ar:Option Addr) (ap:Nat) (az:Hds),e=.returned (.slice ar ak.length ap)∧Ctx G (.row ar ap (ak.map aB) 3 1::.box b_ [.slice V w_.River.Down.length U,.slice M w_.River.Travel.length H,.slice B w_.River.Springs.length D,.slice R w_.River.Towns.length S,i6 w_.River.Delay.Lo,i6 w_.River.Delay.Hi,.slice O w_.River.Floods.length I,.map (some mb)] 102::aAw mb aW w_.found 3 az (d.Spring,d.Town) ar ap ak::Lf) w):=by
 unfold bN at hF
 refine aIf Tryz.func37 rfl Tryz.ntmps37 rfl fun a hf=>zS fun K h=>zB hf hc rfl fun j a w hf hc=>zB hf hc rfl fun i a w hf hc=>sp 1 hf rfl fun a hf=>zT h ?_
 refine wp_seq_k fun K2 h2=>wp_seq_k fun K3 h3=>?_
 rcases aM0 (d.Spring,d.Town) (hc.pick k3) with ⟨bd,hc⟩ | ⟨an,av,au,xq,a3,hc⟩
 ·replace hc:Ctx G (aLg mb aW w_.found 3 bd (d.Spring,d.Town)::.box i [i6 d.Spring,i6 d.Town] 62::.box j [pq b_] 71::.box b_ [.slice V w_.River.Down.length U,.slice M w_.River.Travel.length H,.slice B w_.River.Springs.length D,.slice R w_.River.Towns.length S,i6 w_.River.Delay.Lo,i6 w_.River.Delay.Hi,.slice O w_.River.Floods.length I,.map (some mb)] 102::Lf) w:=hc
  refine cQ hc bA (by kernel_rfl) ?_
  refine qE hf rfl rfl rfl (eP vB rfl (iA m2 rfl)) fun a hf=>qE hf rfl rfl rfl (Pu.ev (pNC rfl)) fun a hf=>qE hf rfl rfl rfl (Pu.ev (pFA aEd rfl)) fun a hf=>qE hf rfl rfl rfl (eP aIy rfl (iA m3 rfl)) fun a hf=>qE hf rfl rfl rfl (lK (vs:=[i6 d.Spring,i6 d.Town]) jE rfl rfl (dN (n:=2) m1 rfl)) fun a hf=>qE hf rfl rfl rfl (aOl m0 Tryz.underlying100 aNv aJw rfl rfl) fun a hf=>qE hf rfl rfl rfl (Pu.ev (pM rfl)) fun a hf=>qE hf rfl rfl rfl (Pu.ev (pX rfl rfl)) fun a hf=>qE hf rfl rfl rfl (Pu.ev (pX rfl rfl)) fun a hf=>qE hf rfl rfl rfl (Pu.ev (pA rfl)) fun a hf=>qE hf rfl rfl rfl (Pu.ev (pA rfl)) fun a hf=>?_
  intro w hc
  obtain ⟨k,hc⟩:=aQz (hc.pick k0)
  replace hc:Ctx G (bI mb aW w_.found 3 k::.box i [i6 d.Spring,i6 d.Town] 62::.box j [pq b_] 71::.box b_ [.slice V w_.River.Down.length U,.slice M w_.River.Travel.length H,.slice B w_.River.Springs.length D,.slice R w_.River.Towns.length S,i6 w_.River.Delay.Lo,i6 w_.River.Delay.Hi,.slice O w_.River.Floods.length I,.map (some mb)] 102::Lf) w:=hc
  refine h3 _ _ ?_
  refine zS fun K h=>sp 1 hf rfl fun a hf=>zT h ?_
  refine aJm hf rfl ?_
  refine wp_skip ?_
  refine h2 _ _ ?_
  refine zS fun K h=>zA hf hc aJw rfl fun m a w hf hc=>zT h ?_
  refine wp_seq_k fun K6 h6=>?_
  obtain ⟨X,a6,hF⟩:=aA hF
  obtain ⟨bk,o,qa,qp⟩:=q.atm a6
  replace hc:=hc.nilRow 0 0
  refine eL (fun θ=>[⟨none,none,2,pq j⟩,⟨none,none,3,pq i⟩,⟨none,none,7,pq m⟩,⟨some 0,none,24,pq b_⟩,⟨some 1,none,25,pq b_⟩,⟨some 2,none,26,pq b_⟩,⟨some 3,none,27,.pointer (some ⟨b_,3,none⟩)⟩,⟨some 4,none,28,.slice R w_.River.Towns.length S⟩,⟨some 5,none,29,.pointer (some ⟨i,1,none⟩)⟩,⟨some 6,none,30,i6 d.Town⟩,⟨some 7,none,31,.pointer (some ⟨bk,o,none⟩)⟩,⟨some 8,none,32,.agg #[i6 X.Station,i6 X.Lead,i6 X.Alarm]⟩,⟨some 9,none,8,.pointer (some ⟨(θ 72).b,0,none⟩)⟩]) (fun E θ=>(bif E 10 then .box (θ 72).b [i6 X.Station,i6 X.Lead,i6 X.Alarm] 65 else bif E 9 then .box (θ 72).b [i6 0,i6 0,i6 0] 65 else .row none 0 [] 0 0)::.box m [.slice none 0 0] 23::bI mb aW w_.found 3 k::.box i [i6 d.Spring,i6 d.Town] 62::.box j [pq b_] 71::.box b_ [.slice V w_.River.Down.length U,.slice M w_.River.Travel.length H,.slice B w_.River.Springs.length D,.slice R w_.River.Towns.length S,i6 w_.River.Delay.Lo,i6 w_.River.Delay.Hi,.slice O w_.River.Floods.length I,.map (some mb)] 102::Lf) [(10,9)] (fun a w=>∃ (p:Nat),Has 76 a [(2,pq j),(3,pq i),(7,pq m),(8,pq p)]∧Ctx G (.box p [i6 X.Station,i6 X.Lead,i6 X.Alarm] 65::.box m [.slice none 0 0] 23::bI mb aW w_.found 3 k::.box i [i6 d.Spring,i6 d.Town] 62::.box j [pq b_] 71::.box b_ [.slice V w_.River.Down.length U,.slice M w_.River.Travel.length H,.slice B w_.River.Springs.length D,.slice R w_.River.Towns.length S,i6 w_.River.Delay.Lo,i6 w_.River.Delay.Hi,.slice O w_.River.Floods.length I,.map (some mb)] 102::Lf) w) bA (by kernel_rfl) (by kernel_rfl) (fN.of hf ⟨rfl,rfl,rfl,trivial,trivial,trivial,trivial,trivial,trivial,trivial,trivial,trivial,trivial,trivial⟩) hc ⟨?_,?_,?_,?_,?_,?_,?_,?_,?_,?_,?_,trivial⟩ ?_ ?_
  ·intro E θ a w hD hi hp he hc
   have hf:=he.h0.mT he 0 rfl
   refine zL hf hc vB m4 rfl fun a w hf hc=>zD θ he hi hf 3 rfl rfl rfl hc
  ·intro E θ a w hD hi hp he hc
   have e0:=hp.o 0 rfl
   have hf:=he.h0.mP he 3 rfl e0
   refine sp 1 hf rfl fun a hf=>zD θ he hi hf 4 rfl rfl rfl hc
  ·intro E θ a w hD hi hp he hc
   have e1:=hp.o 1 rfl
   have hf:=he.h0.mP he 4 rfl e1
   refine zP hf rfl (pFA sQ rfl) fun a hf=>zD θ he hi hf 5 rfl rfl rfl hc
  ·intro E θ a w hD hi hp he hc
   have e2:=hp.o 2 rfl
   have hf:=he.h0.mP he 5 rfl e2
   refine zP hf rfl (pFA qY rfl) fun a hf=>zD θ he hi hf 6 rfl rfl rfl hc
  ·intro E θ a w hD hi hp he hc
   have e3:=hp.o 3 rfl
   have hf:=he.h0.mP he 6 rfl e3
   refine zL hf hc aBx m5 rfl fun a w hf hc=>zD θ he hi hf 7 rfl rfl rfl hc
  ·intro E θ a w hD hi hp he hc
   have hf:=he.h0.mT he 1 rfl
   refine zP hf rfl (pFA aB7 rfl) fun a hf=>zD θ he hi hf 8 rfl rfl rfl hc
  ·intro E θ a w hD hi hp he hc
   have e5:=hp.o 5 rfl
   have hf:=he.h0.mP he 8 rfl e5
   refine zL hf hc cR m3 rfl fun a w hf hc=>zD θ he hi hf 9 rfl rfl rfl hc
  ·intro E θ a w hD hi hp he hc
   have e4:=hp.o 4 rfl
   have e6:=hp.o 6 rfl
   have hf:=(he.h0.mP he 7 rfl e4).mP he 9 rfl e6
   refine zP hf rfl (pIA Tryz.underlying25 aC5 rfl rfl qa) fun a hf=>zD θ he hi hf 10 rfl rfl rfl hc
  ·intro E θ a w hD hi hp he hc
   have e7:=hp.o 7 rfl
   have hf:=he.h0.mP he 10 rfl e7
   refine zE hf hc rfl (lK (vs:=[i6 X.Station,i6 X.Lead,i6 X.Alarm]) aF9 rfl rfl (kH qp (n:=3) (o':=0) rfl)) fun a w hf hc=>zD θ he hi hf 11 rfl rfl rfl hc
  ·intro E θ a w hD hi hp he hc
   have aj:=hD.f 0 rfl hi
   try dsimp only at hc
   rw [hi,aj] at hc
   have hf:=he.h0
   refine zA hf hc aO4 rfl fun bm a w hf hc=>aP ?_
   refine eJ ?_
   intro ds u am
   replace hc:=hc.drop k1
   refine ⟨(nF θ 72 ⟨bm,none,0,(fun _=>(none,0))⟩),he.put hi am hf rfl [] trivial ⟨qq,qq,qq,qq,qq,qq,qq,qq,qq,qq,qq,qq,qq,trivial⟩,?_⟩
   try dsimp only
   rw [aS E 9,aQ 9 aj rfl]
   exact hc
  ·intro E θ a w hD hi hp he hc
   have e8:=hp.o 8 rfl
   have e9:=hp.o 9 rfl
   try dsimp only at hc
   rw [e9,hi] at hc
   have hf:=(he.h0.mP he 11 rfl e8).mP he 12 rfl e9
   refine zW hf hc aC5 u0 rfl fun w hc=>zG θ he hi hf rfl ?_
   try dsimp only
   rw [eC 10 e9,aS E 10]
   exact hc
  ·intro E θ a w af he hc
   have hf:=he.h0
   have e9:=af 9 rfl
   have aj:=af 10 rfl
   replace hf:=hf.more he 12 rfl (onP e9)
   replace hf:=hf.more he 2 rfl (onT)
   replace hf:=hf.more he 1 rfl (onT)
   replace hf:=hf.more he 0 rfl (onT)
   try dsimp only at hc
   rw [e9,aj] at hc
   exact ⟨(θ 72).b,hf.kp rfl,hc⟩
  rintro a w ⟨p,hf,hc⟩
  refine h6 _ _ ?_
  refine wp_seq_k fun K7 h7=>wp_seq_k fun K8 h8=>?_
  obtain ⟨r,hr,hF⟩:=aA hF
  replace hc:=hc.nilRow 0 0
  replace hc:=hc.nilRow 0 0
  refine eL (fun θ=>[⟨none,none,2,pq j⟩,⟨none,none,3,pq i⟩,⟨none,none,7,pq m⟩,⟨none,none,8,pq p⟩,⟨some 0,none,33,pq b_⟩,⟨some 1,none,34,pq b_⟩,⟨some 2,none,35,pq b_⟩,⟨some 3,none,36,.agg #[.slice V w_.River.Down.length U,.slice M w_.River.Travel.length H,.slice B w_.River.Springs.length D,.slice R w_.River.Towns.length S,i6 w_.River.Delay.Lo,i6 w_.River.Delay.Hi,.slice O w_.River.Floods.length I]⟩,⟨some 4,none,37,pq i⟩,⟨some 5,none,38,i6 d.Spring⟩,⟨some 6,none,39,.func (.func 76) #[] #[.pointer (some ⟨(θ 48).b,0,none⟩),.pointer (some ⟨(θ 49).b,0,none⟩)]⟩]) (fun E θ=>(bif E 6 then .box (θ 49).b [.slice V w_.River.Down.length U,.slice M w_.River.Travel.length H,.slice B w_.River.Springs.length D,.slice R w_.River.Towns.length S,i6 r.2.1,i6 r.2.2,.slice O w_.River.Floods.length I] 30 else .row none 0 [] 0 0)::(bif E 6 then .box (θ 48).b [i6 r.1] 3 else .row none 0 [] 0 0)::.box p [i6 X.Station,i6 X.Lead,i6 X.Alarm] 65::.box m [.slice none 0 0] 23::bI mb aW w_.found 3 k::.box i [i6 d.Spring,i6 d.Town] 62::.box j [pq b_] 71::.box b_ [.slice V w_.River.Down.length U,.slice M w_.River.Travel.length H,.slice B w_.River.Springs.length D,.slice R w_.River.Towns.length S,i6 w_.River.Delay.Lo,i6 w_.River.Delay.Hi,.slice O w_.River.Floods.length I,.map (some mb)] 102::Lf) [] (fun a w=>∃ (ad:Nat) (ab:Nat),Has 76 a [(2,pq j),(3,pq i),(7,pq m),(8,pq p),(39,.func (.func 76) #[] #[pq ad,pq ab])]∧Ctx G (.box ab [.slice V w_.River.Down.length U,.slice M w_.River.Travel.length H,.slice B w_.River.Springs.length D,.slice R w_.River.Towns.length S,i6 r.2.1,i6 r.2.2,.slice O w_.River.Floods.length I] 30::.box ad [i6 r.1] 3::.box p [i6 X.Station,i6 X.Lead,i6 X.Alarm] 65::.box m [.slice none 0 0] 23::bI mb aW w_.found 3 k::.box i [i6 d.Spring,i6 d.Town] 62::.box j [pq b_] 71::.box b_ [.slice V w_.River.Down.length U,.slice M w_.River.Travel.length H,.slice B w_.River.Springs.length D,.slice R w_.River.Towns.length S,i6 w_.River.Delay.Lo,i6 w_.River.Delay.Hi,.slice O w_.River.Floods.length I,.map (some mb)] 102::Lf) w) bA (by kernel_rfl) (by kernel_rfl) (fN.of hf ⟨rfl,rfl,rfl,rfl,trivial,trivial,trivial,trivial,trivial,trivial,trivial,trivial⟩) hc ⟨?_,?_,?_,?_,?_,?_,?_,trivial⟩ ?_ ?_
  ·intro E θ a w hD hi hp he hc
   have hf:=he.h0.mT he 0 rfl
   refine zL hf hc vB m6 rfl fun a w hf hc=>zD θ he hi hf 4 rfl rfl rfl hc
  ·intro E θ a w hD hi hp he hc
   have e0:=hp.o 0 rfl
   have hf:=he.h0.mP he 4 rfl e0
   refine sp 1 hf rfl fun a hf=>zD θ he hi hf 5 rfl rfl rfl hc
  ·intro E θ a w hD hi hp he hc
   have e1:=hp.o 1 rfl
   have hf:=he.h0.mP he 5 rfl e1
   refine zP hf rfl (pFA sQ rfl) fun a hf=>zD θ he hi hf 6 rfl rfl rfl hc
  ·intro E θ a w hD hi hp he hc
   have e2:=hp.o 2 rfl
   have hf:=he.h0.mP he 6 rfl e2
   refine zN hf hc oK m7 rfl fun a w hf hc=>zD θ he hi hf 7 rfl rfl rfl hc
  ·intro E θ a w hD hi hp he hc
   have hf:=he.h0.mT he 1 rfl
   refine zP hf rfl (pFA aO1 rfl) fun a hf=>zD θ he hi hf 8 rfl rfl rfl hc
  ·intro E θ a w hD hi hp he hc
   have e4:=hp.o 4 rfl
   have hf:=he.h0.mP he 8 rfl e4
   refine zL hf hc cR m5 rfl fun a w hf hc=>zD θ he hi hf 9 rfl rfl rfl hc
  ·intro E θ a w hD hi hp he hc
   have e3:=hp.o 3 rfl
   have e5:=hp.o 5 rfl
   try dsimp only at hc
   rw [hi] at hc
   have hf:=(he.h0.mP he 7 rfl e3).mP he 9 rfl e5
   refine zC hf aKe rfl (nY w_.River d.Spring aa t s q y hc hr) ?_
   rintro _ w ⟨bi,bc,rfl,hc⟩
   refine ⟨_,rfl,fun a hf=>?_⟩
   refine aP ?_
   refine eJ ?_
   intro ds u am
   replace hc:=(((hc.drop k3).drop k2).pick k0).pick k1
   refine ⟨(nF (nF θ 48 ⟨bi,none,0,(fun _=>(none,0))⟩) 49 ⟨bc,none,0,(fun _=>(none,0))⟩),he.put hi am hf rfl [] trivial ⟨qq,qq,qq,qq,qq,qq,qq,qq,qq,qq,qq,trivial⟩,?_⟩
   try dsimp only
   rw [aS E 6]
   exact hc
  ·intro E θ a w af he hc
   have hf:=he.h0
   have e6:=af 6 rfl
   replace hf:=hf.more he 10 rfl (onP e6)
   replace hf:=hf.more he 3 rfl (onT)
   replace hf:=hf.more he 2 rfl (onT)
   replace hf:=hf.more he 1 rfl (onT)
   replace hf:=hf.more he 0 rfl (onT)
   try dsimp only at hc
   rw [e6] at hc
   exact ⟨(θ 48).b,(θ 49).b,hf.kp rfl,hc⟩
  rintro a w ⟨ad,ab,hf,hc⟩
  refine h8 _ _ ?_
  obtain ⟨x9,bp,hF⟩:=aA hF
  replace hc:=hc.nilRow 3 1
  replace hc:=((hc.pick k0).pick k1).pick k2
  refine aEw (C:=[.box ad [i6 r.1] 3,.box ab [.slice V w_.River.Down.length U,.slice M w_.River.Travel.length H,.slice B w_.River.Springs.length D,.slice R w_.River.Towns.length S,i6 r.2.1,i6 r.2.2,.slice O w_.River.Floods.length I] 30]) (C2:=[.box ad [i6 x9.2] 3,.box ab [.slice V w_.River.Down.length U,.slice M w_.River.Travel.length H,.slice B w_.River.Springs.length D,.slice R w_.River.Towns.length S,i6 r.2.1,i6 r.2.2,.slice O w_.River.Floods.length I] 30]) (L0:=[.row none 0 ((([]:List Int)).map aB) 3 1,.box p [i6 X.Station,i6 X.Lead,i6 X.Alarm] 65,.box m [.slice none (([]:List Int)).length 0] 23,bI mb aW w_.found 3 k,.box i [i6 d.Spring,i6 d.Town] 62,.box j [pq b_] 71,.box b_ [.slice V w_.River.Down.length U,.slice M w_.River.Travel.length H,.slice B w_.River.Springs.length D,.slice R w_.River.Towns.length S,i6 w_.River.Delay.Lo,i6 w_.River.Delay.Hi,.slice O w_.River.Floods.length I,.map (some mb)] 102]) (Lf:=Lf) (encs:=fun x:(Int × Int)=>[i6 x.1,i6 x.2]) (fun (zz:(List Int)) L=>∃ (Z:Option Addr) (g:Nat),L=[.row Z g (zz.map aB) 3 1,.box p [i6 X.Station,i6 X.Lead,i6 X.Alarm] 65,.box m [.slice Z zz.length g] 23,bI mb aW w_.found 3 k,.box i [i6 d.Spring,i6 d.Town] 62,.box j [pq b_] 71,.box b_ [.slice V w_.River.Down.length U,.slice M w_.River.Travel.length H,.slice B w_.River.Springs.length D,.slice R w_.River.Towns.length S,i6 w_.River.Delay.Lo,i6 w_.River.Delay.Hi,.slice O w_.River.Floods.length I,.map (some mb)] 102]) (fun (zz:(List Int)) (a4:(Int × Int))=>fC N w_ X zz a4.1 a4.2) ([]:List Int) x9.1 hf hc rfl aKs (fun _=>rfl) rfl ⟨none,0,rfl⟩ ?_ ?_ ?_ ?_
  ·intro lq mq J L Lx w hy hJ hc
   exact mJ r.1 (⟨w_.River.Down,w_.River.Travel,w_.River.Springs,w_.River.Towns,(⟨r.2.1,r.2.2⟩:aN),w_.River.Floods⟩:aH) aa t s q y J _ hy _ hJ hc bp
  ·clear hF hf hc
   rintro lq mq x ⟨xv,ac⟩ oq _ Lr Lb a w bs ⟨Z,g,rfl⟩ hF hf hc hK
   replace hf:Has 76 a [(2,pq j),(3,pq i),(7,pq m),(8,pq p),(40,i6 xv),(41,i6 ac)]:=hf.kp rfl
   replace hc:Ctx G (.row Z g (x.map aB) 3 1::.box p [i6 X.Station,i6 X.Lead,i6 X.Alarm] 65::.box m [.slice Z x.length g] 23::bI mb aW w_.found 3 k::.box i [i6 d.Spring,i6 d.Town] 62::.box j [pq b_] 71::.box b_ [.slice V w_.River.Down.length U,.slice M w_.River.Travel.length H,.slice B w_.River.Springs.length D,.slice R w_.River.Towns.length S,i6 w_.River.Delay.Lo,i6 w_.River.Delay.Hi,.slice O w_.River.Floods.length I,.map (some mb)] 102::Lr) w:=hc
   replace hF:fC N w_ X x xv ac=some oq:=hF
   unfold fC at hF
   refine vN (fun _ _ h=>h) rfl ?_
   refine sp 1 hf rfl fun a hf=>aP ?_
   refine hK _ _ [.row Z g (x.map aB) 3 1,.box p [i6 X.Station,i6 X.Lead,i6 X.Alarm] 65,.box m [.slice Z x.length g] 23,bI mb aW w_.found 3 k,.box i [i6 d.Spring,i6 d.Town] 62,.box j [pq b_] 71,.box b_ [.slice V w_.River.Down.length U,.slice M w_.River.Travel.length H,.slice B w_.River.Springs.length D,.slice R w_.River.Towns.length S,i6 w_.River.Delay.Lo,i6 w_.River.Delay.Hi,.slice O w_.River.Floods.length I,.map (some mb)] 102] hc fun w hc=>?_
   replace hc:Ctx G (.row Z g (x.map aB) 3 1::.box p [i6 X.Station,i6 X.Lead,i6 X.Alarm] 65::.box m [.slice Z x.length g] 23::bI mb aW w_.found 3 k::.box i [i6 d.Spring,i6 d.Town] 62::.box j [pq b_] 71::.box b_ [.slice V w_.River.Down.length U,.slice M w_.River.Travel.length H,.slice B w_.River.Springs.length D,.slice R w_.River.Towns.length S,i6 w_.River.Delay.Lo,i6 w_.River.Delay.Hi,.slice O w_.River.Floods.length I,.map (some mb)] 102::Lb) w:=hc
   refine aE8 fun K10 a2=>aA8 ?_
   refine uR fun K11 ba=>vN (fun _ _ h=>h) rfl ?_
   refine zL hf hc vB m5 rfl fun a w hf hc=>sp 1 hf rfl fun a hf=>zP hf rfl (pFA aHa rfl) fun a hf=>zL hf hc cR m1 rfl fun a w hf hc=>?_
   obtain ⟨Y,a7,hF⟩:=aA hF
   refine zQ (v:=.tuple #[.agg #[i6 Y.1.Lo,i6 Y.1.Hi],.bool Y.2]) hf hc aP5 rfl (fun w hc=>(qP w_ ac X.Station aa t s q y ((hc.pick k3).pick k6) a7).mono fun e w h=>⟨h.1,((h.2.unpick k6).unpick k3)⟩) fun a w hf hc=>sp 3 hf rfl fun a hf=>zA hf hc aFy rfl fun ai a w hf hc=>zW hf hc aAq u0 rfl fun w hc=>sp 1 hf rfl fun a hf=>aP ?_
   refine ba _ _ ?_
   refine uR fun K12 bn=>aH0 (fun _ _ h=>h) rfl (fun θ=>[⟨none,none,2,pq j⟩,⟨none,none,3,pq i⟩,⟨none,none,7,pq m⟩,⟨none,none,8,pq p⟩,⟨none,none,10,i6 ac⟩,⟨none,none,11,pq ai⟩,⟨none,none,12,.bool Y.2⟩,⟨some 0,none,50,.bool Y.2⟩,⟨some 1,none,51,.bool Y.2⟩,⟨some 2,none,52,(bif Y.2 then pq ai else undef)⟩,⟨some 3,none,53,(bif Y.2 then i6 Y.1.Lo else undef)⟩,⟨some 4,none,54,(bif Y.2 then .pointer (some ⟨p,1,none⟩) else undef)⟩,⟨some 5,none,55,(bif Y.2 then i6 X.Lead else undef)⟩,⟨some 6,none,56,(bif Y.2 then pq b_ else undef)⟩,⟨some 7,none,57,(bif Y.2 then pq b_ else undef)⟩,⟨some 8,none,58,(bif Y.2 then pq b_ else undef)⟩,⟨some 9,none,59,(bif Y.2 then .pointer (some ⟨b_,4,none⟩) else undef)⟩,⟨some 10,none,60,(bif Y.2 then .pointer (some ⟨b_,5,none⟩) else undef)⟩,⟨some 11,none,61,(bif Y.2 then i6 w_.River.Delay.Hi else undef)⟩,⟨some 12,none,62,(bif Y.2 then i6 (W (X.Lead + w_.River.Delay.Hi)) else undef)⟩,⟨some 13,none,63,(bif Y.2 then .bool (decide ((W (X.Lead + w_.River.Delay.Hi))≤Y.1.Lo)) else undef)⟩,⟨some 14,none,64,.bool (Y.2 && (decide ((W (X.Lead + w_.River.Delay.Hi))≤Y.1.Lo)))⟩]) (fun E θ=>.box ai [i6 Y.1.Lo,i6 Y.1.Hi] 27::.row Z g (x.map aB) 3 1::.box p [i6 X.Station,i6 X.Lead,i6 X.Alarm] 65::.box m [.slice Z x.length g] 23::bI mb aW w_.found 3 k::.box i [i6 d.Spring,i6 d.Town] 62::.box j [pq b_] 71::.box b_ [.slice V w_.River.Down.length U,.slice M w_.River.Travel.length H,.slice B w_.River.Springs.length D,.slice R w_.River.Towns.length S,i6 w_.River.Delay.Lo,i6 w_.River.Delay.Hi,.slice O w_.River.Floods.length I,.map (some mb)] 102::Lb) [] (fun a w=>Has 76 a [(2,pq j),(3,pq i),(7,pq m),(8,pq p),(10,i6 ac),(64,.bool (Y.2 && (decide ((W (X.Lead + w_.River.Delay.Hi))≤Y.1.Lo))))]∧Ctx G (.box ai [i6 Y.1.Lo,i6 Y.1.Hi] 27::.row Z g (x.map aB) 3 1::.box p [i6 X.Station,i6 X.Lead,i6 X.Alarm] 65::.box m [.slice Z x.length g] 23::bI mb aW w_.found 3 k::.box i [i6 d.Spring,i6 d.Town] 62::.box j [pq b_] 71::.box b_ [.slice V w_.River.Down.length U,.slice M w_.River.Travel.length H,.slice B w_.River.Springs.length D,.slice R w_.River.Towns.length S,i6 w_.River.Delay.Lo,i6 w_.River.Delay.Hi,.slice O w_.River.Floods.length I,.map (some mb)] 102::Lb) w) bA (by kernel_rfl) (by kernel_rfl) (fN.of hf ⟨rfl,rfl,rfl,rfl,rfl,rfl,rfl,trivial,trivial,trivial,trivial,trivial,trivial,trivial,trivial,trivial,trivial,trivial,trivial,trivial,trivial,trivial,trivial⟩) hc ⟨?_,?_,?_,?_,?_,?_,?_,?_,?_,?_,?_,?_,?_,?_,?_,trivial⟩ ?_ ?_
   ·intro E θ a w hD hi hp he hc
    have hf:=he.h0.mT he 6 rfl
    refine sp 1 hf rfl fun a hf=>zD θ he hi hf 7 rfl rfl rfl hc
   ·intro E θ a w hD hi hp he hc
    have e0:=hp.o 0 rfl
    have hf:=he.h0.mP he 7 rfl e0
    refine sp 1 hf rfl fun a hf=>zD θ he hi hf 8 rfl rfl rfl hc
   ·intro E θ a w hD hi hp he hc
    have e1:=hp.o 1 rfl
    rcases iC Y.2 with hb | hb
    ·have hf:=(he.h0.mT he 5 rfl).mP he 8 rfl e1
     replace hf:=eI hb hf
     refine zP hf rfl (pFA zJ rfl) fun a hf=>?_
     replace hf:=mE (u:=undef) hb hf
     exact zD θ he hi hf 9 rfl rfl rfl hc
    ·have hf:=(he.h0.mT he 5 rfl).mP he 8 rfl e1
     replace hf:=eI hb hf
     refine stS hf rfl rfl rfl fun a hf=>?_
     replace hf:=mG (u:=pq ai) hb hf
     exact zD θ he hi hf 9 rfl rfl rfl hc
   ·intro E θ a w hD hi hp he hc
    have e1:=hp.o 1 rfl
    have e2:=hp.o 2 rfl
    rcases iC Y.2 with hb | hb
    ·have hf:=he.h0.mP he 8 rfl e1
     replace hf:=eI hb hf
     replace hf:=hf.more he 9 rfl (onP e2)
     replace hf:=jM hb hf
     refine zL hf hc cR m0 rfl fun a w hf hc=>?_
     replace hf:=mE (u:=undef) hb hf
     exact zD θ he hi hf 10 rfl rfl rfl hc
    ·have hf:=he.h0.mP he 8 rfl e1
     replace hf:=eI hb hf
     replace hf:=hf.more he 9 rfl (onP e2)
     replace hf:=jN hb hf
     refine stS hf rfl rfl rfl fun a hf=>?_
     replace hf:=mG (u:=i6 Y.1.Lo) hb hf
     exact zD θ he hi hf 10 rfl rfl rfl hc
   ·intro E θ a w hD hi hp he hc
    have e1:=hp.o 1 rfl
    rcases iC Y.2 with hb | hb
    ·have hf:=(he.h0.mT he 3 rfl).mP he 8 rfl e1
     replace hf:=eI hb hf
     refine zP hf rfl (pFA aJx rfl) fun a hf=>?_
     replace hf:=mE (u:=undef) hb hf
     exact zD θ he hi hf 11 rfl rfl rfl hc
    ·have hf:=(he.h0.mT he 3 rfl).mP he 8 rfl e1
     replace hf:=eI hb hf
     refine stS hf rfl rfl rfl fun a hf=>?_
     replace hf:=mG (u:=.pointer (some ⟨p,1,none⟩)) hb hf
     exact zD θ he hi hf 11 rfl rfl rfl hc
   ·intro E θ a w hD hi hp he hc
    have e1:=hp.o 1 rfl
    have e4:=hp.o 4 rfl
    rcases iC Y.2 with hb | hb
    ·have hf:=he.h0.mP he 8 rfl e1
     replace hf:=eI hb hf
     replace hf:=hf.more he 11 rfl (onP e4)
     replace hf:=jM hb hf
     refine zL hf hc cR m2 rfl fun a w hf hc=>?_
     replace hf:=mE (u:=undef) hb hf
     exact zD θ he hi hf 12 rfl rfl rfl hc
    ·have hf:=he.h0.mP he 8 rfl e1
     replace hf:=eI hb hf
     replace hf:=hf.more he 11 rfl (onP e4)
     replace hf:=jN hb hf
     refine stS hf rfl rfl rfl fun a hf=>?_
     replace hf:=mG (u:=i6 X.Lead) hb hf
     exact zD θ he hi hf 12 rfl rfl rfl hc
   ·intro E θ a w hD hi hp he hc
    have e1:=hp.o 1 rfl
    rcases iC Y.2 with hb | hb
    ·have hf:=(he.h0.mT he 0 rfl).mP he 8 rfl e1
     replace hf:=eI hb hf
     refine zL hf hc vB m6 rfl fun a w hf hc=>?_
     replace hf:=mE (u:=undef) hb hf
     exact zD θ he hi hf 13 rfl rfl rfl hc
    ·have hf:=(he.h0.mT he 0 rfl).mP he 8 rfl e1
     replace hf:=eI hb hf
     refine stS hf rfl rfl rfl fun a hf=>?_
     replace hf:=mG (u:=pq b_) hb hf
     exact zD θ he hi hf 13 rfl rfl rfl hc
   ·intro E θ a w hD hi hp he hc
    have e1:=hp.o 1 rfl
    have e6:=hp.o 6 rfl
    rcases iC Y.2 with hb | hb
    ·have hf:=he.h0.mP he 8 rfl e1
     replace hf:=eI hb hf
     replace hf:=hf.more he 13 rfl (onP e6)
     replace hf:=jM hb hf
     refine sp 1 hf rfl fun a hf=>?_
     replace hf:=mE (u:=undef) hb hf
     exact zD θ he hi hf 14 rfl rfl rfl hc
    ·have hf:=he.h0.mP he 8 rfl e1
     replace hf:=eI hb hf
     replace hf:=hf.more he 13 rfl (onP e6)
     replace hf:=jN hb hf
     refine stS hf rfl rfl rfl fun a hf=>?_
     replace hf:=mG (u:=pq b_) hb hf
     exact zD θ he hi hf 14 rfl rfl rfl hc
   ·intro E θ a w hD hi hp he hc
    have e1:=hp.o 1 rfl
    have e7:=hp.o 7 rfl
    rcases iC Y.2 with hb | hb
    ·have hf:=he.h0.mP he 8 rfl e1
     replace hf:=eI hb hf
     replace hf:=hf.more he 14 rfl (onP e7)
     replace hf:=jM hb hf
     refine zP hf rfl (pFA sQ rfl) fun a hf=>?_
     replace hf:=mE (u:=undef) hb hf
     exact zD θ he hi hf 15 rfl rfl rfl hc
    ·have hf:=he.h0.mP he 8 rfl e1
     replace hf:=eI hb hf
     replace hf:=hf.more he 14 rfl (onP e7)
     replace hf:=jN hb hf
     refine stS hf rfl rfl rfl fun a hf=>?_
     replace hf:=mG (u:=pq b_) hb hf
     exact zD θ he hi hf 15 rfl rfl rfl hc
   ·intro E θ a w hD hi hp he hc
    have e1:=hp.o 1 rfl
    have e8:=hp.o 8 rfl
    rcases iC Y.2 with hb | hb
    ·have hf:=he.h0.mP he 8 rfl e1
     replace hf:=eI hb hf
     replace hf:=hf.more he 15 rfl (onP e8)
     replace hf:=jM hb hf
     refine zP hf rfl (pFA aB0 rfl) fun a hf=>?_
     replace hf:=mE (u:=undef) hb hf
     exact zD θ he hi hf 16 rfl rfl rfl hc
    ·have hf:=he.h0.mP he 8 rfl e1
     replace hf:=eI hb hf
     replace hf:=hf.more he 15 rfl (onP e8)
     replace hf:=jN hb hf
     refine stS hf rfl rfl rfl fun a hf=>?_
     replace hf:=mG (u:=.pointer (some ⟨b_,4,none⟩)) hb hf
     exact zD θ he hi hf 16 rfl rfl rfl hc
   ·intro E θ a w hD hi hp he hc
    have e1:=hp.o 1 rfl
    have e9:=hp.o 9 rfl
    rcases iC Y.2 with hb | hb
    ·have hf:=he.h0.mP he 8 rfl e1
     replace hf:=eI hb hf
     replace hf:=hf.more he 16 rfl (onP e9)
     replace hf:=jM hb hf
     refine zP hf rfl (pFA zR rfl) fun a hf=>?_
     replace hf:=mE (u:=undef) hb hf
     exact zD θ he hi hf 17 rfl rfl rfl hc
    ·have hf:=he.h0.mP he 8 rfl e1
     replace hf:=eI hb hf
     replace hf:=hf.more he 16 rfl (onP e9)
     replace hf:=jN hb hf
     refine stS hf rfl rfl rfl fun a hf=>?_
     replace hf:=mG (u:=.pointer (some ⟨b_,5,none⟩)) hb hf
     exact zD θ he hi hf 17 rfl rfl rfl hc
   ·intro E θ a w hD hi hp he hc
    have e1:=hp.o 1 rfl
    have aj:=hp.o 10 rfl
    rcases iC Y.2 with hb | hb
    ·have hf:=he.h0.mP he 8 rfl e1
     replace hf:=eI hb hf
     replace hf:=hf.more he 17 rfl (onP aj)
     replace hf:=jM hb hf
     refine zL hf hc cR m7 rfl fun a w hf hc=>?_
     replace hf:=mE (u:=undef) hb hf
     exact zD θ he hi hf 18 rfl rfl rfl hc
    ·have hf:=he.h0.mP he 8 rfl e1
     replace hf:=eI hb hf
     replace hf:=hf.more he 17 rfl (onP aj)
     replace hf:=jN hb hf
     refine stS hf rfl rfl rfl fun a hf=>?_
     replace hf:=mG (u:=i6 w_.River.Delay.Hi) hb hf
     exact zD θ he hi hf 18 rfl rfl rfl hc
   ·intro E θ a w hD hi hp he hc
    have e1:=hp.o 1 rfl
    have e5:=hp.o 5 rfl
    have a5:=hp.o 11 rfl
    rcases iC Y.2 with hb | hb
    ·have hf:=he.h0.mP he 8 rfl e1
     replace hf:=eI hb hf
     replace hf:=hf.more he 12 rfl (onP e5)
     replace hf:=jM hb hf
     replace hf:=hf.more he 18 rfl (onP a5)
     replace hf:=jM hb hf
     refine sp 1 hf rfl fun a hf=>?_
     replace hf:=mE (u:=undef) hb hf
     exact zD θ he hi hf 19 rfl rfl rfl hc
    ·have hf:=he.h0.mP he 8 rfl e1
     replace hf:=eI hb hf
     replace hf:=hf.more he 12 rfl (onP e5)
     replace hf:=jN hb hf
     replace hf:=hf.more he 18 rfl (onP a5)
     replace hf:=jN hb hf
     refine stS hf rfl rfl rfl fun a hf=>?_
     replace hf:=mG (u:=i6 (W (X.Lead + w_.River.Delay.Hi))) hb hf
     exact zD θ he hi hf 19 rfl rfl rfl hc
   ·intro E θ a w hD hi hp he hc
    have e1:=hp.o 1 rfl
    have e3:=hp.o 3 rfl
    have a0:=hp.o 12 rfl
    rcases iC Y.2 with hb | hb
    ·have hf:=he.h0.mP he 8 rfl e1
     replace hf:=eI hb hf
     replace hf:=hf.more he 10 rfl (onP e3)
     replace hf:=jM hb hf
     replace hf:=hf.more he 19 rfl (onP a0)
     replace hf:=jM hb hf
     refine sp 1 hf rfl fun a hf=>?_
     replace hf:=mE (u:=undef) hb hf
     exact zD θ he hi hf 20 rfl rfl rfl hc
    ·have hf:=he.h0.mP he 8 rfl e1
     replace hf:=eI hb hf
     replace hf:=hf.more he 10 rfl (onP e3)
     replace hf:=jN hb hf
     replace hf:=hf.more he 19 rfl (onP a0)
     replace hf:=jN hb hf
     refine stS hf rfl rfl rfl fun a hf=>?_
     replace hf:=mG (u:=.bool (decide ((W (X.Lead + w_.River.Delay.Hi))≤Y.1.Lo))) hb hf
     exact zD θ he hi hf 20 rfl rfl rfl hc
   ·intro E θ a w hD hi hp he hc
    have e1:=hp.o 1 rfl
    have a1:=hp.o 13 rfl
    rcases iC Y.2 with hb | hb
    ·have hf:=he.h0.mP he 8 rfl e1
     replace hf:=eI hb hf
     replace hf:=hf.more he 20 rfl (onP a1)
     replace hf:=jM hb hf
     refine sp 1 hf rfl fun a hf=>?_
     replace hf:=aD8 (v':=.bool (Y.2 && (decide ((W (X.Lead + w_.River.Delay.Hi))≤Y.1.Lo)))) (congrArg Value.bool (andT hb)) hf
     exact zD θ he hi hf 21 rfl rfl rfl hc
    ·have hf:=he.h0.mP he 8 rfl e1
     replace hf:=eI hb hf
     replace hf:=hf.more he 20 rfl (onP a1)
     replace hf:=jN hb hf
     refine sp 1 hf rfl fun a hf=>?_
     replace hf:=aD8 (v':=.bool (Y.2 && (decide ((W (X.Lead + w_.River.Delay.Hi))≤Y.1.Lo)))) (congrArg Value.bool (andF hb)) hf
     exact zD θ he hi hf 21 rfl rfl rfl hc
   ·intro E θ a w af he hc
    have hf:=he.h0
    have bg:=af 14 rfl
    replace hf:=hf.more he 21 rfl (onP bg)
    replace hf:=hf.more he 4 rfl (onT)
    replace hf:=hf.more he 3 rfl (onT)
    replace hf:=hf.more he 2 rfl (onT)
    replace hf:=hf.more he 1 rfl (onT)
    replace hf:=hf.more he 0 rfl (onT)
    exact ⟨hf.kp rfl,hc⟩
   rintro a w ⟨hf,hc⟩
   refine bn _ _ ?_
   refine aFu (b:=(Y.2 && (decide ((W (X.Lead + w_.River.Delay.Hi))≤Y.1.Lo)))) hf rfl (fun hb=>?_) (fun hb=>?_)
   ·replace hF:=fP hb hF
    clear hb
    refine vN (fun _ _ h=>h) rfl ?_
    refine zL hf hc hY m3 rfl fun a w hf hc=>sp 1 hf rfl fun a hf=>oB (rows:=([ac]:List Int).map aB) (vs:=[(0,i6 ac)]) hf hc rfl rfl jA rfl ⟨rfl,rfl,rfl,trivial⟩ rfl rfl fun br a w hf hc=>?_
    obtain ⟨un,bb,hF⟩:=aA hF
    refine pC (xs:=x) (ys:=([ac]:List Int)) hf hc rfl rfl jA rfl rfl rfl rfl rfl bZ (kC hc m0) (fun _ _=>u2) (by simpa using fD bb) fun bq bj a w hf hc=>zW hf hc vI u4 rfl fun w hc=>aP ?_
    refine a2 _ _ ?_
    replace hc:=(hc.drop k1).drop k0
    exact ⟨(x++[ac]),_,(sj hF).symm,⟨bq,bj,rfl⟩,hc⟩
   ·replace hF:=kI hb hF
    clear hb
    refine aC6 ?_
    refine a2 _ _ ?_
    replace hc:=hc.drop k0
    exact ⟨x,_,(sj hF).symm,⟨Z,g,rfl⟩,hc⟩
  ·rintro D_1 x _ a w aq ⟨Z,g,rfl⟩ hf hc
   replace hf:Has ⟨76,tE (D_1::[])⟩ a [(2,pq j),(3,pq i),(7,pq m),(8,pq p)]:=hf.kp rfl
   replace hc:Ctx G (.box ad [i6 x9.2] 3::.box ab [.slice V w_.River.Down.length U,.slice M w_.River.Travel.length H,.slice B w_.River.Springs.length D,.slice R w_.River.Towns.length S,i6 r.2.1,i6 r.2.2,.slice O w_.River.Floods.length I] 30::.row Z g (x.map aB) 3 1::.box p [i6 X.Station,i6 X.Lead,i6 X.Alarm] 65::.box m [.slice Z x.length g] 23::bI mb aW w_.found 3 k::.box i [i6 d.Spring,i6 d.Town] 62::.box j [pq b_] 71::.box b_ [.slice V w_.River.Down.length U,.slice M w_.River.Travel.length H,.slice B w_.River.Springs.length D,.slice R w_.River.Towns.length S,i6 w_.River.Delay.Lo,i6 w_.River.Delay.Hi,.slice O w_.River.Floods.length I,.map (some mb)] 102::(aAc (D_1::[])++Lf)) w:=vJ (C:=[.box ad [i6 x9.2] 3,.box ab [.slice V w_.River.Down.length U,.slice M w_.River.Travel.length H,.slice B w_.River.Springs.length D,.slice R w_.River.Towns.length S,i6 r.2.1,i6 r.2.2,.slice O w_.River.Floods.length I] 30]) (L:=[.row Z g (x.map aB) 3 1,.box p [i6 X.Station,i6 X.Lead,i6 X.Alarm] 65,.box m [.slice Z x.length g] 23,bI mb aW w_.found 3 k,.box i [i6 d.Spring,i6 d.Town] 62,.box j [pq b_] 71,.box b_ [.slice V w_.River.Down.length U,.slice M w_.River.Travel.length H,.slice B w_.River.Springs.length D,.slice R w_.River.Towns.length S,i6 w_.River.Delay.Lo,i6 w_.River.Delay.Hi,.slice O w_.River.Floods.length I,.map (some mb)] 102]) hc
   replace hF:(Option.bind (okF (w_.found (d.Spring,d.Town)) x) fun a8=>some x)=some ak:=by rcases aq with h_ | h_ <;> (rw [h_] at hF; exact hF)
   refine h7 _ _ ?_
   refine wp_seq_k fun K13 a9=>?_
   obtain ⟨a8,ax,hF⟩:=aA hF
   refine eL (fun θ=>[⟨none,none,2,pq j⟩,⟨none,none,3,pq i⟩,⟨none,none,7,pq m⟩,⟨some 0,none,69,pq b_⟩,⟨some 1,none,70,pq b_⟩,⟨some 2,none,71,.pointer (some ⟨b_,7,none⟩)⟩,⟨some 3,none,72,.map (some mb)⟩,⟨some 4,none,73,.agg #[i6 d.Spring,i6 d.Town]⟩,⟨some 5,none,74,.slice Z x.length g⟩]) (fun E θ=>.box ad [i6 x9.2] 3::.box ab [.slice V w_.River.Down.length U,.slice M w_.River.Travel.length H,.slice B w_.River.Springs.length D,.slice R w_.River.Towns.length S,i6 r.2.1,i6 r.2.2,.slice O w_.River.Floods.length I] 30::.row Z g (x.map aB) 3 1::.box p [i6 X.Station,i6 X.Lead,i6 X.Alarm] 65::.box m [.slice Z x.length g] 23::(bif E 6 then aAw mb aW w_.found 3 ((θ 48).h) (d.Spring,d.Town) Z g x else bI mb aW w_.found 3 k)::.box i [i6 d.Spring,i6 d.Town] 62::.box j [pq b_] 71::.box b_ [.slice V w_.River.Down.length U,.slice M w_.River.Travel.length H,.slice B w_.River.Springs.length D,.slice R w_.River.Towns.length S,i6 w_.River.Delay.Lo,i6 w_.River.Delay.Hi,.slice O w_.River.Floods.length I,.map (some mb)] 102::(aAc (D_1::[])++Lf)) [] (fun a w=>∃ (ag:Hds),Has ⟨76,tE (D_1::[])⟩ a [(7,pq m)]∧Ctx G (.box ad [i6 x9.2] 3::.box ab [.slice V w_.River.Down.length U,.slice M w_.River.Travel.length H,.slice B w_.River.Springs.length D,.slice R w_.River.Towns.length S,i6 r.2.1,i6 r.2.2,.slice O w_.River.Floods.length I] 30::.row Z g (x.map aB) 3 1::.box p [i6 X.Station,i6 X.Lead,i6 X.Alarm] 65::.box m [.slice Z x.length g] 23::aAw mb aW w_.found 3 ag (d.Spring,d.Town) Z g x::.box i [i6 d.Spring,i6 d.Town] 62::.box j [pq b_] 71::.box b_ [.slice V w_.River.Down.length U,.slice M w_.River.Travel.length H,.slice B w_.River.Springs.length D,.slice R w_.River.Towns.length S,i6 w_.River.Delay.Lo,i6 w_.River.Delay.Hi,.slice O w_.River.Floods.length I,.map (some mb)] 102::(aAc (D_1::[])++Lf)) w) bA (by kernel_rfl) (by kernel_rfl) (fN.of hf ⟨rfl,rfl,rfl,trivial,trivial,trivial,trivial,trivial,trivial,trivial⟩) hc ⟨?_,?_,?_,?_,?_,?_,?_,trivial⟩ ?_ ?_
   ·intro E θ a w hD hi hp he hc
    have hf:=he.h0.mT he 0 rfl
    refine zL hf hc vB m7 rfl fun a w hf hc=>zD θ he hi hf 3 rfl rfl rfl hc
   ·intro E θ a w hD hi hp he hc
    have e0:=hp.o 0 rfl
    have hf:=he.h0.mP he 3 rfl e0
    refine sp 1 hf rfl fun a hf=>zD θ he hi hf 4 rfl rfl rfl hc
   ·intro E θ a w hD hi hp he hc
    have e1:=hp.o 1 rfl
    have hf:=he.h0.mP he 4 rfl e1
    refine zP hf rfl (pFA aEd rfl) fun a hf=>zD θ he hi hf 5 rfl rfl rfl hc
   ·intro E θ a w hD hi hp he hc
    have e2:=hp.o 2 rfl
    have hf:=he.h0.mP he 5 rfl e2
    refine zL hf hc aIy m8 rfl fun a w hf hc=>zD θ he hi hf 6 rfl rfl rfl hc
   ·intro E θ a w hD hi hp he hc
    have hf:=he.h0.mT he 1 rfl
    refine zN hf hc jE m6 rfl fun a w hf hc=>zD θ he hi hf 7 rfl rfl rfl hc
   ·intro E θ a w hD hi hp he hc
    have hf:=he.h0.mT he 2 rfl
    refine zL hf hc hY m4 rfl fun a w hf hc=>zD θ he hi hf 8 rfl rfl rfl hc
   ·intro E θ a w hD hi hp he hc
    have e3:=hp.o 3 rfl
    have e4:=hp.o 4 rfl
    have e5:=hp.o 5 rfl
    try dsimp only at hc
    rw [hi] at hc
    have hf:=((he.h0.mP he 6 rfl e3).mP he 7 rfl e4).mP he 8 rfl e5
    refine memUp hf hc rfl Tryz.underlying100 aNv rfl rfl rfl (aEt ax) (fun _=>u5) fun ay w hc=>aP ?_
    refine eJ ?_
    intro ds u am
    refine ⟨(nF θ 48 ⟨0,none,0,ay⟩),he.stay hi am hf ⟨qq,qq,qq,qq,qq,qq,qq,qq,qq,trivial⟩,?_⟩
    try dsimp only
    rw [aS E 6]
    exact hc
   ·intro E θ a w af he hc
    have hf:=he.h0
    have e6:=af 6 rfl
    replace hf:=hf.more he 2 rfl (onT)
    try dsimp only at hc
    rw [e6] at hc
    exact ⟨(θ 48).h,hf.kp rfl,hc⟩
   rintro a w ⟨ag,hf,hc⟩
   replace hc:=((((hc.drop k7).drop k6).drop k3).drop k1).drop k0
   refine a9 _ _ ?_
   refine zS fun K h=>zL hf hc hY m1 rfl fun a w hf hc=>sp 1 hf rfl fun a hf=>zT h ?_
   refine wp_ret ?_
   obtain rfl:=sj hF
   replace hc:=(((hc.drop k1).pick k1).pick k2).pick k2
   refine aA3 hf ?_
   refine aAr [.row Z g (x.map aB) 3 1,.box b_ [.slice V w_.River.Down.length U,.slice M w_.River.Travel.length H,.slice B w_.River.Springs.length D,.slice R w_.River.Towns.length S,i6 w_.River.Delay.Lo,i6 w_.River.Delay.Hi,.slice O w_.River.Floods.length I,.map (some mb)] 102,aAw mb aW w_.found 3 ag (d.Spring,d.Town) Z g x] (D_1::[]) hc fun w hc=>?_
   replace hc:Ctx G (.row Z g (x.map aB) 3 1::.box b_ [.slice V w_.River.Down.length U,.slice M w_.River.Travel.length H,.slice B w_.River.Springs.length D,.slice R w_.River.Towns.length S,i6 w_.River.Delay.Lo,i6 w_.River.Delay.Hi,.slice O w_.River.Floods.length I,.map (some mb)] 102::aAw mb aW w_.found 3 ag (d.Spring,d.Town) Z g x::Lf) w:=hc
   exact yY Tryz.results37 hf hc (show gR _ 4=_ from rfl) ⟨Z,g,ag,rfl,hc⟩
  ·rintro D_1 x _ a w aq ⟨Z,g,rfl⟩ hf hc
   replace hf:Has ⟨76,tE (D_1::[])⟩ a [(2,pq j),(3,pq i),(7,pq m),(8,pq p)]:=hf.kp rfl
   replace hc:Ctx G (.box ad [i6 x9.2] 3::.box ab [.slice V w_.River.Down.length U,.slice M w_.River.Travel.length H,.slice B w_.River.Springs.length D,.slice R w_.River.Towns.length S,i6 r.2.1,i6 r.2.2,.slice O w_.River.Floods.length I] 30::.row Z g (x.map aB) 3 1::.box p [i6 X.Station,i6 X.Lead,i6 X.Alarm] 65::.box m [.slice Z x.length g] 23::bI mb aW w_.found 3 k::.box i [i6 d.Spring,i6 d.Town] 62::.box j [pq b_] 71::.box b_ [.slice V w_.River.Down.length U,.slice M w_.River.Travel.length H,.slice B w_.River.Springs.length D,.slice R w_.River.Towns.length S,i6 w_.River.Delay.Lo,i6 w_.River.Delay.Hi,.slice O w_.River.Floods.length I,.map (some mb)] 102::(aAc (D_1::[])++Lf)) w:=vJ (C:=[.box ad [i6 x9.2] 3,.box ab [.slice V w_.River.Down.length U,.slice M w_.River.Travel.length H,.slice B w_.River.Springs.length D,.slice R w_.River.Towns.length S,i6 r.2.1,i6 r.2.2,.slice O w_.River.Floods.length I] 30]) (L:=[.row Z g (x.map aB) 3 1,.box p [i6 X.Station,i6 X.Lead,i6 X.Alarm] 65,.box m [.slice Z x.length g] 23,bI mb aW w_.found 3 k,.box i [i6 d.Spring,i6 d.Town] 62,.box j [pq b_] 71,.box b_ [.slice V w_.River.Down.length U,.slice M w_.River.Travel.length H,.slice B w_.River.Springs.length D,.slice R w_.River.Towns.length S,i6 w_.River.Delay.Lo,i6 w_.River.Delay.Hi,.slice O w_.River.Floods.length I,.map (some mb)] 102]) hc
   replace hF:(none)=some ak:=by rw [aq] at hF; exact hF
   cases hF
 ·replace hF:some xq=some ak:=by
   obtain ⟨_,_,hF⟩:=aA hF
   obtain ⟨_,_,hF⟩:=aA hF
   obtain ⟨xr,_,hF⟩:=aA hF
   revert hF
   cases xr.1 with
   | go z=>
    intro hF
    obtain ⟨_,hu,hF⟩:=aA hF
    obtain rfl:=sj hF
    rw [← a3,aEt hu]
   | brk z=>
    intro hF
    obtain ⟨_,hu,hF⟩:=aA hF
    obtain rfl:=sj hF
    rw [← a3,aEt hu]
   | ret z=>
    intro hF
    cases hF
  replace hc:Ctx G (aAw mb aW w_.found 3 an (d.Spring,d.Town) av au xq::.row av au (xq.map aB) 3 1::.box i [i6 d.Spring,i6 d.Town] 62::.box j [pq b_] 71::.box b_ [.slice V w_.River.Down.length U,.slice M w_.River.Travel.length H,.slice B w_.River.Springs.length D,.slice R w_.River.Towns.length S,i6 w_.River.Delay.Lo,i6 w_.River.Delay.Hi,.slice O w_.River.Floods.length I,.map (some mb)] 102::Lf) w:=hc
  refine cQ hc bA (by kernel_rfl) ?_
  refine qE hf rfl rfl rfl (eP vB rfl (iA m3 rfl)) fun a hf=>qE hf rfl rfl rfl (Pu.ev (pNC rfl)) fun a hf=>qE hf rfl rfl rfl (Pu.ev (pFA aEd rfl)) fun a hf=>qE hf rfl rfl rfl (eP aIy rfl (iA m4 rfl)) fun a hf=>qE hf rfl rfl rfl (lK (vs:=[i6 d.Spring,i6 d.Town]) jE rfl rfl (dN (n:=2) m2 rfl)) fun a hf=>qE hf rfl rfl rfl (aQ5 m0 Tryz.underlying100 aNv rfl rfl) fun a hf=>qE hf rfl rfl rfl (Pu.ev (pM rfl)) fun a hf=>qE hf rfl rfl rfl (Pu.ev (pX rfl rfl)) fun a hf=>qE hf rfl rfl rfl (Pu.ev (pX rfl rfl)) fun a hf=>qE hf rfl rfl rfl (Pu.ev (pA rfl)) fun a hf=>qE hf rfl rfl rfl (Pu.ev (pA rfl)) fun a hf=>?_
  intro w hc
  refine h3 _ _ ?_
  refine zS fun K h=>sp 1 hf rfl fun a hf=>zT h ?_
  refine aJn hf rfl ?_
  refine zS fun K h=>sp 2 hf rfl fun a hf=>zT h ?_
  refine wp_ret ?_
  refine aL ?_
  obtain rfl:=sj hF
  replace hc:=((((hc.drop k3).drop k2).pick k0).pick k2).pick k2
  refine aA3 hf ?_
  exact yY Tryz.results37 hf hc (show gR _ 4=_ from rfl) ⟨av,au,an,rfl,hc⟩

def lR (N:Nat) (s_:List Int):Option ((List Int)) :=
 Option.bind (room (s_).length) fun un=>
 some s_
theorem vP {N:Nat} {G:aT} {Lf:List Ent} {w:World} (s_:List Int) {D:Option Addr} {I:Nat} (H:Rd G 1 D I (s_.map aB)) (hc:Ctx G (Lf) w) {B:(List Int)} (hF:lR N s_=some B):Calls Tryz.prog 41 #[.slice D s_.length I] w (fun e w=>∃ (M:Option Addr) (J:Nat),e=.returned (.slice M B.length J)∧Ctx G (.row M J (B.map aB) 3 1::Lf) w):=by
 unfold lR at hF
 refine bL Tryz.func41 rfl Tryz.ntmps41 rfl fun a hf=>zS fun K h=>sp 1 hf rfl fun a hf=>zT h ?_
 refine wp_seq_k fun K2 h2=>zS fun K h=>sp 1 hf rfl fun a hf=>zP hf rfl (pEqN Tryz.underlying23 rfl rfl) fun a hf=>zT h ?_
 rcases aOr H with ⟨hp,hx⟩ | hp
 ·rw [hp] at hf
  replace hF:(some ([]:List Int))=some B:=by
   try rw [hx] at hF
   exact hF
  refine aJn hf rfl ?_
  refine zS fun K h=>sp 1 hf rfl fun a hf=>zT h ?_
  refine wp_ret ?_
  refine aL ?_
  obtain rfl:=sj hF
  replace hc:=hc.nilRow 3 1
  exact zO1 Tryz.results41 hf rfl ⟨none,0,rfl,hc⟩
 ·rw [hp] at hf
  refine aJm hf rfl ?_
  refine wp_skip ?_
  refine h2 _ _ ?_
  refine zS fun K h=>oB (rows:=([]:List Int).map aB) (vs:=[]) hf hc rfl rfl jA rfl trivial rfl rfl fun U a w hf hc=>sp 1 hf rfl fun a hf=>?_
  obtain ⟨un,O,hF⟩:=aA hF
  refine pC (xs:=([]:List Int)) (ys:=s_) hf hc rfl rfl jA rfl rfl rfl rfl rfl bZ (aGp hc H) (fun _ _=>u0) (by simpa using fD O) fun S R a w hf hc=>sp 1 hf rfl fun a hf=>zT h ?_
  refine wp_ret ?_
  obtain rfl:=sj hF
  exact zO1 Tryz.results41 hf rfl ⟨S,R,rfl,hc⟩

def pH (N:Nat) (r:aH) (d:aC):Option ((List Int) × Int) :=
 Option.bind (nR N r) (aAg (fun D=>cond (D != 0)
 (some (([]:List Int),D))
 (none))
 (fun B=>cond (B.2.2.2 != 0)
 (some (([]:List Int),B.2.2.2))
 (Option.bind (lY N (⟨(⟨r.Down,r.Travel,r.Springs,r.Towns,(⟨B.1,B.2.1⟩:aN),r.Floods⟩:aH),B.2.2.1⟩:aF) d) fun H=>
 cond (!H)
 (some (([]:List Int),2))
 (Option.bind (bN N (⟨(⟨r.Down,r.Travel,r.Springs,r.Towns,(⟨B.1,B.2.1⟩:aN),r.Floods⟩:aH),B.2.2.1⟩:aF) d) fun J=>
 Option.bind (lR N J) fun I=>
 some (I,0)))))
theorem aDq {N:Nat} {G:aT} {Lf:List Ent} {w:World} (r:aH) (d:aC) {Y:Option Addr} {Z:Nat} {S:Option Addr} {M:Nat} {D:Option Addr} {H:Nat} {X:Option Addr} {V:Nat} {J:Option Addr} {O:Nat} (b:Rd G 1 Y Z (r.Down.map aB)) (R:Rd G 2 S M (r.Travel.map aI)) (B:Rd G 1 D H (r.Springs.map aB)) (U:Rd G 3 X V (r.Towns.map aG)) (I:RdT cH G 2 J O r.Floods) (hc:Ctx G (Lf) w) {i:(List Int) × Int} (hF:pH N r d=some i):Calls Tryz.prog 20 #[.agg #[.slice Y r.Down.length Z,.slice S r.Travel.length M,.slice D r.Springs.length H,.slice X r.Towns.length V,i6 r.Delay.Lo,i6 r.Delay.Hi,.slice J r.Floods.length O],.agg #[i6 d.Spring,i6 d.Town]] w (fun e w=>∃ (m:Option Addr) (o:Nat),e=.returned (.tuple #[.slice m i.1.length o,i6 i.2])∧Ctx G (.row m o (i.1.map aB) 3 1::Lf) w):=by
 unfold pH at hF
 refine bL Tryz.func20 rfl Tryz.ntmps20 rfl fun a hf=>zS fun K h=>zB hf hc rfl fun ad a w hf hc=>zB hf hc rfl fun af a w hf hc=>sp 2 hf rfl fun a hf=>zT h ?_
 refine zS fun K h=>zN hf hc oK m1 rfl fun a w hf hc=>?_
 obtain ⟨q,j,hF⟩:=aA hF
 cases q with
 | inl q=>
  replace hF:=aC4 hF
  refine zC hf aDf rfl (kG r b R B U I hc j) ?_
  rintro _ w ⟨rfl,hc⟩
  refine ⟨_,rfl,fun a hf=>?_⟩
  refine sp 5 hf rfl fun a hf=>zT h ?_
  refine wp_seq_k fun K3 h3=>wp_block ?_
  refine zS fun K h=>sp 3 hf rfl fun a hf=>zT h ?_
  refine zI hf rfl hF ?_ ?_ <;> clear hF <;> intro hF
  ·refine zS fun K h=>sp 3 hf rfl fun a hf=>zT h ?_
   refine wp_ret ?_
   refine bS ?_
   refine aL ?_
   obtain rfl:=sj hF
   replace hc:=hc.nilRow 3 1
   replace hc:=(hc.drop k2).drop k1
   exact zO2 Tryz.results20 hf rfl rfl ⟨none,0,rfl,hc⟩
  ·refine wp_seq_k fun K6 h6=>aBn hF
 | inr g=>
  replace hF:=aC7 hF
  have u:=j
  refine zC hf aDf rfl (kG r b R B U I hc u) ?_
  rintro _ w ⟨ag,n,ap,rfl,hc⟩
  refine ⟨_,rfl,fun a hf=>?_⟩
  refine sp 5 hf rfl fun a hf=>zT h ?_
  refine wp_seq_k fun K7 h7=>wp_block ?_
  refine zS fun K h=>sp 3 hf rfl fun a hf=>zT h ?_
  refine zI hf rfl hF ?_ ?_ <;> clear hF <;> intro hF
  ·refine zS fun K h=>sp 3 hf rfl fun a hf=>zT h ?_
   refine wp_ret ?_
   refine bS ?_
   refine aL ?_
   obtain rfl:=sj hF
   replace hc:=hc.nilRow 3 1
   replace hc:=(((hc.drop k4).drop k3).drop k2).drop k1
   exact zO2 Tryz.results20 hf rfl rfl ⟨none,0,rfl,hc⟩
  ·refine zS fun K h=>sp 1 hf rfl fun a hf=>zN hf hc jE m2 rfl fun a w hf hc=>?_
   obtain ⟨ac,z,hF⟩:=aA hF
   refine zQ (v:=.bool ac) hf hc en_40 rfl (fun w hc=>(aA7 (⟨(⟨r.Down,r.Travel,r.Springs,r.Towns,(⟨g.1,g.2.1⟩:aN),r.Floods⟩:aH),g.2.2.1⟩:aF) d b R B U I ((hc.pick k0).pick k1) z).mono fun e w h=>⟨h.1,((h.2.unpick k1).unpick k0)⟩) fun a w hf hc=>sp 2 hf rfl fun a hf=>zT h ?_
   refine zI hf rfl hF ?_ ?_ <;> clear hF <;> intro hF
   ·refine zS fun K h=>sp 2 hf rfl fun a hf=>zT h ?_
    refine wp_ret ?_
    refine bS ?_
    refine aL ?_
    obtain rfl:=sj hF
    replace hc:=hc.nilRow 3 1
    replace hc:=(((hc.drop k4).drop k3).drop k2).drop k1
    exact zO2 Tryz.results20 hf rfl rfl ⟨none,0,rfl,hc⟩
   ·refine wp_skip ?_
    refine h7 _ _ ?_
    refine zS fun K h=>sp 1 hf rfl fun a hf=>zN hf hc jE m2 rfl fun a w hf hc=>?_
    obtain ⟨ai,aa,hF⟩:=aA hF
    refine zC hf aH7 rfl (iS (⟨(⟨r.Down,r.Travel,r.Springs,r.Towns,(⟨g.1,g.2.1⟩:aN),r.Floods⟩:aH),g.2.2.1⟩:aF) d b R B U I ((hc.pick k0).pick k1) aa) ?_
    rintro _ w ⟨an,am,aj,rfl,hc⟩
    refine ⟨_,rfl,fun a hf=>?_⟩
    obtain ⟨ab,x,hF⟩:=aA hF
    obtain ⟨G1,ak,y,hc,t⟩:=lend hc k0
    refine zC hf en_41 rfl (vP ai y hc x) ?_
    rintro _ w ⟨p,s,rfl,hc⟩
    refine ⟨_,rfl,fun a hf=>?_⟩
    replace hc:=t _ _ hc
    refine sp 2 hf rfl fun a hf=>zT h ?_
    refine wp_ret ?_
    obtain rfl:=sj hF
    obtain ⟨k,hc⟩:=tU ((hc.pick k0).pick k3)
    replace hc:Ctx G (bI n aW g.2.2.1 3 k::.row p s (ab.map aB) 3 1::.box ag [.slice Y r.Down.length Z,.slice S r.Travel.length M,.slice D r.Springs.length H,.slice X r.Towns.length V,i6 g.1,i6 g.2.1,.slice J r.Floods.length O,.map (some n)] 102::.box af [i6 d.Spring,i6 d.Town] 62::.box ad [.slice Y r.Down.length Z,.slice S r.Travel.length M,.slice D r.Springs.length H,.slice X r.Towns.length V,i6 r.Delay.Lo,i6 r.Delay.Hi,.slice J r.Floods.length O] 30::Lf) w:=hc
    replace hc:=(((hc.drop k4).drop k3).drop k2).drop k0
    exact zO2 Tryz.results20 hf rfl rfl ⟨p,s,rfl,hc⟩

def nZ (N:Nat) (l:List aR):Option ((List aR)) :=
 Option.bind (room (l).length) fun un=>
 some l
theorem xR {N:Nat} {G:aT} {Lf:List Ent} {w:World} (l:List aR) {H:Option Addr} {D:Nat} (S:Rd G 3 H D (l.map aG)) (hc:Ctx G (Lf) w) {B:(List aR)} (hF:nZ N l=some B):Calls Tryz.prog 21 #[.slice H l.length D] w (fun e w=>∃ (J:Option Addr) (I:Nat),e=.returned (.slice J B.length I)∧Ctx G (.row J I (B.map aG) 65 3::Lf) w):=by
 unfold nZ at hF
 refine bL Tryz.func21 rfl Tryz.ntmps21 rfl fun a hf=>zS fun K h=>sp 1 hf rfl fun a hf=>zT h ?_
 refine zS fun K h=>sp 1 hf rfl fun a hf=>zT h ?_
 refine zS fun K h=>sp 2 hf rfl fun a hf=>?_
 replace hc:=hc.nilRow 65 3
 obtain ⟨un,M,hF⟩:=aA hF
 refine pC (xs:=([]:List aR)) (ys:=l) hf hc rfl rfl aJ7 rfl rfl rfl rfl rfl oP (aGp hc S) (fun _ _=>u0) (by simpa using fD M) fun R O a w hf hc=>sp 1 hf rfl fun a hf=>zT h ?_
 refine wp_ret ?_
 obtain rfl:=sj hF
 exact zO1 Tryz.results21 hf rfl ⟨R,O,rfl,hc⟩

def nN (N:Nat) (D:Int) (B:Bool) (H:List aR):Option (bY (Bool × Int × (List aR)) (bY (Bool × (List aR)) ((List aR) × Int × Int × Bool))) :=
 some (.cont (B,W (D + 1),H))
def lM (N:Nat) (r:List Int) (d:List aN) (b:List Int) (O:Int) (R:Int) (V:List cX) (I:(List aC) × Int) (D:Bool) (B:Int) (H:List aR):Option (bY (Bool × Int × (List aR)) (bY (Bool × (List aR)) ((List aR) × Int × Int × Bool))) :=
 cond ((decide (B < ((I.1.length:Nat):Int))) && (!D))
 (Option.bind (bE I.1 B) fun j=>
 Option.bind (pH N (⟨r,d,b,H,(⟨O,R⟩:aN),V⟩:aH) j) fun M=>
 Option.bind (cond (M.2 != 0) (some true) (Option.bind (bE I.1 B) fun Z=>
 some (decide (Z.Town < 0)))) fun Y=>
 Option.bind (cond Y (some true) (Option.bind (bE I.1 B) fun g=>
 some (decide (((H.length:Nat):Int)≤g.Town)))) fun X=>
 cond X
 (some (.ret (.ret (H,O,R,false))))
 (cond (((M.1.length:Nat):Int) == 0)
 (Option.bind (bE I.1 B) fun i=>
 Option.bind (rH H 0 i.Town) fun sub=>
 Option.bind (nZ N sub) fun S=>
 Option.bind (bE I.1 B) fun U=>
 Option.bind (rH H (W (U.Town + 1)) ((H.length:Nat):Int)) fun J=>
 Option.bind (room ((S++J)).length) fun un=>
 nN N B true (S++J))
 (nN N B D H)))
 (some (.brk (D,B,H)))
def sE (N:Nat) (r:List Int) (J:List aN) (M:List Int) (I:Int) (H:Int) (R:List cX) (D:Bool) (x:List aR):Option (bY (Bool × (List aR)) ((List aR) × Int × Int × Bool)) :=
 cond D
 (Option.bind (pJ N (⟨r,J,M,x,(⟨I,H⟩:aN),R⟩:aH)) fun O=>
 cond (O.2 != 0)
 (some (.ret (x,I,H,false)))
 (Option.bind (aX (fun B=>lM N r J M I H R O B.1 B.2.1 B.2.2) N (false,0,x)) fun S=>
 exK S (fun B=>some (.cont (B.1,B.2.2))) some))
 (some (.brk (D,x)))
def uB (N:Nat) (r:List Int) (H:List aN) (I:List Int) (M:List aR) (D:Int) (B:Int) (J:List cX):Option ((List aR) × Int × Int × Bool) :=
 Option.bind (aX (fun s4=>sE N r H I D B J s4.1 s4.2) N (true,M)) fun x4=>
 exK x4 (fun s4=>some (s4.2,D,B,true)) some
theorem aFc {N:Nat} {G:aT} {Lf:List Ent} {w:World} (r:List Int) (m:List aN) (k:List Int) (a9:List aR) (t:Int) (s:Int) (d:List cX) {y:Option Addr} {z:Nat} {D:Option Addr} {O:Nat} {H:Option Addr} {M:Nat} {a1:Option Addr} {ay:Nat} {J:Option Addr} {I:Nat} (bs:Rd G 1 y z (r.map aB)) (bg:Rd G 2 D O (m.map aI)) (bc:Rd G 1 H M (k.map aB)) (bb:RdT cH G 2 J I d) (hc:Ctx G (.row a1 ay (a9.map aG) 65 3::Lf) w) {aq:(List aR) × Int × Int × Bool} (hF:uB N r m k a9 t s d=some aq):Calls Tryz.prog 4 #[.agg #[.slice y r.length z,.slice D m.length O,.slice H k.length M,.slice a1 a9.length ay,i6 t,i6 s,.slice J d.length I]] w (fun e w=>∃ (br:Option Addr) (bt:Nat),e=.returned (.tuple #[.agg #[.slice y r.length z,.slice D m.length O,.slice H k.length M,.slice br aq.1.length bt,i6 aq.2.1,i6 aq.2.2.1,.slice J d.length I],.bool aq.2.2.2])∧Ctx G (.row br bt (aq.1.map aG) 65 3::Lf) w):=by
 unfold uB at hF
 refine bL Tryz.func4 rfl Tryz.ntmps4 rfl fun a hf=>zS fun K h=>zB hf hc rfl fun b a w hf hc=>zA hf hc aJu rfl fun q a w hf hc=>sp 1 hf rfl fun a hf=>zT h ?_
 refine wp_seq_k fun K2 h2=>zS fun K h=>sp 1 hf rfl fun a hf=>zT h ?_
 refine wp_block ?_
 obtain ⟨x4,c4,hF⟩:=aA hF
 let S4:(Bool × (List aR))→Act→World→Prop:=(fun (zz:Bool × (List aR)) a w=>∃ (ai:Option Addr) (af:Nat),Has 84 a [(1,pq b),(2,pq q),(4,.bool zz.1)]∧Ctx G (.box q [.slice none 0 0,.slice none 0 0,.slice none 0 0,.slice none 0 0,i6 0,i6 0,.slice none 0 0] 30::.box b [.slice y r.length z,.slice D m.length O,.slice H k.length M,.slice ai zz.2.length af,i6 t,i6 s,.slice J d.length I] 30::.row ai af (zz.2.map aG) 65 3::Lf) w)
 have da:∀ (zz:Bool × (List aR)) a w,x4=.go zz→S4 zz a w→K2 a w:=by
  rintro ⟨bq,x⟩ a w rfl ⟨ai,af,hf,hc⟩
  replace hF:=bK hF
  refine h2 _ _ ?_
  refine zS fun K h=>zN hf hc oK m1 rfl fun a w hf hc=>zW hf hc aIn u0 rfl fun w hc=>sp 1 hf rfl fun a hf=>zT h ?_
  refine wp_ret ?_
  obtain rfl:=sj hF
  replace hc:=((hc.drop k1).pick k0).pick k1
  exact aJj (by simp) rfl Tryz.results4 hf hc (jH (vs:=[.slice y r.length z,.slice D m.length O,.slice H k.length M,.slice ai x.length af,i6 t,i6 s,.slice J d.length I]) oK rfl rfl (dN (n:=7) m1 rfl)) (show gR _ 3=_ from rfl) ⟨ai,af,rfl,(hc.drop k1)⟩
 have bu:∀ r,x4=.out r→r=aq:=by
  rintro r rfl
  exact sj hF
 refine cZ N (cW (S:=S4) (x:=x4) ?_ N (true,a9) _ _ ⟨a1,ay,hf.kp rfl,hc⟩ c4)
 clear hF hf hc
 rintro ⟨bq,x⟩ c5 a w KB4 ⟨ai,af,hf,hc⟩ hF ac c2
 unfold sE at hF
 refine wp_seq_k fun K6 h6=>zS fun K h=>sp 1 hf rfl fun a hf=>zT h ?_
 refine zI hf rfl hF ?_ ?_ <;> clear hF <;> intro hF
 ·refine wp_skip ?_
  refine h6 _ _ ?_
  refine iK fun K8 h8=>wp_block ?_
  refine zS fun K h=>sp 1 hf rfl fun a hf=>zT h ?_
  refine zS fun K h=>zN hf hc oK m1 rfl fun a w hf hc=>?_
  obtain ⟨U,cn,hF⟩:=aA hF
  obtain ⟨G1,ab,ap,hc,an⟩:=lend hc k2
  refine zC hf en_19 rfl (aDn (⟨r,m,k,x,(⟨t,s⟩:aN),d⟩:aH) (bs.mono ab) (bg.mono ab) (bc.mono ab) ap (bb.mono ab) hc cn) ?_
  rintro _ w ⟨cr,ct,rfl,hc⟩
  refine ⟨_,rfl,fun a hf=>?_⟩
  replace hc:=an _ _ hc
  refine sp 5 hf rfl fun a hf=>zT h ?_
  refine wp_seq_k fun K11 c9=>zS fun K h=>sp 2 hf rfl fun a hf=>zT h ?_
  refine zI hf rfl hF ?_ ?_ <;> clear hF <;> intro hF
  ·refine zS fun K h=>zN hf hc oK m3 rfl fun a w hf hc=>zW hf hc aIn u2 rfl fun w hc=>sp 1 hf rfl fun a hf=>zT h ?_
   refine wp_ret ?_
   refine aL ?_
   refine bS ?_
   refine aL ?_
   refine aL ?_
   have he:=sj hF
   rw [← he] at ac
   replace hF:=bu _ ac
   refine bS ?_
   refine aL ?_
   obtain rfl:=hF
   replace hc:=(hc.drop k3).drop k1
   exact aJj (by simp) rfl Tryz.results4 hf hc (jH (vs:=[.slice y r.length z,.slice D m.length O,.slice H k.length M,.slice ai x.length af,i6 t,i6 s,.slice J d.length I]) oK rfl rfl (dN (n:=7) m1 rfl)) (show gR _ 3=_ from rfl) ⟨ai,af,rfl,(hc.drop k1)⟩
  ·refine wp_skip ?_
   refine c9 _ _ ?_
   refine zS fun K h=>sp 1 hf rfl fun a hf=>zT h ?_
   refine iK fun K15 df=>wp_block ?_
   obtain ⟨bp,cd,hF⟩:=aA hF
   let S16:(Bool × Int × (List aR))→Act→World→Prop:=(fun (zz:Bool × Int × (List aR)) a w=>∃ (av:Option Addr) (Y:Nat) (Z:Option Addr) (V:Nat),Has 84 a [(1,pq b),(2,pq q),(4,.bool zz.1),(5,.slice av U.1.length Y),(7,i6 zz.2.1)]∧Ctx G (.row Z V (zz.2.2.map aG) 65 3::.row av Y (U.1.map aD) 62 2::.box q [.slice none 0 0,.slice none 0 0,.slice none 0 0,.slice none 0 0,i6 0,i6 0,.slice none 0 0] 30::.box b [.slice y r.length z,.slice D m.length O,.slice H k.length M,.slice Z zz.2.2.length V,i6 t,i6 s,.slice J d.length I] 30::Lf) w)
   have b6:∀ (zz:Bool × Int × (List aR)) a w,bp=.go zz→S16 zz a w→K15 a w:=by
    rintro ⟨X,B,v⟩ a w rfl ⟨av,Y,Z,V,hf,hc⟩
    replace hF:=bK hF
    refine df _ _ ?_
    refine h8 _ _ ?_
    replace hc:=(((hc.drop k1).pick k0).pick k2).pick k2
    exact c2 (X,v) _ _ (sj hF).symm ⟨Z,V,hf.kp rfl,hc⟩
   have b0:∀ r,bp=.out r→r=c5:=by
    rintro r rfl
    exact sj hF
   refine cZ N (cW (S:=S16) (x:=bp) ?_ N (false,0,x) _ _ ⟨cr,ct,ai,af,hf.kp rfl,hc⟩ cd)
   clear hF hf hc
   rintro ⟨X,B,v⟩ cb a w KB16 ⟨av,Y,Z,V,hf,hc⟩ hF am cc
   unfold lM at hF
   refine wp_seq_k fun K17 cp=>zS fun K h=>sp 2 hf rfl fun a hf=>zP hf rfl (bG Tryz.underlying49 rfl) fun a hf=>sp 2 hf rfl fun a hf=>jX 3 (fun a=>Has 84 a [(1,pq b),(2,pq q),(4,.bool X),(5,.slice av U.1.length Y),(7,i6 B),(19,i6 B),(20,.slice av U.1.length Y),(21,i6 ((U.1.length:Nat):Int)),(22,.bool (decide (B < ((U.1.length:Nat):Int)))),(23,.bool (decide (B < ((U.1.length:Nat):Int)))),(26,.bool ((decide (B < ((U.1.length:Nat):Int))) && (!X)))]) hc ?_ ?_
   ·cases hb:(decide (B < ((U.1.length:Nat):Int)))
    ·rw [hb] at hf
     refine stS hf rfl rfl rfl fun a hf=>stS hf rfl rfl rfl fun a hf=>sp 1 hf rfl fun a hf=>aP ⟨hf.kp rfl,hc⟩
    ·rw [hb] at hf
     refine sp 3 hf rfl fun a hf=>aP ⟨hf.kp rfl,hc⟩
   intro a w ⟨hf,hc⟩
   refine zT h ?_
   refine zI hf rfl hF ?_ ?_ <;> clear hF <;> intro hF
   ·refine wp_skip ?_
    refine cp _ _ ?_
    refine wp_seq_k fun K19 c6=>?_
    have bj:∀ (ad:Bool) (a2:List aR) (a6:Option Addr) (a8:Nat) (bf:Option Addr) (ba:Nat) a w,Has 84 a [(1,pq b),(2,pq q),(4,.bool ad),(5,.slice a6 U.1.length a8),(7,i6 B)]→Ctx G (.row bf ba (a2.map aG) 65 3::.row a6 a8 (U.1.map aD) 62 2::.box q [.slice none 0 0,.slice none 0 0,.slice none 0 0,.slice none 0 0,i6 0,i6 0,.slice none 0 0] 30::.box b [.slice y r.length z,.slice D m.length O,.slice H k.length M,.slice bf a2.length ba,i6 t,i6 s,.slice J d.length I] 30::Lf) w→nN N B ad a2=some cb→K19 a w:=by
     repeat (clear hF)
     repeat (clear hc)
     repeat (clear hf)
     intro ad a2 a6 a8 bf ba a w hf hc hF
     unfold nN at hF
     refine c6 _ _ ?_
     refine bV ?_
     refine sp 3 hf rfl fun a hf=>aP ?_
     exact cc (ad,W (B + 1),a2) _ _ (sj hF).symm ⟨a6,a8,bf,ba,hf.kp rfl,hc⟩
    refine wp_block ?_
    refine wp_seq_k fun K20 dg=>?_
    obtain ⟨a4,b8,hF⟩:=aA hF
    have cx:=hf
    obtain ⟨g,rfl,qa,qr⟩:=hP hc m1 b8
    have hf:=cx
    obtain ⟨R,b4,hF⟩:=aA hF
    replace hc:=hc.nilRow 0 0
    refine eL (fun θ=>[⟨none,none,1,pq b⟩,⟨none,none,2,pq q⟩,⟨none,none,4,.bool X⟩,⟨none,none,5,.slice (some ⟨g,0,none⟩) U.1.length Y⟩,⟨none,none,7,i6 B⟩,⟨some 0,none,30,.agg #[.slice y r.length z,.slice D m.length O,.slice H k.length M,.slice Z v.length V,i6 t,i6 s,.slice J d.length I]⟩,⟨some 1,none,31,.slice (some ⟨g,0,none⟩) U.1.length Y⟩,⟨some 2,none,32,i6 B⟩,⟨some 3,none,33,.pointer (some ⟨g,B.toNat * 2,none⟩)⟩,⟨some 4,none,34,.agg #[i6 a4.Spring,i6 a4.Town]⟩,⟨some 5,none,35,.tuple #[.slice ((θ 40).p) R.1.length ((θ 40).c),i6 R.2]⟩,⟨some 6,none,29,.tuple #[.slice ((θ 40).p) R.1.length ((θ 40).c),i6 R.2]⟩,⟨some 7,none,36,.slice ((θ 40).p) R.1.length ((θ 40).c)⟩,⟨some 8,none,37,i6 R.2⟩,⟨some 9,none,8,.slice ((θ 40).p) R.1.length ((θ 40).c)⟩,⟨some 10,none,9,i6 R.2⟩]) (fun E θ=>(bif E 5 then .row ((θ 40).p) ((θ 40).c) (R.1.map aB) 3 1 else .row none 0 [] 0 0)::.row Z V (v.map aG) 65 3::.row (some ⟨g,0,none⟩) Y (U.1.map aD) 62 2::.box q [.slice none 0 0,.slice none 0 0,.slice none 0 0,.slice none 0 0,i6 0,i6 0,.slice none 0 0] 30::.box b [.slice y r.length z,.slice D m.length O,.slice H k.length M,.slice Z v.length V,i6 t,i6 s,.slice J d.length I] 30::Lf) [(6,5),(7,6),(9,5)] (fun a w=>∃ (au:Option Addr) (ar:Nat),Has 84 a [(1,pq b),(2,pq q),(4,.bool X),(5,.slice (some ⟨g,0,none⟩) U.1.length Y),(7,i6 B),(8,.slice au R.1.length ar),(9,i6 R.2)]∧Ctx G (.row au ar (R.1.map aB) 3 1::.row Z V (v.map aG) 65 3::.row (some ⟨g,0,none⟩) Y (U.1.map aD) 62 2::.box q [.slice none 0 0,.slice none 0 0,.slice none 0 0,.slice none 0 0,i6 0,i6 0,.slice none 0 0] 30::.box b [.slice y r.length z,.slice D m.length O,.slice H k.length M,.slice Z v.length V,i6 t,i6 s,.slice J d.length I] 30::Lf) w) bA (by kernel_rfl) (by kernel_rfl) (fN.of hf ⟨rfl,rfl,rfl,rfl,rfl,trivial,trivial,trivial,trivial,trivial,trivial,trivial,trivial,trivial,trivial,trivial,trivial⟩) hc ⟨?_,?_,?_,?_,?_,?_,?_,?_,?_,?_,?_,trivial⟩ ?_ ?_
    ·intro E θ a w hD hi hp he hc
     have hf:=he.h0.mT he 0 rfl
     refine zN hf hc oK m4 rfl fun a w hf hc=>zD θ he hi hf 5 rfl rfl rfl hc
    ·intro E θ a w hD hi hp he hc
     have hf:=he.h0.mT he 3 rfl
     refine sp 1 hf rfl fun a hf=>zD θ he hi hf 6 rfl rfl rfl hc
    ·intro E θ a w hD hi hp he hc
     have hf:=he.h0.mT he 4 rfl
     refine sp 1 hf rfl fun a hf=>zD θ he hi hf 7 rfl rfl rfl hc
    ·intro E θ a w hD hi hp he hc
     have e1:=hp.o 1 rfl
     have e2:=hp.o 2 rfl
     have hf:=(he.h0.mP he 6 rfl e1).mP he 7 rfl e2
     refine zP hf rfl (pIA Tryz.underlying49 gG rfl rfl qa) fun a hf=>zD θ he hi hf 8 rfl rfl rfl hc
    ·intro E θ a w hD hi hp he hc
     have e3:=hp.o 3 rfl
     have hf:=he.h0.mP he 8 rfl e3
     refine zE hf hc rfl (lK (vs:=[i6 a4.Spring,i6 a4.Town]) jE rfl rfl (jL (sz:=2) (i:=B.toNat) m2 qr (n:=2) (o':=0) rfl)) fun a w hf hc=>zD θ he hi hf 9 rfl rfl rfl hc
    ·intro E θ a w hD hi hp he hc
     have e0:=hp.o 0 rfl
     have e4:=hp.o 4 rfl
     have e6:=hD.f 0 rfl hi
     have e7:=hD.f 1 rfl e6
     have e9:=hD.f 2 rfl hi
     try dsimp only at hc
     rw [hi] at hc
     have hf:=(he.h0.mP he 5 rfl e0).mP he 9 rfl e4
     obtain ⟨G1,ab,ap,hc,an⟩:=lend hc k1
     refine zC hf en_20 rfl (aDq (⟨r,m,k,v,(⟨t,s⟩:aN),d⟩:aH) a4 (bs.mono ab) (bg.mono ab) (bc.mono ab) ap (bb.mono ab) hc b4) ?_
     rintro _ w ⟨dd,cq,rfl,hc⟩
     refine ⟨_,rfl,fun a hf=>?_⟩
     replace hc:=an _ _ hc
     refine aP ?_
     refine eJ ?_
     intro ds u a3
     replace hc:=((hc.drop k2).pick k0).pick k1
     refine ⟨(nF θ 40 ⟨0,dd,cq,(fun _=>(none,0))⟩),he.put hi a3 hf rfl [6,7,9] ⟨⟨e6,rfl⟩,⟨e7,rfl⟩,⟨e9,rfl⟩,trivial⟩ ⟨qq,qq,qq,qq,qq,qq,qq,qq,qq,qq,qq,trivial,trivial,qq,trivial,qq,trivial⟩,?_⟩
     try dsimp only
     rw [aS E 5]
     exact hc
    ·intro E θ a w hD hi hp he hc
     have e5:=hp.o 5 rfl
     have hf:=he.h0.mP he 10 rfl e5
     refine sp 1 hf rfl fun a hf=>zD θ he hi hf 11 rfl rfl rfl hc
    ·intro E θ a w hD hi hp he hc
     have e6:=hp.o 6 rfl
     have hf:=he.h0.mP he 11 rfl e6
     refine sp 1 hf rfl fun a hf=>zD θ he hi hf 12 rfl rfl rfl hc
    ·intro E θ a w hD hi hp he hc
     have e6:=hp.o 6 rfl
     have hf:=he.h0.mP he 11 rfl e6
     refine sp 1 hf rfl fun a hf=>zD θ he hi hf 13 rfl rfl rfl hc
    ·intro E θ a w hD hi hp he hc
     have e7:=hp.o 7 rfl
     have hf:=he.h0.mP he 12 rfl e7
     refine sp 1 hf rfl fun a hf=>zD θ he hi hf 14 rfl rfl rfl hc
    ·intro E θ a w hD hi hp he hc
     have e8:=hp.o 8 rfl
     have hf:=he.h0.mP he 13 rfl e8
     refine sp 1 hf rfl fun a hf=>zD θ he hi hf 15 rfl rfl rfl hc
    ·intro E θ a w aj he hc
     have hf:=he.h0
     have e5:=aj 5 rfl
     have e9:=aj 9 rfl
     have bm:=aj 10 rfl
     replace hf:=hf.more he 15 rfl (onP bm)
     replace hf:=hf.more he 14 rfl (onP e9)
     replace hf:=hf.more he 4 rfl (onT)
     replace hf:=hf.more he 3 rfl (onT)
     replace hf:=hf.more he 2 rfl (onT)
     replace hf:=hf.more he 1 rfl (onT)
     replace hf:=hf.more he 0 rfl (onT)
     try dsimp only at hc
     rw [e5] at hc
     exact ⟨(θ 40).p,(θ 40).c,hf.kp rfl,hc⟩
    rintro a w ⟨au,ar,hf,hc⟩
    refine dg _ _ ?_
    refine wp_seq_k fun K21 c1=>wp_seq_k fun K22 dk=>?_
    obtain ⟨a7,bn,hF⟩:=aA hF
    obtain ⟨c0,bi,hF⟩:=aA hF
    refine cQ hc bA (by kernel_rfl) ?_
    refine qE hf rfl rfl rfl (Pu.ev (pM rfl)) fun a hf=>qE hf rfl rfl rfl (Pu.ev (pNe rfl rfl)) fun a hf=>qE hf rfl rfl rfl (Pu.ev (pM rfl)) fun a hf=>qCut 7 (fun a=>Has 84 a [(1,pq b),(2,pq q),(4,.bool X),(5,.slice (some ⟨g,0,none⟩) U.1.length Y),(7,i6 B),(8,.slice au R.1.length ar),(9,i6 R.2),(38,i6 R.2),(39,.bool (R.2 != 0)),(40,.bool (R.2 != 0)),(47,.bool a7)]) ?_ ?_
    ·cases hb:(R.2 != 0)
     ·rw [hb] at hf
      have hF:=kI hb bn
      obtain ⟨dn,b9,hF⟩:=aA hF
      obtain ⟨cf,b7⟩:=eY hc m2 b9
      refine qE hf rfl rfl rfl (Pu.ev (pM rfl)) fun a hf=>qE hf rfl rfl rfl (Pu.ev (pM rfl)) fun a hf=>qE hf rfl rfl rfl (Pu.ev (pIA Tryz.underlying49 gG rfl rfl cf)) fun a hf=>qE hf rfl rfl rfl (Pu.ev (pFA aB7 rfl)) fun a hf=>qE hf rfl rfl rfl (eP cR rfl (fZ (sz:=2) (i:=B.toNat) (j:=1) m2 b7 rfl)) fun a hf=>qE hf rfl rfl rfl (Pu.ev (pLt rfl rfl)) fun a hf=>qE hf rfl rfl rfl (Pu.ev (pPf rfl rfl)) fun a hf=>?_
      obtain rfl:=sj hF
      exact qNil (hf.kp rfl)
     ·rw [hb] at hf
      have hF:=fP hb bn
      obtain rfl:=sj hF
      refine qS hf rfl rfl rfl fun a hf=>qS hf rfl rfl rfl fun a hf=>qS hf rfl rfl rfl fun a hf=>qS hf rfl rfl rfl fun a hf=>qS hf rfl rfl rfl fun a hf=>qS hf rfl rfl rfl fun a hf=>qE hf rfl rfl rfl (Pu.ev (pPt rfl rfl)) fun a hf=>qNil (hf.kp rfl)
    intro a hf
    refine qE hf rfl rfl rfl (Pu.ev (pM rfl)) fun a hf=>qCut 10 (fun a=>Has 84 a [(1,pq b),(2,pq q),(4,.bool X),(5,.slice (some ⟨g,0,none⟩) U.1.length Y),(7,i6 B),(8,.slice au R.1.length ar),(9,i6 R.2),(38,i6 R.2),(39,.bool (R.2 != 0)),(40,.bool (R.2 != 0)),(47,.bool a7),(48,.bool a7),(58,.bool c0)]) ?_ ?_
    ·cases hb:a7
     ·rw [hb] at hf
      have hF:=kI hb bi
      obtain ⟨dp,b2,hF⟩:=aA hF
      obtain ⟨ck,b5⟩:=eY hc m2 b2
      refine qE hf rfl rfl rfl (Pu.ev (pM rfl)) fun a hf=>qE hf rfl rfl rfl (Pu.ev (pM rfl)) fun a hf=>qE hf rfl rfl rfl (Pu.ev (pIA Tryz.underlying49 gG rfl rfl ck)) fun a hf=>qE hf rfl rfl rfl (Pu.ev (pFA aB7 rfl)) fun a hf=>qE hf rfl rfl rfl (eP cR rfl (fZ (sz:=2) (i:=B.toNat) (j:=1) m2 b5 rfl)) fun a hf=>qE hf rfl rfl rfl (Pu.ev (pFA qY rfl)) fun a hf=>qE hf rfl rfl rfl (eP aBx rfl (iA m4 rfl)) fun a hf=>qE hf rfl rfl rfl (Pu.ev (bG Tryz.underlying25 rfl)) fun a hf=>qE hf rfl rfl rfl (Pu.ev (pGe rfl rfl)) fun a hf=>qE hf rfl rfl rfl (Pu.ev (pPf rfl rfl)) fun a hf=>?_
      obtain rfl:=sj hF
      exact qNil (hf.kp rfl)
     ·rw [hb] at hf
      have hF:=fP hb bi
      obtain rfl:=sj hF
      refine qS hf rfl rfl rfl fun a hf=>qS hf rfl rfl rfl fun a hf=>qS hf rfl rfl rfl fun a hf=>qS hf rfl rfl rfl fun a hf=>qS hf rfl rfl rfl fun a hf=>qS hf rfl rfl rfl fun a hf=>qS hf rfl rfl rfl fun a hf=>qS hf rfl rfl rfl fun a hf=>qS hf rfl rfl rfl fun a hf=>qE hf rfl rfl rfl (Pu.ev (pPt rfl rfl)) fun a hf=>qNil (hf.kp rfl)
    intro a hf
    intro w hc
    refine dk _ _ ?_
    refine zI hf rfl hF ?_ ?_ <;> clear hF <;> intro hF
    ·refine zS fun K h=>zN hf hc oK m4 rfl fun a w hf hc=>zW hf hc aIn u3 rfl fun w hc=>sp 1 hf rfl fun a hf=>zT h ?_
     refine wp_ret ?_
     refine aL ?_
     refine bS ?_
     refine aL ?_
     refine aL ?_
     have he:=sj hF
     rw [← he] at am
     replace hF:=b0 _ am
     refine bS ?_
     refine aL ?_
     refine bS ?_
     refine aL ?_
     refine aL ?_
     have he:=hF
     rw [← he] at ac
     replace hF:=bu _ ac
     refine bS ?_
     refine aL ?_
     obtain rfl:=hF
     replace hc:=((hc.drop k4).drop k2).drop k0
     exact aJj (by simp) rfl Tryz.results4 hf hc (jH (vs:=[.slice y r.length z,.slice D m.length O,.slice H k.length M,.slice Z v.length V,i6 t,i6 s,.slice J d.length I]) oK rfl rfl (dN (n:=7) m1 rfl)) (show gR _ 3=_ from rfl) ⟨Z,V,rfl,(hc.drop k1)⟩
    ·refine wp_skip ?_
     refine c1 _ _ ?_
     refine zS fun K h=>sp 1 hf rfl fun a hf=>zP hf rfl (bG Tryz.underlying23 rfl) fun a hf=>sp 1 hf rfl fun a hf=>zT h ?_
     refine zI hf rfl hF ?_ ?_ <;> clear hF <;> intro hF
     ·refine wp_seq_k fun K25 cu=>?_
      obtain ⟨dj,b3,hF⟩:=aA hF
      obtain ⟨bv,cm⟩:=eY hc m2 b3
      have qc:=qX hc m1
      obtain ⟨sub,bk,hF⟩:=aA hF
      obtain ⟨ak,ca,hF⟩:=aA hF
      obtain ⟨bd,ci,hF⟩:=aA hF
      obtain ⟨cg,b1⟩:=eY hc m2 ci
      have cj:=qX hc m1
      obtain ⟨aa,a5,hF⟩:=aA hF
      obtain ⟨un,cs,hF⟩:=aA hF
      replace hc:=hc.nilRow 0 0
      refine eL (fun θ=>[⟨none,none,1,pq b⟩,⟨none,none,2,pq q⟩,⟨none,none,5,.slice (some ⟨g,0,none⟩) U.1.length Y⟩,⟨none,none,7,i6 B⟩,⟨some 0,none,63,.pointer (some ⟨b,3,none⟩)⟩,⟨some 1,none,64,.slice Z v.length V⟩,⟨some 2,none,65,.slice (some ⟨g,0,none⟩) U.1.length Y⟩,⟨some 3,none,66,i6 B⟩,⟨some 4,none,67,.pointer (some ⟨g,B.toNat * 2,none⟩)⟩,⟨some 5,none,68,.pointer (some ⟨g,B.toNat * 2 + 1,none⟩)⟩,⟨some 6,none,69,i6 dj.Town⟩,⟨some 7,none,70,.slice (zZ Z V (0:Int).toNat 3) sub.length (V - (0:Int).toNat)⟩,⟨some 8,none,71,.slice ((θ 64).p) ak.length ((θ 64).c)⟩,⟨some 9,none,72,.pointer (some ⟨b,3,none⟩)⟩,⟨some 10,none,73,.slice Z v.length V⟩,⟨some 11,none,74,.slice (some ⟨g,0,none⟩) U.1.length Y⟩,⟨some 12,none,75,i6 B⟩,⟨some 13,none,76,.pointer (some ⟨g,B.toNat * 2,none⟩)⟩,⟨some 14,none,77,.pointer (some ⟨g,B.toNat * 2 + 1,none⟩)⟩,⟨some 15,none,78,i6 bd.Town⟩,⟨some 16,none,79,i6 (W (bd.Town + 1))⟩,⟨some 17,none,80,.slice (zZ Z V (W (bd.Town + 1)).toNat 3) aa.length (V - (W (bd.Town + 1)).toNat)⟩,⟨some 18,none,81,.slice ((θ 144).p) ((ak++aa).length) ((θ 144).c)⟩,⟨some 19,none,82,.pointer (some ⟨b,3,none⟩)⟩]) (fun E θ=>(bif E 18 then .row ((θ 144).p) ((θ 144).c) ((ak++aa).map aG) 65 3 else bif E 8 then .row ((θ 64).p) ((θ 64).c) (ak.map aG) 65 3 else .row none 0 [] 0 0)::.row au ar (R.1.map aB) 3 1::.row Z V (v.map aG) 65 3::.row (some ⟨g,0,none⟩) Y (U.1.map aD) 62 2::.box q [.slice none 0 0,.slice none 0 0,.slice none 0 0,.slice none 0 0,i6 0,i6 0,.slice none 0 0] 30::(bif E 20 then .box b [.slice y r.length z,.slice D m.length O,.slice H k.length M,.slice ((θ 144).p) ((ak++aa).length) ((θ 144).c),i6 t,i6 s,.slice J d.length I] 30 else .box b [.slice y r.length z,.slice D m.length O,.slice H k.length M,.slice Z v.length V,i6 t,i6 s,.slice J d.length I] 30)::Lf) [(20,1),(18,8),(20,10),(20,18)] (fun a w=>∃ (az:Option Addr) (a0:Nat),Has 84 a [(1,pq b),(2,pq q),(5,.slice (some ⟨g,0,none⟩) U.1.length Y),(7,i6 B)]∧Ctx G (.row az a0 ((ak++aa).map aG) 65 3::.row au ar (R.1.map aB) 3 1::.row Z V (v.map aG) 65 3::.row (some ⟨g,0,none⟩) Y (U.1.map aD) 62 2::.box q [.slice none 0 0,.slice none 0 0,.slice none 0 0,.slice none 0 0,i6 0,i6 0,.slice none 0 0] 30::.box b [.slice y r.length z,.slice D m.length O,.slice H k.length M,.slice az ((ak++aa).length) a0,i6 t,i6 s,.slice J d.length I] 30::Lf) w) bA (by kernel_rfl) (by kernel_rfl) (fN.of hf ⟨rfl,rfl,rfl,rfl,trivial,trivial,trivial,trivial,trivial,trivial,trivial,trivial,trivial,trivial,trivial,trivial,trivial,trivial,trivial,trivial,trivial,trivial,trivial,trivial,trivial⟩) hc ⟨?_,?_,?_,?_,?_,?_,?_,?_,?_,?_,?_,?_,?_,?_,?_,?_,?_,?_,?_,?_,?_,trivial⟩ ?_ ?_
      ·intro E θ a w hD hi hp he hc
       have hf:=he.h0.mT he 0 rfl
       refine zP hf rfl (pFA qY rfl) fun a hf=>zD θ he hi hf 4 rfl rfl rfl hc
      ·intro E θ a w hD hi hp he hc
       have e0:=hp.o 0 rfl
       have ag:=hD.f 0 rfl hi
       try dsimp only at hc
       rw [ag] at hc
       have hf:=he.h0.mP he 4 rfl e0
       refine zL hf hc aBx m5 rfl fun a w hf hc=>zD θ he hi hf 5 rfl rfl rfl ?_
       try dsimp only
       rw [aQ 1 ag rfl]
       exact hc
      ·intro E θ a w hD hi hp he hc
       have hf:=he.h0.mT he 2 rfl
       refine sp 1 hf rfl fun a hf=>zD θ he hi hf 6 rfl rfl rfl hc
      ·intro E θ a w hD hi hp he hc
       have hf:=he.h0.mT he 3 rfl
       refine sp 1 hf rfl fun a hf=>zD θ he hi hf 7 rfl rfl rfl hc
      ·intro E θ a w hD hi hp he hc
       have e2:=hp.o 2 rfl
       have e3:=hp.o 3 rfl
       have hf:=(he.h0.mP he 6 rfl e2).mP he 7 rfl e3
       refine zP hf rfl (pIA Tryz.underlying49 gG rfl rfl bv) fun a hf=>zD θ he hi hf 8 rfl rfl rfl hc
      ·intro E θ a w hD hi hp he hc
       have e4:=hp.o 4 rfl
       have hf:=he.h0.mP he 8 rfl e4
       refine zP hf rfl (pFA aB7 rfl) fun a hf=>zD θ he hi hf 9 rfl rfl rfl hc
      ·intro E θ a w hD hi hp he hc
       have e5:=hp.o 5 rfl
       have hf:=he.h0.mP he 9 rfl e5
       refine zE hf hc rfl (eP cR rfl (fZ (sz:=2) (i:=B.toNat) (j:=1) m3 cm rfl)) fun a w hf hc=>zD θ he hi hf 10 rfl rfl rfl hc
      ·intro E θ a w hD hi hp he hc
       have e1:=hp.o 1 rfl
       have e6:=hp.o 6 rfl
       have hf:=(he.h0.mP he 5 rfl e1).mP he 10 rfl e6
       refine zP hf rfl (pSl Tryz.underlying25 aC5 rfl rfl qc rfl rfl bk) fun a hf=>zD θ he hi hf 11 rfl rfl rfl hc
      ·intro E θ a w hD hi hp he hc
       have e7:=hp.o 7 rfl
       have ax:=hD.f 1 rfl hi
       try dsimp only at hc
       rw [hi,ax] at hc
       have hf:=he.h0.mP he 11 rfl e7
       obtain ⟨G1,ab,ap,hc,an⟩:=lend hc k2
       refine zC hf en_21 rfl (xR sub (Rd.sub ap bk) hc ca) ?_
       rintro _ w ⟨cv,dm,rfl,hc⟩
       refine ⟨_,rfl,fun a hf=>?_⟩
       replace hc:=an _ _ hc
       refine aP ?_
       refine eJ ?_
       intro ds u a3
       replace hc:=(((hc.drop k2).pick k0).pick k2).pick k2
       refine ⟨(nF θ 64 ⟨0,cv,dm,(fun _=>(none,0))⟩),he.put hi a3 hf rfl [] trivial ⟨qq,qq,qq,qq,qq,qq,qq,qq,qq,qq,qq,qq,qq,qq,qq,qq,qq,qq,qq,qq,qq,qq,qq,qq,trivial⟩,?_⟩
       try dsimp only
       rw [aS E 8,aQ 8 ax rfl]
       exact hc
      ·intro E θ a w hD hi hp he hc
       have hf:=he.h0.mT he 0 rfl
       refine zP hf rfl (pFA qY rfl) fun a hf=>zD θ he hi hf 13 rfl rfl rfl hc
      ·intro E θ a w hD hi hp he hc
       have e9:=hp.o 9 rfl
       have ag:=hD.f 2 rfl hi
       try dsimp only at hc
       rw [ag] at hc
       have hf:=he.h0.mP he 13 rfl e9
       refine zL hf hc aBx m5 rfl fun a w hf hc=>zD θ he hi hf 14 rfl rfl rfl ?_
       try dsimp only
       rw [aQ 10 ag rfl]
       exact hc
      ·intro E θ a w hD hi hp he hc
       have hf:=he.h0.mT he 2 rfl
       refine sp 1 hf rfl fun a hf=>zD θ he hi hf 15 rfl rfl rfl hc
      ·intro E θ a w hD hi hp he hc
       have hf:=he.h0.mT he 3 rfl
       refine sp 1 hf rfl fun a hf=>zD θ he hi hf 16 rfl rfl rfl hc
      ·intro E θ a w hD hi hp he hc
       have c3:=hp.o 11 rfl
       have c8:=hp.o 12 rfl
       have hf:=(he.h0.mP he 15 rfl c3).mP he 16 rfl c8
       refine zP hf rfl (pIA Tryz.underlying49 gG rfl rfl cg) fun a hf=>zD θ he hi hf 17 rfl rfl rfl hc
      ·intro E θ a w hD hi hp he hc
       have dc:=hp.o 13 rfl
       have hf:=he.h0.mP he 17 rfl dc
       refine zP hf rfl (pFA aB7 rfl) fun a hf=>zD θ he hi hf 18 rfl rfl rfl hc
      ·intro E θ a w hD hi hp he hc
       have cy:=hp.o 14 rfl
       have hf:=he.h0.mP he 18 rfl cy
       refine zE hf hc rfl (eP cR rfl (fZ (sz:=2) (i:=B.toNat) (j:=1) m3 b1 rfl)) fun a w hf hc=>zD θ he hi hf 19 rfl rfl rfl hc
      ·intro E θ a w hD hi hp he hc
       have c7:=hp.o 15 rfl
       have hf:=he.h0.mP he 19 rfl c7
       refine sp 1 hf rfl fun a hf=>zD θ he hi hf 20 rfl rfl rfl hc
      ·intro E θ a w hD hi hp he hc
       have bm:=hp.o 10 rfl
       have cz:=hp.o 16 rfl
       have hf:=(he.h0.mP he 14 rfl bm).mP he 20 rfl cz
       refine zP hf rfl (pSl Tryz.underlying25 aC5 rfl rfl cj rfl rfl a5) fun a hf=>zD θ he hi hf 21 rfl rfl rfl hc
      ·intro E θ a w hD hi hp he hc
       have e8:=hp.o 8 rfl
       have di:=hp.o 17 rfl
       have ag:=hD.f 3 rfl hi
       try dsimp only at hc
       rw [e8,hi,ag] at hc
       have hf:=(he.h0.mP he 12 rfl e8).mP he 21 rfl di
       refine pC (xs:=ak) (ys:=aa) hf hc rfl rfl aJ7 rfl rfl rfl rfl rfl oP (aKh (fun x=>(oP x).1) (kC hc m2) a5 (qX hc m2)) (fun _ _=>u0) (by simpa using fD cs) fun bz bx a w hf hc=>aP ?_
       refine eJ ?_
       intro ds u a3
       refine ⟨(nF θ 144 ⟨0,bz,bx,(fun _=>(none,0))⟩),he.put hi a3 hf rfl [] trivial ⟨qq,qq,qq,qq,qq,qq,qq,qq,qq,qq,qq,qq,qq,qq,qq,qq,qq,qq,qq,qq,qq,qq,qq,qq,trivial⟩,?_⟩
       try dsimp only
       rw [eC 18 e8,aS E 18,aQ 18 ag rfl]
       exact hc
      ·intro E θ a w hD hi hp he hc
       have hf:=he.h0.mT he 0 rfl
       refine zP hf rfl (pFA qY rfl) fun a hf=>zD θ he hi hf 23 rfl rfl rfl hc
      ·intro E θ a w hD hi hp he hc
       have ax:=hp.o 18 rfl
       have db:=hp.o 19 rfl
       try dsimp only at hc
       rw [hi] at hc
       have hf:=(he.h0.mP he 22 rfl ax).mP he 23 rfl db
       refine zW hf hc aPr u5 rfl fun w hc=>zG θ he hi hf rfl ?_
       try dsimp only
       rw [aS E 20]
       exact hc
      ·intro E θ a w aj he hc
       have hf:=he.h0
       have e8:=aj 8 rfl
       have ax:=aj 18 rfl
       have ag:=aj 20 rfl
       replace hf:=hf.more he 3 rfl (onT)
       replace hf:=hf.more he 2 rfl (onT)
       replace hf:=hf.more he 1 rfl (onT)
       replace hf:=hf.more he 0 rfl (onT)
       try dsimp only at hc
       rw [e8,ax,ag] at hc
       exact ⟨(θ 144).p,(θ 144).c,hf.kp rfl,hc⟩
      rintro a w ⟨az,a0,hf,hc⟩
      refine cu _ _ ?_
      refine bV ?_
      refine sp 1 hf rfl fun a hf=>aP ?_
      replace hc:=(hc.drop k2).drop k1
      exact bj true (ak++aa) (some ⟨g,0,none⟩) Y az a0 _ _  (hf.kp rfl) hc hF
     ·refine wp_skip ?_
      replace hc:=hc.drop k0
      exact bj X v (some ⟨g,0,none⟩) Y Z V _ _  (hf.kp rfl) hc hF
   ·refine wp_exit ?_
    refine aY ?_
    refine aY ?_
    have he:=sj hF
    rw [← he] at am
    refine fJ ?_
    exact b6 _ _ _ am ⟨av,Y,Z,V,hf.kp rfl,hc⟩
 ·refine wp_exit ?_
  refine aY ?_
  refine aY ?_
  have he:=sj hF
  rw [← he] at ac
  refine fJ ?_
  exact da _ _ _ ac ⟨ai,af,hf.kp rfl,hc⟩

def lQ (N:Nat) (d:aC) (x:aF):Option (Bool) :=
 Option.bind (bN N (⟨x.River,x.found⟩:aF) d) fun r=>
 some (decide (0 < ((r.length:Nat):Int)))
theorem vO {N:Nat} {G:aT} {Lf:List Ent} {w:World} (d:aC) (x:aF) {b_:Nat} {g:Nat} {S:Option Addr} {U:Nat} {H:Option Addr} {M:Nat} {D:Option Addr} {B:Nat} {O:Option Addr} {R:Nat} {J:Option Addr} {I:Nat} {mb:Nat} {n:Hds} (b:Rd G 1 S U (x.River.Down.map aB)) (Y:Rd G 2 H M (x.River.Travel.map aI)) (V:Rd G 1 D B (x.River.Springs.map aB)) (Z:Rd G 3 O R (x.River.Towns.map aG)) (X:RdT cH G 2 J I x.River.Floods) (hc:Ctx G (.box b_ [.func (.func 37) #[pq g] #[]] 96::.box g [.slice S x.River.Down.length U,.slice H x.River.Travel.length M,.slice D x.River.Springs.length B,.slice O x.River.Towns.length R,i6 x.River.Delay.Lo,i6 x.River.Delay.Hi,.slice J x.River.Floods.length I,.map (some mb)] 102::bI mb aW x.found 3 n::Lf) w) {k:Bool} (hF:lQ N d x=some k):Calls Tryz.prog 44 #[.agg #[i6 d.Spring,i6 d.Town],pq b_] w (fun e w=>∃ (j:Hds),e=.returned (.bool k)∧Ctx G (.box b_ [.func (.func 37) #[pq g] #[]] 96::.box g [.slice S x.River.Down.length U,.slice H x.River.Travel.length M,.slice D x.River.Springs.length B,.slice O x.River.Towns.length R,i6 x.River.Delay.Lo,i6 x.River.Delay.Hi,.slice J x.River.Floods.length I,.map (some mb)] 102::bI mb aW x.found 3 j::Lf) w):=by
 unfold lQ at hF
 refine bL Tryz.func44 rfl Tryz.ntmps44 rfl fun a hf=>zS fun K h=>zB hf hc rfl fun m a w hf hc=>sp 1 hf rfl fun a hf=>zT h ?_
 refine zS fun K h=>zL hf hc aLx m1 rfl fun a w hf hc=>zN hf hc jE m0 rfl fun a w hf hc=>?_
 obtain ⟨r,hr,hF⟩:=aA hF
 refine zC hf aH7 rfl (iS (⟨x.River,x.found⟩:aF) d b Y V Z X ((hc.pick k3).pick k3) hr) ?_
 rintro _ w ⟨p,o,q,rfl,hc⟩
 refine ⟨_,rfl,fun a hf=>?_⟩
 refine zP hf rfl (bG Tryz.underlying23 rfl) fun a hf=>sp 2 hf rfl fun a hf=>zT h ?_
 refine wp_ret ?_
 obtain rfl:=sj hF
 obtain ⟨i,hc⟩:=tU ((hc.pick k0).pick k2)
 replace hc:Ctx G (bI mb aW x.found 3 i::.box g [.slice S x.River.Down.length U,.slice H x.River.Travel.length M,.slice D x.River.Springs.length B,.slice O x.River.Towns.length R,i6 x.River.Delay.Lo,i6 x.River.Delay.Hi,.slice J x.River.Floods.length I,.map (some mb)] 102::.box m [i6 d.Spring,i6 d.Town] 62::.box b_ [.func (.func 37) #[pq g] #[]] 96::Lf) w:=hc
 replace hc:=(((hc.drop k2).pick k0).pick k1).pick k2
 exact zO1 Tryz.results44 hf rfl ⟨i,rfl,hc⟩

def iJ (N:Nat) (x:aC) (B:aF):Option (Bool) :=
 Option.bind (lQ N x B) fun r=>
 some (!r)
theorem tM {N:Nat} {G:aT} {Lf:List Ent} {w:World} (x:aC) (M:aF) {b_:Nat} {g:Nat} {i:Nat} {V:Option Addr} {U:Nat} {O:Option Addr} {J:Nat} {D:Option Addr} {B:Nat} {S:Option Addr} {R:Nat} {I:Option Addr} {H:Nat} {mb:Nat} {n:Hds} (d:Rd G 1 V U (M.River.Down.map aB)) (Z:Rd G 2 O J (M.River.Travel.map aI)) (X:Rd G 1 D B (M.River.Springs.map aB)) (b:Rd G 3 S R (M.River.Towns.map aG)) (Y:RdT cH G 2 I H M.River.Floods) (hc:Ctx G (.box b_ [.func (.func 44) #[] #[pq g]] 97::.box g [.func (.func 37) #[pq i] #[]] 96::.box i [.slice V M.River.Down.length U,.slice O M.River.Travel.length J,.slice D M.River.Springs.length B,.slice S M.River.Towns.length R,i6 M.River.Delay.Lo,i6 M.River.Delay.Hi,.slice I M.River.Floods.length H,.map (some mb)] 102::bI mb aW M.found 3 n::Lf) w) {k:Bool} (hF:iJ N x M=some k):Calls Tryz.prog 75 #[.agg #[i6 x.Spring,i6 x.Town],pq b_] w (fun e w=>∃ (j:Hds),e=.returned (.bool k)∧Ctx G (.box b_ [.func (.func 44) #[] #[pq g]] 97::.box g [.func (.func 37) #[pq i] #[]] 96::.box i [.slice V M.River.Down.length U,.slice O M.River.Travel.length J,.slice D M.River.Springs.length B,.slice S M.River.Towns.length R,i6 M.River.Delay.Lo,i6 M.River.Delay.Hi,.slice I M.River.Floods.length H,.map (some mb)] 102::bI mb aW M.found 3 j::Lf) w):=by
 unfold iJ at hF
 refine bL Tryz.func75 rfl Tryz.ntmps75 rfl fun a hf=>zS fun K h=>zB hf hc rfl fun o a w hf hc=>sp 1 hf rfl fun a hf=>zT h ?_
 refine zS fun K h=>zL hf hc sc_97 m1 rfl fun a w hf hc=>zN hf hc jE m0 rfl fun a w hf hc=>?_
 obtain ⟨r,hr,hF⟩:=aA hF
 refine zC hf en_44 rfl (vO x M d Z X b Y (((hc.pick k4).pick k4).pick k4) hr) ?_
 rintro _ w ⟨m,rfl,hc⟩
 refine ⟨_,rfl,fun a hf=>?_⟩
 refine sp 2 hf rfl fun a hf=>zT h ?_
 refine wp_ret ?_
 obtain rfl:=sj hF
 replace hc:=((((hc.drop k3).pick k2).pick k2).pick k2).pick k3
 exact zO1 Tryz.results75 hf rfl ⟨m,rfl,hc⟩

def bJ (N:Nat) (s_:List aC) (f_:aF) (x:Int):Option (bY (Int) (Int)) :=
 cond (decide (x < ((s_.length:Nat):Int)))
 (Option.bind (bE s_ x) fun B=>
 Option.bind (iJ N B f_) fun r=>
 cond r
 (some (.ret x))
 (some (.cont (W (x + 1)))))
 (some (.brk x))
def dZ (N:Nat) (s_:List aC) (f_:aF):Option (Int) :=
 Option.bind (aX (fun s4=>bJ N s_ f_ s4) N 0) fun x4=>
 exK x4 (fun s4=>some (-1)) some
theorem mH {N:Nat} {G:aT} {Lf:List Ent} {w:World} (s_:List aC) (f_:aF) {p:Option Addr} {m:Nat} {b_:Nat} {g:Nat} {i:Nat} {U:Option Addr} {V:Nat} {H:Option Addr} {I:Nat} {D:Option Addr} {B:Nat} {R:Option Addr} {O:Nat} {J:Option Addr} {M:Nat} {mb:Nat} {v:Hds} (z:Rd G 2 p m (s_.map aD)) (d:Rd G 1 U V (f_.River.Down.map aB)) (Z:Rd G 2 H I (f_.River.Travel.map aI)) (X:Rd G 1 D B (f_.River.Springs.map aB)) (b:Rd G 3 R O (f_.River.Towns.map aG)) (Y:RdT cH G 2 J M f_.River.Floods) (hc:Ctx G (.box b_ [.func (.func 44) #[] #[pq g]] 97::.box g [.func (.func 37) #[pq i] #[]] 96::.box i [.slice U f_.River.Down.length V,.slice H f_.River.Travel.length I,.slice D f_.River.Springs.length B,.slice R f_.River.Towns.length O,i6 f_.River.Delay.Lo,i6 f_.River.Delay.Hi,.slice J f_.River.Floods.length M,.map (some mb)] 102::bI mb aW f_.found 3 v::Lf) w) {t:Int} (hF:dZ N s_ f_=some t):Calls Tryz.prog 64 #[.slice p s_.length m,.func (.func 75) #[] #[pq b_]] w (fun e w=>∃ (u:Hds),e=.returned (i6 t)∧Ctx G (.box b_ [.func (.func 44) #[] #[pq g]] 97::.box g [.func (.func 37) #[pq i] #[]] 96::.box i [.slice U f_.River.Down.length V,.slice H f_.River.Travel.length I,.slice D f_.River.Springs.length B,.slice R f_.River.Towns.length O,i6 f_.River.Delay.Lo,i6 f_.River.Delay.Hi,.slice J f_.River.Floods.length M,.map (some mb)] 102::bI mb aW f_.found 3 u::Lf) w):=by
 unfold dZ at hF
 refine bL Tryz.func64 rfl Tryz.ntmps64 rfl fun a hf=>zS fun K h=>sp 1 hf rfl fun a hf=>zT h ?_
 refine wp_seq_k fun K2 h2=>zS fun K h=>sp 1 hf rfl fun a hf=>zP hf rfl (bG Tryz.underlying49 rfl) fun a hf=>sp 1 hf rfl fun a hf=>zT h ?_
 refine wp_block ?_
 obtain ⟨x4,ac,hF⟩:=aA hF
 let S4:Int→Act→World→Prop:=(fun (zz:Int) a w=>∃ (k:Hds),Has 19 a [(0,.slice p s_.length m),(1,.func (.func 75) #[] #[pq b_]),(7,i6 ((s_.length:Nat):Int)),(8,i6 zz)]∧Ctx G (.box b_ [.func (.func 44) #[] #[pq g]] 97::.box g [.func (.func 37) #[pq i] #[]] 96::.box i [.slice U f_.River.Down.length V,.slice H f_.River.Travel.length I,.slice D f_.River.Springs.length B,.slice R f_.River.Towns.length O,i6 f_.River.Delay.Lo,i6 f_.River.Delay.Hi,.slice J f_.River.Floods.length M,.map (some mb)] 102::bI mb aW f_.found 3 k::Lf) w)
 have aa:∀ (zz:Int) a w,x4=.go zz→S4 zz a w→K2 a w:=by
  rintro x a w rfl ⟨k,hf,hc⟩
  replace hF:=bK hF
  refine h2 _ _ ?_
  refine zS fun K h=>sp 1 hf rfl fun a hf=>zT h ?_
  refine wp_ret ?_
  obtain rfl:=sj hF
  exact zO1 Tryz.results64 hf rfl ⟨k,rfl,hc⟩
 have ad:∀ r,x4=.out r→r=t:=by
  rintro r rfl
  exact sj hF
 refine cZ N (cW (S:=S4) (x:=x4) ?_ N 0 _ _ ⟨v,hf.kp rfl,hc⟩ ac)
 clear hF hf hc
 rintro x ag a w KB4 ⟨k,hf,hc⟩ hF j ab
 unfold bJ at hF
 refine zS fun K h=>sp 1 hf rfl fun a hf=>zT h ?_
 refine wp_seq_k fun K7 h7=>zI hf rfl hF ?_ ?_ <;> clear hF <;> intro hF
 ·refine wp_skip ?_
  refine h7 _ _ ?_
  refine wp_seq_k fun K8 h8=>wp_block ?_
  refine zS fun K h=>sp 2 hf rfl fun a hf=>zT h ?_
  refine zS fun K h=>sp 3 hf rfl fun a hf=>?_
  obtain ⟨s,y,hF⟩:=aA hF
  obtain ⟨af,o,qa,qp⟩:=z.atm y
  refine zP hf rfl (pIA Tryz.underlying49 gG rfl rfl qa) fun a hf=>zE hf hc rfl (lK (vs:=[i6 s.Spring,i6 s.Town]) jE rfl rfl (kH qp (n:=2) (o':=0) rfl)) fun a w hf hc=>?_
  obtain ⟨r,hr,hF⟩:=aA hF
  refine zC hf en_75 rfl (tM s f_ d Z X b Y ((((hc.pick k3).pick k3).pick k3).pick k3) hr) ?_
  rintro _ w ⟨q,rfl,hc⟩
  refine ⟨_,rfl,fun a hf=>?_⟩
  refine zT h ?_
  refine zI hf rfl hF ?_ ?_ <;> clear hF <;> intro hF
  ·refine zS fun K h=>sp 2 hf rfl fun a hf=>zT h ?_
   refine wp_ret ?_
   refine bS ?_
   refine aL ?_
   refine aL ?_
   have he:=sj hF
   rw [← he] at j
   replace hF:=ad _ j
   refine bS ?_
   refine aL ?_
   obtain rfl:=hF
   exact zO1 Tryz.results64 hf rfl ⟨q,rfl,hc⟩
  ·refine wp_skip ?_
   refine h8 _ _ ?_
   refine bV ?_
   refine sp 2 hf rfl fun a hf=>aP ?_
   exact ab (W (x + 1)) _ _ (sj hF).symm ⟨q,hf.kp rfl,hc⟩
 ·refine wp_exit ?_
  refine aY ?_
  refine aY ?_
  have he:=sj hF
  rw [← he] at j
  refine fJ ?_
  exact aa _ _ _ j ⟨k,hf.kp rfl,hc⟩

def dH (N:Nat) (s_:List aC) (f_:aF):Option (Bool) :=
 Option.bind (dZ N s_ f_) fun r=>
 some (decide (0≤r))
theorem lN {N:Nat} {G:aT} {Lf:List Ent} {w:World} (s_:List aC) (f_:aF) {j:Option Addr} {i:Nat} {b_:Nat} {d:Nat} {g:Nat} {S:Option Addr} {U:Nat} {H:Option Addr} {I:Nat} {D:Option Addr} {B:Nat} {R:Option Addr} {O:Nat} {J:Option Addr} {M:Nat} {mb:Nat} {p:Hds} (n:Rd G 2 j i (s_.map aD)) (b:Rd G 1 S U (f_.River.Down.map aB)) (Y:Rd G 2 H I (f_.River.Travel.map aI)) (V:Rd G 1 D B (f_.River.Springs.map aB)) (Z:Rd G 3 R O (f_.River.Towns.map aG)) (X:RdT cH G 2 J M f_.River.Floods) (hc:Ctx G (.box b_ [.func (.func 44) #[] #[pq d]] 97::.box d [.func (.func 37) #[pq g] #[]] 96::.box g [.slice S f_.River.Down.length U,.slice H f_.River.Travel.length I,.slice D f_.River.Springs.length B,.slice R f_.River.Towns.length O,i6 f_.River.Delay.Lo,i6 f_.River.Delay.Hi,.slice J f_.River.Floods.length M,.map (some mb)] 102::bI mb aW f_.found 3 p::Lf) w) {m:Bool} (hF:dH N s_ f_=some m):Calls Tryz.prog 66 #[.slice j s_.length i,.func (.func 75) #[] #[pq b_]] w (fun e w=>∃ (k:Hds),e=.returned (.bool m)∧Ctx G (.box b_ [.func (.func 44) #[] #[pq d]] 97::.box d [.func (.func 37) #[pq g] #[]] 96::.box g [.slice S f_.River.Down.length U,.slice H f_.River.Travel.length I,.slice D f_.River.Springs.length B,.slice R f_.River.Towns.length O,i6 f_.River.Delay.Lo,i6 f_.River.Delay.Hi,.slice J f_.River.Floods.length M,.map (some mb)] 102::bI mb aW f_.found 3 k::Lf) w):=by
 unfold dH at hF
 refine bL Tryz.func66 rfl Tryz.ntmps66 rfl fun a hf=>zS fun K h=>sp 1 hf rfl fun a hf=>zT h ?_
 refine zS fun K h=>sp 2 hf rfl fun a hf=>?_
 obtain ⟨r,hr,hF⟩:=aA hF
 refine zC hf aN2 rfl (mH s_ f_ n b Y V Z X ((((hc.pick k3).pick k3).pick k3).pick k3) hr) ?_
 rintro _ w ⟨o,rfl,hc⟩
 refine ⟨_,rfl,fun a hf=>?_⟩
 refine sp 2 hf rfl fun a hf=>zT h ?_
 refine wp_ret ?_
 obtain rfl:=sj hF
 exact zO1 Tryz.results66 hf rfl ⟨o,rfl,hc⟩

def jG (N:Nat) (l:List aC) (so:aF):Option (Bool) :=
 Option.bind (dH N l so) fun r=>
 some (!r)
theorem uV {N:Nat} {G:aT} {Lf:List Ent} {w:World} (l:List aC) (so:aF) {k:Option Addr} {i:Nat} {b_:Nat} {d:Nat} {S:Option Addr} {U:Nat} {I:Option Addr} {J:Nat} {B:Option Addr} {D:Nat} {O:Option Addr} {R:Nat} {M:Option Addr} {H:Nat} {mb:Nat} {p:Hds} (o:Rd G 2 k i (l.map aD)) (b:Rd G 1 S U (so.River.Down.map aB)) (Y:Rd G 2 I J (so.River.Travel.map aI)) (V:Rd G 1 B D (so.River.Springs.map aB)) (Z:Rd G 3 O R (so.River.Towns.map aG)) (X:RdT cH G 2 M H so.River.Floods) (hc:Ctx G (.box b_ [.func (.func 37) #[pq d] #[]] 96::.box d [.slice S so.River.Down.length U,.slice I so.River.Travel.length J,.slice B so.River.Springs.length D,.slice O so.River.Towns.length R,i6 so.River.Delay.Lo,i6 so.River.Delay.Hi,.slice M so.River.Floods.length H,.map (some mb)] 102::bI mb aW so.found 3 p::Lf) w) {j:Bool} (hF:jG N l so=some j):Calls Tryz.prog 43 #[.slice k l.length i,.func (.func 44) #[] #[pq b_]] w (fun e w=>∃ (g:Hds),e=.returned (.bool j)∧Ctx G (.box b_ [.func (.func 37) #[pq d] #[]] 96::.box d [.slice S so.River.Down.length U,.slice I so.River.Travel.length J,.slice B so.River.Springs.length D,.slice O so.River.Towns.length R,i6 so.River.Delay.Lo,i6 so.River.Delay.Hi,.slice M so.River.Floods.length H,.map (some mb)] 102::bI mb aW so.found 3 g::Lf) w):=by
 unfold jG at hF
 refine bL Tryz.func43 rfl Tryz.ntmps43 rfl fun a hf=>zS fun K h=>zB hf hc rfl fun m a w hf hc=>sp 1 hf rfl fun a hf=>zT h ?_
 refine zS fun K h=>sp 1 hf rfl fun a hf=>zP hf rfl (pMF (us:=[pq m]) rfl rfl) fun a hf=>?_
 obtain ⟨r,hr,hF⟩:=aA hF
 refine zC hf aP3 rfl (lN l so o b Y V Z X ((((hc.pick k3).pick k3).pick k3).pick k3) hr) ?_
 rintro _ w ⟨n,rfl,hc⟩
 refine ⟨_,rfl,fun a hf=>?_⟩
 refine sp 2 hf rfl fun a hf=>zT h ?_
 refine wp_ret ?_
 obtain rfl:=sj hF
 replace hc:=hc.drop k0
 exact zO1 Tryz.results43 hf rfl ⟨n,rfl,hc⟩

def iI (N:Nat) (B:Int) (xv:Int) (D:Int):Option (Rs (Int)) :=
 some (.go (W (B + 1)))
def eD (N:Nat) (d:aC) (x:aF):Option (Int) :=
 Option.bind (bN N (⟨x.River,x.found⟩:aF) d) fun r=>
 Option.bind (bE r (W (((r.length:Nat):Int) - 1))) fun I=>
 Option.bind (gW N x.River I) fun B=>
 Option.bind (iD N B.1 (⟨x.River.Down,x.River.Travel,x.River.Springs,x.River.Towns,(⟨B.2.1,B.2.2⟩:aN),x.River.Floods⟩:aH) (rY (fun (zz:Int) (H:(Int × Int))=>iI N zz H.1 H.2)) (.go 0)) fun x6=>
 rsK x6.1 (fun D=>some D) (fun D=>none)
theorem pU {N:Nat} {G:aT} {Lf:List Ent} {w:World} (d:aC) (x:aF) {b_:Nat} {X:Nat} {U:Option Addr} {V:Nat} {H:Option Addr} {M:Nat} {B:Option Addr} {D:Nat} {R:Option Addr} {S:Nat} {I:Option Addr} {O:Nat} {mb:Nat} {ax:Hds} {Z:Nat} (s:Rd G 1 U V (x.River.Down.map aB)) (p:Rd G 2 H M (x.River.Travel.map aI)) (m:Rd G 1 B D (x.River.Springs.map aB)) (q:Rd G 3 R S (x.River.Towns.map aG)) (n:RdT cH G 2 I O x.River.Floods) (hc:Ctx G (.box b_ [.func (.func 37) #[pq X] #[]] 96::.box X [.slice U x.River.Down.length V,.slice H x.River.Travel.length M,.slice B x.River.Springs.length D,.slice R x.River.Towns.length S,i6 x.River.Delay.Lo,i6 x.River.Delay.Hi,.slice I x.River.Floods.length O,.map (some mb)] 102::bI mb aW x.found 3 ax::.box Z [pq X] 71::Lf) w) {ab:Int} (hF:eD N d x=some ab):Calls Tryz.prog 45 #[.agg #[i6 d.Spring,i6 d.Town],pq b_,pq Z] w (fun e w=>∃ (ag:Hds),e=.returned (i6 ab)∧Ctx G (.box b_ [.func (.func 37) #[pq X] #[]] 96::.box X [.slice U x.River.Down.length V,.slice H x.River.Travel.length M,.slice B x.River.Springs.length D,.slice R x.River.Towns.length S,i6 x.River.Delay.Lo,i6 x.River.Delay.Hi,.slice I x.River.Floods.length O,.map (some mb)] 102::bI mb aW x.found 3 ag::.box Z [pq X] 71::Lf) w):=by
 unfold eD at hF
 refine aIf Tryz.func45 rfl Tryz.ntmps45 rfl fun a hf=>zS fun K h=>zB hf hc rfl fun ac a w hf hc=>sp 1 hf rfl fun a hf=>zT h ?_
 refine zS fun K h=>zL hf hc aLx m1 rfl fun a w hf hc=>zN hf hc jE m0 rfl fun a w hf hc=>?_
 obtain ⟨r,hr,hF⟩:=aA hF
 refine zC hf aH7 rfl (iS (⟨x.River,x.found⟩:aF) d s p m q n ((hc.pick k3).pick k3) hr) ?_
 rintro _ w ⟨a1,aa,aj,rfl,hc⟩
 refine ⟨_,rfl,fun a hf=>?_⟩
 refine sp 1 hf rfl fun a hf=>zT h ?_
 refine zS fun K h=>zA hf hc aJs rfl fun t a w hf hc=>zW hf hc fO u0 rfl fun w hc=>zT h ?_
 refine wp_seq_k fun K4 h4=>wp_seq_k fun K5 h5=>?_
 obtain ⟨ak,ap,hF⟩:=aA hF
 have ay:=hf
 obtain ⟨g,rfl,qa,qr⟩:=hP hc m1 ap
 have hf:=ay
 obtain ⟨Y,aq,hF⟩:=aA hF
 replace hc:=hc.nilRow 0 0
 replace hc:=hc.nilRow 0 0
 refine eL (fun θ=>[⟨none,none,2,pq Z⟩,⟨none,none,5,.slice (some ⟨g,0,none⟩) r.length aa⟩,⟨none,none,6,pq t⟩,⟨some 0,none,10,pq X⟩,⟨some 1,none,11,pq X⟩,⟨some 2,none,12,pq X⟩,⟨some 3,none,13,.agg #[.slice U x.River.Down.length V,.slice H x.River.Travel.length M,.slice B x.River.Springs.length D,.slice R x.River.Towns.length S,i6 x.River.Delay.Lo,i6 x.River.Delay.Hi,.slice I x.River.Floods.length O]⟩,⟨some 4,none,14,.slice (some ⟨g,0,none⟩) r.length aa⟩,⟨some 5,none,15,.slice (some ⟨g,0,none⟩) r.length aa⟩,⟨some 6,none,16,i6 ((r.length:Nat):Int)⟩,⟨some 7,none,17,i6 (W (((r.length:Nat):Int) - 1))⟩,⟨some 8,none,18,.pointer (some ⟨g,(W (((r.length:Nat):Int) - 1)).toNat * 1,none⟩)⟩,⟨some 9,none,19,i6 ak⟩,⟨some 10,none,20,.func (.func 76) #[] #[.pointer (some ⟨(θ 80).b,0,none⟩),.pointer (some ⟨(θ 81).b,0,none⟩)]⟩]) (fun E θ=>(bif E 10 then .box (θ 81).b [.slice U x.River.Down.length V,.slice H x.River.Travel.length M,.slice B x.River.Springs.length D,.slice R x.River.Towns.length S,i6 Y.2.1,i6 Y.2.2,.slice I x.River.Floods.length O] 30 else .row none 0 [] 0 0)::(bif E 10 then .box (θ 80).b [i6 Y.1] 3 else .row none 0 [] 0 0)::.box t [i6 0] 3::.row (some ⟨g,0,none⟩) aa (r.map aB) 3 1::.box X [.slice U x.River.Down.length V,.slice H x.River.Travel.length M,.slice B x.River.Springs.length D,.slice R x.River.Towns.length S,i6 x.River.Delay.Lo,i6 x.River.Delay.Hi,.slice I x.River.Floods.length O,.map (some mb)] 102::aAw mb aW x.found 3 aj (d.Spring,d.Town) (some ⟨g,0,none⟩) aa r::.box ac [i6 d.Spring,i6 d.Town] 62::.box b_ [.func (.func 37) #[pq X] #[]] 96::.box Z [pq X] 71::Lf) [] (fun a w=>∃ (z:Nat) (y:Nat),Has 26 a [(6,pq t),(20,.func (.func 76) #[] #[pq z,pq y])]∧Ctx G (.box y [.slice U x.River.Down.length V,.slice H x.River.Travel.length M,.slice B x.River.Springs.length D,.slice R x.River.Towns.length S,i6 Y.2.1,i6 Y.2.2,.slice I x.River.Floods.length O] 30::.box z [i6 Y.1] 3::.box t [i6 0] 3::.row (some ⟨g,0,none⟩) aa (r.map aB) 3 1::.box X [.slice U x.River.Down.length V,.slice H x.River.Travel.length M,.slice B x.River.Springs.length D,.slice R x.River.Towns.length S,i6 x.River.Delay.Lo,i6 x.River.Delay.Hi,.slice I x.River.Floods.length O,.map (some mb)] 102::aAw mb aW x.found 3 aj (d.Spring,d.Town) (some ⟨g,0,none⟩) aa r::.box ac [i6 d.Spring,i6 d.Town] 62::.box b_ [.func (.func 37) #[pq X] #[]] 96::.box Z [pq X] 71::Lf) w) bA (by kernel_rfl) (by kernel_rfl) (fN.of hf ⟨rfl,rfl,rfl,trivial,trivial,trivial,trivial,trivial,trivial,trivial,trivial,trivial,trivial,trivial,trivial⟩) hc ⟨?_,?_,?_,?_,?_,?_,?_,?_,?_,?_,?_,trivial⟩ ?_ ?_
 ·intro E θ a w hD hi hp he hc
  have hf:=he.h0.mT he 0 rfl
  refine zL hf hc vB m8 rfl fun a w hf hc=>zD θ he hi hf 3 rfl rfl rfl hc
 ·intro E θ a w hD hi hp he hc
  have e0:=hp.o 0 rfl
  have hf:=he.h0.mP he 3 rfl e0
  refine sp 1 hf rfl fun a hf=>zD θ he hi hf 4 rfl rfl rfl hc
 ·intro E θ a w hD hi hp he hc
  have e1:=hp.o 1 rfl
  have hf:=he.h0.mP he 4 rfl e1
  refine zP hf rfl (pFA sQ rfl) fun a hf=>zD θ he hi hf 5 rfl rfl rfl hc
 ·intro E θ a w hD hi hp he hc
  have e2:=hp.o 2 rfl
  have hf:=he.h0.mP he 5 rfl e2
  refine zN hf hc oK m4 rfl fun a w hf hc=>zD θ he hi hf 6 rfl rfl rfl hc
 ·intro E θ a w hD hi hp he hc
  have hf:=he.h0.mT he 1 rfl
  refine sp 1 hf rfl fun a hf=>zD θ he hi hf 7 rfl rfl rfl hc
 ·intro E θ a w hD hi hp he hc
  have hf:=he.h0.mT he 1 rfl
  refine sp 1 hf rfl fun a hf=>zD θ he hi hf 8 rfl rfl rfl hc
 ·intro E θ a w hD hi hp he hc
  have e5:=hp.o 5 rfl
  have hf:=he.h0.mP he 8 rfl e5
  refine zP hf rfl (bG Tryz.underlying23 rfl) fun a hf=>zD θ he hi hf 9 rfl rfl rfl hc
 ·intro E θ a w hD hi hp he hc
  have e6:=hp.o 6 rfl
  have hf:=he.h0.mP he 9 rfl e6
  refine sp 1 hf rfl fun a hf=>zD θ he hi hf 10 rfl rfl rfl hc
 ·intro E θ a w hD hi hp he hc
  have e4:=hp.o 4 rfl
  have e7:=hp.o 7 rfl
  have hf:=(he.h0.mP he 7 rfl e4).mP he 10 rfl e7
  refine zP hf rfl (pIA Tryz.underlying23 fO rfl rfl qa) fun a hf=>zD θ he hi hf 11 rfl rfl rfl hc
 ·intro E θ a w hD hi hp he hc
  have e8:=hp.o 8 rfl
  have hf:=he.h0.mP he 11 rfl e8
  refine zE hf hc rfl (eP cR rfl (fZ (sz:=1) (i:=(W (((r.length:Nat):Int) - 1)).toNat) (j:=0) m3 qr rfl)) fun a w hf hc=>zD θ he hi hf 12 rfl rfl rfl hc
 ·intro E θ a w hD hi hp he hc
  have e3:=hp.o 3 rfl
  have e9:=hp.o 9 rfl
  try dsimp only at hc
  rw [hi] at hc
  have hf:=(he.h0.mP he 6 rfl e3).mP he 12 rfl e9
  refine zC hf aKe rfl (nY x.River ak s p m q n hc aq) ?_
  rintro _ w ⟨au,az,rfl,hc⟩
  refine ⟨_,rfl,fun a hf=>?_⟩
  refine aP ?_
  refine eJ ?_
  intro ds u av
  replace hc:=(((hc.drop k3).drop k2).pick k0).pick k1
  refine ⟨(nF (nF θ 80 ⟨au,none,0,(fun _=>(none,0))⟩) 81 ⟨az,none,0,(fun _=>(none,0))⟩),he.put hi av hf rfl [] trivial ⟨qq,qq,qq,qq,qq,qq,qq,qq,qq,qq,qq,qq,qq,qq,trivial⟩,?_⟩
  try dsimp only
  rw [aS E 10]
  exact hc
 ·intro E θ a w an he hc
  have hf:=he.h0
  have ai:=an 10 rfl
  replace hf:=hf.more he 13 rfl (onP ai)
  replace hf:=hf.more he 2 rfl (onT)
  try dsimp only at hc
  rw [ai] at hc
  exact ⟨(θ 80).b,(θ 81).b,hf.kp rfl,hc⟩
 rintro a w ⟨z,y,hf,hc⟩
 obtain ⟨k,hc⟩:=tU ((hc.pick k3).pick k5)
 replace hc:Ctx G (bI mb aW x.found 3 k::.box y [.slice U x.River.Down.length V,.slice H x.River.Travel.length M,.slice B x.River.Springs.length D,.slice R x.River.Towns.length S,i6 Y.2.1,i6 Y.2.2,.slice I x.River.Floods.length O] 30::.box z [i6 Y.1] 3::.box t [i6 0] 3::.box X [.slice U x.River.Down.length V,.slice H x.River.Travel.length M,.slice B x.River.Springs.length D,.slice R x.River.Towns.length S,i6 x.River.Delay.Lo,i6 x.River.Delay.Hi,.slice I x.River.Floods.length O,.map (some mb)] 102::.box ac [i6 d.Spring,i6 d.Town] 62::.box b_ [.func (.func 37) #[pq X] #[]] 96::.box Z [pq X] 71::Lf) w:=hc
 refine h5 _ _ ?_
 obtain ⟨x6,ar,hF⟩:=aA hF
 replace hc:=(((hc.drop k5).pick k0).pick k1).pick k2
 refine aEw (C:=[.box z [i6 Y.1] 3,.box y [.slice U x.River.Down.length V,.slice H x.River.Travel.length M,.slice B x.River.Springs.length D,.slice R x.River.Towns.length S,i6 Y.2.1,i6 Y.2.2,.slice I x.River.Floods.length O] 30]) (C2:=[.box z [i6 x6.2] 3,.box y [.slice U x.River.Down.length V,.slice H x.River.Travel.length M,.slice B x.River.Springs.length D,.slice R x.River.Towns.length S,i6 Y.2.1,i6 Y.2.2,.slice I x.River.Floods.length O] 30]) (L0:=[bI mb aW x.found 3 k,.box t [i6 0] 3,.box X [.slice U x.River.Down.length V,.slice H x.River.Travel.length M,.slice B x.River.Springs.length D,.slice R x.River.Towns.length S,i6 x.River.Delay.Lo,i6 x.River.Delay.Hi,.slice I x.River.Floods.length O,.map (some mb)] 102,.box b_ [.func (.func 37) #[pq X] #[]] 96,.box Z [pq X] 71]) (Lf:=Lf) (encs:=fun x:(Int × Int)=>[i6 x.1,i6 x.2]) (fun (zz:Int) L=>L=[bI mb aW x.found 3 k,.box t [i6 zz] 3,.box X [.slice U x.River.Down.length V,.slice H x.River.Travel.length M,.slice B x.River.Springs.length D,.slice R x.River.Towns.length S,i6 x.River.Delay.Lo,i6 x.River.Delay.Hi,.slice I x.River.Floods.length O,.map (some mb)] 102,.box b_ [.func (.func 37) #[pq X] #[]] 96,.box Z [pq X] 71]) (fun (zz:Int) (am:(Int × Int))=>iI N zz am.1 am.2) 0 x6.1 hf hc rfl aKs (fun _=>rfl) rfl rfl ?_ ?_ ?_ ?_
 ·intro lq mq J L Lx w hy hJ hc
  exact mJ Y.1 (⟨x.River.Down,x.River.Travel,x.River.Springs,x.River.Towns,(⟨Y.2.1,Y.2.2⟩:aN),x.River.Floods⟩:aH) s p m q n J _ hy _ hJ hc ar
 ·clear hF hf hc
  rintro lq mq v ⟨xv,af⟩ oq _ Lr Lb a w a0 rfl hF hf hc hK
  replace hf:Has 26 a [(6,pq t),(21,i6 xv),(22,i6 af)]:=hf.kp rfl
  replace hc:Ctx G (bI mb aW x.found 3 k::.box t [i6 v] 3::.box X [.slice U x.River.Down.length V,.slice H x.River.Travel.length M,.slice B x.River.Springs.length D,.slice R x.River.Towns.length S,i6 x.River.Delay.Lo,i6 x.River.Delay.Hi,.slice I x.River.Floods.length O,.map (some mb)] 102::.box b_ [.func (.func 37) #[pq X] #[]] 96::.box Z [pq X] 71::Lr) w:=hc
  replace hF:iI N v xv af=some oq:=hF
  unfold iI at hF
  refine aC6 ?_
  refine hK _ _ [bI mb aW x.found 3 k,.box t [i6 v] 3,.box X [.slice U x.River.Down.length V,.slice H x.River.Travel.length M,.slice B x.River.Springs.length D,.slice R x.River.Towns.length S,i6 x.River.Delay.Lo,i6 x.River.Delay.Hi,.slice I x.River.Floods.length O,.map (some mb)] 102,.box b_ [.func (.func 37) #[pq X] #[]] 96,.box Z [pq X] 71] hc fun w hc=>?_
  replace hc:Ctx G (bI mb aW x.found 3 k::.box t [i6 v] 3::.box X [.slice U x.River.Down.length V,.slice H x.River.Travel.length M,.slice B x.River.Springs.length D,.slice R x.River.Towns.length S,i6 x.River.Delay.Lo,i6 x.River.Delay.Hi,.slice I x.River.Floods.length O,.map (some mb)] 102::.box b_ [.func (.func 37) #[pq X] #[]] 96::.box Z [pq X] 71::Lb) w:=hc
  refine aE8 fun K7 h7=>aA8 ?_
  refine vN (fun _ _ h=>h) rfl ?_
  refine zL hf hc cR m1 rfl fun a w hf hc=>sp 1 hf rfl fun a hf=>zW hf hc fO u1 rfl fun w hc=>aP ?_
  refine h7 _ _ ?_
  exact ⟨W (v + 1),_,(sj hF).symm,rfl,hc⟩
 ·rintro D_1 v _ a w ad rfl hf hc
  replace hf:Has ⟨26,tE (D_1::[])⟩ a [(6,pq t)]:=hf.kp rfl
  replace hc:Ctx G (.box z [i6 x6.2] 3::.box y [.slice U x.River.Down.length V,.slice H x.River.Travel.length M,.slice B x.River.Springs.length D,.slice R x.River.Towns.length S,i6 Y.2.1,i6 Y.2.2,.slice I x.River.Floods.length O] 30::bI mb aW x.found 3 k::.box t [i6 v] 3::.box X [.slice U x.River.Down.length V,.slice H x.River.Travel.length M,.slice B x.River.Springs.length D,.slice R x.River.Towns.length S,i6 x.River.Delay.Lo,i6 x.River.Delay.Hi,.slice I x.River.Floods.length O,.map (some mb)] 102::.box b_ [.func (.func 37) #[pq X] #[]] 96::.box Z [pq X] 71::(aAc (D_1::[])++Lf)) w:=vJ (C:=[.box z [i6 x6.2] 3,.box y [.slice U x.River.Down.length V,.slice H x.River.Travel.length M,.slice B x.River.Springs.length D,.slice R x.River.Towns.length S,i6 Y.2.1,i6 Y.2.2,.slice I x.River.Floods.length O] 30]) (L:=[bI mb aW x.found 3 k,.box t [i6 v] 3,.box X [.slice U x.River.Down.length V,.slice H x.River.Travel.length M,.slice B x.River.Springs.length D,.slice R x.River.Towns.length S,i6 x.River.Delay.Lo,i6 x.River.Delay.Hi,.slice I x.River.Floods.length O,.map (some mb)] 102,.box b_ [.func (.func 37) #[pq X] #[]] 96,.box Z [pq X] 71]) hc
  replace hF:(some v)=some ab:=by rcases ad with h_ | h_ <;> (rw [h_] at hF; exact hF)
  refine h4 _ _ ?_
  refine zS fun K h=>zL hf hc cR m3 rfl fun a w hf hc=>sp 1 hf rfl fun a hf=>zT h ?_
  refine wp_ret ?_
  obtain rfl:=sj hF
  replace hc:=(((((hc.drop k3).drop k1).drop k0).pick k0).pick k1).pick k2
  refine aA3 hf ?_
  refine aAr [.box b_ [.func (.func 37) #[pq X] #[]] 96,.box X [.slice U x.River.Down.length V,.slice H x.River.Travel.length M,.slice B x.River.Springs.length D,.slice R x.River.Towns.length S,i6 x.River.Delay.Lo,i6 x.River.Delay.Hi,.slice I x.River.Floods.length O,.map (some mb)] 102,bI mb aW x.found 3 k,.box Z [pq X] 71] (D_1::[]) hc fun w hc=>?_
  replace hc:Ctx G (.box b_ [.func (.func 37) #[pq X] #[]] 96::.box X [.slice U x.River.Down.length V,.slice H x.River.Travel.length M,.slice B x.River.Springs.length D,.slice R x.River.Towns.length S,i6 x.River.Delay.Lo,i6 x.River.Delay.Hi,.slice I x.River.Floods.length O,.map (some mb)] 102::bI mb aW x.found 3 k::.box Z [pq X] 71::Lf) w:=hc
  exact yY Tryz.results45 hf hc (show gR _ 4=_ from rfl) ⟨k,rfl,hc⟩
 ·rintro D_1 v _ a w ad rfl hf hc
  replace hf:Has ⟨26,tE (D_1::[])⟩ a [(6,pq t)]:=hf.kp rfl
  replace hc:Ctx G (.box z [i6 x6.2] 3::.box y [.slice U x.River.Down.length V,.slice H x.River.Travel.length M,.slice B x.River.Springs.length D,.slice R x.River.Towns.length S,i6 Y.2.1,i6 Y.2.2,.slice I x.River.Floods.length O] 30::bI mb aW x.found 3 k::.box t [i6 v] 3::.box X [.slice U x.River.Down.length V,.slice H x.River.Travel.length M,.slice B x.River.Springs.length D,.slice R x.River.Towns.length S,i6 x.River.Delay.Lo,i6 x.River.Delay.Hi,.slice I x.River.Floods.length O,.map (some mb)] 102::.box b_ [.func (.func 37) #[pq X] #[]] 96::.box Z [pq X] 71::(aAc (D_1::[])++Lf)) w:=vJ (C:=[.box z [i6 x6.2] 3,.box y [.slice U x.River.Down.length V,.slice H x.River.Travel.length M,.slice B x.River.Springs.length D,.slice R x.River.Towns.length S,i6 Y.2.1,i6 Y.2.2,.slice I x.River.Floods.length O] 30]) (L:=[bI mb aW x.found 3 k,.box t [i6 v] 3,.box X [.slice U x.River.Down.length V,.slice H x.River.Travel.length M,.slice B x.River.Springs.length D,.slice R x.River.Towns.length S,i6 x.River.Delay.Lo,i6 x.River.Delay.Hi,.slice I x.River.Floods.length O,.map (some mb)] 102,.box b_ [.func (.func 37) #[pq X] #[]] 96,.box Z [pq X] 71]) hc
  replace hF:(none)=some ab:=by rw [ad] at hF; exact hF
  cases hF

def kA (x:Int):Bool :=
 (x != x)
theorem vX {G:aT} {Lf:List Ent} {w:World} (x:Int)   (hc:Ctx G (Lf) w) {B:Bool} (hF:kA x=B):Calls Tryz.prog 78 #[i6 x] w (fun e w=>e=.returned (.bool B)∧Ctx G (Lf) w):=by
 unfold kA at hF
 refine bL Tryz.func78 rfl Tryz.ntmps78 rfl fun a hf=>zS fun K h=>sp 1 hf rfl fun a hf=>zT h ?_
 refine zS fun K h=>sp 4 hf rfl fun a hf=>zT h ?_
 refine wp_ret ?_
 obtain rfl:=hF
 exact zO1 Tryz.results78 hf rfl ⟨rfl,hc⟩

def gX (x:Int) (y:Int):Int :=
 cond (kA x)
 (cond (kA y)
 (0)
 ((-1)))
 (cond (kA y)
 (1)
 (cond (decide (x < y))
 ((-1))
 (cond (decide (y < x))
 (1)
 (0))))
theorem aA5 {G:aT} {Lf:List Ent} {w:World} (x:Int) (y:Int)   (hc:Ctx G (Lf) w) {B:Int} (hF:gX x y=B):Calls Tryz.prog 49 #[i6 x,i6 y] w (fun e w=>e=.returned (i6 B)∧Ctx G (Lf) w):=by
 unfold gX at hF
 refine bL Tryz.func49 rfl Tryz.ntmps49 rfl fun a hf=>zS fun K h=>sp 1 hf rfl fun a hf=>zT h ?_
 refine zS fun K h=>sp 1 hf rfl fun a hf=>zQ (v:=.bool (kA x)) hf hc aQg rfl (fun w hc=>vX x hc rfl) fun a w hf hc=>sp 1 hf rfl fun a hf=>zT h ?_
 refine zS fun K h=>sp 1 hf rfl fun a hf=>zQ (v:=.bool (kA y)) hf hc aQg rfl (fun w hc=>vX y hc rfl) fun a w hf hc=>sp 1 hf rfl fun a hf=>zT h ?_
 refine wp_seq_k fun K4 h4=>zS fun K h=>sp 1 hf rfl fun a hf=>zT h ?_
 refine zI hf rfl hF ?_ ?_ <;> clear hF <;> intro hF
 ·refine wp_seq_k fun K6 h6=>zS fun K h=>sp 1 hf rfl fun a hf=>zT h ?_
  refine zI hf rfl hF ?_ ?_ <;> clear hF <;> intro hF
  ·refine zS fun K h=>sp 1 hf rfl fun a hf=>zT h ?_
   refine wp_ret ?_
   refine aL ?_
   refine aL ?_
   obtain rfl:=hF
   exact zO1 Tryz.results49 hf rfl ⟨rfl,hc⟩
  ·refine wp_skip ?_
   refine h6 _ _ ?_
   refine zS fun K h=>sp 1 hf rfl fun a hf=>zT h ?_
   refine wp_ret ?_
   refine aL ?_
   obtain rfl:=hF
   exact zO1 Tryz.results49 hf rfl ⟨rfl,hc⟩
 ·refine wp_skip ?_
  refine h4 _ _ ?_
  refine wp_seq_k fun K10 I=>zS fun K h=>sp 1 hf rfl fun a hf=>zT h ?_
  refine zI hf rfl hF ?_ ?_ <;> clear hF <;> intro hF
  ·refine zS fun K h=>sp 1 hf rfl fun a hf=>zT h ?_
   refine wp_ret ?_
   refine aL ?_
   obtain rfl:=hF
   exact zO1 Tryz.results49 hf rfl ⟨rfl,hc⟩
  ·refine wp_skip ?_
   refine I _ _ ?_
   refine wp_seq_k fun K13 H=>zS fun K h=>sp 3 hf rfl fun a hf=>zT h ?_
   refine zI hf rfl hF ?_ ?_ <;> clear hF <;> intro hF
   ·refine zS fun K h=>sp 1 hf rfl fun a hf=>zT h ?_
    refine wp_ret ?_
    refine aL ?_
    obtain rfl:=hF
    exact zO1 Tryz.results49 hf rfl ⟨rfl,hc⟩
   ·refine wp_skip ?_
    refine H _ _ ?_
    refine wp_seq_k fun K16 D=>zS fun K h=>sp 3 hf rfl fun a hf=>zT h ?_
    refine zI hf rfl hF ?_ ?_ <;> clear hF <;> intro hF
    ·refine zS fun K h=>sp 1 hf rfl fun a hf=>zT h ?_
     refine wp_ret ?_
     refine aL ?_
     obtain rfl:=hF
     exact zO1 Tryz.results49 hf rfl ⟨rfl,hc⟩
    ·refine wp_skip ?_
     refine D _ _ ?_
     refine zS fun K h=>sp 1 hf rfl fun a hf=>zT h ?_
     refine wp_ret ?_
     obtain rfl:=hF
     exact zO1 Tryz.results49 hf rfl ⟨rfl,hc⟩

def eW (N:Nat) (a_:aC) (b_:aC) (x:aF):Option (Int) :=
 Option.bind (eD N b_ (⟨x.River,x.found⟩:aF)) fun r=>
 Option.bind (eD N a_ (⟨x.River,x.found⟩:aF)) fun B=>
 some (gX r B)
theorem kB {N:Nat} {G:aT} {Lf:List Ent} {w:World} (a_:aC) (b_:aC) (x:aF) {j:Nat} {g:Nat} {V:Nat} {S:Option Addr} {U:Nat} {H:Option Addr} {J:Nat} {D:Option Addr} {B:Nat} {O:Option Addr} {R:Nat} {M:Option Addr} {I:Nat} {mb:Nat} {aa:Hds} {d:Nat} (i:Rd G 1 S U (x.River.Down.map aB)) (Z:Rd G 2 H J (x.River.Travel.map aI)) (X:Rd G 1 D B (x.River.Springs.map aB)) (b:Rd G 3 O R (x.River.Towns.map aG)) (Y:RdT cH G 2 M I x.River.Floods) (hc:Ctx G (.box j [.func (.func 45) #[] #[pq g,pq d]] 107::.box g [.func (.func 37) #[pq V] #[]] 96::.box V [.slice S x.River.Down.length U,.slice H x.River.Travel.length J,.slice D x.River.Springs.length B,.slice O x.River.Towns.length R,i6 x.River.Delay.Lo,i6 x.River.Delay.Hi,.slice M x.River.Floods.length I,.map (some mb)] 102::bI mb aW x.found 3 aa::.box d [pq V] 71::Lf) w) {z:Int} (hF:eW N a_ b_ x=some z):Calls Tryz.prog 48 #[.agg #[i6 a_.Spring,i6 a_.Town],.agg #[i6 b_.Spring,i6 b_.Town],pq j] w (fun e w=>∃ (y:Hds),e=.returned (i6 z)∧Ctx G (.box j [.func (.func 45) #[] #[pq g,pq d]] 107::.box g [.func (.func 37) #[pq V] #[]] 96::.box V [.slice S x.River.Down.length U,.slice H x.River.Travel.length J,.slice D x.River.Springs.length B,.slice O x.River.Towns.length R,i6 x.River.Delay.Lo,i6 x.River.Delay.Hi,.slice M x.River.Floods.length I,.map (some mb)] 102::bI mb aW x.found 3 y::.box d [pq V] 71::Lf) w):=by
 unfold eW at hF
 refine bL Tryz.func48 rfl Tryz.ntmps48 rfl fun a hf=>zS fun K h=>zB hf hc rfl fun p a w hf hc=>zB hf hc rfl fun q a w hf hc=>sp 1 hf rfl fun a hf=>zT h ?_
 refine wp_seq_k fun K2 h2=>?_
 obtain ⟨r,hr,hF⟩:=aA hF
 obtain ⟨k,ab,hF⟩:=aA hF
 refine eL (fun θ=>[⟨none,none,2,pq j⟩,⟨none,none,3,pq p⟩,⟨none,none,4,pq q⟩,⟨none,some 7,5,i6 0⟩,⟨some 0,none,6,.func (.func 45) #[] #[pq g,pq d]⟩,⟨some 1,none,7,.agg #[i6 b_.Spring,i6 b_.Town]⟩,⟨some 2,none,8,i6 r⟩,⟨some 3,none,9,.func (.func 45) #[] #[pq g,pq d]⟩,⟨some 4,none,10,.agg #[i6 a_.Spring,i6 a_.Town]⟩,⟨some 5,none,11,i6 k⟩,⟨some 6,none,12,i6 (gX r k)⟩,⟨some 7,none,5,i6 (gX r k)⟩]) (fun E θ=>.box q [i6 b_.Spring,i6 b_.Town] 62::.box p [i6 a_.Spring,i6 a_.Town] 62::.box j [.func (.func 45) #[] #[pq g,pq d]] 107::.box g [.func (.func 37) #[pq V] #[]] 96::.box V [.slice S x.River.Down.length U,.slice H x.River.Travel.length J,.slice D x.River.Springs.length B,.slice O x.River.Towns.length R,i6 x.River.Delay.Lo,i6 x.River.Delay.Hi,.slice M x.River.Floods.length I,.map (some mb)] 102::(bif E 5 then bI mb aW x.found 3 ((θ 40).h) else bif E 2 then bI mb aW x.found 3 ((θ 16).h) else bI mb aW x.found 3 aa)::.box d [pq V] 71::Lf) [(5,2)] (fun a w=>∃ (m:Hds),Has 13 a [(5,i6 (gX r k))]∧Ctx G (.box q [i6 b_.Spring,i6 b_.Town] 62::.box p [i6 a_.Spring,i6 a_.Town] 62::.box j [.func (.func 45) #[] #[pq g,pq d]] 107::.box g [.func (.func 37) #[pq V] #[]] 96::.box V [.slice S x.River.Down.length U,.slice H x.River.Travel.length J,.slice D x.River.Springs.length B,.slice O x.River.Towns.length R,i6 x.River.Delay.Lo,i6 x.River.Delay.Hi,.slice M x.River.Floods.length I,.map (some mb)] 102::bI mb aW x.found 3 m::.box d [pq V] 71::Lf) w) bA (by kernel_rfl) (by kernel_rfl) (fN.of hf ⟨rfl,rfl,rfl,rfl,trivial,trivial,trivial,trivial,trivial,trivial,trivial,trivial,trivial⟩) hc ⟨?_,?_,?_,?_,?_,?_,?_,?_,trivial⟩ ?_ ?_
 ·intro E θ a w hD hi hp he hc
  have hf:=he.h0.mT he 0 rfl
  refine zL hf hc aMt m2 rfl fun a w hf hc=>zD θ he hi hf 4 rfl rfl rfl hc
 ·intro E θ a w hD hi hp he hc
  have hf:=he.h0.mT he 2 rfl
  refine zN hf hc jE m0 rfl fun a w hf hc=>zD θ he hi hf 5 rfl rfl rfl hc
 ·intro E θ a w hD hi hp he hc
  have e0:=hp.o 0 rfl
  have e1:=hp.o 1 rfl
  have e5:=hD.f 0 rfl hi
  try dsimp only at hc
  rw [hi,e5] at hc
  have hf:=(he.h0.mP he 4 rfl e0).mP he 5 rfl e1
  refine zC hf aO7 rfl (pU b_ (⟨x.River,x.found⟩:aF) i Z X b Y ((((hc.pick k6).pick k6).pick k6).pick k6) hr) ?_
  rintro _ w ⟨ac,rfl,hc⟩
  refine ⟨_,rfl,fun a hf=>?_⟩
  refine aP ?_
  refine eJ ?_
  intro ds u s
  replace hc:=((((((hc.pick k3).pick k3).pick k3).pick k3).pick k6).pick k6).pick k6
  refine ⟨(nF θ 16 ⟨0,none,0,ac⟩),he.put hi s hf rfl [] trivial ⟨qq,qq,qq,qq,qq,qq,qq,qq,qq,qq,qq,qq,trivial⟩,?_⟩
  try dsimp only
  rw [aS E 2,aQ 2 e5 rfl]
  exact hc
 ·intro E θ a w hD hi hp he hc
  have hf:=he.h0.mT he 0 rfl
  refine zL hf hc aMt m2 rfl fun a w hf hc=>zD θ he hi hf 7 rfl rfl rfl hc
 ·intro E θ a w hD hi hp he hc
  have hf:=he.h0.mT he 1 rfl
  refine zN hf hc jE m1 rfl fun a w hf hc=>zD θ he hi hf 8 rfl rfl rfl hc
 ·intro E θ a w hD hi hp he hc
  have e3:=hp.o 3 rfl
  have e4:=hp.o 4 rfl
  have e2:=hp.o 2 rfl
  try dsimp only at hc
  rw [e2,hi] at hc
  have hf:=(he.h0.mP he 7 rfl e3).mP he 8 rfl e4
  refine zC hf aO7 rfl (pU a_ (⟨x.River,x.found⟩:aF) i Z X b Y ((((hc.pick k6).pick k6).pick k6).pick k6) ab) ?_
  rintro _ w ⟨t,rfl,hc⟩
  refine ⟨_,rfl,fun a hf=>?_⟩
  refine aP ?_
  refine eJ ?_
  intro ds u s
  replace hc:=((((((hc.pick k3).pick k3).pick k3).pick k3).pick k6).pick k6).pick k6
  refine ⟨(nF θ 40 ⟨0,none,0,t⟩),he.put hi s hf rfl [] trivial ⟨qq,qq,qq,qq,qq,qq,qq,qq,qq,qq,qq,qq,trivial⟩,?_⟩
  try dsimp only
  rw [eC 5 e2,aS E 5]
  exact hc
 ·intro E θ a w hD hi hp he hc
  have e2:=hp.o 2 rfl
  have e5:=hp.o 5 rfl
  have hf:=(he.h0.mP he 6 rfl e2).mP he 9 rfl e5
  refine zQ (v:=i6 (gX r k)) hf hc en_49 rfl (fun w hc=>aA5 r k hc rfl) fun a w hf hc=>zD θ he hi hf 10 rfl rfl rfl hc
 ·intro E θ a w hD hi hp he hc
  have e6:=hp.o 6 rfl
  have hf:=he.h0.mP he 10 rfl e6
  refine sp 1 hf rfl fun a hf=>zD θ he hi hf 11 rfl rfl rfl hc
 ·intro E θ a w n he hc
  have hf:=he.h0
  have e2:=n 2 rfl
  have e5:=n 5 rfl
  have e7:=n 7 rfl
  replace hf:=hf.more he 11 rfl (onP e7)
  try dsimp only at hc
  rw [e2,e5] at hc
  exact ⟨(θ 40).h,hf.kp rfl,hc⟩
 rintro a w ⟨m,hf,hc⟩
 refine h2 _ _ ?_
 refine wp_ret ?_
 obtain rfl:=sj hF
 replace hc:=(hc.drop k1).drop k0
 exact zO1 Tryz.results48 hf rfl ⟨m,rfl,hc⟩

def bU (N:Nat) (a_:Int) (M:aF) (B:List aC) (D:Int):Option (bY ((List aC) × Int) (bY ((List aC) × Int) ((List aC)))) :=
 Option.bind (cond (decide (a_ < D))
 (Option.bind (bE B D) fun J=>
 Option.bind (bE B (W (D - 1))) fun O=>
 Option.bind (eW N J O M) fun r=>
 some (decide (r < 0)))
 (some false)) fun rg=>
 cond rg
 (Option.bind (bE B (W (D - 1))) fun H=>
 Option.bind (bE B D) fun I=>
 Option.bind (bE B D) fun R=>
 Option.bind (bE B (W (D - 1))) fun S=>
 some (.cont (((B.set D.toNat H).set (W (D - 1)).toNat I),W (D - 1))))
 (some (.brk (B,D)))
def cT (N:Nat) (a_:Int) (b_:Int) (H:aF) (B:List aC) (D:Int):Option (bY ((List aC) × Int) ((List aC))) :=
 cond (decide (D < b_))
 (Option.bind (aX (fun s9=>bU N a_ H s9.1 s9.2) N (B,D)) fun x9=>
 exK x9 (fun s9=>some (.cont (s9.1,W (D + 1)))) some)
 (some (.brk (B,D)))
def bQ (N:Nat) (B:List aC) (a_:Int) (b_:Int) (D:aF):Option ((List aC)) :=
 Option.bind (aX (fun s3=>cT N a_ b_ D s3.1 s3.2) N (B,W (a_ + 1))) fun x3=>
 exK x3 (fun s3=>Option.bind (pN s3.1 B) fun _=>
 some s3.1) some
theorem jF {N:Nat} {G:aT} {Lf:List Ent} {w:World} (aq:List aC) (a_:Int) (b_:Int) (B:aF) {q:Option Addr} {Y:Nat} {p:Nat} {j:Nat} {b:Nat} {V:Option Addr} {X:Nat} {O:Option Addr} {I:Nat} {D:Option Addr} {H:Nat} {R:Option Addr} {U:Nat} {M:Option Addr} {J:Nat} {mb:Nat} {bc:Hds} {m:Nat} (ak:Rd G 1 V X (B.River.Down.map aB)) (ag:Rd G 2 O I (B.River.Travel.map aI)) (ab:Rd G 1 D H (B.River.Springs.map aB)) (aj:Rd G 3 R U (B.River.Towns.map aG)) (ad:RdT cH G 2 M J B.River.Floods) (hc:Ctx G (.row q Y (aq.map aD) 62 2::.box p [.func (.func 45) #[] #[pq j,pq m]] 107::.box j [.func (.func 37) #[pq b] #[]] 96::.box b [.slice V B.River.Down.length X,.slice O B.River.Travel.length I,.slice D B.River.Springs.length H,.slice R B.River.Towns.length U,i6 B.River.Delay.Lo,i6 B.River.Delay.Hi,.slice M B.River.Floods.length J,.map (some mb)] 102::bI mb aW B.found 3 bc::.box m [pq b] 71::Lf) w) {a5:(List aC)} (hF:bQ N aq a_ b_ B=some a5):Calls Tryz.prog 104 #[.slice q aq.length Y,i6 a_,i6 b_,.func (.func 48) #[] #[pq p]] w (fun e w=>∃ (bb:Hds),e=.returned (.tuple #[])∧a5.length=aq.length∧Ctx G (.row q Y (a5.map aD) 62 2::.box p [.func (.func 45) #[] #[pq j,pq m]] 107::.box j [.func (.func 37) #[pq b] #[]] 96::.box b [.slice V B.River.Down.length X,.slice O B.River.Travel.length I,.slice D B.River.Springs.length H,.slice R B.River.Towns.length U,i6 B.River.Delay.Lo,i6 B.River.Delay.Hi,.slice M B.River.Floods.length J,.map (some mb)] 102::bI mb aW B.found 3 bb::.box m [pq b] 71::Lf) w):=by
 unfold bQ at hF
 refine bL Tryz.func104 rfl Tryz.ntmps104 rfl fun a hf=>zS fun K h=>sp 3 hf rfl fun a hf=>zT h ?_
 refine iK fun K2 h2=>wp_block ?_
 obtain ⟨x3,b3,hF⟩:=aA hF
 let S3:((List aC) × Int)→Act→World→Prop:=(fun (zz:(List aC) × Int) a w=>∃ (ar:Hds),Has 53 a [(0,.slice q zz.1.length Y),(1,i6 a_),(2,i6 b_),(3,.func (.func 48) #[] #[pq p]),(8,i6 zz.2)]∧Ctx G (.row q Y (zz.1.map aD) 62 2::.box p [.func (.func 45) #[] #[pq j,pq m]] 107::.box j [.func (.func 37) #[pq b] #[]] 96::.box b [.slice V B.River.Down.length X,.slice O B.River.Travel.length I,.slice D B.River.Springs.length H,.slice R B.River.Towns.length U,i6 B.River.Delay.Lo,i6 B.River.Delay.Hi,.slice M B.River.Floods.length J,.map (some mb)] 102::bI mb aW B.found 3 ar::.box m [pq b] 71::Lf) w)
 have b2:∀ (zz:(List aC) × Int) a w,x3=.go zz→S3 zz a w→K2 a w:=by
  rintro ⟨az,ac⟩ a w rfl ⟨ar,hf,hc⟩
  replace hF:=bK hF
  refine h2 _ _ ?_
  obtain ⟨_,bz,hF⟩:=rI hF
  obtain rfl:=sj hF
  exact qZ (by simp) rfl Tryz.results104 hf ⟨ar,rfl,bz,hc⟩
 have ca:∀ r,x3=.out r→r=a5:=by
  rintro r rfl
  exact sj hF
 refine cZ N (cW (S:=S3) (x:=x3) ?_ N (aq,W (a_ + 1)) _ _ ⟨bc,hf.kp rfl,hc⟩ b3)
 clear hF hf hc
 rintro ⟨az,ac⟩ b7 a w KB3 ⟨ar,hf,hc⟩ hF a3 bx
 unfold cT at hF
 refine wp_seq_k fun K4 h4=>zS fun K h=>sp 3 hf rfl fun a hf=>zT h ?_
 refine zI hf rfl hF ?_ ?_ <;> clear hF <;> intro hF
 ·refine wp_skip ?_
  refine h4 _ _ ?_
  refine wp_seq_k fun K6 h6=>wp_block ?_
  refine zS fun K h=>sp 2 hf rfl fun a hf=>zT h ?_
  refine iK fun K8 h8=>wp_block ?_
  obtain ⟨x9,b5,hF⟩:=aA hF
  let S9:((List aC) × Int)→Act→World→Prop:=(fun (zz:(List aC) × Int) a w=>∃ (y:Hds),Has 53 a [(0,.slice q zz.1.length Y),(1,i6 a_),(2,i6 b_),(3,.func (.func 48) #[] #[pq p]),(8,i6 ac),(9,i6 zz.2)]∧Ctx G (.row q Y (zz.1.map aD) 62 2::.box p [.func (.func 45) #[] #[pq j,pq m]] 107::.box j [.func (.func 37) #[pq b] #[]] 96::.box b [.slice V B.River.Down.length X,.slice O B.River.Travel.length I,.slice D B.River.Springs.length H,.slice R B.River.Towns.length U,i6 B.River.Delay.Lo,i6 B.River.Delay.Hi,.slice M B.River.Floods.length J,.map (some mb)] 102::bI mb aW B.found 3 y::.box m [pq b] 71::Lf) w)
  have b6:∀ (zz:(List aC) × Int) a w,x9=.go zz→S9 zz a w→K8 a w:=by
   rintro ⟨Z,d⟩ a w rfl ⟨y,hf,hc⟩
   replace hF:=bK hF
   refine h8 _ _ ?_
   refine h6 _ _ ?_
   refine bV ?_
   refine sp 3 hf rfl fun a hf=>aP ?_
   exact bx (Z,W (ac + 1)) _ _ (sj hF).symm ⟨y,hf.kp rfl,hc⟩
  have cf:∀ r,x9=.out r→r=b7:=by
   rintro r rfl
   exact sj hF
  refine cZ N (cW (S:=S9) (x:=x9) ?_ N (az,ac) _ _ ⟨ar,hf.kp rfl,hc⟩ b5)
  clear hF hf hc
  rintro ⟨Z,d⟩ cb a w KB9 ⟨y,hf,hc⟩ hF a4 bu
  unfold bU at hF
  refine wp_seq_k fun K10 b1=>wp_seq_k fun K11 bv=>?_
  obtain ⟨rg,bd,hF⟩:=aA hF
  refine aQ9 (fun a w=>∃ (ai:Hds),Has 53 a [(0,.slice q Z.length Y),(1,i6 a_),(2,i6 b_),(3,.func (.func 48) #[] #[pq p]),(8,i6 ac),(9,i6 d),(34,.bool rg)]∧Ctx G (.row q Y (Z.map aD) 62 2::.box p [.func (.func 45) #[] #[pq j,pq m]] 107::.box j [.func (.func 37) #[pq b] #[]] 96::.box b [.slice V B.River.Down.length X,.slice O B.River.Travel.length I,.slice D B.River.Springs.length H,.slice R B.River.Towns.length U,i6 B.River.Delay.Lo,i6 B.River.Delay.Hi,.slice M B.River.Floods.length J,.map (some mb)] 102::bI mb aW B.found 3 ai::.box m [pq b] 71::Lf) w) ?_ ?_
  ·clear hF
   have hF:=bd
   clear bd
   cases hb:(decide (a_ < d))
   ·replace hF:=kI hb hF
    try rw [hb] at hf
    try rw [hb] at hc
    have a9:=hb
    clear hb
    refine eL (fun θ=>[⟨none,none,0,.slice q Z.length Y⟩,⟨none,none,1,i6 a_⟩,⟨none,none,2,i6 b_⟩,⟨none,none,3,.func (.func 48) #[] #[pq p]⟩,⟨none,none,8,i6 ac⟩,⟨none,none,9,i6 d⟩,⟨some 0,none,18,i6 d⟩,⟨some 1,none,19,i6 a_⟩,⟨some 2,none,20,.bool false⟩,⟨some 3,none,21,.bool false⟩,⟨some 4,none,22,undef⟩,⟨some 5,none,23,undef⟩,⟨some 6,none,24,undef⟩,⟨some 7,none,25,undef⟩,⟨some 8,none,26,undef⟩,⟨some 9,none,27,undef⟩,⟨some 10,none,28,undef⟩,⟨some 11,none,29,undef⟩,⟨some 12,none,30,undef⟩,⟨some 13,none,31,undef⟩,⟨some 14,none,32,undef⟩,⟨some 15,none,33,undef⟩,⟨some 16,none,34,.bool false⟩]) (fun E θ=>.row q Y (Z.map aD) 62 2::.box p [.func (.func 45) #[] #[pq j,pq m]] 107::.box j [.func (.func 37) #[pq b] #[]] 96::.box b [.slice V B.River.Down.length X,.slice O B.River.Travel.length I,.slice D B.River.Springs.length H,.slice R B.River.Towns.length U,i6 B.River.Delay.Lo,i6 B.River.Delay.Hi,.slice M B.River.Floods.length J,.map (some mb)] 102::bI mb aW B.found 3 y::.box m [pq b] 71::Lf) [] (fun a w=>Has 53 a [(0,.slice q Z.length Y),(1,i6 a_),(2,i6 b_),(3,.func (.func 48) #[] #[pq p]),(8,i6 ac),(9,i6 d),(34,.bool false)]∧Ctx G (.row q Y (Z.map aD) 62 2::.box p [.func (.func 45) #[] #[pq j,pq m]] 107::.box j [.func (.func 37) #[pq b] #[]] 96::.box b [.slice V B.River.Down.length X,.slice O B.River.Travel.length I,.slice D B.River.Springs.length H,.slice R B.River.Towns.length U,i6 B.River.Delay.Lo,i6 B.River.Delay.Hi,.slice M B.River.Floods.length J,.map (some mb)] 102::bI mb aW B.found 3 y::.box m [pq b] 71::Lf) w) bA (by kernel_rfl) (by kernel_rfl) (fN.of hf ⟨rfl,rfl,rfl,rfl,rfl,rfl,trivial,trivial,trivial,trivial,trivial,trivial,trivial,trivial,trivial,trivial,trivial,trivial,trivial,trivial,trivial,trivial,trivial,trivial⟩) hc ⟨?_,?_,?_,?_,?_,?_,?_,?_,?_,?_,?_,?_,?_,?_,?_,?_,?_,trivial⟩ ?_ ?_
    ·intro E θ a w hD hi hp he hc
     have hf:=he.h0.mT he 5 rfl
     refine sp 1 hf rfl fun a hf=>zD θ he hi hf 6 rfl rfl rfl hc
    ·intro E θ a w hD hi hp he hc
     have hf:=he.h0.mT he 1 rfl
     refine sp 1 hf rfl fun a hf=>zD θ he hi hf 7 rfl rfl rfl hc
    ·intro E θ a w hD hi hp he hc
     have e0:=hp.o 0 rfl
     have e1:=hp.o 1 rfl
     have hf:=(he.h0.mP he 6 rfl e0).mP he 7 rfl e1
     refine sp 1 hf rfl fun a hf=>?_
     rw [a9] at hf
     exact zD θ he hi hf 8 rfl rfl rfl hc
    ·intro E θ a w hD hi hp he hc
     have e2:=hp.o 2 rfl
     have hf:=he.h0.mP he 8 rfl e2
     refine sp 1 hf rfl fun a hf=>zD θ he hi hf 9 rfl rfl rfl hc
    ·intro E θ a w hD hi hp he hc
     have e3:=hp.o 3 rfl
     have hf:=(he.h0.mT he 3 rfl).mP he 9 rfl e3
     refine stS hf rfl rfl rfl fun a hf=>zD θ he hi hf 10 rfl rfl rfl hc
    ·intro E θ a w hD hi hp he hc
     have e3:=hp.o 3 rfl
     have hf:=(he.h0.mT he 0 rfl).mP he 9 rfl e3
     refine stS hf rfl rfl rfl fun a hf=>zD θ he hi hf 11 rfl rfl rfl hc
    ·intro E θ a w hD hi hp he hc
     have e3:=hp.o 3 rfl
     have hf:=(he.h0.mT he 5 rfl).mP he 9 rfl e3
     refine stS hf rfl rfl rfl fun a hf=>zD θ he hi hf 12 rfl rfl rfl hc
    ·intro E θ a w hD hi hp he hc
     have e3:=hp.o 3 rfl
     have e5:=hp.o 5 rfl
     have e6:=hp.o 6 rfl
     have hf:=((he.h0.mP he 9 rfl e3).mP he 11 rfl e5).mP he 12 rfl e6
     refine stS hf rfl rfl rfl fun a hf=>zD θ he hi hf 13 rfl rfl rfl hc
    ·intro E θ a w hD hi hp he hc
     have e3:=hp.o 3 rfl
     have e7:=hp.o 7 rfl
     have hf:=(he.h0.mP he 9 rfl e3).mP he 13 rfl e7
     refine stS hf rfl rfl rfl fun a hf=>zD θ he hi hf 14 rfl rfl rfl hc
    ·intro E θ a w hD hi hp he hc
     have e3:=hp.o 3 rfl
     have hf:=(he.h0.mT he 0 rfl).mP he 9 rfl e3
     refine stS hf rfl rfl rfl fun a hf=>zD θ he hi hf 15 rfl rfl rfl hc
    ·intro E θ a w hD hi hp he hc
     have e3:=hp.o 3 rfl
     have hf:=(he.h0.mT he 5 rfl).mP he 9 rfl e3
     refine stS hf rfl rfl rfl fun a hf=>zD θ he hi hf 16 rfl rfl rfl hc
    ·intro E θ a w hD hi hp he hc
     have e3:=hp.o 3 rfl
     have ax:=hp.o 10 rfl
     have hf:=(he.h0.mP he 9 rfl e3).mP he 16 rfl ax
     refine stS hf rfl rfl rfl fun a hf=>zD θ he hi hf 17 rfl rfl rfl hc
    ·intro E θ a w hD hi hp he hc
     have e3:=hp.o 3 rfl
     have e9:=hp.o 9 rfl
     have a2:=hp.o 11 rfl
     have hf:=((he.h0.mP he 9 rfl e3).mP he 15 rfl e9).mP he 17 rfl a2
     refine stS hf rfl rfl rfl fun a hf=>zD θ he hi hf 18 rfl rfl rfl hc
    ·intro E θ a w hD hi hp he hc
     have e3:=hp.o 3 rfl
     have av:=hp.o 12 rfl
     have hf:=(he.h0.mP he 9 rfl e3).mP he 18 rfl av
     refine stS hf rfl rfl rfl fun a hf=>zD θ he hi hf 19 rfl rfl rfl hc
    ·intro E θ a w hD hi hp he hc
     have e3:=hp.o 3 rfl
     have e4:=hp.o 4 rfl
     have e8:=hp.o 8 rfl
     have an:=hp.o 13 rfl
     have hf:=(((he.h0.mP he 9 rfl e3).mP he 10 rfl e4).mP he 14 rfl e8).mP he 19 rfl an
     refine stS hf rfl rfl rfl fun a hf=>zD θ he hi hf 20 rfl rfl rfl hc
    ·intro E θ a w hD hi hp he hc
     have e3:=hp.o 3 rfl
     have ap:=hp.o 14 rfl
     have hf:=(he.h0.mP he 9 rfl e3).mP he 20 rfl ap
     refine stS hf rfl rfl rfl fun a hf=>zD θ he hi hf 21 rfl rfl rfl hc
    ·intro E θ a w hD hi hp he hc
     have e3:=hp.o 3 rfl
     have s:=hp.o 15 rfl
     have hf:=(he.h0.mP he 9 rfl e3).mP he 21 rfl s
     refine sp 1 hf rfl fun a hf=>zD θ he hi hf 22 rfl rfl rfl hc
    ·intro E θ a w am he hc
     have hf:=he.h0
     have a0:=am 16 rfl
     replace hf:=hf.more he 22 rfl (onP a0)
     replace hf:=hf.more he 5 rfl (onT)
     replace hf:=hf.more he 4 rfl (onT)
     replace hf:=hf.more he 3 rfl (onT)
     replace hf:=hf.more he 2 rfl (onT)
     replace hf:=hf.more he 1 rfl (onT)
     replace hf:=hf.more he 0 rfl (onT)
     exact ⟨hf.kp rfl,hc⟩
    rintro a w ⟨hf,hc⟩
    refine eJ ?_
    obtain rfl:=sj hF
    exact ⟨y,hf.kp rfl,hc⟩
   ·replace hF:=fP hb hF
    try rw [hb] at hf
    try rw [hb] at hc
    have a9:=hb
    clear hb
    obtain ⟨a1,bp,hF⟩:=aA hF
    have a7:=hf
    obtain ⟨g,rfl,qa,qr⟩:=hP hc m0 bp
    have hf:=a7
    obtain ⟨ay,br,hF⟩:=aA hF
    obtain ⟨bg,bn⟩:=eY hc m0 br
    obtain ⟨r,hr,hF⟩:=aA hF
    refine eL (fun θ=>[⟨none,none,0,.slice (some ⟨g,0,none⟩) Z.length Y⟩,⟨none,none,1,i6 a_⟩,⟨none,none,2,i6 b_⟩,⟨none,none,3,.func (.func 48) #[] #[pq p]⟩,⟨none,none,8,i6 ac⟩,⟨none,none,9,i6 d⟩,⟨some 0,none,18,i6 d⟩,⟨some 1,none,19,i6 a_⟩,⟨some 2,none,20,.bool true⟩,⟨some 3,none,21,.bool true⟩,⟨some 4,none,22,.func (.func 48) #[] #[pq p]⟩,⟨some 5,none,23,.slice (some ⟨g,0,none⟩) Z.length Y⟩,⟨some 6,none,24,i6 d⟩,⟨some 7,none,25,.pointer (some ⟨g,d.toNat * 2,none⟩)⟩,⟨some 8,none,26,.agg #[i6 a1.Spring,i6 a1.Town]⟩,⟨some 9,none,27,.slice (some ⟨g,0,none⟩) Z.length Y⟩,⟨some 10,none,28,i6 d⟩,⟨some 11,none,29,i6 (W (d - 1))⟩,⟨some 12,none,30,.pointer (some ⟨g,(W (d - 1)).toNat * 2,none⟩)⟩,⟨some 13,none,31,.agg #[i6 ay.Spring,i6 ay.Town]⟩,⟨some 14,none,32,i6 r⟩,⟨some 15,none,33,.bool (decide (r < 0))⟩,⟨some 16,none,34,.bool (decide (r < 0))⟩]) (fun E θ=>.row (some ⟨g,0,none⟩) Y (Z.map aD) 62 2::.box p [.func (.func 45) #[] #[pq j,pq m]] 107::.box j [.func (.func 37) #[pq b] #[]] 96::.box b [.slice V B.River.Down.length X,.slice O B.River.Travel.length I,.slice D B.River.Springs.length H,.slice R B.River.Towns.length U,i6 B.River.Delay.Lo,i6 B.River.Delay.Hi,.slice M B.River.Floods.length J,.map (some mb)] 102::(bif E 14 then bI mb aW B.found 3 ((θ 112).h) else bI mb aW B.found 3 y)::.box m [pq b] 71::Lf) [] (fun a w=>∃ (au:Hds),Has 53 a [(0,.slice (some ⟨g,0,none⟩) Z.length Y),(1,i6 a_),(2,i6 b_),(3,.func (.func 48) #[] #[pq p]),(8,i6 ac),(9,i6 d),(34,.bool (decide (r < 0)))]∧Ctx G (.row (some ⟨g,0,none⟩) Y (Z.map aD) 62 2::.box p [.func (.func 45) #[] #[pq j,pq m]] 107::.box j [.func (.func 37) #[pq b] #[]] 96::.box b [.slice V B.River.Down.length X,.slice O B.River.Travel.length I,.slice D B.River.Springs.length H,.slice R B.River.Towns.length U,i6 B.River.Delay.Lo,i6 B.River.Delay.Hi,.slice M B.River.Floods.length J,.map (some mb)] 102::bI mb aW B.found 3 au::.box m [pq b] 71::Lf) w) bA (by kernel_rfl) (by kernel_rfl) (fN.of hf ⟨rfl,rfl,rfl,rfl,rfl,rfl,trivial,trivial,trivial,trivial,trivial,trivial,trivial,trivial,trivial,trivial,trivial,trivial,trivial,trivial,trivial,trivial,trivial,trivial⟩) hc ⟨?_,?_,?_,?_,?_,?_,?_,?_,?_,?_,?_,?_,?_,?_,?_,?_,?_,trivial⟩ ?_ ?_
    ·intro E θ a w hD hi hp he hc
     have hf:=he.h0.mT he 5 rfl
     refine sp 1 hf rfl fun a hf=>zD θ he hi hf 6 rfl rfl rfl hc
    ·intro E θ a w hD hi hp he hc
     have hf:=he.h0.mT he 1 rfl
     refine sp 1 hf rfl fun a hf=>zD θ he hi hf 7 rfl rfl rfl hc
    ·intro E θ a w hD hi hp he hc
     have e0:=hp.o 0 rfl
     have e1:=hp.o 1 rfl
     have hf:=(he.h0.mP he 6 rfl e0).mP he 7 rfl e1
     refine sp 1 hf rfl fun a hf=>?_
     rw [a9] at hf
     exact zD θ he hi hf 8 rfl rfl rfl hc
    ·intro E θ a w hD hi hp he hc
     have e2:=hp.o 2 rfl
     have hf:=he.h0.mP he 8 rfl e2
     refine sp 1 hf rfl fun a hf=>zD θ he hi hf 9 rfl rfl rfl hc
    ·intro E θ a w hD hi hp he hc
     have e3:=hp.o 3 rfl
     have hf:=(he.h0.mT he 3 rfl).mP he 9 rfl e3
     refine sp 1 hf rfl fun a hf=>zD θ he hi hf 10 rfl rfl rfl hc
    ·intro E θ a w hD hi hp he hc
     have e3:=hp.o 3 rfl
     have hf:=(he.h0.mT he 0 rfl).mP he 9 rfl e3
     refine sp 1 hf rfl fun a hf=>zD θ he hi hf 11 rfl rfl rfl hc
    ·intro E θ a w hD hi hp he hc
     have e3:=hp.o 3 rfl
     have hf:=(he.h0.mT he 5 rfl).mP he 9 rfl e3
     refine sp 1 hf rfl fun a hf=>zD θ he hi hf 12 rfl rfl rfl hc
    ·intro E θ a w hD hi hp he hc
     have e3:=hp.o 3 rfl
     have e5:=hp.o 5 rfl
     have e6:=hp.o 6 rfl
     have hf:=((he.h0.mP he 9 rfl e3).mP he 11 rfl e5).mP he 12 rfl e6
     refine zP hf rfl (pIA Tryz.underlying49 gG rfl rfl qa) fun a hf=>zD θ he hi hf 13 rfl rfl rfl hc
    ·intro E θ a w hD hi hp he hc
     have e3:=hp.o 3 rfl
     have e7:=hp.o 7 rfl
     have hf:=(he.h0.mP he 9 rfl e3).mP he 13 rfl e7
     refine zE hf hc rfl (lK (vs:=[i6 a1.Spring,i6 a1.Town]) jE rfl rfl (jL (sz:=2) (i:=d.toNat) m0 qr (n:=2) (o':=0) rfl)) fun a w hf hc=>zD θ he hi hf 14 rfl rfl rfl hc
    ·intro E θ a w hD hi hp he hc
     have e3:=hp.o 3 rfl
     have hf:=(he.h0.mT he 0 rfl).mP he 9 rfl e3
     refine sp 1 hf rfl fun a hf=>zD θ he hi hf 15 rfl rfl rfl hc
    ·intro E θ a w hD hi hp he hc
     have e3:=hp.o 3 rfl
     have hf:=(he.h0.mT he 5 rfl).mP he 9 rfl e3
     refine sp 1 hf rfl fun a hf=>zD θ he hi hf 16 rfl rfl rfl hc
    ·intro E θ a w hD hi hp he hc
     have e3:=hp.o 3 rfl
     have ax:=hp.o 10 rfl
     have hf:=(he.h0.mP he 9 rfl e3).mP he 16 rfl ax
     refine sp 1 hf rfl fun a hf=>zD θ he hi hf 17 rfl rfl rfl hc
    ·intro E θ a w hD hi hp he hc
     have e3:=hp.o 3 rfl
     have e9:=hp.o 9 rfl
     have a2:=hp.o 11 rfl
     have hf:=((he.h0.mP he 9 rfl e3).mP he 15 rfl e9).mP he 17 rfl a2
     refine zP hf rfl (pIA Tryz.underlying49 gG rfl rfl bg) fun a hf=>zD θ he hi hf 18 rfl rfl rfl hc
    ·intro E θ a w hD hi hp he hc
     have e3:=hp.o 3 rfl
     have av:=hp.o 12 rfl
     have hf:=(he.h0.mP he 9 rfl e3).mP he 18 rfl av
     refine zE hf hc rfl (lK (vs:=[i6 ay.Spring,i6 ay.Town]) jE rfl rfl (jL (sz:=2) (i:=(W (d - 1)).toNat) m0 bn (n:=2) (o':=0) rfl)) fun a w hf hc=>zD θ he hi hf 19 rfl rfl rfl hc
    ·intro E θ a w hD hi hp he hc
     have e3:=hp.o 3 rfl
     have e4:=hp.o 4 rfl
     have e8:=hp.o 8 rfl
     have an:=hp.o 13 rfl
     try dsimp only at hc
     rw [hi] at hc
     have hf:=(((he.h0.mP he 9 rfl e3).mP he 10 rfl e4).mP he 14 rfl e8).mP he 19 rfl an
     refine zC hf aKi rfl (kB a1 ay B ak ag ab aj ad (((((hc.pick k5).pick k5).pick k5).pick k5).pick k5) hr) ?_
     rintro _ w ⟨ba,rfl,hc⟩
     refine ⟨_,rfl,fun a hf=>?_⟩
     refine aP ?_
     refine eJ ?_
     intro ds u b0
     replace hc:=(((((hc.pick k4).pick k4).pick k4).pick k4).pick k4).pick k5
     refine ⟨(nF θ 112 ⟨0,none,0,ba⟩),he.put hi b0 hf rfl [] trivial ⟨qq,qq,qq,qq,qq,qq,qq,qq,qq,qq,qq,qq,qq,qq,qq,qq,qq,qq,qq,qq,qq,qq,qq,trivial⟩,?_⟩
     try dsimp only
     rw [aS E 14]
     exact hc
    ·intro E θ a w hD hi hp he hc
     have e3:=hp.o 3 rfl
     have ap:=hp.o 14 rfl
     have hf:=(he.h0.mP he 9 rfl e3).mP he 20 rfl ap
     refine sp 1 hf rfl fun a hf=>zD θ he hi hf 21 rfl rfl rfl hc
    ·intro E θ a w hD hi hp he hc
     have e3:=hp.o 3 rfl
     have s:=hp.o 15 rfl
     have hf:=(he.h0.mP he 9 rfl e3).mP he 21 rfl s
     refine sp 1 hf rfl fun a hf=>zD θ he hi hf 22 rfl rfl rfl hc
    ·intro E θ a w am he hc
     have hf:=he.h0
     have ap:=am 14 rfl
     have a0:=am 16 rfl
     replace hf:=hf.more he 22 rfl (onP a0)
     replace hf:=hf.more he 5 rfl (onT)
     replace hf:=hf.more he 4 rfl (onT)
     replace hf:=hf.more he 3 rfl (onT)
     replace hf:=hf.more he 2 rfl (onT)
     replace hf:=hf.more he 1 rfl (onT)
     replace hf:=hf.more he 0 rfl (onT)
     try dsimp only at hc
     rw [ap] at hc
     exact ⟨(θ 112).h,hf.kp rfl,hc⟩
    rintro a w ⟨au,hf,hc⟩
    refine eJ ?_
    obtain rfl:=sj hF
    exact ⟨au,hf.kp rfl,hc⟩
  rintro a w ⟨ai,hf,hc⟩
  refine bv _ _ ?_
  refine zI hf rfl hF ?_ ?_ <;> clear hF <;> intro hF
  ·refine wp_skip ?_
   refine b1 _ _ ?_
   refine wp_seq_k fun K12 b4=>wp_block ?_
   obtain ⟨aa,bj,hF⟩:=aA hF
   have a7:=hf
   obtain ⟨v,rfl,bq,bm⟩:=hP hc m0 bj
   have hf:=a7
   obtain ⟨af,bk,hF⟩:=aA hF
   obtain ⟨bf,bs⟩:=eY hc m0 bk
   obtain ⟨cc,a6,hF⟩:=aA hF
   obtain ⟨bi,b9⟩:=eY hc m0 a6
   obtain ⟨cd,a8,hF⟩:=aA hF
   obtain ⟨bt,b8⟩:=eY hc m0 a8
   refine eL (fun θ=>[⟨none,none,0,.slice (some ⟨v,0,none⟩) Z.length Y⟩,⟨none,none,1,i6 a_⟩,⟨none,none,2,i6 b_⟩,⟨none,none,3,.func (.func 48) #[] #[pq p]⟩,⟨none,none,8,i6 ac⟩,⟨none,none,9,i6 d⟩,⟨some 0,none,37,.slice (some ⟨v,0,none⟩) Z.length Y⟩,⟨some 1,none,38,i6 d⟩,⟨some 2,none,39,.slice (some ⟨v,0,none⟩) Z.length Y⟩,⟨some 3,none,40,i6 d⟩,⟨some 4,none,41,i6 (W (d - 1))⟩,⟨some 5,none,42,.slice (some ⟨v,0,none⟩) Z.length Y⟩,⟨some 6,none,43,i6 d⟩,⟨some 7,none,44,i6 (W (d - 1))⟩,⟨some 8,none,45,.pointer (some ⟨v,(W (d - 1)).toNat * 2,none⟩)⟩,⟨some 9,none,46,.agg #[i6 aa.Spring,i6 aa.Town]⟩,⟨some 10,none,47,.slice (some ⟨v,0,none⟩) Z.length Y⟩,⟨some 11,none,48,i6 d⟩,⟨some 12,none,49,.pointer (some ⟨v,d.toNat * 2,none⟩)⟩,⟨some 13,none,50,.agg #[i6 af.Spring,i6 af.Town]⟩,⟨some 14,none,51,.pointer (some ⟨v,d.toNat * 2,none⟩)⟩,⟨some 16,none,52,.pointer (some ⟨v,(W (d - 1)).toNat * 2,none⟩)⟩]) (fun E θ=>(bif E 17 then .row (some ⟨v,0,none⟩) Y (((Z.set d.toNat aa).set (W (d - 1)).toNat af).map aD) 62 2 else bif E 15 then .row (some ⟨v,0,none⟩) Y ((Z.set d.toNat aa).map aD) 62 2 else .row (some ⟨v,0,none⟩) Y (Z.map aD) 62 2)::.box p [.func (.func 45) #[] #[pq j,pq m]] 107::.box j [.func (.func 37) #[pq b] #[]] 96::.box b [.slice V B.River.Down.length X,.slice O B.River.Travel.length I,.slice D B.River.Springs.length H,.slice R B.River.Towns.length U,i6 B.River.Delay.Lo,i6 B.River.Delay.Hi,.slice M B.River.Floods.length J,.map (some mb)] 102::bI mb aW B.found 3 ai::.box m [pq b] 71::Lf) [(15,8),(17,8),(15,9),(17,9),(13,12),(15,13),(17,12),(17,13),(15,14),(17,14),(17,15),(17,16)] (fun a w=>Has 53 a [(0,.slice (some ⟨v,0,none⟩) Z.length Y),(1,i6 a_),(2,i6 b_),(3,.func (.func 48) #[] #[pq p]),(8,i6 ac),(9,i6 d)]∧Ctx G (.row (some ⟨v,0,none⟩) Y (((Z.set d.toNat aa).set (W (d - 1)).toNat af).map aD) 62 2::.box p [.func (.func 45) #[] #[pq j,pq m]] 107::.box j [.func (.func 37) #[pq b] #[]] 96::.box b [.slice V B.River.Down.length X,.slice O B.River.Travel.length I,.slice D B.River.Springs.length H,.slice R B.River.Towns.length U,i6 B.River.Delay.Lo,i6 B.River.Delay.Hi,.slice M B.River.Floods.length J,.map (some mb)] 102::bI mb aW B.found 3 ai::.box m [pq b] 71::Lf) w) bA (by kernel_rfl) (by kernel_rfl) (fN.of hf ⟨rfl,rfl,rfl,rfl,rfl,rfl,trivial,trivial,trivial,trivial,trivial,trivial,trivial,trivial,trivial,trivial,trivial,trivial,trivial,trivial,trivial,trivial,trivial⟩) hc ⟨?_,?_,?_,?_,?_,?_,?_,?_,?_,?_,?_,?_,?_,?_,?_,?_,?_,?_,trivial⟩ ?_ ?_
   ·intro E θ a w hD hi hp he hc
    have hf:=he.h0.mT he 0 rfl
    refine sp 1 hf rfl fun a hf=>zD θ he hi hf 6 rfl rfl rfl hc
   ·intro E θ a w hD hi hp he hc
    have hf:=he.h0.mT he 5 rfl
    refine sp 1 hf rfl fun a hf=>zD θ he hi hf 7 rfl rfl rfl hc
   ·intro E θ a w hD hi hp he hc
    have hf:=he.h0.mT he 0 rfl
    refine sp 1 hf rfl fun a hf=>zD θ he hi hf 8 rfl rfl rfl hc
   ·intro E θ a w hD hi hp he hc
    have hf:=he.h0.mT he 5 rfl
    refine sp 1 hf rfl fun a hf=>zD θ he hi hf 9 rfl rfl rfl hc
   ·intro E θ a w hD hi hp he hc
    have e3:=hp.o 3 rfl
    have hf:=he.h0.mP he 9 rfl e3
    refine sp 1 hf rfl fun a hf=>zD θ he hi hf 10 rfl rfl rfl hc
   ·intro E θ a w hD hi hp he hc
    have hf:=he.h0.mT he 0 rfl
    refine sp 1 hf rfl fun a hf=>zD θ he hi hf 11 rfl rfl rfl hc
   ·intro E θ a w hD hi hp he hc
    have hf:=he.h0.mT he 5 rfl
    refine sp 1 hf rfl fun a hf=>zD θ he hi hf 12 rfl rfl rfl hc
   ·intro E θ a w hD hi hp he hc
    have e6:=hp.o 6 rfl
    have hf:=he.h0.mP he 12 rfl e6
    refine sp 1 hf rfl fun a hf=>zD θ he hi hf 13 rfl rfl rfl hc
   ·intro E θ a w hD hi hp he hc
    have e5:=hp.o 5 rfl
    have e7:=hp.o 7 rfl
    have s:=hD.f 0 rfl hi
    have t:=hD.f 1 rfl hi
    try dsimp only at hc
    rw [s,t] at hc
    have hf:=(he.h0.mP he 11 rfl e5).mP he 13 rfl e7
    refine zP hf rfl (pIA Tryz.underlying49 gG rfl rfl bq) fun a hf=>zD θ he hi hf 14 rfl rfl rfl ?_
    try dsimp only
    rw [aQ 8 s rfl,aQ 8 t rfl]
    exact hc
   ·intro E θ a w hD hi hp he hc
    have e8:=hp.o 8 rfl
    have s:=hD.f 2 rfl hi
    have t:=hD.f 3 rfl hi
    try dsimp only at hc
    rw [s,t] at hc
    have hf:=he.h0.mP he 14 rfl e8
    refine zE hf hc rfl (lK (vs:=[i6 aa.Spring,i6 aa.Town]) jE rfl rfl (jL (sz:=2) (i:=(W (d - 1)).toNat) m0 bm (n:=2) (o':=0) rfl)) fun a w hf hc=>zD θ he hi hf 15 rfl rfl rfl ?_
    try dsimp only
    rw [aQ 9 s rfl,aQ 9 t rfl]
    exact hc
   ·intro E θ a w hD hi hp he hc
    have hf:=he.h0.mT he 0 rfl
    refine sp 1 hf rfl fun a hf=>zD θ he hi hf 16 rfl rfl rfl hc
   ·intro E θ a w hD hi hp he hc
    have hf:=he.h0.mT he 5 rfl
    refine sp 1 hf rfl fun a hf=>zD θ he hi hf 17 rfl rfl rfl hc
   ·intro E θ a w hD hi hp he hc
    have ax:=hp.o 10 rfl
    have a2:=hp.o 11 rfl
    have an:=hD.f 4 rfl hi
    have s:=hD.f 5 rfl an
    have t:=hD.f 6 rfl hi
    try dsimp only at hc
    rw [s,t] at hc
    have hf:=(he.h0.mP he 16 rfl ax).mP he 17 rfl a2
    refine zP hf rfl (pIA Tryz.underlying49 gG rfl rfl bf) fun a hf=>zD θ he hi hf 18 rfl rfl rfl ?_
    try dsimp only
    rw [aQ 12 s rfl,aQ 12 t rfl]
    exact hc
   ·intro E θ a w hD hi hp he hc
    have av:=hp.o 12 rfl
    have s:=hD.f 5 rfl hi
    have t:=hD.f 7 rfl hi
    try dsimp only at hc
    rw [s,t] at hc
    have hf:=he.h0.mP he 18 rfl av
    refine zE hf hc rfl (lK (vs:=[i6 af.Spring,i6 af.Town]) jE rfl rfl (jL (sz:=2) (i:=d.toNat) m0 bs (n:=2) (o':=0) rfl)) fun a w hf hc=>zD θ he hi hf 19 rfl rfl rfl ?_
    try dsimp only
    rw [aQ 13 s rfl,aQ 13 t rfl]
    exact hc
   ·intro E θ a w hD hi hp he hc
    have e0:=hp.o 0 rfl
    have e1:=hp.o 1 rfl
    have s:=hD.f 8 rfl hi
    have t:=hD.f 9 rfl hi
    try dsimp only at hc
    rw [s,t] at hc
    have hf:=(he.h0.mP he 6 rfl e0).mP he 7 rfl e1
    refine zP hf rfl (pIA Tryz.underlying49 gG rfl rfl bi) fun a hf=>zD θ he hi hf 20 rfl rfl rfl ?_
    try dsimp only
    rw [aQ 14 s rfl,aQ 14 t rfl]
    exact hc
   ·intro E θ a w hD hi hp he hc
    have e9:=hp.o 9 rfl
    have ap:=hp.o 14 rfl
    have t:=hD.f 10 rfl hi
    try dsimp only at hc
    rw [hi,t] at hc
    have hf:=(he.h0.mP he 15 rfl e9).mP he 20 rfl ap
    refine yA (sz:=2) (vs:=[i6 aa.Spring,i6 aa.Town]) (o':=0) (z:=aa) (xs:=Z) hf hc rfl rfl rfl rfl gG rfl (fun x=>(dJ x).1) (mL a6) (fun _ _=>rfl) rfl u0 fun w hc=>zG θ he hi hf rfl ?_
    try dsimp only
    rw [aS E 15,aQ 15 t rfl]
    exact hc
   ·intro E θ a w hD hi hp he hc
    have e2:=hp.o 2 rfl
    have e4:=hp.o 4 rfl
    have s:=hp.o 15 rfl
    have t:=hD.f 11 rfl hi
    try dsimp only at hc
    rw [s,t] at hc
    have hf:=(he.h0.mP he 8 rfl e2).mP he 10 rfl e4
    refine zP hf rfl (pIA Tryz.underlying49 gG rfl rfl bt) fun a hf=>zD θ he hi hf 21 rfl rfl rfl ?_
    try dsimp only
    rw [eC 16 s,aQ 16 t rfl]
    exact hc
   ·intro E θ a w hD hi hp he hc
    have an:=hp.o 13 rfl
    have a0:=hp.o 16 rfl
    have s:=hp.o 15 rfl
    try dsimp only at hc
    rw [s,hi] at hc
    have hf:=(he.h0.mP he 19 rfl an).mP he 21 rfl a0
    refine yA (sz:=2) (vs:=[i6 af.Spring,i6 af.Town]) (o':=0) (z:=af) (xs:=(Z.set d.toNat aa)) hf hc rfl rfl rfl rfl gG rfl (fun x=>(dJ x).1) (by simpa using mL a8) (fun _ _=>rfl) rfl u0 fun w hc=>zG θ he hi hf rfl ?_
    try dsimp only
    rw [eC 17 s,aS E 17]
    exact hc
   ·intro E θ a w am he hc
    have hf:=he.h0
    have s:=am 15 rfl
    have t:=am 17 rfl
    replace hf:=hf.more he 5 rfl (onT)
    replace hf:=hf.more he 4 rfl (onT)
    replace hf:=hf.more he 3 rfl (onT)
    replace hf:=hf.more he 2 rfl (onT)
    replace hf:=hf.more he 1 rfl (onT)
    replace hf:=hf.more he 0 rfl (onT)
    try dsimp only at hc
    rw [s,t] at hc
    exact ⟨hf.kp rfl,hc⟩
   rintro a w ⟨hf,hc⟩
   refine b4 _ _ ?_
   refine bV ?_
   refine sp 3 hf rfl fun a hf=>aP ?_
   replace hf:=hf.castAt 0 (v':=.slice (some ⟨v,0,none⟩) (((Z.set d.toNat aa).set (W (d - 1)).toNat af).length) Y) rfl (congrArg (fun k=>Value.slice (some ⟨v,0,none⟩) k Y) (by simp))
   exact bu (((Z.set d.toNat aa).set (W (d - 1)).toNat af),W (d - 1)) _ _ (sj hF).symm ⟨ai,hf.kp rfl,hc⟩
  ·refine wp_exit ?_
   refine aY ?_
   refine aY ?_
   have he:=sj hF
   rw [← he] at a4
   refine fJ ?_
   exact b6 _ _ _ a4 ⟨ai,hf.kp rfl,hc⟩
 ·refine wp_exit ?_
  refine aY ?_
  refine aY ?_
  have he:=sj hF
  rw [← he] at a3
  refine fJ ?_
  exact b2 _ _ _ a3 ⟨ar,hf.kp rfl,hc⟩

def dQ (N:Nat) (a_:Int) (b_:Int) (n:Int) (B:List aC) (D:Int):Option (bY ((List aC) × Int) ((List aC))) :=
 cond (decide (D < n))
 (Option.bind (bE B (W (b_ + D))) fun H=>
 Option.bind (bE B (W (a_ + D))) fun I=>
 Option.bind (bE B (W (a_ + D))) fun J=>
 Option.bind (bE B (W (b_ + D))) fun M=>
 some (.cont (((B.set (W (a_ + D)).toNat H).set (W (b_ + D)).toNat I),W (D + 1))))
 (some (.brk (B,D)))
def cB (N:Nat) (B:List aC) (a_:Int) (b_:Int) (n:Int) (D:aF):Option ((List aC)) :=
 Option.bind (aX (fun s3=>dQ N a_ b_ n s3.1 s3.2) N (B,0)) fun x3=>
 exK x3 (fun s3=>Option.bind (pN s3.1 B) fun _=>
 some s3.1) some
theorem gV {N:Nat} {G:aT} {Lf:List Ent} {w:World} (y:List aC) (a_:Int) (b_:Int) (n:Int) (B:aF) {u:Option Addr} {Y:Nat} {v:Nat} {p:Nat} {m:Nat} {V:Option Addr} {X:Nat} {O:Option Addr} {I:Nat} {D:Option Addr} {H:Nat} {R:Option Addr} {U:Nat} {M:Option Addr} {J:Nat} {mb:Nat} {ab:Hds} {q:Nat} (ag:Rd G 1 V X (B.River.Down.map aB)) (ad:Rd G 2 O I (B.River.Travel.map aI)) (aa:Rd G 1 D H (B.River.Springs.map aB)) (af:Rd G 3 R U (B.River.Towns.map aG)) (ac:RdT cH G 2 M J B.River.Floods) (hc:Ctx G (.row u Y (y.map aD) 62 2::.box v [.func (.func 45) #[] #[pq p,pq q]] 107::.box p [.func (.func 37) #[pq m] #[]] 96::.box m [.slice V B.River.Down.length X,.slice O B.River.Travel.length I,.slice D B.River.Springs.length H,.slice R B.River.Towns.length U,i6 B.River.Delay.Lo,i6 B.River.Delay.Hi,.slice M B.River.Floods.length J,.map (some mb)] 102::bI mb aW B.found 3 ab::.box q [pq m] 71::Lf) w) {aj:(List aC)} (hF:cB N y a_ b_ n B=some aj):Calls Tryz.prog 144 #[.slice u y.length Y,i6 a_,i6 b_,i6 n,.func (.func 48) #[] #[pq v]] w (fun e w=>e=.returned (.tuple #[])∧aj.length=y.length∧Ctx G (.row u Y (aj.map aD) 62 2::.box v [.func (.func 45) #[] #[pq p,pq q]] 107::.box p [.func (.func 37) #[pq m] #[]] 96::.box m [.slice V B.River.Down.length X,.slice O B.River.Travel.length I,.slice D B.River.Springs.length H,.slice R B.River.Towns.length U,i6 B.River.Delay.Lo,i6 B.River.Delay.Hi,.slice M B.River.Floods.length J,.map (some mb)] 102::bI mb aW B.found 3 ab::.box q [pq m] 71::Lf) w):=by
 unfold cB at hF
 refine bL Tryz.func144 rfl Tryz.ntmps144 rfl fun a hf=>zS fun K h=>sp 1 hf rfl fun a hf=>zT h ?_
 refine iK fun K2 h2=>wp_block ?_
 obtain ⟨x3,bb,hF⟩:=aA hF
 let S3:((List aC) × Int)→Act→World→Prop:=(fun (zz:(List aC) × Int) a w=>Has 38 a [(0,.slice u zz.1.length Y),(1,i6 a_),(2,i6 b_),(3,i6 n),(10,i6 zz.2)]∧Ctx G (.row u Y (zz.1.map aD) 62 2::.box v [.func (.func 45) #[] #[pq p,pq q]] 107::.box p [.func (.func 37) #[pq m] #[]] 96::.box m [.slice V B.River.Down.length X,.slice O B.River.Travel.length I,.slice D B.River.Springs.length H,.slice R B.River.Towns.length U,i6 B.River.Delay.Lo,i6 B.River.Delay.Hi,.slice M B.River.Floods.length J,.map (some mb)] 102::bI mb aW B.found 3 ab::.box q [pq m] 71::Lf) w)
 have a9:∀ (zz:(List aC) × Int) a w,x3=.go zz→S3 zz a w→K2 a w:=by
  rintro ⟨Z,b⟩ a w rfl ⟨hf,hc⟩
  replace hF:=bK hF
  refine h2 _ _ ?_
  obtain ⟨_,a4,hF⟩:=rI hF
  obtain rfl:=sj hF
  exact qZ (by simp) rfl Tryz.results144 hf ⟨rfl,a4,hc⟩
 have bj:∀ r,x3=.out r→r=aj:=by
  rintro r rfl
  exact sj hF
 refine cZ N (cW (S:=S3) (x:=x3) ?_ N (y,0) _ _ ⟨hf.kp rfl,hc⟩ bb)
 clear hF hf hc
 rintro ⟨Z,b⟩ bn a w KB3 ⟨hf,hc⟩ hF ai a1
 unfold dQ at hF
 refine wp_seq_k fun K4 h4=>zS fun K h=>sp 3 hf rfl fun a hf=>zT h ?_
 refine zI hf rfl hF ?_ ?_ <;> clear hF <;> intro hF
 ·refine wp_skip ?_
  refine h4 _ _ ?_
  refine wp_seq_k fun K6 h6=>wp_block ?_
  obtain ⟨s,av,hF⟩:=aA hF
  have a6:=hf
  obtain ⟨g,rfl,qa,qr⟩:=hP hc m0 av
  have hf:=a6
  obtain ⟨t,ay,hF⟩:=aA hF
  obtain ⟨ar,au⟩:=eY hc m0 ay
  obtain ⟨bk,am,hF⟩:=aA hF
  obtain ⟨ax,bg⟩:=eY hc m0 am
  obtain ⟨bm,an,hF⟩:=aA hF
  obtain ⟨aq,bi⟩:=eY hc m0 an
  refine eL (fun θ=>[⟨none,none,0,.slice (some ⟨g,0,none⟩) Z.length Y⟩,⟨none,none,1,i6 a_⟩,⟨none,none,2,i6 b_⟩,⟨none,none,3,i6 n⟩,⟨none,none,10,i6 b⟩,⟨some 0,none,16,.slice (some ⟨g,0,none⟩) Z.length Y⟩,⟨some 1,none,17,i6 a_⟩,⟨some 2,none,18,i6 b⟩,⟨some 3,none,19,i6 (W (a_ + b))⟩,⟨some 4,none,20,.slice (some ⟨g,0,none⟩) Z.length Y⟩,⟨some 5,none,21,i6 b_⟩,⟨some 6,none,22,i6 b⟩,⟨some 7,none,23,i6 (W (b_ + b))⟩,⟨some 8,none,24,.slice (some ⟨g,0,none⟩) Z.length Y⟩,⟨some 9,none,25,i6 b_⟩,⟨some 10,none,26,i6 b⟩,⟨some 11,none,27,i6 (W (b_ + b))⟩,⟨some 12,none,28,.pointer (some ⟨g,(W (b_ + b)).toNat * 2,none⟩)⟩,⟨some 13,none,29,.agg #[i6 s.Spring,i6 s.Town]⟩,⟨some 14,none,30,.slice (some ⟨g,0,none⟩) Z.length Y⟩,⟨some 15,none,31,i6 a_⟩,⟨some 16,none,32,i6 b⟩,⟨some 17,none,33,i6 (W (a_ + b))⟩,⟨some 18,none,34,.pointer (some ⟨g,(W (a_ + b)).toNat * 2,none⟩)⟩,⟨some 19,none,35,.agg #[i6 t.Spring,i6 t.Town]⟩,⟨some 20,none,36,.pointer (some ⟨g,(W (a_ + b)).toNat * 2,none⟩)⟩,⟨some 22,none,37,.pointer (some ⟨g,(W (b_ + b)).toNat * 2,none⟩)⟩]) (fun E θ=>(bif E 23 then .row (some ⟨g,0,none⟩) Y (((Z.set (W (a_ + b)).toNat s).set (W (b_ + b)).toNat t).map aD) 62 2 else bif E 21 then .row (some ⟨g,0,none⟩) Y ((Z.set (W (a_ + b)).toNat s).map aD) 62 2 else .row (some ⟨g,0,none⟩) Y (Z.map aD) 62 2)::.box v [.func (.func 45) #[] #[pq p,pq q]] 107::.box p [.func (.func 37) #[pq m] #[]] 96::.box m [.slice V B.River.Down.length X,.slice O B.River.Travel.length I,.slice D B.River.Springs.length H,.slice R B.River.Towns.length U,i6 B.River.Delay.Lo,i6 B.River.Delay.Hi,.slice M B.River.Floods.length J,.map (some mb)] 102::bI mb aW B.found 3 ab::.box q [pq m] 71::Lf) [(21,12),(23,12),(21,13),(23,13),(19,18),(21,19),(23,18),(23,19),(21,20),(23,20),(23,21),(23,22)] (fun a w=>Has 38 a [(0,.slice (some ⟨g,0,none⟩) Z.length Y),(1,i6 a_),(2,i6 b_),(3,i6 n),(10,i6 b)]∧Ctx G (.row (some ⟨g,0,none⟩) Y (((Z.set (W (a_ + b)).toNat s).set (W (b_ + b)).toNat t).map aD) 62 2::.box v [.func (.func 45) #[] #[pq p,pq q]] 107::.box p [.func (.func 37) #[pq m] #[]] 96::.box m [.slice V B.River.Down.length X,.slice O B.River.Travel.length I,.slice D B.River.Springs.length H,.slice R B.River.Towns.length U,i6 B.River.Delay.Lo,i6 B.River.Delay.Hi,.slice M B.River.Floods.length J,.map (some mb)] 102::bI mb aW B.found 3 ab::.box q [pq m] 71::Lf) w) bA (by kernel_rfl) (by kernel_rfl) (fN.of hf ⟨rfl,rfl,rfl,rfl,rfl,trivial,trivial,trivial,trivial,trivial,trivial,trivial,trivial,trivial,trivial,trivial,trivial,trivial,trivial,trivial,trivial,trivial,trivial,trivial,trivial,trivial,trivial,trivial⟩) hc ⟨?_,?_,?_,?_,?_,?_,?_,?_,?_,?_,?_,?_,?_,?_,?_,?_,?_,?_,?_,?_,?_,?_,?_,?_,trivial⟩ ?_ ?_
  ·intro E θ a w hD hi hp he hc
   have hf:=he.h0.mT he 0 rfl
   refine sp 1 hf rfl fun a hf=>zD θ he hi hf 5 rfl rfl rfl hc
  ·intro E θ a w hD hi hp he hc
   have hf:=he.h0.mT he 1 rfl
   refine sp 1 hf rfl fun a hf=>zD θ he hi hf 6 rfl rfl rfl hc
  ·intro E θ a w hD hi hp he hc
   have hf:=he.h0.mT he 4 rfl
   refine sp 1 hf rfl fun a hf=>zD θ he hi hf 7 rfl rfl rfl hc
  ·intro E θ a w hD hi hp he hc
   have e1:=hp.o 1 rfl
   have e2:=hp.o 2 rfl
   have hf:=(he.h0.mP he 6 rfl e1).mP he 7 rfl e2
   refine sp 1 hf rfl fun a hf=>zD θ he hi hf 8 rfl rfl rfl hc
  ·intro E θ a w hD hi hp he hc
   have hf:=he.h0.mT he 0 rfl
   refine sp 1 hf rfl fun a hf=>zD θ he hi hf 9 rfl rfl rfl hc
  ·intro E θ a w hD hi hp he hc
   have hf:=he.h0.mT he 2 rfl
   refine sp 1 hf rfl fun a hf=>zD θ he hi hf 10 rfl rfl rfl hc
  ·intro E θ a w hD hi hp he hc
   have hf:=he.h0.mT he 4 rfl
   refine sp 1 hf rfl fun a hf=>zD θ he hi hf 11 rfl rfl rfl hc
  ·intro E θ a w hD hi hp he hc
   have e5:=hp.o 5 rfl
   have e6:=hp.o 6 rfl
   have hf:=(he.h0.mP he 10 rfl e5).mP he 11 rfl e6
   refine sp 1 hf rfl fun a hf=>zD θ he hi hf 12 rfl rfl rfl hc
  ·intro E θ a w hD hi hp he hc
   have hf:=he.h0.mT he 0 rfl
   refine sp 1 hf rfl fun a hf=>zD θ he hi hf 13 rfl rfl rfl hc
  ·intro E θ a w hD hi hp he hc
   have hf:=he.h0.mT he 2 rfl
   refine sp 1 hf rfl fun a hf=>zD θ he hi hf 14 rfl rfl rfl hc
  ·intro E θ a w hD hi hp he hc
   have hf:=he.h0.mT he 4 rfl
   refine sp 1 hf rfl fun a hf=>zD θ he hi hf 15 rfl rfl rfl hc
  ·intro E θ a w hD hi hp he hc
   have e9:=hp.o 9 rfl
   have a3:=hp.o 10 rfl
   have hf:=(he.h0.mP he 14 rfl e9).mP he 15 rfl a3
   refine sp 1 hf rfl fun a hf=>zD θ he hi hf 16 rfl rfl rfl hc
  ·intro E θ a w hD hi hp he hc
   have e8:=hp.o 8 rfl
   have bd:=hp.o 11 rfl
   have j:=hD.f 0 rfl hi
   have d:=hD.f 1 rfl hi
   try dsimp only at hc
   rw [j,d] at hc
   have hf:=(he.h0.mP he 13 rfl e8).mP he 16 rfl bd
   refine zP hf rfl (pIA Tryz.underlying49 gG rfl rfl qa) fun a hf=>zD θ he hi hf 17 rfl rfl rfl ?_
   try dsimp only
   rw [aQ 12 j rfl,aQ 12 d rfl]
   exact hc
  ·intro E θ a w hD hi hp he hc
   have a0:=hp.o 12 rfl
   have j:=hD.f 2 rfl hi
   have d:=hD.f 3 rfl hi
   try dsimp only at hc
   rw [j,d] at hc
   have hf:=he.h0.mP he 17 rfl a0
   refine zE hf hc rfl (lK (vs:=[i6 s.Spring,i6 s.Town]) jE rfl rfl (jL (sz:=2) (i:=(W (b_ + b)).toNat) m0 qr (n:=2) (o':=0) rfl)) fun a w hf hc=>zD θ he hi hf 18 rfl rfl rfl ?_
   try dsimp only
   rw [aQ 13 j rfl,aQ 13 d rfl]
   exact hc
  ·intro E θ a w hD hi hp he hc
   have hf:=he.h0.mT he 0 rfl
   refine sp 1 hf rfl fun a hf=>zD θ he hi hf 19 rfl rfl rfl hc
  ·intro E θ a w hD hi hp he hc
   have hf:=he.h0.mT he 1 rfl
   refine sp 1 hf rfl fun a hf=>zD θ he hi hf 20 rfl rfl rfl hc
  ·intro E θ a w hD hi hp he hc
   have hf:=he.h0.mT he 4 rfl
   refine sp 1 hf rfl fun a hf=>zD θ he hi hf 21 rfl rfl rfl hc
  ·intro E θ a w hD hi hp he hc
   have bf:=hp.o 15 rfl
   have a8:=hp.o 16 rfl
   have hf:=(he.h0.mP he 20 rfl bf).mP he 21 rfl a8
   refine sp 1 hf rfl fun a hf=>zD θ he hi hf 22 rfl rfl rfl hc
  ·intro E θ a w hD hi hp he hc
   have a7:=hp.o 14 rfl
   have bc:=hp.o 17 rfl
   have ak:=hD.f 4 rfl hi
   have j:=hD.f 5 rfl ak
   have d:=hD.f 6 rfl hi
   try dsimp only at hc
   rw [j,d] at hc
   have hf:=(he.h0.mP he 19 rfl a7).mP he 22 rfl bc
   refine zP hf rfl (pIA Tryz.underlying49 gG rfl rfl ar) fun a hf=>zD θ he hi hf 23 rfl rfl rfl ?_
   try dsimp only
   rw [aQ 18 j rfl,aQ 18 d rfl]
   exact hc
  ·intro E θ a w hD hi hp he hc
   have ba:=hp.o 18 rfl
   have j:=hD.f 5 rfl hi
   have d:=hD.f 7 rfl hi
   try dsimp only at hc
   rw [j,d] at hc
   have hf:=he.h0.mP he 23 rfl ba
   refine zE hf hc rfl (lK (vs:=[i6 t.Spring,i6 t.Town]) jE rfl rfl (jL (sz:=2) (i:=(W (a_ + b)).toNat) m0 au (n:=2) (o':=0) rfl)) fun a w hf hc=>zD θ he hi hf 24 rfl rfl rfl ?_
   try dsimp only
   rw [aQ 19 j rfl,aQ 19 d rfl]
   exact hc
  ·intro E θ a w hD hi hp he hc
   have e0:=hp.o 0 rfl
   have e3:=hp.o 3 rfl
   have j:=hD.f 8 rfl hi
   have d:=hD.f 9 rfl hi
   try dsimp only at hc
   rw [j,d] at hc
   have hf:=(he.h0.mP he 5 rfl e0).mP he 8 rfl e3
   refine zP hf rfl (pIA Tryz.underlying49 gG rfl rfl ax) fun a hf=>zD θ he hi hf 25 rfl rfl rfl ?_
   try dsimp only
   rw [aQ 20 j rfl,aQ 20 d rfl]
   exact hc
  ·intro E θ a w hD hi hp he hc
   have a2:=hp.o 13 rfl
   have a5:=hp.o 20 rfl
   have d:=hD.f 10 rfl hi
   try dsimp only at hc
   rw [hi,d] at hc
   have hf:=(he.h0.mP he 18 rfl a2).mP he 25 rfl a5
   refine yA (sz:=2) (vs:=[i6 s.Spring,i6 s.Town]) (o':=0) (z:=s) (xs:=Z) hf hc rfl rfl rfl rfl gG rfl (fun x=>(dJ x).1) (mL am) (fun _ _=>rfl) rfl u0 fun w hc=>zG θ he hi hf rfl ?_
   try dsimp only
   rw [aS E 21,aQ 21 d rfl]
   exact hc
  ·intro E θ a w hD hi hp he hc
   have e4:=hp.o 4 rfl
   have e7:=hp.o 7 rfl
   have j:=hp.o 21 rfl
   have d:=hD.f 11 rfl hi
   try dsimp only at hc
   rw [j,d] at hc
   have hf:=(he.h0.mP he 9 rfl e4).mP he 12 rfl e7
   refine zP hf rfl (pIA Tryz.underlying49 gG rfl rfl aq) fun a hf=>zD θ he hi hf 26 rfl rfl rfl ?_
   try dsimp only
   rw [eC 22 j,aQ 22 d rfl]
   exact hc
  ·intro E θ a w hD hi hp he hc
   have ak:=hp.o 19 rfl
   have az:=hp.o 22 rfl
   have j:=hp.o 21 rfl
   try dsimp only at hc
   rw [j,hi] at hc
   have hf:=(he.h0.mP he 24 rfl ak).mP he 26 rfl az
   refine yA (sz:=2) (vs:=[i6 t.Spring,i6 t.Town]) (o':=0) (z:=t) (xs:=(Z.set (W (a_ + b)).toNat s)) hf hc rfl rfl rfl rfl gG rfl (fun x=>(dJ x).1) (by simpa using mL an) (fun _ _=>rfl) rfl u0 fun w hc=>zG θ he hi hf rfl ?_
   try dsimp only
   rw [eC 23 j,aS E 23]
   exact hc
  ·intro E θ a w ap he hc
   have hf:=he.h0
   have j:=ap 21 rfl
   have d:=ap 23 rfl
   replace hf:=hf.more he 4 rfl (onT)
   replace hf:=hf.more he 3 rfl (onT)
   replace hf:=hf.more he 2 rfl (onT)
   replace hf:=hf.more he 1 rfl (onT)
   replace hf:=hf.more he 0 rfl (onT)
   try dsimp only at hc
   rw [j,d] at hc
   exact ⟨hf.kp rfl,hc⟩
  rintro a w ⟨hf,hc⟩
  refine h6 _ _ ?_
  refine bV ?_
  refine sp 3 hf rfl fun a hf=>aP ?_
  replace hf:=hf.castAt 0 (v':=.slice (some ⟨g,0,none⟩) (((Z.set (W (a_ + b)).toNat s).set (W (b_ + b)).toNat t).length) Y) rfl (congrArg (fun k=>Value.slice (some ⟨g,0,none⟩) k Y) (by simp))
  exact a1 (((Z.set (W (a_ + b)).toNat s).set (W (b_ + b)).toNat t),W (b + 1)) _ _ (sj hF).symm ⟨hf.kp rfl,hc⟩
 ·refine wp_exit ?_
  refine aY ?_
  refine aY ?_
  have he:=sj hF
  rw [← he] at ai
  refine fJ ?_
  exact a9 _ _ _ ai ⟨hf.kp rfl,hc⟩

def dC (N:Nat) (m:Int) (I:aF) (H:List aC) (B:Int) (D:Int):Option (bY ((List aC) × Int × Int) ((List aC))) :=
 cond (B != D)
 (cond (decide (D < B))
 (Option.bind (cB N H (W (m - B)) m D I) fun J=>
 some (.cont (J,W (B - D),D)))
 (Option.bind (cB N H (W (m - B)) (W ((W (m + D)) - B)) B I) fun M=>
 some (.cont (M,B,W (D - B)))))
 (some (.brk (H,B,D)))
def eS (N:Nat) (B:List aC) (a_:Int) (m:Int) (b_:Int) (D:aF):Option ((List aC)) :=
 Option.bind (aX (fun s4=>dC N m D s4.1 s4.2.1 s4.2.2) N (B,W (m - a_),W (b_ - m))) fun x4=>
 exK x4 (fun s4=>Option.bind (cB N s4.1 (W (m - s4.2.1)) m s4.2.1 D) fun r=>
 Option.bind (pN r B) fun _=>
 some r) some
theorem pS {N:Nat} {G:aT} {Lf:List Ent} {w:World} (s:List aC) (a_:Int) (m:Int) (b_:Int) (B:aF) {k:Option Addr} {j:Nat} {t:Nat} {q:Nat} {i:Nat} {V:Option Addr} {X:Nat} {O:Option Addr} {I:Nat} {D:Option Addr} {H:Nat} {U:Option Addr} {R:Nat} {M:Option Addr} {J:Nat} {mb:Nat} {ab:Hds} {p:Nat} (g:Rd G 1 V X (B.River.Down.map aB)) (b:Rd G 2 O I (B.River.Travel.map aI)) (Y:Rd G 1 D H (B.River.Springs.map aB)) (d:Rd G 3 U R (B.River.Towns.map aG)) (Z:RdT cH G 2 M J B.River.Floods) (hc:Ctx G (.row k j (s.map aD) 62 2::.box t [.func (.func 45) #[] #[pq q,pq p]] 107::.box q [.func (.func 37) #[pq i] #[]] 96::.box i [.slice V B.River.Down.length X,.slice O B.River.Travel.length I,.slice D B.River.Springs.length H,.slice U B.River.Towns.length R,i6 B.River.Delay.Lo,i6 B.River.Delay.Hi,.slice M B.River.Floods.length J,.map (some mb)] 102::bI mb aW B.found 3 ab::.box p [pq i] 71::Lf) w) {v:(List aC)} (hF:eS N s a_ m b_ B=some v):Calls Tryz.prog 131 #[.slice k s.length j,i6 a_,i6 m,i6 b_,.func (.func 48) #[] #[pq t]] w (fun e w=>e=.returned (.tuple #[])∧v.length=s.length∧Ctx G (.row k j (v.map aD) 62 2::.box t [.func (.func 45) #[] #[pq q,pq p]] 107::.box q [.func (.func 37) #[pq i] #[]] 96::.box i [.slice V B.River.Down.length X,.slice O B.River.Travel.length I,.slice D B.River.Springs.length H,.slice U B.River.Towns.length R,i6 B.River.Delay.Lo,i6 B.River.Delay.Hi,.slice M B.River.Floods.length J,.map (some mb)] 102::bI mb aW B.found 3 ab::.box p [pq i] 71::Lf) w):=by
 unfold eS at hF
 refine bL Tryz.func131 rfl Tryz.ntmps131 rfl fun a hf=>zS fun K h=>sp 4 hf rfl fun a hf=>zT h ?_
 refine zS fun K h=>sp 4 hf rfl fun a hf=>zT h ?_
 refine wp_seq_k fun K3 h3=>wp_block ?_
 obtain ⟨x4,ak,hF⟩:=aA hF
 let S4:((List aC) × Int × Int)→Act→World→Prop:=(fun (zz:(List aC) × Int × Int) a w=>Has 58 a [(0,.slice k zz.1.length j),(2,i6 m),(4,.func (.func 48) #[] #[pq t]),(10,i6 zz.2.1),(11,i6 zz.2.2)]∧Ctx G (.row k j (zz.1.map aD) 62 2::.box t [.func (.func 45) #[] #[pq q,pq p]] 107::.box q [.func (.func 37) #[pq i] #[]] 96::.box i [.slice V B.River.Down.length X,.slice O B.River.Travel.length I,.slice D B.River.Springs.length H,.slice U B.River.Towns.length R,i6 B.River.Delay.Lo,i6 B.River.Delay.Hi,.slice M B.River.Floods.length J,.map (some mb)] 102::bI mb aW B.found 3 ab::.box p [pq i] 71::Lf) w)
 have aj:∀ (zz:(List aC) × Int × Int) a w,x4=.go zz→S4 zz a w→K3 a w:=by
  rintro ⟨o,n,u⟩ a w rfl ⟨hf,hc⟩
  replace hF:=bK hF
  refine h3 _ _ ?_
  refine bV ?_
  refine sp 7 hf rfl fun a hf=>?_
  obtain ⟨r,hr,hF⟩:=aA hF
  refine zC hf aI0 rfl (gV o (W (m - n)) m n B g b Y d Z ((((((hc.pick k5).pick k5).pick k5).pick k5).pick k5).pick k5) hr) ?_
  rintro _ w ⟨rfl,hl,hc⟩
  refine ⟨_,rfl,fun a hf=>?_⟩
  try rw [← hl] at hf
  try rw [← hl] at hc
  refine aP ?_
  obtain ⟨_,am,hF⟩:=rI hF
  obtain rfl:=sj hF
  exact qZ (by simp) rfl Tryz.results131 hf ⟨rfl,am,hc⟩
 have an:∀ r,x4=.out r→r=v:=by
  rintro r rfl
  exact sj hF
 refine cZ N (cW (S:=S4) (x:=x4) ?_ N (s,W (m - a_),W (b_ - m)) _ _ ⟨hf.kp rfl,hc⟩ ak)
 clear hF hf hc
 rintro ⟨o,n,u⟩ ap a w KB4 ⟨hf,hc⟩ hF y ac
 unfold dC at hF
 refine wp_seq_k fun K5 h5=>zS fun K h=>sp 3 hf rfl fun a hf=>zT h ?_
 refine zI hf rfl hF ?_ ?_ <;> clear hF <;> intro hF
 ·refine wp_skip ?_
  refine h5 _ _ ?_
  refine iK fun K7 h7=>wp_block ?_
  refine zS fun K h=>sp 3 hf rfl fun a hf=>zT h ?_
  refine zI hf rfl hF ?_ ?_ <;> clear hF <;> intro hF
  ·refine zS fun K h=>sp 7 hf rfl fun a hf=>?_
   obtain ⟨ai,ad,hF⟩:=aA hF
   refine zC hf aI0 rfl (gV o (W (m - n)) m u B g b Y d Z ((((((hc.pick k5).pick k5).pick k5).pick k5).pick k5).pick k5) ad) ?_
   rintro _ w ⟨rfl,aa,hc⟩
   refine ⟨_,rfl,fun a hf=>?_⟩
   try rw [← aa] at hf
   try rw [← aa] at hc
   refine zT h ?_
   refine bV ?_
   refine sp 4 hf rfl fun a hf=>aP ?_
   refine h7 _ _ ?_
   exact ac (ai,W (n - u),u) _ _ (sj hF).symm ⟨hf.kp rfl,hc⟩
  ·refine zS fun K h=>sp 11 hf rfl fun a hf=>?_
   obtain ⟨ag,af,hF⟩:=aA hF
   refine zC hf aI0 rfl (gV o (W (m - n)) (W ((W (m + u)) - n)) n B g b Y d Z ((((((hc.pick k5).pick k5).pick k5).pick k5).pick k5).pick k5) af) ?_
   rintro _ w ⟨rfl,z,hc⟩
   refine ⟨_,rfl,fun a hf=>?_⟩
   try rw [← z] at hf
   try rw [← z] at hc
   refine zT h ?_
   refine bV ?_
   refine sp 4 hf rfl fun a hf=>aP ?_
   refine h7 _ _ ?_
   exact ac (ag,n,W (u - n)) _ _ (sj hF).symm ⟨hf.kp rfl,hc⟩
 ·refine wp_exit ?_
  refine aY ?_
  refine aY ?_
  have he:=sj hF
  rw [← he] at y
  refine fJ ?_
  exact aj _ _ _ y ⟨hf.kp rfl,hc⟩

end Go.Nilo
