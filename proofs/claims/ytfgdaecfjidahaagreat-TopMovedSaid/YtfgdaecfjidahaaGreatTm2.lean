/-
 What functions of the Go text compute, as plain functions, and that they do, part 2 of 4. Conditions: what each theorem names.
-/
import Derived.Test.YtfgdaecfjidahaaGreatTm1
import Derived.Test.YtfgdaecfjidahaaGreatProg
set_option linter.unusedVariables false
set_option linter.unusedSimpArgs false
set_option maxRecDepth 100000
set_option maxHeartbeats 4000000
namespace Go.Nilo
open Go.Proofs


def eU (N:Nat) (w_:aP) (mp:Int→Option Bool) (xv:aE):Option (Rs ((Int→Option Bool))) :=
 Option.bind (bQ w_.Net.Lines xv.Line) fun I=>
 some (.go (rM mp (W (I.Day + 1)) true))
noncomputable def level_survey_days (N:Nat) (w_:aP) (mark:Int):Option ((List Int)) :=
 Option.bind (eM N w_ mark) fun r=>
 Option.bind (cA N w_.Net.Marks w_.Net.Lines r (rY (fun (zz:(Int→Option Bool)) (H:aE)=>eU N w_ zz H)) (.go (rM (fun _=>none:Int→Option Bool) 1 true))) fun x5=>
 rsK x5 (fun B=>Option.bind (dI N (yK B 40001)) fun J=>
 Option.bind (slices_Sorted_int N J) fun D=>
 some D) (fun B=>none)
theorem uU {N:Nat} {G:aU} {Lf:List Ent} {w:World} (w_:aP) (mark:Int) {b_:Nat} {D:Option Addr} {H:Nat} (I:Rd G 5 D H (w_.Net.Lines.map aM)) (hc:Ctx G (.box b_ (aN [i6 w_.Net.Marks,.slice D w_.Net.Lines.length H] 169 aB w_.can (aN [] 169 aD w_.by_ [])) 127::Lf) w) {Y:(List Int)} (hF:level_survey_days N w_ mark=some Y):Calls Tryz.prog 44 #[pq b_,i6 mark] w (fun e w=>∃ (q:Option Addr) (n:Nat),e=.returned (.slice q Y.length n)∧Ctx G (.row q n (Y.map aB) 3 1::.box b_ (aN [i6 w_.Net.Marks,.slice D w_.Net.Lines.length H] 169 aB w_.can (aN [] 169 aD w_.by_ [])) 127::Lf) w):=by
 unfold level_survey_days at hF
 refine xK Tryz.func44 rfl Tryz.ntmps44 rfl fun a hf=>zS fun K h=>zB hf hc rfl fun R a w hf hc=>sp 1 hf rfl fun a hf=>zT h ?_
 refine zS fun K h=>stMM hf hc rfl rfl fun mb a w hf hc=>?_
 replace hc:Ctx _ (.im mb (fun j=>((fun _=>none:Int→Option Bool) j).map Value.bool) none::_) w:=hc
 refine stMI (enc:=Value.bool) (m:=(fun _=>none:Int→Option Bool)) (v:=true) hf hc rfl Tryz.underlying177 Tryz.underlying3 rfl rfl rfl u0 fun w hc=>sp 1 hf rfl fun a hf=>aKl (cs:=[.map none]) hf hc rfl rfl aNs rfl fun O a w hf hc=>stSt (vs:=[.map (some mb)]) hf hc rfl rfl rfl rfl aOr rfl rfl u0 fun w hc=>zT h ?_
 refine wp_seq_k fun K3 h3=>zS fun K h=>zL hf hc lP m2 rfl fun a w hf hc=>sp 1 hf rfl fun a hf=>?_
 obtain ⟨r,hr,hF⟩:=aA hF
 refine zC hf aJ3 rfl (lU w_ mark I (hc.pick k3) hr) ?_
 rintro _ w ⟨U,S,rfl,hc⟩
 refine ⟨_,rfl,fun a hf=>?_⟩
 refine zT h ?_
 obtain ⟨x5,aa,hF⟩:=aA hF
 refine aEf (C:=[.box U [pq b_] 66,.box S [i6 r] 3]) (C2:=[.box U [pq b_] 66,.box S [i6 r] 3]) (L0:=[.box b_ (aN [i6 w_.Net.Marks,.slice D w_.Net.Lines.length H] 169 aB w_.can (aN [] 169 aD w_.by_ [])) 127,.box O [.map (some mb)] 177,.im mb (fun j=>(((rM (fun _=>none:Int→Option Bool) 1 true)) j).map Value.bool) none,.box R [pq b_] 66]) (Lf:=Lf) (encs:=fun x:aE=>[.agg #[i6 x.Line,.bool x.Back]]) (fun (zz:(Int→Option Bool)) L=>L=[.box b_ (aN [i6 w_.Net.Marks,.slice D w_.Net.Lines.length H] 169 aB w_.can (aN [] 169 aD w_.by_ [])) 127,.box O [.map (some mb)] 177,.im mb (fun j=>(zz j).map Value.bool) none,.box R [pq b_] 66]) (fun (zz:(Int→Option Bool)) (af:aE)=>eU N w_ zz af) (rM (fun _=>none:Int→Option Bool) 1 true) x5 hf hc rfl aJm (fun _=>rfl) rfl rfl ?_ ?_ ?_ ?_
 ·intro lq mq J L Lx w hy hQ hJ hc
  have t:∀ (zz:(Int→Option Bool)) (M:List Ent),(fun (zz:(Int→Option Bool)) L=>L=[.box b_ (aN [i6 w_.Net.Marks,.slice D w_.Net.Lines.length H] 169 aB w_.can (aN [] 169 aD w_.by_ [])) 127,.box O [.map (some mb)] 177,.im mb (fun j=>(zz j).map Value.bool) none,.box R [pq b_] 66]) zz M→∃ A B,∃ xx:(Nat→Int) × (Nat→aE),M=A++(.box b_ (aN [i6 w_.Net.Marks,.slice D w_.Net.Lines.length H] 169 aB xx.1 (aN [] 169 aD xx.2 [])) 127::B):=by
   rintro mp _ ⟨rfl⟩
   exact ⟨[],_,(w_.can,w_.by_),rfl⟩
  exact lD w_.Net.Marks w_.Net.Lines r I J _ hy _ hJ (hQ _ (fun xx:(Nat→Int) × (Nat→aE)=>.box b_ (aN [i6 w_.Net.Marks,.slice D w_.Net.Lines.length H] 169 aB xx.1 (aN [] 169 aD xx.2 [])) 127) t) hc aa
 ·clear hF hf hc
  rintro lq mq mp xv oq _ Lr Lb a w aj rfl hF hf hc hK
  replace hf:Has 29 a [(2,pq R),(5,pq O),(12,.agg #[i6 xv.Line,.bool xv.Back])]:=hf.kp rfl
  replace hc:Ctx G (.box b_ (aN [i6 w_.Net.Marks,.slice D w_.Net.Lines.length H] 169 aB w_.can (aN [] 169 aD w_.by_ [])) 127::.box O [.map (some mb)] 177::.im mb (fun j=>(mp j).map Value.bool) none::.box R [pq b_] 66::Lr) w:=hc
  replace hF:eU N w_ mp xv=some oq:=hF
  unfold eU at hF
  refine mU (fun _ _ h=>h) rfl ?_
  refine zA hf hc aEj rfl fun V a w hf hc=>zW hf hc wU u0 rfl fun w hc=>aS ?_
  refine hK _ _ [.box V [i6 xv.Line,.bool xv.Back] 123,.box b_ (aN [i6 w_.Net.Marks,.slice D w_.Net.Lines.length H] 169 aB w_.can (aN [] 169 aD w_.by_ [])) 127,.box O [.map (some mb)] 177,.im mb (fun j=>(mp j).map Value.bool) none,.box R [pq b_] 66] hc fun w hc=>?_
  replace hc:Ctx G (.box V [i6 xv.Line,.bool xv.Back] 123::.box b_ (aN [i6 w_.Net.Marks,.slice D w_.Net.Lines.length H] 169 aB w_.can (aN [] 169 aD w_.by_ [])) 127::.box O [.map (some mb)] 177::.im mb (fun j=>(mp j).map Value.bool) none::.box R [pq b_] 66::Lb) w:=hc
  refine rK fun K6 h6=>pW ?_
  obtain ⟨X,y,hF⟩:=aA hF
  obtain ⟨p,o,qa,qp⟩:=I.atm y
  refine tZ (fun _ _ h=>h) rfl (fun θ=>[⟨none,none,2,pq R⟩,⟨none,none,5,pq O⟩,⟨none,none,6,pq V⟩,⟨some 0,none,13,.map (some mb)⟩,⟨some 1,none,14,pq b_⟩,⟨some 2,none,15,pq b_⟩,⟨some 3,none,16,pq b_⟩,⟨some 4,none,17,.pointer (some ⟨b_,1,none⟩)⟩,⟨some 5,none,18,.slice D w_.Net.Lines.length H⟩,⟨some 6,none,19,pq V⟩,⟨some 7,none,20,i6 xv.Line⟩,⟨some 8,none,21,.pointer (some ⟨p,o,none⟩)⟩,⟨some 9,none,22,.pointer (some ⟨p,o + 2,none⟩)⟩,⟨some 10,none,23,i6 X.Day⟩,⟨some 11,none,24,i6 (W (X.Day + 1))⟩]) (fun E θ=>.box V [i6 xv.Line,.bool xv.Back] 123::.box b_ (aN [i6 w_.Net.Marks,.slice D w_.Net.Lines.length H] 169 aB w_.can (aN [] 169 aD w_.by_ [])) 127::.box O [.map (some mb)] 177::(bif E 12 then .im mb (fun j=>((rM mp (W (X.Day + 1)) true) j).map Value.bool) none else .im mb (fun j=>(mp j).map Value.bool) none)::.box R [pq b_] 66::Lb) [] (fun a w=>Has 29 a [(2,pq R),(5,pq O)]∧Ctx G (.box V [i6 xv.Line,.bool xv.Back] 123::.box b_ (aN [i6 w_.Net.Marks,.slice D w_.Net.Lines.length H] 169 aB w_.can (aN [] 169 aD w_.by_ [])) 127::.box O [.map (some mb)] 177::.im mb (fun j=>((rM mp (W (X.Day + 1)) true) j).map Value.bool) none::.box R [pq b_] 66::Lb) w) aW (by kernel_rfl) (by kernel_rfl) (eV.of hf ⟨rfl,rfl,rfl,trivial,trivial,trivial,trivial,trivial,trivial,trivial,trivial,trivial,trivial,trivial,trivial,trivial⟩) hc ⟨?_,?_,?_,?_,?_,?_,?_,?_,?_,?_,?_,?_,?_,trivial⟩ ?_ ?_
  ·intro E θ a w hD hi hp he hc
   have hf:=he.h0.mT he 1 rfl
   refine zL hf hc aGp m2 rfl fun a w hf hc=>zD θ he hi hf 3 rfl rfl rfl hc
  ·intro E θ a w hD hi hp he hc
   have hf:=he.h0.mT he 0 rfl
   refine zL hf hc lP m4 rfl fun a w hf hc=>zD θ he hi hf 4 rfl rfl rfl hc
  ·intro E θ a w hD hi hp he hc
   have e1:=hp.o 1 rfl
   have hf:=he.h0.mP he 4 rfl e1
   refine sp 1 hf rfl fun a hf=>zD θ he hi hf 5 rfl rfl rfl hc
  ·intro E θ a w hD hi hp he hc
   have e2:=hp.o 2 rfl
   have hf:=he.h0.mP he 5 rfl e2
   refine zP hf rfl (pFA nY rfl) fun a hf=>zD θ he hi hf 6 rfl rfl rfl hc
  ·intro E θ a w hD hi hp he hc
   have e3:=hp.o 3 rfl
   have hf:=he.h0.mP he 6 rfl e3
   refine zP hf rfl (pFA kW rfl) fun a hf=>zD θ he hi hf 7 rfl rfl rfl hc
  ·intro E θ a w hD hi hp he hc
   have e4:=hp.o 4 rfl
   have hf:=he.h0.mP he 7 rfl e4
   refine zL hf hc sE m1 rfl fun a w hf hc=>zD θ he hi hf 8 rfl rfl rfl hc
  ·intro E θ a w hD hi hp he hc
   have hf:=he.h0.mT he 2 rfl
   refine zP hf rfl (pFA yF rfl) fun a hf=>zD θ he hi hf 9 rfl rfl rfl hc
  ·intro E θ a w hD hi hp he hc
   have e6:=hp.o 6 rfl
   have hf:=he.h0.mP he 9 rfl e6
   refine zL hf hc aY m0 rfl fun a w hf hc=>zD θ he hi hf 10 rfl rfl rfl hc
  ·intro E θ a w hD hi hp he hc
   have e5:=hp.o 5 rfl
   have e7:=hp.o 7 rfl
   have hf:=(he.h0.mP he 8 rfl e5).mP he 10 rfl e7
   refine zP hf rfl (pIA Tryz.underlying23 rA rfl rfl qa) fun a hf=>zD θ he hi hf 11 rfl rfl rfl hc
  ·intro E θ a w hD hi hp he hc
   have e8:=hp.o 8 rfl
   have hf:=he.h0.mP he 11 rfl e8
   refine zP hf rfl (pFA xM rfl) fun a hf=>zD θ he hi hf 12 rfl rfl rfl hc
  ·intro E θ a w hD hi hp he hc
   have e9:=hp.o 9 rfl
   have hf:=he.h0.mP he 12 rfl e9
   refine zE hf hc rfl (cN aY rfl (gO (j:=2) qp rfl)) fun a w hf hc=>zD θ he hi hf 13 rfl rfl rfl hc
  ·intro E θ a w hD hi hp he hc
   have ac:=hp.o 10 rfl
   have hf:=he.h0.mP he 13 rfl ac
   refine sp 1 hf rfl fun a hf=>zD θ he hi hf 14 rfl rfl rfl hc
  ·intro E θ a w hD hi hp he hc
   have e0:=hp.o 0 rfl
   have ab:=hp.o 11 rfl
   try dsimp only at hc
   rw [hi] at hc
   have hf:=(he.h0.mP he 3 rfl e0).mP he 14 rfl ab
   refine stMU (enc:=Value.bool) (m:=mp) (v:=true) hf hc rfl Tryz.underlying177 Tryz.underlying3 rfl rfl rfl u3 fun w hc=>zG θ he hi hf rfl ?_
   try dsimp only
   rw [aX E 12]
   exact hc
  ·intro E θ a w s he hc
   have hf:=he.h0
   have ad:=s 12 rfl
   replace hf:=hf.more he 1 rfl (onT)
   replace hf:=hf.more he 0 rfl (onT)
   try dsimp only at hc
   rw [ad] at hc
   exact ⟨hf.kp rfl,hc⟩
  rintro a w ⟨hf,hc⟩
  refine h6 _ _ ?_
  replace hc:=hc.drop k0
  exact ⟨(rM mp (W (X.Day + 1)) true),_,(sj hF).symm,rfl,hc⟩
 ·rintro D_1 mp _ a w g rfl hf hc
  replace hf:Has ⟨29,jA (D_1::[])⟩ a [(2,pq R),(5,pq O)]:=hf.kp rfl
  replace hc:Ctx G (.box U [pq b_] 66::.box S [i6 r] 3::.box b_ (aN [i6 w_.Net.Marks,.slice D w_.Net.Lines.length H] 169 aB w_.can (aN [] 169 aD w_.by_ [])) 127::.box O [.map (some mb)] 177::.im mb (fun j=>(mp j).map Value.bool) none::.box R [pq b_] 66::(kV (D_1::[])++Lf)) w:=kS (C:=[.box U [pq b_] 66,.box S [i6 r] 3]) (L:=[.box b_ (aN [i6 w_.Net.Marks,.slice D w_.Net.Lines.length H] 169 aB w_.can (aN [] 169 aD w_.by_ [])) 127,.box O [.map (some mb)] 177,.im mb (fun j=>(mp j).map Value.bool) none,.box R [pq b_] 66]) hc
  replace hF:(Option.bind (dI N (yK mp 40001)) fun b=>Option.bind (slices_Sorted_int N b) fun Z=>some Z)=some Y:=by rcases g with rfl | rfl <;> exact hF
  refine h3 _ _ ?_
  refine zS fun K h=>zL hf hc aGp m3 rfl fun a w hf hc=>aN0 (enc:=Value.bool) (m:=mp) (k:=40001) hf hc rfl rfl Tryz.underlying177 Tryz.underlying3 rfl rfl u4 fun w hc=>zT h ?_
  refine zS fun K h=>zL hf hc aGp m3 rfl fun a w hf hc=>?_
  obtain ⟨b,z,hF⟩:=aA hF
  refine zC hf en_85 rfl (nD (yK mp 40001) (hc.pick k4) z) ?_
  rintro _ w ⟨ag,ai,rfl,hc⟩
  refine ⟨_,rfl,fun a hf=>?_⟩
  obtain ⟨Z,u,hF⟩:=aA hF
  refine zC hf en_84 rfl (uP b ((hc.pick k0).pick k1) u) ?_
  rintro _ w ⟨d,i,rfl,hc⟩
  refine ⟨_,rfl,fun a hf=>?_⟩
  refine sp 1 hf rfl fun a hf=>zT h ?_
  refine wp_ret ?_
  obtain rfl:=sj hF
  replace hc:=(((((hc.drop k7).drop k6).drop k4).drop k3).drop k2).drop k1
  refine wV hf ?_
  refine uC [.row d i (Z.map aB) 3 1,.box b_ (aN [i6 w_.Net.Marks,.slice D w_.Net.Lines.length H] 169 aB w_.can (aN [] 169 aD w_.by_ [])) 127] (D_1::[]) hc fun w hc=>?_
  replace hc:Ctx G (.row d i (Z.map aB) 3 1::.box b_ (aN [i6 w_.Net.Marks,.slice D w_.Net.Lines.length H] 169 aB w_.can (aN [] 169 aD w_.by_ [])) 127::Lf) w:=hc
  exact aDg Tryz.results44 hf hc (show eZ _ 4=_ from rfl) ⟨d,i,rfl,hc⟩
 ·rintro D_1 mp _ a w g rfl hf hc
  replace hf:Has ⟨29,jA (D_1::[])⟩ a [(2,pq R),(5,pq O)]:=hf.kp rfl
  replace hc:Ctx G (.box U [pq b_] 66::.box S [i6 r] 3::.box b_ (aN [i6 w_.Net.Marks,.slice D w_.Net.Lines.length H] 169 aB w_.can (aN [] 169 aD w_.by_ [])) 127::.box O [.map (some mb)] 177::.im mb (fun j=>(mp j).map Value.bool) none::.box R [pq b_] 66::(kV (D_1::[])++Lf)) w:=kS (C:=[.box U [pq b_] 66,.box S [i6 r] 3]) (L:=[.box b_ (aN [i6 w_.Net.Marks,.slice D w_.Net.Lines.length H] 169 aB w_.can (aN [] 169 aD w_.by_ [])) 127,.box O [.map (some mb)] 177,.im mb (fun j=>(mp j).map Value.bool) none,.box R [pq b_] 66]) hc
  replace hF:(none)=some Y:=by subst g; exact hF
  cases hF

def dO (N:Nat) (s_:List aF):Option ((List aF)) :=
 Option.bind (rR (s_).length) fun un=>
 some s_
theorem lQ {N:Nat} {G:aU} {Lf:List Ent} {w:World} (s_:List aF) {D:Option Addr} {I:Nat} (H:Rd G 5 D I (s_.map aM)) (hc:Ctx G (Lf) w) {B:(List aF)} (hF:dO N s_=some B):Calls Tryz.prog 86 #[.slice D s_.length I] w (fun e w=>∃ (J:Option Addr) (M:Nat),e=.returned (.slice J B.length M)∧Ctx G (.row J M (B.map aM) 32 5::Lf) w):=by
 unfold dO at hF
 refine bU Tryz.func86 rfl Tryz.ntmps86 rfl fun a hf=>zS fun K h=>sp 1 hf rfl fun a hf=>zT h ?_
 refine wp_seq_k fun K2 h2=>zS fun K h=>sp 1 hf rfl fun a hf=>zP hf rfl (pEqN Tryz.underlying23 rfl rfl) fun a hf=>zT h ?_
 rcases aEh H with ⟨hp,hx⟩ | hp
 ·rw [hp] at hf
  replace hF:(some ([]:List aF))=some B:=by
   try rw [hx] at hF
   exact hF
  refine aG1 hf rfl ?_
  refine zS fun K h=>sp 1 hf rfl fun a hf=>zT h ?_
  refine wp_ret ?_
  refine aQ ?_
  obtain rfl:=sj hF
  replace hc:=hc.nilRow 32 5
  exact zO1 Tryz.results86 hf rfl ⟨none,0,rfl,hc⟩
 ·rw [hp] at hf
  refine aDv hf rfl ?_
  refine wp_skip ?_
  refine h2 _ _ ?_
  refine zS fun K h=>pJ (rows:=([]:List aF).map aM) (vs:=[]) hf hc rfl rfl aF5 rfl trivial rfl rfl fun U a w hf hc=>sp 1 hf rfl fun a hf=>?_
  obtain ⟨un,R,hF⟩:=aA hF
  refine qI (xs:=([]:List aF)) (ys:=s_) hf hc rfl rfl aF5 rfl rfl rfl rfl rfl gR (aGo hc H) (fun _ _=>u0) (by simpa using gJ R) fun O S a w hf hc=>sp 1 hf rfl fun a hf=>zT h ?_
  refine wp_ret ?_
  obtain rfl:=sj hF
  exact zO1 Tryz.results86 hf rfl ⟨O,S,rfl,hc⟩

def eX (N:Nat) (x:Int) (B:List aF):Option (cP (Int × (List aF)) (aO)) :=
 some (.cont (W (x + 1),B))
def iZ (N:Nat) (n:aO) (m:aZ) (x:Int) (D:List aF):Option (cP (Int × (List aF)) (aO)) :=
 Option.bind (bQ D x) fun H=>
 cond (H.To == m.Mark)
 (Option.bind (bQ D x) fun B=>
 eX N x (D.set x.toNat (⟨B.From,n.Marks,B.Day,B.Rise,B.Error⟩:aF)))
 (eX N x D)
def lG (N:Nat) (n:aO) (m:aZ) (r:(List aF)) (x:Int) (D:List aF):Option (cP (Int × (List aF)) (aO)) :=
 cond (decide (x < ((r.length:Nat):Int)))
 (Option.bind (bQ D x) fun B=>
 cond (decide (B.Day < m.Day))
 (eX N x D)
 (cond (B.From == m.Mark)
 (iZ N n m x (D.set x.toNat (⟨n.Marks,B.To,B.Day,B.Rise,B.Error⟩:aF)))
 (iZ N n m x D)))
 (some (.brk (x,D)))
def oB (N:Nat) (n:aO) (m:aZ):Option (aO) :=
 Option.bind (dO N n.Lines) fun r=>
 Option.bind (bC (fun s5=>lG N n m r s5.1 s5.2) N (0,r)) fun x5=>
 exK x5 (fun s5=>some (⟨W (n.Marks + 1),s5.2⟩:aO)) some
theorem aAj {N:Nat} {G:aU} {Lf:List Ent} {w:World} (n:aO) (m:aZ) {D:Option Addr} {B:Nat} (Z:Rd G 5 D B (n.Lines.map aM)) (hc:Ctx G (Lf) w) {k:aO} (hF:oB N n m=some k):Calls Tryz.prog 45 #[.agg #[i6 n.Marks,.slice D n.Lines.length B],.agg #[i6 m.Mark,i6 m.Day]] w (fun e w=>∃ (am:Option Addr) (aj:Nat),e=.returned (.agg #[i6 k.Marks,.slice am k.Lines.length aj])∧Ctx G (.row am aj (k.Lines.map aM) 32 5::Lf) w):=by
 unfold oB at hF
 refine bU Tryz.func45 rfl Tryz.ntmps45 rfl fun a hf=>zS fun K h=>zB hf hc rfl fun M a w hf hc=>zB hf hc rfl fun O a w hf hc=>zA hf hc aC2 rfl fun R a w hf hc=>zT h ?_
 refine wp_seq_k fun K2 h2=>?_
 obtain ⟨r,hr,hF⟩:=aA hF
 replace hc:=hc.nilRow 0 0
 replace hc:=hc.nilRow 0 0
 refine iE (fun θ=>[⟨none,none,2,pq M⟩,⟨none,none,3,pq O⟩,⟨none,none,4,pq R⟩,⟨some 0,none,8,pq M⟩,⟨some 1,none,9,i6 n.Marks⟩,⟨some 2,none,10,i6 (W (n.Marks + 1))⟩,⟨some 3,none,11,.pointer (some ⟨M,1,none⟩)⟩,⟨some 4,none,12,.slice D n.Lines.length B⟩,⟨some 5,none,13,.slice ((θ 40).p) r.length ((θ 40).c)⟩,⟨some 6,none,14,.agg #[i6 (W (n.Marks + 1)),.slice ((θ 40).p) r.length ((θ 40).c)]⟩,⟨some 7,none,5,.pointer (some ⟨(θ 56).b,0,none⟩)⟩]) (fun E θ=>(bif E 8 then .box (θ 56).b [i6 (W (n.Marks + 1)),.slice ((θ 40).p) r.length ((θ 40).c)] 25 else bif E 7 then .box (θ 56).b [i6 0,.slice none 0 0] 25 else .row none 0 [] 0 0)::(bif E 5 then .row ((θ 40).p) ((θ 40).c) (r.map aM) 32 5 else .row none 0 [] 0 0)::.box R [i6 0,.slice none 0 0] 25::.box O [i6 m.Mark,i6 m.Day] 73::.box M [i6 n.Marks,.slice D n.Lines.length B] 25::Lf) [(8,5),(6,5),(8,7)] (fun a w=>∃ (U:Nat) (y:Option Addr) (aa:Nat),Has 58 a [(2,pq M),(3,pq O),(4,pq R),(5,pq U)]∧Ctx G (.box U [i6 (W (n.Marks + 1)),.slice y r.length aa] 25::.row y aa (r.map aM) 32 5::.box R [i6 0,.slice none 0 0] 25::.box O [i6 m.Mark,i6 m.Day] 73::.box M [i6 n.Marks,.slice D n.Lines.length B] 25::Lf) w) aW (by kernel_rfl) (by kernel_rfl) (eV.of hf ⟨rfl,rfl,rfl,trivial,trivial,trivial,trivial,trivial,trivial,trivial,trivial,trivial⟩) hc ⟨?_,?_,?_,?_,?_,?_,?_,?_,?_,trivial⟩ ?_ ?_
 ·intro E θ a w hD hi hp he hc
  have hf:=he.h0.mT he 0 rfl
  refine zP hf rfl (pFA gW rfl) fun a hf=>zD θ he hi hf 3 rfl rfl rfl hc
 ·intro E θ a w hD hi hp he hc
  have e0:=hp.o 0 rfl
  have hf:=he.h0.mP he 3 rfl e0
  refine zL hf hc aY m4 rfl fun a w hf hc=>zD θ he hi hf 4 rfl rfl rfl hc
 ·intro E θ a w hD hi hp he hc
  have e1:=hp.o 1 rfl
  have hf:=he.h0.mP he 4 rfl e1
  refine sp 1 hf rfl fun a hf=>zD θ he hi hf 5 rfl rfl rfl hc
 ·intro E θ a w hD hi hp he hc
  have hf:=he.h0.mT he 0 rfl
  refine zP hf rfl (pFA kW rfl) fun a hf=>zD θ he hi hf 6 rfl rfl rfl hc
 ·intro E θ a w hD hi hp he hc
  have e3:=hp.o 3 rfl
  have hf:=he.h0.mP he 6 rfl e3
  refine zL hf hc sE m4 rfl fun a w hf hc=>zD θ he hi hf 7 rfl rfl rfl hc
 ·intro E θ a w hD hi hp he hc
  have e4:=hp.o 4 rfl
  have e8:=hD.f 0 rfl hi
  have e6:=hD.f 1 rfl hi
  try dsimp only at hc
  rw [hi,e8] at hc
  have hf:=he.h0.mP he 7 rfl e4
  refine zC hf en_86 rfl (lQ n.Lines Z hc hr) ?_
  rintro _ w ⟨av,a3,rfl,hc⟩
  refine ⟨_,rfl,fun a hf=>?_⟩
  refine aS ?_
  refine dA ?_
  intro ds u ai
  replace hc:=((hc.drop k2).pick k0).pick k1
  refine ⟨(sK θ 40 ⟨0,av,a3,(fun _=>(none,0))⟩),he.put hi ai hf rfl [6] ⟨⟨e6,rfl⟩,trivial⟩ ⟨qq,qq,qq,qq,qq,qq,qq,qq,qq,trivial,qq,trivial⟩,?_⟩
  try dsimp only
  rw [aX E 5,aV 5 e8 rfl]
  exact hc
 ·intro E θ a w hD hi hp he hc
  have e2:=hp.o 2 rfl
  have e5:=hp.o 5 rfl
  have hf:=(he.h0.mP he 5 rfl e2).mP he 8 rfl e5
  refine zP hf rfl (bL (cells:=[i6 (W (n.Marks + 1)),.slice ((θ 40).p) r.length ((θ 40).c)]) aKa rfl rfl) fun a hf=>zD θ he hi hf 9 rfl rfl rfl hc
 ·intro E θ a w hD hi hp he hc
  have e8:=hD.f 2 rfl hi
  try dsimp only at hc
  rw [hi,e8] at hc
  have hf:=he.h0
  refine zA hf hc aC2 rfl fun ar a w hf hc=>aS ?_
  refine dA ?_
  intro ds u ai
  replace hc:=hc.drop k1
  refine ⟨(sK θ 56 ⟨ar,none,0,(fun _=>(none,0))⟩),he.put hi ai hf rfl [] trivial ⟨qq,qq,qq,qq,qq,qq,qq,qq,qq,qq,qq,trivial⟩,?_⟩
  try dsimp only
  rw [aX E 7,aV 7 e8 rfl]
  exact hc
 ·intro E θ a w hD hi hp he hc
  have e6:=hp.o 6 rfl
  have e7:=hp.o 7 rfl
  try dsimp only at hc
  rw [e7,hi] at hc
  have hf:=(he.h0.mP he 9 rfl e6).mP he 10 rfl e7
  refine zW hf hc aDd u0 rfl fun w hc=>zG θ he hi hf rfl ?_
  try dsimp only
  rw [eL 8 e7,aX E 8]
  exact hc
 ·intro E θ a w q he hc
  have hf:=he.h0
  have e5:=q 5 rfl
  have e7:=q 7 rfl
  have e8:=q 8 rfl
  replace hf:=hf.more he 10 rfl (onP e7)
  replace hf:=hf.more he 2 rfl (onT)
  replace hf:=hf.more he 1 rfl (onT)
  replace hf:=hf.more he 0 rfl (onT)
  try dsimp only at hc
  rw [e5,e7,e8] at hc
  exact ⟨(θ 56).b,(θ 40).p,(θ 40).c,hf.kp rfl,hc⟩
 rintro a w ⟨U,y,aa,hf,hc⟩
 refine h2 _ _ ?_
 refine wp_seq_k fun K3 h3=>zS fun K h=>zP hf rfl (pFA kW rfl) fun a hf=>zL hf hc sE m0 rfl fun a w hf hc=>zP hf rfl (cR Tryz.underlying23 rfl) fun a hf=>sp 1 hf rfl fun a hf=>zT h ?_
 refine wp_block ?_
 obtain ⟨x5,au,hF⟩:=aA hF
 let S5:(Int × (List aF))→Act→World→Prop:=(fun (zz:Int × (List aF)) a w=>∃ (Y:Option Addr) (H:Nat),Has 58 a [(2,pq M),(3,pq O),(4,pq R),(5,pq U),(17,i6 ((r.length:Nat):Int)),(18,i6 zz.1)]∧Ctx G (.box U [i6 (W (n.Marks + 1)),.slice Y zz.2.length H] 25::.row Y H (zz.2.map aM) 32 5::.box R [i6 0,.slice none 0 0] 25::.box O [i6 m.Mark,i6 m.Day] 73::.box M [i6 n.Marks,.slice D n.Lines.length B] 25::Lf) w)
 have ay:∀ (zz:Int × (List aF)) a w,x5=.go zz→S5 zz a w→K3 a w:=by
  rintro ⟨x,X⟩ a w rfl ⟨Y,H,hf,hc⟩
  replace hF:=cI hF
  refine h3 _ _ ?_
  refine zS fun K h=>zN hf hc oN m0 rfl fun a w hf hc=>zW hf hc aDd u2 rfl fun w hc=>zT h ?_
  refine wp_ret ?_
  obtain rfl:=sj hF
  replace hc:=((hc.drop k4).drop k3).drop k0
  exact lC (by simp) rfl Tryz.results45 hf hc (cW (vs:=[i6 (W (n.Marks + 1)),.slice Y X.length H]) oN rfl rfl (bR (n:=2) m1 rfl)) ⟨Y,H,rfl,(hc.drop k1)⟩
 have a7:∀ r,x5=.out r→r=k:=by
  rintro r rfl
  exact sj hF
 refine eR N (eO (S:=S5) (x:=x5) ?_ N (0,r) _ _ ⟨y,aa,hf.kp rfl,hc⟩ au)
 clear hF hf hc
 rintro ⟨x,X⟩ ak a w KB5 ⟨Y,H,hf,hc⟩ hF v aq
 unfold lG at hF
 refine zS fun K h=>sp 1 hf rfl fun a hf=>zT h ?_
 refine wp_seq_k fun K8 h8=>zI hf rfl hF ?_ ?_ <;> clear hF <;> intro hF
 ·refine wp_skip ?_
  refine h8 _ _ ?_
  refine wp_seq_k fun K9 h9=>?_
  have ag:∀ (d:List aF) (ac:Option Addr) (ab:Nat) a w,Has 58 a [(2,pq M),(3,pq O),(4,pq R),(5,pq U),(17,i6 ((r.length:Nat):Int)),(18,i6 x)]→Ctx G (.box U [i6 (W (n.Marks + 1)),.slice ac d.length ab] 25::.row ac ab (d.map aM) 32 5::.box R [i6 0,.slice none 0 0] 25::.box O [i6 m.Mark,i6 m.Day] 73::.box M [i6 n.Marks,.slice D n.Lines.length B] 25::Lf) w→eX N x d=some ak→K9 a w:=by
   repeat (clear hF)
   repeat (clear hc)
   repeat (clear hf)
   intro d ac ab a w hf hc hF
   unfold eX at hF
   refine h9 _ _ ?_
   refine eB ?_
   refine sp 2 hf rfl fun a hf=>aS ?_
   exact aq (W (x + 1),d) _ _ (sj hF).symm ⟨ac,ab,hf.kp rfl,hc⟩
  refine wp_block ?_
  refine zS fun K h=>sp 2 hf rfl fun a hf=>zT h ?_
  refine zS fun K h=>zP hf rfl (pFA kW rfl) fun a hf=>zL hf hc sE m0 rfl fun a w hf hc=>sp 1 hf rfl fun a hf=>?_
  obtain ⟨I,t,hF⟩:=aA hF
  obtain ⟨g,rfl,qa,qr⟩:=jM hc m1 t
  refine zP hf rfl (pIA Tryz.underlying23 rA rfl rfl qa) fun a hf=>sp 1 hf rfl fun a hf=>zT h ?_
  refine wp_seq_k fun K12 a2=>wp_seq_k fun K13 az=>cQ hc aW (by kernel_rfl) ?_
  refine qE hf rfl rfl rfl (Pu.ev (pM rfl)) fun a hf=>qE hf rfl rfl rfl (Pu.ev (pNC rfl)) fun a hf=>qE hf rfl rfl rfl (Pu.ev (pFA xM rfl)) fun a hf=>qE hf rfl rfl rfl (cN aY rfl (iC (sz:=5) (i:=x.toNat) (j:=2) m1 qr rfl)) fun a hf=>qE hf rfl rfl rfl (Pu.ev (pFA aH0 rfl)) fun a hf=>qE hf rfl rfl rfl (cN aY rfl (bO m3 rfl)) fun a hf=>qE hf rfl rfl rfl (Pu.ev (pLt rfl rfl)) fun a hf=>?_
  intro w hc
  refine az _ _ ?_
  refine zI hf rfl hF ?_ ?_ <;> clear hF <;> intro hF
  ·refine wp_exit ?_
   refine bI ?_
   refine fZ ?_
   exact ag X (some ⟨g,0,none⟩) H _ _  (hf.kp rfl) hc hF
  ·refine wp_skip ?_
   refine a2 _ _ ?_
   refine wp_seq_k fun K14 ax=>?_
   have ad:∀ (V:List aF) a w,Has 58 a [(2,pq M),(3,pq O),(4,pq R),(5,pq U),(7,.pointer (some ⟨g,x.toNat * 5,none⟩)),(17,i6 ((r.length:Nat):Int)),(18,i6 x)]→Ctx G (.box U [i6 (W (n.Marks + 1)),.slice (some ⟨g,0,none⟩) V.length H] 25::.row (some ⟨g,0,none⟩) H (V.map aM) 32 5::.box R [i6 0,.slice none 0 0] 25::.box O [i6 m.Mark,i6 m.Day] 73::.box M [i6 n.Marks,.slice D n.Lines.length B] 25::Lf) w→iZ N n m x V=some ak→K14 a w:=by
    repeat (clear hF)
    repeat (clear hc)
    repeat (clear hf)
    intro V a w hf hc hF
    unfold iZ at hF
    refine ax _ _ ?_
    refine wp_seq_k fun K15 a1=>?_
    obtain ⟨a8,an,hF⟩:=aA hF
    obtain ⟨a4,ap⟩:=iF hc m1 an
    refine cQ hc aW (by kernel_rfl) ?_
    refine qE hf rfl rfl rfl (Pu.ev (pM rfl)) fun a hf=>qE hf rfl rfl rfl (Pu.ev (pNC rfl)) fun a hf=>qE hf rfl rfl rfl (Pu.ev (pFA vX rfl)) fun a hf=>qE hf rfl rfl rfl (cN aY rfl (iC (sz:=5) (i:=x.toNat) (j:=1) m1 ap rfl)) fun a hf=>qE hf rfl rfl rfl (Pu.ev (pFA aDx rfl)) fun a hf=>qE hf rfl rfl rfl (cN aY rfl (bO m3 rfl)) fun a hf=>qE hf rfl rfl rfl (Pu.ev (pEq rfl rfl)) fun a hf=>?_
    intro w hc
    refine a1 _ _ ?_
    refine zI hf rfl hF ?_ ?_ <;> clear hF <;> intro hF
    ·refine eB ?_
     refine sp 1 hf rfl fun a hf=>zP hf rfl (pFA gW rfl) fun a hf=>zL hf hc aY m4 rfl fun a w hf hc=>sp 1 hf rfl fun a hf=>zP hf rfl (pFA vX rfl) fun a hf=>?_
     obtain ⟨J,s,hF⟩:=aA hF
     obtain ⟨a6,a5⟩:=iF hc m1 s
     refine aCs (sz:=5) (vs:=[i6 n.Marks]) (o':=1) (z:=(⟨J.From,n.Marks,J.Day,J.Rise,J.Error⟩:aF)) (xs:=V) hf hc rfl rfl rfl rfl eQ rfl (fun x=>(gR x).1) (nA s) (fun e' af=>by cases (af.symm.trans (jQ s).2); rfl) rfl u1 fun w hc=>aS ?_
     replace hc:Ctx G (.box U [i6 (W (n.Marks + 1)),.slice (some ⟨g,0,none⟩) ((V.set x.toNat (⟨J.From,n.Marks,J.Day,J.Rise,J.Error⟩:aF)).length) H] 25::.row (some ⟨g,0,none⟩) H ((V.set x.toNat (⟨J.From,n.Marks,J.Day,J.Rise,J.Error⟩:aF)).map aM) 32 5::.box R [i6 0,.slice none 0 0] 25::.box O [i6 m.Mark,i6 m.Day] 73::.box M [i6 n.Marks,.slice D n.Lines.length B] 25::Lf) w:=by simp only [List.length_set] at hc ⊢; exact hc
     exact ag (V.set x.toNat (⟨J.From,n.Marks,J.Day,J.Rise,J.Error⟩:aF)) (some ⟨g,0,none⟩) H _ _  (hf.kp rfl) hc hF
    ·refine wp_skip ?_
     exact ag V (some ⟨g,0,none⟩) H _ _  (hf.kp rfl) hc hF
   refine wp_seq_k fun K16 a0=>cQ hc aW (by kernel_rfl) ?_
   refine qE hf rfl rfl rfl (Pu.ev (pM rfl)) fun a hf=>qE hf rfl rfl rfl (Pu.ev (pNC rfl)) fun a hf=>qE hf rfl rfl rfl (Pu.ev (pFA vT rfl)) fun a hf=>qE hf rfl rfl rfl (cN aY rfl (iC (sz:=5) (i:=x.toNat) (j:=0) m1 qr rfl)) fun a hf=>qE hf rfl rfl rfl (Pu.ev (pFA aDx rfl)) fun a hf=>qE hf rfl rfl rfl (cN aY rfl (bO m3 rfl)) fun a hf=>qE hf rfl rfl rfl (Pu.ev (pEq rfl rfl)) fun a hf=>?_
   intro w hc
   refine a0 _ _ ?_
   refine zI hf rfl hF ?_ ?_ <;> clear hF <;> intro hF
   ·refine eB ?_
    refine sp 1 hf rfl fun a hf=>zP hf rfl (pFA gW rfl) fun a hf=>zL hf hc aY m4 rfl fun a w hf hc=>sp 1 hf rfl fun a hf=>zP hf rfl (pFA vT rfl) fun a hf=>aCs (sz:=5) (vs:=[i6 n.Marks]) (o':=0) (z:=(⟨n.Marks,I.To,I.Day,I.Rise,I.Error⟩:aF)) (xs:=X) hf hc rfl rfl rfl rfl eQ rfl (fun x=>(gR x).1) (nA t) (fun e' af=>by cases (af.symm.trans (jQ t).2); rfl) rfl u1 fun w hc=>aS ?_
    replace hc:Ctx G (.box U [i6 (W (n.Marks + 1)),.slice (some ⟨g,0,none⟩) ((X.set x.toNat (⟨n.Marks,I.To,I.Day,I.Rise,I.Error⟩:aF)).length) H] 25::.row (some ⟨g,0,none⟩) H ((X.set x.toNat (⟨n.Marks,I.To,I.Day,I.Rise,I.Error⟩:aF)).map aM) 32 5::.box R [i6 0,.slice none 0 0] 25::.box O [i6 m.Mark,i6 m.Day] 73::.box M [i6 n.Marks,.slice D n.Lines.length B] 25::Lf) w:=by simp only [List.length_set] at hc ⊢; exact hc
    exact ad (X.set x.toNat (⟨n.Marks,I.To,I.Day,I.Rise,I.Error⟩:aF)) _ _  (hf.kp rfl) hc hF
   ·refine wp_skip ?_
    exact ad X _ _  (hf.kp rfl) hc hF
 ·refine wp_exit ?_
  refine bI ?_
  refine bI ?_
  have he:=sj hF
  rw [← he] at v
  refine fZ ?_
  exact ay _ _ _ v ⟨Y,H,hf.kp rfl,hc⟩

def iH (N:Nat) (D:Int) (B:List aZ):Option (cP ((List aZ) × Int) (cP ((List aZ) × Int) ((List aZ) × Int))) :=
 some (.cont (B,W (D + 1)))
def jU (N:Nat) (n:aO) (x:Int) (J:(List Int)) (B:List aZ) (H:Int):Option (cP ((List aZ) × Int) (cP ((List aZ) × Int) ((List aZ) × Int))) :=
 cond (decide (H < ((J.length:Nat):Int)))
 (Option.bind (bQ J H) fun O=>
 Option.bind (cond (decide (0≤(W (((B.length:Nat):Int) - 1)))) (Option.bind (bQ B (W (((B.length:Nat):Int) - 1))) fun S=>
 Option.bind (bQ B (W (((B.length:Nat):Int) - 1))) fun b=>
 some (S.Mark == x && S.Day == b.Day)) (some false)) fun X=>
 cond X
 (iH N H B)
 (Option.bind (oB N n (⟨x,O⟩:aZ)) fun U=>
 Option.bind (kY N U) fun R=>
 Option.bind (cD N (⟨(⟨R.1,U.Lines⟩:aO),R.2.1,R.2.2⟩:aP)) fun V=>
 cond (!V)
 (Option.bind (rR ((B++[(⟨x,O⟩:aZ)])).length) fun un=>
 iH N H (B++[(⟨x,O⟩:aZ)]))
 (iH N H B)))
 (some (.brk (B,H)))
noncomputable def level_Moves_b17 (N:Nat) (n:aO) (D:Int × (Nat→Int) × (Nat→aE) × Int) (out:List aZ) (x:Int):Option (cP ((List aZ) × Int) ((List aZ) × Int)) :=
 cond (decide (x < n.Marks))
 (Option.bind (level_survey_days N (⟨(⟨D.1,n.Lines⟩:aO),D.2.1,D.2.2.1⟩:aP) x) fun J=>
 Option.bind (bC (fun I=>jU N n x J I.1 I.2) N (out,0)) fun Z=>
 exK Z (fun I=>some (.cont (I.1,W (x + 1)))) some)
 (some (.brk (out,x)))
noncomputable def level_Moves (N:Nat) (n:aO):Option ((List aZ) × Int) :=
 Option.bind (kX N n) (vF (fun r=>cond (r != 0)
 (some (([]:List aZ),r))
 (none))
 (fun D=>cond (D.2.2.2 != 0)
 (some (([]:List aZ),D.2.2.2))
 (Option.bind (cD N (⟨(⟨D.1,n.Lines⟩:aO),D.2.1,D.2.2.1⟩:aP)) fun d=>
 cond (!d)
 (some (([]:List aZ),8))
 (cond (n.Marks == 12)
 (some (([]:List aZ),3))
 (Option.bind (bC (fun M=>level_Moves_b17 N n D M.1 M.2) N (([]:List aZ),0)) fun Y=>
 exK Y (fun M=>some (M.1,0)) some)))))
theorem aCd {N:Nat} {G:aU} {Lf:List Ent} {w:World} (n:aO) {D:Option Addr} {B:Nat} (I:Rd G 5 D B (n.Lines.map aM)) (hc:Ctx G (Lf) w) {q:(List aZ) × Int} (hF:level_Moves N n=some q):Calls Tryz.prog 19 #[.agg #[i6 n.Marks,.slice D n.Lines.length B]] w (fun e w=>∃ (am:Option Addr) (aj:Nat),e=.returned (.tuple #[.slice am q.1.length aj,i6 q.2])∧Ctx G (.row am aj (q.1.map jG) 73 2::Lf) w):=by
 unfold level_Moves at hF
 refine bU Tryz.func19 rfl Tryz.ntmps19 rfl fun a hf=>zS fun K h=>zB hf hc rfl fun b a w hf hc=>sp 2 hf rfl fun a hf=>zT h ?_
 refine zS fun K h=>zN hf hc oN m0 rfl fun a w hf hc=>?_
 obtain ⟨r,hr,hF⟩:=aA hF
 cases r with
 | inl r=>
  replace hF:=wF hF
  refine zC hf aDk rfl (jS n I hc hr) ?_
  rintro _ w ⟨rfl,hc⟩
  refine ⟨_,rfl,fun a hf=>?_⟩
  refine sp 5 hf rfl fun a hf=>zT h ?_
  refine wp_seq_k fun K3 h3=>wp_block ?_
  refine zS fun K h=>sp 3 hf rfl fun a hf=>zT h ?_
  refine zI hf rfl hF ?_ ?_ <;> clear hF <;> intro hF
  ·refine zS fun K h=>sp 3 hf rfl fun a hf=>zT h ?_
   refine wp_ret ?_
   refine bT ?_
   refine aQ ?_
   obtain rfl:=sj hF
   replace hc:=hc.nilRow 73 2
   replace hc:=hc.drop k1
   exact zO2 Tryz.results19 hf rfl rfl ⟨none,0,rfl,hc⟩
  ·refine wp_seq_k fun K6 h6=>wD hF
 | inr J=>
  replace hF:=wI hF
  have a8:=hr
  refine zC hf aDk rfl (jS n I hc a8) ?_
  rintro _ w ⟨Y,rfl,hc⟩
  refine ⟨_,rfl,fun a hf=>?_⟩
  refine sp 5 hf rfl fun a hf=>zT h ?_
  refine wp_seq_k fun K7 h7=>wp_block ?_
  refine zS fun K h=>sp 3 hf rfl fun a hf=>zT h ?_
  refine zI hf rfl hF ?_ ?_ <;> clear hF <;> intro hF
  ·refine zS fun K h=>sp 3 hf rfl fun a hf=>zT h ?_
   refine wp_ret ?_
   refine bT ?_
   refine aQ ?_
   obtain rfl:=sj hF
   replace hc:=hc.nilRow 73 2
   replace hc:=(hc.drop k2).drop k1
   exact zO2 Tryz.results19 hf rfl rfl ⟨none,0,rfl,hc⟩
  ·refine zS fun K h=>sp 1 hf rfl fun a hf=>?_
   obtain ⟨bx,a3,hF⟩:=aA hF
   refine zQ (v:=.bool bx) hf hc aHz rfl (fun w hc=>(jZ (⟨(⟨J.1,n.Lines⟩:aO),J.2.1,J.2.2.1⟩:aP) I (hc.pick k0) a3).mono fun e w h=>⟨h.1,(h.2.unpick k0)⟩) fun a w hf hc=>sp 2 hf rfl fun a hf=>zT h ?_
   refine zI hf rfl hF ?_ ?_ <;> clear hF <;> intro hF
   ·refine zS fun K h=>sp 2 hf rfl fun a hf=>zT h ?_
    refine wp_ret ?_
    refine bT ?_
    refine aQ ?_
    obtain rfl:=sj hF
    replace hc:=hc.nilRow 73 2
    replace hc:=(hc.drop k2).drop k1
    exact zO2 Tryz.results19 hf rfl rfl ⟨none,0,rfl,hc⟩
   ·refine zS fun K h=>zP hf rfl (pFA gW rfl) fun a hf=>zL hf hc aY m1 rfl fun a w hf hc=>sp 2 hf rfl fun a hf=>zT h ?_
    refine zI hf rfl hF ?_ ?_ <;> clear hF <;> intro hF
    ·refine zS fun K h=>sp 2 hf rfl fun a hf=>zT h ?_
     refine wp_ret ?_
     refine bT ?_
     refine aQ ?_
     obtain rfl:=sj hF
     replace hc:=hc.nilRow 73 2
     replace hc:=(hc.drop k2).drop k1
     exact zO2 Tryz.results19 hf rfl rfl ⟨none,0,rfl,hc⟩
    ·refine wp_skip ?_
     refine h7 _ _ ?_
     refine zS fun K h=>sp 1 hf rfl fun a hf=>zT h ?_
     refine wp_seq_k fun K15 bu=>zS fun K h=>zP hf rfl (pFA gW rfl) fun a hf=>zL hf hc aY m1 rfl fun a w hf hc=>sp 1 hf rfl fun a hf=>zT h ?_
     refine wp_block ?_
     obtain ⟨ad,a1,hF⟩:=aA hF
     let S17:((List aZ) × Int)→Act→World→Prop:=(fun (zz:(List aZ) × Int) a w=>∃ (Z:Option Addr) (d:Nat),Has 77 a [(1,pq b),(4,pq Y),(6,.slice Z zz.1.length d),(30,i6 n.Marks),(31,i6 zz.2)]∧Ctx G (.row Z d (zz.1.map jG) 73 2::.box Y (aN [i6 J.1,.slice D n.Lines.length B] 169 aB J.2.1 (aN [] 169 aD J.2.2.1 [])) 127::.box b [i6 n.Marks,.slice D n.Lines.length B] 25::Lf) w)
     have av:∀ (zz:(List aZ) × Int) a w,ad=.go zz→S17 zz a w→K15 a w:=by
      rintro ⟨out,x⟩ a w rfl ⟨Z,d,hf,hc⟩
      replace hF:=cI hF
      refine bu _ _ ?_
      refine zS fun K h=>sp 3 hf rfl fun a hf=>zT h ?_
      refine wp_ret ?_
      obtain rfl:=sj hF
      replace hc:=(hc.drop k2).drop k1
      exact zO2 Tryz.results19 hf rfl rfl ⟨Z,d,rfl,hc⟩
     have b1:∀ r,ad=.out r→r=q:=by
      rintro r rfl
      exact sj hF
     replace hc:=hc.nilRow 73 2
     refine eR N (eO (S:=S17) (x:=ad) ?_ N (([]:List aZ),0) _ _ ⟨none,0,hf.kp rfl,hc⟩ a1)
     clear hF hf hc
     rintro ⟨out,x⟩ bc a w KB17 ⟨Z,d,hf,hc⟩ hF p a4
     unfold level_Moves_b17 at hF
     refine zS fun K h=>sp 1 hf rfl fun a hf=>zT h ?_
     refine wp_seq_k fun K20 bi=>zI hf rfl hF ?_ ?_ <;> clear hF <;> intro hF
     ·refine wp_skip ?_
      refine bi _ _ ?_
      refine wp_seq_k fun K21 bj=>wp_block ?_
      refine zS fun K h=>sp 2 hf rfl fun a hf=>zT h ?_
      refine zS fun K h=>sp 2 hf rfl fun a hf=>?_
      obtain ⟨X,ay,hF⟩:=aA hF
      refine zC hf en_44 rfl (uU (⟨(⟨J.1,n.Lines⟩:aO),J.2.1,J.2.2.1⟩:aP) x I (hc.pick k1) ay) ?_
      rintro _ w ⟨bg,bk,rfl,hc⟩
      refine ⟨_,rfl,fun a hf=>?_⟩
      refine zP hf rfl (cR Tryz.underlying26 rfl) fun a hf=>sp 1 hf rfl fun a hf=>zT h ?_
      refine lH fun K24 bs=>wp_block ?_
      obtain ⟨ag,a9,hF⟩:=aA hF
      let S25:((List aZ) × Int)→Act→World→Prop:=(fun (zz:(List aZ) × Int) a w=>∃ (O:Option Addr) (M:Nat) (m:Option Addr) (U:Nat),Has 77 a [(1,pq b),(4,pq Y),(6,.slice O zz.1.length M),(7,i6 x),(30,i6 n.Marks),(31,i6 x),(36,.slice m X.length U),(37,i6 ((X.length:Nat):Int)),(38,i6 zz.2)]∧Ctx G (.row m U (X.map aB) 3 1::.box Y (aN [i6 J.1,.slice D n.Lines.length B] 169 aB J.2.1 (aN [] 169 aD J.2.2.1 [])) 127::.row O M (zz.1.map jG) 73 2::.box b [i6 n.Marks,.slice D n.Lines.length B] 25::Lf) w)
      have a2:∀ (zz:(List aZ) × Int) a w,ag=.go zz→S25 zz a w→K24 a w:=by
       rintro ⟨H,k⟩ a w rfl ⟨O,M,m,U,hf,hc⟩
       replace hF:=cI hF
       refine bs _ _ ?_
       refine bj _ _ ?_
       refine eB ?_
       refine sp 2 hf rfl fun a hf=>aS ?_
       replace hc:=((hc.drop k0).pick k0).pick k1
       exact a4 (H,W (x + 1)) _ _ (sj hF).symm ⟨O,M,hf.kp rfl,hc⟩
      have b2:∀ r,ag=.out r→r=bc:=by
       rintro r rfl
       exact sj hF
      refine eR N (eO (S:=S25) (x:=ag) ?_ N (out,0) _ _ ⟨Z,d,bg,bk,hf.kp rfl,hc⟩ a9)
      clear hF hf hc
      rintro ⟨H,k⟩ au a w KB25 ⟨O,M,m,U,hf,hc⟩ hF o az
      unfold jU at hF
      refine zS fun K h=>sp 1 hf rfl fun a hf=>zT h ?_
      refine wp_seq_k fun K27 bt=>zI hf rfl hF ?_ ?_ <;> clear hF <;> intro hF
      ·refine wp_skip ?_
       refine bt _ _ ?_
       refine wp_seq_k fun K28 b0=>?_
       have u:∀ (R:List aZ) (ab:Option Addr) (aa:Nat) (y:Option Addr) (z:Nat) a w,Has 77 a [(1,pq b),(4,pq Y),(6,.slice ab R.length aa),(7,i6 x),(30,i6 n.Marks),(31,i6 x),(36,.slice y X.length z),(37,i6 ((X.length:Nat):Int)),(38,i6 k)]→Ctx G (.row y z (X.map aB) 3 1::.box Y (aN [i6 J.1,.slice D n.Lines.length B] 169 aB J.2.1 (aN [] 169 aD J.2.2.1 [])) 127::.row ab aa (R.map jG) 73 2::.box b [i6 n.Marks,.slice D n.Lines.length B] 25::Lf) w→iH N k R=some au→K28 a w:=by
        repeat (clear hF)
        repeat (clear hc)
        repeat (clear hf)
        intro R ab aa y z a w hf hc hF
        unfold iH at hF
        refine b0 _ _ ?_
        refine eB ?_
        refine sp 2 hf rfl fun a hf=>aS ?_
        exact az (R,W (k + 1)) _ _ (sj hF).symm ⟨ab,aa,y,z,hf.kp rfl,hc⟩
       refine wp_block ?_
       refine zS fun K h=>?_
       obtain ⟨V,a6,hF⟩:=aA hF
       obtain ⟨g,rfl,qa,qr⟩:=jM hc m0 a6
       refine zP hf rfl (pIA Tryz.underlying26 eQ rfl rfl qa) fun a hf=>zE hf hc rfl (cN aY rfl (iC (sz:=1) (i:=k.toNat) (j:=0) m0 qr rfl)) fun a w hf hc=>sp 1 hf rfl fun a hf=>zT h ?_
       refine zS fun K h=>sp 2 hf rfl fun a hf=>zP hf rfl (bL (cells:=[i6 x,i6 V]) aMl rfl rfl) fun a hf=>zA hf hc zr_73 rfl fun bn a w hf hc=>zW hf hc aHl u0 rfl fun w hc=>zT h ?_
       refine wp_seq_k fun K31 br=>zS fun K h=>sp 1 hf rfl fun a hf=>zP hf rfl (cR Tryz.underlying69 rfl) fun a hf=>sp 2 hf rfl fun a hf=>zT h ?_
       refine wp_seq_k fun K33 bd=>?_
       obtain ⟨bf,af,hF⟩:=aA hF
       refine cQ hc aW (by kernel_rfl) ?_
       refine qE hf rfl rfl rfl (Pu.ev (pM rfl)) fun a hf=>qE hf rfl rfl rfl (Pu.ev (pGe rfl rfl)) fun a hf=>qE hf rfl rfl rfl (Pu.ev (pM rfl)) fun a hf=>qCut 13 (fun a=>Has 77 a [(1,pq b),(4,pq Y),(6,.slice O H.length M),(7,i6 x),(30,i6 n.Marks),(31,i6 x),(36,.slice (some ⟨g,0,none⟩) X.length U),(37,i6 ((X.length:Nat):Int)),(38,i6 k),(10,pq bn),(11,i6 (W (((H.length:Nat):Int) - 1))),(48,i6 (W (((H.length:Nat):Int) - 1))),(49,.bool (decide (0≤(W (((H.length:Nat):Int) - 1))))),(50,.bool (decide (0≤(W (((H.length:Nat):Int) - 1))))),(63,.bool bf)]) ?_ ?_
       ·cases hb:(decide (0≤(W (((H.length:Nat):Int) - 1))))
        ·rw [hb] at hf
         have hF:=mR hb af
         obtain rfl:=sj hF
         refine qS hf rfl rfl rfl fun a hf=>qS hf rfl rfl rfl fun a hf=>qS hf rfl rfl rfl fun a hf=>qS hf rfl rfl rfl fun a hf=>qS hf rfl rfl rfl fun a hf=>qS hf rfl rfl rfl fun a hf=>qS hf rfl rfl rfl fun a hf=>qS hf rfl rfl rfl fun a hf=>qS hf rfl rfl rfl fun a hf=>qS hf rfl rfl rfl fun a hf=>qS hf rfl rfl rfl fun a hf=>qS hf rfl rfl rfl fun a hf=>qE hf rfl rfl rfl (Pu.ev (pPf rfl rfl)) fun a hf=>?_
         exact aJd (hf.kp rfl)
        ·rw [hb] at hf
         have hF:=mN hb af
         obtain ⟨ak,a0,hF⟩:=aA hF
         obtain ⟨b7,rfl,ap,bb⟩:=jM hc m3 a0
         obtain ⟨bz,an,hF⟩:=aA hF
         obtain ⟨ba,aq⟩:=iF hc m3 an
         refine qE hf rfl rfl rfl (Pu.ev (pM rfl)) fun a hf=>qE hf rfl rfl rfl (Pu.ev (pM rfl)) fun a hf=>qE hf rfl rfl rfl (Pu.ev (pIA Tryz.underlying69 aHl rfl rfl ap)) fun a hf=>qE hf rfl rfl rfl (jE (vs:=[i6 ak.Mark,i6 ak.Day]) aKp rfl rfl (jV (sz:=2) (i:=(W (((H.length:Nat):Int) - 1)).toNat) m3 bb (n:=2) (o':=0) rfl)) fun a hf=>qE hf rfl rfl rfl (Pu.ev (pM rfl)) fun a hf=>qE hf rfl rfl rfl (Pu.ev (pM rfl)) fun a hf=>qE hf rfl rfl rfl (Pu.ev (pM rfl)) fun a hf=>qE hf rfl rfl rfl (Pu.ev (pIA Tryz.underlying69 aHl rfl rfl ba)) fun a hf=>qE hf rfl rfl rfl (Pu.ev (pFA aH0 rfl)) fun a hf=>qE hf rfl rfl rfl (cN aY rfl (iC (sz:=2) (i:=(W (((H.length:Nat):Int) - 1)).toNat) (j:=1) m3 aq rfl)) fun a hf=>qE hf rfl rfl rfl (Pu.ev (bL (cells:=[i6 x,i6 bz.Day]) aMl rfl rfl)) fun a hf=>qE hf rfl rfl rfl (Pu.ev (pEqA ge_73 rfl rfl (aOj _ _ _ _))) fun a hf=>qE hf rfl rfl rfl (Pu.ev (pPt rfl rfl)) fun a hf=>?_
         obtain rfl:=sj hF
         exact aJd (hf.kp rfl)
       intro a hf
       intro w hc
       refine bd _ _ ?_
       refine zI hf rfl hF ?_ ?_ <;> clear hF <;> intro hF
       ·refine wp_exit ?_
        refine bI ?_
        refine fZ ?_
        replace hc:=hc.drop k0
        exact u H O M (some ⟨g,0,none⟩) U _ _  (hf.kp rfl) hc hF
       ·refine wp_skip ?_
        refine br _ _ ?_
        refine zS fun K h=>zN hf hc oN m4 rfl fun a w hf hc=>zN hf hc aKp m0 rfl fun a w hf hc=>?_
        obtain ⟨ai,ar,hF⟩:=aA hF
        refine zC hf en_45 rfl (aAj n (⟨x,V⟩:aZ) I hc ar) ?_
        rintro _ w ⟨b3,b5,rfl,hc⟩
        refine ⟨_,rfl,fun a hf=>?_⟩
        obtain ⟨ac,ax,hF⟩:=aA hF
        obtain ⟨G1,a7,t,hc,s⟩:=lend hc k0
        refine zC hf aMk rfl (uD ai t hc ax) ?_
        rintro _ w ⟨b4,rfl,hc⟩
        refine ⟨_,rfl,fun a hf=>?_⟩
        replace hc:=s _ _ hc
        obtain ⟨bm,a5,hF⟩:=aA hF
        refine zQ (v:=.bool bm) hf hc aHz rfl (fun w hc=>by obtain ⟨G1,a7,t,hc,s⟩:=lend hc k0; exact (jZ (⟨(⟨ac.1,ai.Lines⟩:aO),ac.2.1,ac.2.2⟩:aP) t (hc.pick k0) a5).mono fun e w h=>⟨h.1,((s _ _ (h.2.unpick k0)).unpick k0)⟩) fun a w hf hc=>sp 1 hf rfl fun a hf=>zT h ?_
        refine zI hf rfl hF ?_ ?_ <;> clear hF <;> intro hF
        ·refine eB ?_
         refine sp 1 hf rfl fun a hf=>zN hf hc aKp m2 rfl fun a w hf hc=>pJ (rows:=([(⟨x,V⟩:aZ)]:List aZ).map jG) (vs:=[(0,.agg #[i6 x,i6 V])]) hf hc rfl rfl aMz rfl ⟨rfl,rfl,rfl,trivial⟩ rfl rfl fun b6 a w hf hc=>?_
         obtain ⟨un,bv,hF⟩:=aA hF
         refine qI (xs:=H) (ys:=([(⟨x,V⟩:aZ)]:List aZ)) hf hc rfl rfl aMz rfl rfl rfl rfl rfl xD (mJ hc m0) (fun _ _=>u6) (by simpa using gJ bv) fun bq bp a w hf hc=>sp 1 hf rfl fun a hf=>aS ?_
         replace hc:=(((hc.drop k3).drop k2).drop k1).drop k0
         exact u (H++[(⟨x,V⟩:aZ)]) bq bp (some ⟨g,0,none⟩) U _ _  (hf.kp rfl) hc hF
        ·refine wp_skip ?_
         replace hc:=((hc.drop k2).drop k1).drop k0
         exact u H O M (some ⟨g,0,none⟩) U _ _  (hf.kp rfl) hc hF
      ·refine wp_exit ?_
       refine bI ?_
       refine bI ?_
       have he:=sj hF
       rw [← he] at o
       refine fZ ?_
       exact a2 _ _ _ o ⟨O,M,m,U,hf.kp rfl,hc⟩
     ·refine wp_exit ?_
      refine bI ?_
      refine bI ?_
      have he:=sj hF
      rw [← he] at p
      refine fZ ?_
      exact av _ _ _ p ⟨Z,d,hf.kp rfl,hc⟩

noncomputable def level_Convict (N:Nat) (n:aO):Option (Int × Int) :=
 Option.bind (level_Moves N n) fun r=>
 cond (r.2 != 0)
 (some (0,r.2))
 (cond (((r.1.length:Nat):Int) == 0)
 (some (0,5))
 (cond (decide (1 < ((r.1.length:Nat):Int)))
 (some (0,11))
 (Option.bind (bQ r.1 0) fun V=>
 some (V.Mark,0))))
theorem zO {N:Nat} {G:aU} {Lf:List Ent} {w:World} (n:aO) {D:Option Addr} {B:Nat} (H:Rd G 5 D B (n.Lines.map aM)) (hc:Ctx G (Lf) w) {I:Int × Int} (hF:level_Convict N n=some I):Calls Tryz.prog 7 #[.agg #[i6 n.Marks,.slice D n.Lines.length B]] w (fun e w=>e=.returned (.tuple #[i6 I.1,i6 I.2])∧Ctx G (Lf) w):=by
 unfold level_Convict at hF
 refine bU Tryz.func7 rfl Tryz.ntmps7 rfl fun a hf=>zS fun K h=>zB hf hc rfl fun R a w hf hc=>sp 2 hf rfl fun a hf=>zT h ?_
 refine zS fun K h=>zN hf hc oN m0 rfl fun a w hf hc=>?_
 obtain ⟨r,hr,hF⟩:=aA hF
 refine zC hf en_19 rfl (aCd n H hc hr) ?_
 rintro _ w ⟨M,S,rfl,hc⟩
 refine ⟨_,rfl,fun a hf=>?_⟩
 refine sp 5 hf rfl fun a hf=>zT h ?_
 refine wp_seq_k fun K3 h3=>wp_block ?_
 refine zS fun K h=>sp 3 hf rfl fun a hf=>zT h ?_
 refine zI hf rfl hF ?_ ?_ <;> clear hF <;> intro hF
 ·refine zS fun K h=>sp 3 hf rfl fun a hf=>zT h ?_
  refine wp_ret ?_
  refine bT ?_
  refine aQ ?_
  obtain rfl:=sj hF
  replace hc:=(hc.drop k1).drop k0
  exact zO2 Tryz.results7 hf rfl rfl ⟨rfl,hc⟩
 ·refine zS fun K h=>sp 1 hf rfl fun a hf=>zP hf rfl (cR Tryz.underlying69 rfl) fun a hf=>sp 2 hf rfl fun a hf=>zT h ?_
  refine zI hf rfl hF ?_ ?_ <;> clear hF <;> intro hF
  ·refine zS fun K h=>sp 2 hf rfl fun a hf=>zT h ?_
   refine wp_ret ?_
   refine bT ?_
   refine aQ ?_
   obtain rfl:=sj hF
   replace hc:=(hc.drop k1).drop k0
   exact zO2 Tryz.results7 hf rfl rfl ⟨rfl,hc⟩
  ·refine zS fun K h=>sp 1 hf rfl fun a hf=>zP hf rfl (cR Tryz.underlying69 rfl) fun a hf=>sp 2 hf rfl fun a hf=>zT h ?_
   refine zI hf rfl hF ?_ ?_ <;> clear hF <;> intro hF
   ·refine zS fun K h=>sp 2 hf rfl fun a hf=>zT h ?_
    refine wp_ret ?_
    refine bT ?_
    refine aQ ?_
    obtain rfl:=sj hF
    replace hc:=(hc.drop k1).drop k0
    exact zO2 Tryz.results7 hf rfl rfl ⟨rfl,hc⟩
   ·refine wp_skip ?_
    refine h3 _ _ ?_
    refine zS fun K h=>sp 1 hf rfl fun a hf=>?_
    obtain ⟨O,J,hF⟩:=aA hF
    obtain ⟨g,rfl,qa,qr⟩:=jM hc m0 J
    refine zP hf rfl (pIA Tryz.underlying69 aHl rfl rfl qa) fun a hf=>zP hf rfl (pFA aDx rfl) fun a hf=>zE hf hc rfl (cN aY rfl (iC (sz:=2) (i:=(0:Int).toNat) (j:=0) m0 qr rfl)) fun a w hf hc=>sp 2 hf rfl fun a hf=>zT h ?_
    refine wp_ret ?_
    obtain rfl:=sj hF
    replace hc:=(hc.drop k1).drop k0
    exact zO2 Tryz.results7 hf rfl rfl ⟨rfl,hc⟩

def bD (n:Int) (D:Int) (B:Int):Bool :=
 ((decide (D≤n)) && (decide (n≤B)))
theorem hU {G:aU} {Lf:List Ent} {w:World} (n:Int) (B:Int) (D:Int)   (hc:Ctx G (Lf) w) {H:Bool} (hF:bD n B D=H):Calls Tryz.prog 23 #[i6 n,i6 B,i6 D] w (fun e w=>e=.returned (.bool H)∧Ctx G (Lf) w):=by
 unfold bD at hF
 refine bU Tryz.func23 rfl Tryz.ntmps23 rfl fun a hf=>zS fun K h=>sp 1 hf rfl fun a hf=>zT h ?_
 refine zS fun K h=>sp 4 hf rfl fun a hf=>gQ 4 (fun a=>Has 15 a [(0,i6 n),(1,i6 B),(2,i6 D),(6,.bool false),(7,i6 n),(8,i6 B),(9,.bool (decide (B≤n))),(10,.bool (decide (B≤n))),(14,.bool ((decide (B≤n)) && (decide (n≤D))))]) hc ?_ ?_
 ·cases hb:(decide (B≤n))
  ·rw [hb] at hf
   refine stS hf rfl rfl rfl fun a hf=>stS hf rfl rfl rfl fun a hf=>stS hf rfl rfl rfl fun a hf=>sp 1 hf rfl fun a hf=>aS ⟨hf.kp rfl,hc⟩
  ·rw [hb] at hf
   refine sp 4 hf rfl fun a hf=>aS ⟨hf.kp rfl,hc⟩
 intro a w ⟨hf,hc⟩
 refine sp 1 hf rfl fun a hf=>zT h ?_
 refine wp_ret ?_
 obtain rfl:=hF
 exact zO1 Tryz.results23 hf rfl ⟨rfl,hc⟩

def bK (n:Int):Bool :=
 (bD n (-2000) 2000)
theorem rF {G:aU} {Lf:List Ent} {w:World} (n:Int)   (hc:Ctx G (Lf) w) {B:Bool} (hF:bK n=B):Calls Tryz.prog 48 #[i6 n] w (fun e w=>e=.returned (.bool B)∧Ctx G (Lf) w):=by
 unfold bK at hF
 refine bU Tryz.func48 rfl Tryz.ntmps48 rfl fun a hf=>zS fun K h=>sp 1 hf rfl fun a hf=>zT h ?_
 refine zS fun K h=>sp 1 hf rfl fun a hf=>zQ (v:=.bool (bD n (-2000) 2000)) hf hc vH rfl (fun w hc=>hU n (-2000) 2000 hc rfl) fun a w hf hc=>sp 1 hf rfl fun a hf=>zT h ?_
 refine wp_ret ?_
 obtain rfl:=hF
 exact zO1 Tryz.results48 hf rfl ⟨rfl,hc⟩

def jB (n:Int):Bool :=
 (bD n 0 1000000000)
theorem wK {G:aU} {Lf:List Ent} {w:World} (n:Int)   (hc:Ctx G (Lf) w) {B:Bool} (hF:jB n=B):Calls Tryz.prog 89 #[i6 n] w (fun e w=>e=.returned (.bool B)∧Ctx G (Lf) w):=by
 unfold jB at hF
 refine bU Tryz.func89 rfl Tryz.ntmps89 rfl fun a hf=>zS fun K h=>sp 1 hf rfl fun a hf=>zT h ?_
 refine zS fun K h=>sp 1 hf rfl fun a hf=>zQ (v:=.bool (bD n 0 1000000000)) hf hc vH rfl (fun w hc=>hU n 0 1000000000 hc rfl) fun a w hf hc=>sp 1 hf rfl fun a hf=>zT h ?_
 refine wp_ret ?_
 obtain rfl:=hF
 exact zO1 Tryz.results89 hf rfl ⟨rfl,hc⟩

def eG (m:aG):Bool :=
 ((bK m.Stage) && (jB m.Flow))
theorem yI {G:aU} {Lf:List Ent} {w:World} (m:aG)   (hc:Ctx G (Lf) w) {B:Bool} (hF:eG m=B):Calls Tryz.prog 88 #[.agg #[i6 m.Stage,i6 m.Flow]] w (fun e w=>e=.returned (.bool B)∧Ctx G (Lf) w):=by
 unfold eG at hF
 refine bU Tryz.func88 rfl Tryz.ntmps88 rfl fun a hf=>zS fun K h=>zB hf hc rfl fun D a w hf hc=>sp 1 hf rfl fun a hf=>zT h ?_
 refine zS fun K h=>zP hf rfl (pFA qR rfl) fun a hf=>zL hf hc aY m0 rfl fun a w hf hc=>zQ (v:=.bool (bK m.Stage)) hf hc aKi rfl (fun w hc=>rF m.Stage hc rfl) fun a w hf hc=>sp 1 hf rfl fun a hf=>gQ 4 (fun a=>Has 11 a [(1,pq D),(2,.bool false),(3,pq D),(4,i6 m.Stage),(5,.bool (bK m.Stage)),(6,.bool (bK m.Stage)),(10,.bool ((bK m.Stage) && (jB m.Flow)))]) hc ?_ ?_
 ·cases hb:(bK m.Stage)
  ·rw [hb] at hf
   refine stS hf rfl rfl rfl fun a hf=>stS hf rfl rfl rfl fun a hf=>stS hf rfl rfl rfl fun a hf=>sp 1 hf rfl fun a hf=>aS ⟨hf.kp rfl,hc⟩
  ·rw [hb] at hf
   refine zP hf rfl (pFA sI rfl) fun a hf=>zL hf hc aY m0 rfl fun a w hf hc=>zQ (v:=.bool (jB m.Flow)) hf hc aMt rfl (fun w hc=>wK m.Flow hc rfl) fun a w hf hc=>sp 1 hf rfl fun a hf=>aS ⟨hf.kp rfl,hc⟩
 intro a w ⟨hf,hc⟩
 refine sp 1 hf rfl fun a hf=>zT h ?_
 refine wp_ret ?_
 obtain rfl:=hF
 replace hc:=hc.drop k0
 exact zO1 Tryz.results88 hf rfl ⟨rfl,hc⟩

def fK (x:aG):Bool :=
 (!(eG (⟨x.Stage,x.Flow⟩:aG)))
theorem qL {G:aU} {Lf:List Ent} {w:World} (x:aG) {b_:Nat}  (hc:Ctx G (.box b_ [.func (.func 88) #[] #[]] 140::Lf) w) {B:Bool} (hF:fK x=B):Calls Tryz.prog 118 #[.agg #[i6 x.Stage,i6 x.Flow],pq b_] w (fun e w=>e=.returned (.bool B)∧Ctx G (.box b_ [.func (.func 88) #[] #[]] 140::Lf) w):=by
 unfold fK at hF
 refine bU Tryz.func118 rfl Tryz.ntmps118 rfl fun a hf=>zS fun K h=>zB hf hc rfl fun D a w hf hc=>sp 1 hf rfl fun a hf=>zT h ?_
 refine zS fun K h=>zL hf hc aOe m1 rfl fun a w hf hc=>zN hf hc aC9 m0 rfl fun a w hf hc=>zQ (v:=.bool (eG (⟨x.Stage,x.Flow⟩:aG))) hf hc en_88 rfl (fun w hc=>yI (⟨x.Stage,x.Flow⟩:aG) hc rfl) fun a w hf hc=>sp 2 hf rfl fun a hf=>zT h ?_
 refine wp_ret ?_
 obtain rfl:=hF
 replace hc:=hc.drop k0
 exact zO1 Tryz.results118 hf rfl ⟨rfl,hc⟩

def gE (N:Nat) (s_:List aG) (x:Int):Option (cP (Int) (Int)) :=
 cond (decide (x < ((s_.length:Nat):Int)))
 (Option.bind (bQ s_ x) fun B=>
 cond (fK B)
 (some (.ret x))
 (some (.cont (W (x + 1)))))
 (some (.brk x))
def cX (N:Nat) (s_:List aG):Option (Int) :=
 Option.bind (bC (fun s4=>gE N s_ s4) N 0) fun x4=>
 exK x4 (fun s4=>some (-1)) some
theorem lB {N:Nat} {G:aU} {Lf:List Ent} {w:World} (s_:List aG) {D:Option Addr} {H:Nat} {b_:Nat} (O:Rd G 2 D H (s_.map bF)) (hc:Ctx G (.box b_ [.func (.func 88) #[] #[]] 140::Lf) w) {J:Int} (hF:cX N s_=some J):Calls Tryz.prog 51 #[.slice D s_.length H,.func (.func 118) #[] #[pq b_]] w (fun e w=>e=.returned (i6 J)∧Ctx G (.box b_ [.func (.func 88) #[] #[]] 140::Lf) w):=by
 unfold cX at hF
 refine bU Tryz.func51 rfl Tryz.ntmps51 rfl fun a hf=>zS fun K h=>sp 1 hf rfl fun a hf=>zT h ?_
 refine wp_seq_k fun K2 h2=>zS fun K h=>sp 1 hf rfl fun a hf=>zP hf rfl (cR Tryz.underlying41 rfl) fun a hf=>sp 1 hf rfl fun a hf=>zT h ?_
 refine wp_block ?_
 obtain ⟨x4,U,hF⟩:=aA hF
 let S4:Int→Act→World→Prop:=(fun (zz:Int) a w=>Has 19 a [(0,.slice D s_.length H),(1,.func (.func 118) #[] #[pq b_]),(7,i6 ((s_.length:Nat):Int)),(8,i6 zz)]∧Ctx G (.box b_ [.func (.func 88) #[] #[]] 140::Lf) w)
 have X:∀ (zz:Int) a w,x4=.go zz→S4 zz a w→K2 a w:=by
  rintro x a w rfl ⟨hf,hc⟩
  replace hF:=cI hF
  refine h2 _ _ ?_
  refine zS fun K h=>sp 1 hf rfl fun a hf=>zT h ?_
  refine wp_ret ?_
  obtain rfl:=sj hF
  exact zO1 Tryz.results51 hf rfl ⟨rfl,hc⟩
 have V:∀ r,x4=.out r→r=J:=by
  rintro r rfl
  exact sj hF
 refine eR N (eO (S:=S4) (x:=x4) ?_ N 0 _ _ ⟨hf.kp rfl,hc⟩ U)
 clear hF hf hc
 rintro x Z a w KB4 ⟨hf,hc⟩ hF B R
 unfold gE at hF
 refine zS fun K h=>sp 1 hf rfl fun a hf=>zT h ?_
 refine wp_seq_k fun K7 h7=>zI hf rfl hF ?_ ?_ <;> clear hF <;> intro hF
 ·refine wp_skip ?_
  refine h7 _ _ ?_
  refine wp_seq_k fun K8 h8=>wp_block ?_
  refine zS fun K h=>sp 2 hf rfl fun a hf=>zT h ?_
  refine zS fun K h=>sp 3 hf rfl fun a hf=>?_
  obtain ⟨I,M,hF⟩:=aA hF
  obtain ⟨Y,o,qa,qp⟩:=O.atm M
  refine zP hf rfl (pIA Tryz.underlying41 tJ rfl rfl qa) fun a hf=>zE hf hc rfl (jE (vs:=[i6 I.Stage,i6 I.Flow]) aC9 rfl rfl (dS qp (n:=2) (o':=0) rfl)) fun a w hf hc=>zQ (v:=.bool (fK I)) hf hc aNg rfl (fun w hc=>(qL I (hc.pick k0) rfl).mono fun e w h=>⟨h.1,(h.2.unpick k0)⟩) fun a w hf hc=>zT h ?_
  refine zI hf rfl hF ?_ ?_ <;> clear hF <;> intro hF
  ·refine zS fun K h=>sp 2 hf rfl fun a hf=>zT h ?_
   refine wp_ret ?_
   refine bT ?_
   refine aQ ?_
   refine aQ ?_
   have he:=sj hF
   rw [← he] at B
   replace hF:=V _ B
   refine bT ?_
   refine aQ ?_
   obtain rfl:=hF
   exact zO1 Tryz.results51 hf rfl ⟨rfl,hc⟩
  ·refine wp_skip ?_
   refine h8 _ _ ?_
   refine eB ?_
   refine sp 2 hf rfl fun a hf=>aS ?_
   exact R (W (x + 1)) _ _ (sj hF).symm ⟨hf.kp rfl,hc⟩
 ·refine wp_exit ?_
  refine bI ?_
  refine bI ?_
  have he:=sj hF
  rw [← he] at B
  refine fZ ?_
  exact X _ _ _ B ⟨hf.kp rfl,hc⟩

def cM (N:Nat) (s_:List aG):Option (Bool) :=
 Option.bind (cX N s_) fun r=>
 some (decide (0≤r))
theorem kL {N:Nat} {G:aU} {Lf:List Ent} {w:World} (s_:List aG) {B:Option Addr} {D:Nat} {b_:Nat} (I:Rd G 2 B D (s_.map bF)) (hc:Ctx G (.box b_ [.func (.func 88) #[] #[]] 140::Lf) w) {H:Bool} (hF:cM N s_=some H):Calls Tryz.prog 117 #[.slice B s_.length D,.func (.func 118) #[] #[pq b_]] w (fun e w=>e=.returned (.bool H)∧Ctx G (.box b_ [.func (.func 88) #[] #[]] 140::Lf) w):=by
 unfold cM at hF
 refine bU Tryz.func117 rfl Tryz.ntmps117 rfl fun a hf=>zS fun K h=>sp 1 hf rfl fun a hf=>zT h ?_
 refine zS fun K h=>sp 2 hf rfl fun a hf=>?_
 obtain ⟨r,hr,hF⟩:=aA hF
 refine zQ (v:=i6 r) hf hc aM7 rfl (fun w hc=>(lB s_ I (hc.pick k0) hr).mono fun e w h=>⟨h.1,(h.2.unpick k0)⟩) fun a w hf hc=>sp 2 hf rfl fun a hf=>zT h ?_
 refine wp_ret ?_
 obtain rfl:=sj hF
 exact zO1 Tryz.results117 hf rfl ⟨rfl,hc⟩

def gA (N:Nat) (l:List aG):Option (Bool) :=
 Option.bind (cM N l) fun r=>
 some (!r)
theorem rP {N:Nat} {G:aU} {Lf:List Ent} {w:World} (l:List aG) {H:Option Addr} {D:Nat} (I:Rd G 2 H D (l.map bF)) (hc:Ctx G (Lf) w) {B:Bool} (hF:gA N l=some B):Calls Tryz.prog 87 #[.slice H l.length D,.func (.func 88) #[] #[]] w (fun e w=>e=.returned (.bool B)∧Ctx G (Lf) w):=by
 unfold gA at hF
 refine bU Tryz.func87 rfl Tryz.ntmps87 rfl fun a hf=>zS fun K h=>zB hf hc rfl fun J a w hf hc=>sp 1 hf rfl fun a hf=>zT h ?_
 refine zS fun K h=>sp 1 hf rfl fun a hf=>zP hf rfl (pMF (us:=[pq J]) rfl rfl) fun a hf=>?_
 obtain ⟨r,hr,hF⟩:=aA hF
 refine zQ (v:=.bool r) hf hc aO6 rfl (fun w hc=>(kL l I (hc.pick k0) hr).mono fun e w h=>⟨h.1,(h.2.unpick k0)⟩) fun a w hf hc=>sp 2 hf rfl fun a hf=>zT h ?_
 refine wp_ret ?_
 obtain rfl:=sj hF
 replace hc:=hc.drop k0
 exact zO1 Tryz.results87 hf rfl ⟨rfl,hc⟩

def nR (N:Nat) (l:List aG):Option (Int) :=
 cond (!(bD ((l.length:Nat):Int) 2 12))
 (some 3)
 (Option.bind (gA N l) fun r=>
 cond (!r)
 (some 60)
 (some 0))
theorem vN {N:Nat} {G:aU} {Lf:List Ent} {w:World} (l:List aG) {H:Option Addr} {D:Nat} (I:Rd G 2 H D (l.map bF)) (hc:Ctx G (Lf) w) {B:Int} (hF:nR N l=some B):Calls Tryz.prog 46 #[.slice H l.length D] w (fun e w=>e=.returned (i6 B)∧Ctx G (Lf) w):=by
 unfold nR at hF
 refine bU Tryz.func46 rfl Tryz.ntmps46 rfl fun a hf=>zS fun K h=>sp 1 hf rfl fun a hf=>zT h ?_
 refine wp_seq_k fun K2 h2=>wp_block ?_
 refine zS fun K h=>sp 1 hf rfl fun a hf=>zP hf rfl (cR Tryz.underlying41 rfl) fun a hf=>zQ (v:=.bool (bD ((l.length:Nat):Int) 2 12)) hf hc vH rfl (fun w hc=>hU ((l.length:Nat):Int) 2 12 hc rfl) fun a w hf hc=>sp 2 hf rfl fun a hf=>zT h ?_
 refine zI hf rfl hF ?_ ?_ <;> clear hF <;> intro hF
 ·refine zS fun K h=>sp 1 hf rfl fun a hf=>zT h ?_
  refine wp_ret ?_
  refine bT ?_
  refine aQ ?_
  obtain rfl:=sj hF
  exact zO1 Tryz.results46 hf rfl ⟨rfl,hc⟩
 ·refine zS fun K h=>sp 1 hf rfl fun a hf=>?_
  obtain ⟨r,hr,hF⟩:=aA hF
  refine zQ (v:=.bool r) hf hc en_87 rfl (fun w hc=>rP l I hc hr) fun a w hf hc=>sp 2 hf rfl fun a hf=>zT h ?_
  refine zI hf rfl hF ?_ ?_ <;> clear hF <;> intro hF
  ·refine zS fun K h=>sp 1 hf rfl fun a hf=>zT h ?_
   refine wp_ret ?_
   refine bT ?_
   refine aQ ?_
   obtain rfl:=sj hF
   exact zO1 Tryz.results46 hf rfl ⟨rfl,hc⟩
  ·refine wp_skip ?_
   refine h2 _ _ ?_
   refine zS fun K h=>sp 1 hf rfl fun a hf=>zT h ?_
   refine wp_ret ?_
   obtain rfl:=sj hF
   exact zO1 Tryz.results46 hf rfl ⟨rfl,hc⟩

def jI (N:Nat) (l:List aG) (sub:List aG) (x:Int):Option (cP (Int) (Bool)) :=
 cond (decide (x < ((sub.length:Nat):Int)))
 (Option.bind (bQ l (W (x + 1))) fun H=>
 Option.bind (bQ l x) fun B=>
 Option.bind (cond (decide (H.Stage≤B.Stage)) (some true) (Option.bind (bQ l (W (x + 1))) fun D=>
 Option.bind (bQ l x) fun J=>
 some (decide (D.Flow≤J.Flow)))) fun I=>
 cond I
 (some (.ret false))
 (some (.cont (W (x + 1)))))
 (some (.brk x))
def nO (N:Nat) (l:List aG):Option (Bool) :=
 Option.bind (rO l 1 ((l.length:Nat):Int)) fun sub=>
 Option.bind (bC (fun s4=>jI N l sub s4) N 0) fun x4=>
 exK x4 (fun s4=>some true) some
theorem vJ {N:Nat} {G:aU} {Lf:List Ent} {w:World} (l:List aG) {I:Option Addr} {D:Nat} (H:Rd G 2 I D (l.map bF)) (hc:Ctx G (Lf) w) {U:Bool} (hF:nO N l=some U):Calls Tryz.prog 47 #[.slice I l.length D] w (fun e w=>e=.returned (.bool U)∧Ctx G (Lf) w):=by
 unfold nO at hF
 refine bU Tryz.func47 rfl Tryz.ntmps47 rfl fun a hf=>zS fun K h=>sp 1 hf rfl fun a hf=>zT h ?_
 refine wp_seq_k fun K2 h2=>zS fun K h=>sp 1 hf rfl fun a hf=>?_
 obtain ⟨sub,R,hF⟩:=aA hF
 have qs:=Rd.sub H R
 refine zP hf rfl (pSl Tryz.underlying41 tJ rfl rfl (by simpa using H.1) rfl rfl R) fun a hf=>zP hf rfl (cR Tryz.underlying41 rfl) fun a hf=>sp 1 hf rfl fun a hf=>zT h ?_
 refine wp_block ?_
 obtain ⟨x4,u,hF⟩:=aA hF
 let S4:Int→Act→World→Prop:=(fun (zz:Int) a w=>Has 37 a [(0,.slice I l.length D),(6,i6 ((sub.length:Nat):Int)),(7,i6 zz)]∧Ctx G (Lf) w)
 have y:∀ (zz:Int) a w,x4=.go zz→S4 zz a w→K2 a w:=by
  rintro x a w rfl ⟨hf,hc⟩
  replace hF:=cI hF
  refine h2 _ _ ?_
  refine zS fun K h=>sp 1 hf rfl fun a hf=>zT h ?_
  refine wp_ret ?_
  obtain rfl:=sj hF
  exact zO1 Tryz.results47 hf rfl ⟨rfl,hc⟩
 have v:∀ r,x4=.out r→r=U:=by
  rintro r rfl
  exact sj hF
 refine eR N (eO (S:=S4) (x:=x4) ?_ N 0 _ _ ⟨hf.kp rfl,hc⟩ u)
 clear hF hf hc
 rintro x ag a w KB4 ⟨hf,hc⟩ hF B s
 unfold jI at hF
 refine zS fun K h=>sp 1 hf rfl fun a hf=>zT h ?_
 refine wp_seq_k fun K7 h7=>zI hf rfl hF ?_ ?_ <;> clear hF <;> intro hF
 ·refine wp_skip ?_
  refine h7 _ _ ?_
  refine wp_seq_k fun K8 h8=>wp_block ?_
  refine zS fun K h=>sp 2 hf rfl fun a hf=>zT h ?_
  refine wp_seq_k fun K10 z=>?_
  obtain ⟨J,p,hF⟩:=aA hF
  obtain ⟨Y,o,qa,qp⟩:=H.atm p
  obtain ⟨M,b,hF⟩:=aA hF
  obtain ⟨V,X,m,i⟩:=H.atm b
  obtain ⟨t,O,hF⟩:=aA hF
  refine cQ hc aW (by kernel_rfl) ?_
  refine qE hf rfl rfl rfl (Pu.ev (pM rfl)) fun a hf=>qE hf rfl rfl rfl (Pu.ev (pM rfl)) fun a hf=>qE hf rfl rfl rfl (Pu.ev (aI3 rfl rfl)) fun a hf=>qE hf rfl rfl rfl (Pu.ev (pIA Tryz.underlying41 tJ rfl rfl qa)) fun a hf=>qE hf rfl rfl rfl (Pu.ev (pFA qR rfl)) fun a hf=>qE hf rfl rfl rfl (cN aY rfl (gO (j:=0) qp rfl)) fun a hf=>qE hf rfl rfl rfl (Pu.ev (pM rfl)) fun a hf=>qE hf rfl rfl rfl (Pu.ev (pM rfl)) fun a hf=>qE hf rfl rfl rfl (Pu.ev (pIA Tryz.underlying41 tJ rfl rfl m)) fun a hf=>qE hf rfl rfl rfl (Pu.ev (pFA qR rfl)) fun a hf=>qE hf rfl rfl rfl (cN aY rfl (gO (j:=0) i rfl)) fun a hf=>qE hf rfl rfl rfl (Pu.ev (pLe rfl rfl)) fun a hf=>qE hf rfl rfl rfl (Pu.ev (pM rfl)) fun a hf=>?_
  refine qCut 13 (fun a=>Has 37 a [(0,.slice I l.length D),(6,i6 ((sub.length:Nat):Int)),(7,i6 x),(3,i6 x),(10,.slice I l.length D),(11,i6 x),(12,i6 (W (x + 1))),(13,.pointer (some ⟨Y,o,none⟩)),(14,.pointer (some ⟨Y,o + 0,none⟩)),(15,i6 J.Stage),(16,.slice I l.length D),(17,i6 x),(18,.pointer (some ⟨V,X,none⟩)),(19,.pointer (some ⟨V,X + 0,none⟩)),(20,i6 M.Stage),(21,.bool (decide (J.Stage≤M.Stage))),(22,.bool (decide (J.Stage≤M.Stage))),(35,.bool t)]) ?_ ?_
  ·cases hb:(decide (J.Stage≤M.Stage))
   ·rw [hb] at hf
    have hF:=mR hb O
    obtain ⟨af,g,hF⟩:=aA hF
    obtain ⟨ad,ac,q,Z⟩:=H.atm g
    obtain ⟨ab,k,hF⟩:=aA hF
    obtain ⟨aa,ai,n,d⟩:=H.atm k
    refine qE hf rfl rfl rfl (Pu.ev (pM rfl)) fun a hf=>qE hf rfl rfl rfl (Pu.ev (pM rfl)) fun a hf=>qE hf rfl rfl rfl (Pu.ev (aI3 rfl rfl)) fun a hf=>qE hf rfl rfl rfl (Pu.ev (pIA Tryz.underlying41 tJ rfl rfl q)) fun a hf=>qE hf rfl rfl rfl (Pu.ev (pFA sI rfl)) fun a hf=>qE hf rfl rfl rfl (cN aY rfl (gO (j:=1) Z rfl)) fun a hf=>qE hf rfl rfl rfl (Pu.ev (pM rfl)) fun a hf=>qE hf rfl rfl rfl (Pu.ev (pM rfl)) fun a hf=>qE hf rfl rfl rfl (Pu.ev (pIA Tryz.underlying41 tJ rfl rfl n)) fun a hf=>qE hf rfl rfl rfl (Pu.ev (pFA sI rfl)) fun a hf=>qE hf rfl rfl rfl (cN aY rfl (gO (j:=1) d rfl)) fun a hf=>qE hf rfl rfl rfl (Pu.ev (pLe rfl rfl)) fun a hf=>qE hf rfl rfl rfl (Pu.ev (pPf rfl rfl)) fun a hf=>?_
    obtain rfl:=sj hF
    exact aJd (hf.kp rfl)
   ·rw [hb] at hf
    have hF:=mN hb O
    obtain rfl:=sj hF
    refine qS hf rfl rfl rfl fun a hf=>qS hf rfl rfl rfl fun a hf=>qS hf rfl rfl rfl fun a hf=>qS hf rfl rfl rfl fun a hf=>qS hf rfl rfl rfl fun a hf=>qS hf rfl rfl rfl fun a hf=>qS hf rfl rfl rfl fun a hf=>qS hf rfl rfl rfl fun a hf=>qS hf rfl rfl rfl fun a hf=>qS hf rfl rfl rfl fun a hf=>qS hf rfl rfl rfl fun a hf=>qS hf rfl rfl rfl fun a hf=>qE hf rfl rfl rfl (Pu.ev (pPt rfl rfl)) fun a hf=>?_
    exact aJd (hf.kp rfl)
  intro a hf
  intro w hc
  refine z _ _ ?_
  refine zI hf rfl hF ?_ ?_ <;> clear hF <;> intro hF
  ·refine zS fun K h=>sp 1 hf rfl fun a hf=>zT h ?_
   refine wp_ret ?_
   refine bT ?_
   refine aQ ?_
   refine aQ ?_
   have he:=sj hF
   rw [← he] at B
   replace hF:=v _ B
   refine bT ?_
   refine aQ ?_
   obtain rfl:=hF
   exact zO1 Tryz.results47 hf rfl ⟨rfl,hc⟩
  ·refine wp_skip ?_
   refine h8 _ _ ?_
   refine eB ?_
   refine sp 2 hf rfl fun a hf=>aS ?_
   exact s (W (x + 1)) _ _ (sj hF).symm ⟨hf.kp rfl,hc⟩
 ·refine wp_exit ?_
  refine bI ?_
  refine bI ?_
  have he:=sj hF
  rw [← he] at B
  refine fZ ?_
  exact y _ _ _ B ⟨hf.kp rfl,hc⟩

def pC (N:Nat) (l:List aG) (at_:Int) (B:Int):Option (Int) :=
 Option.bind (nR N l) fun r=>
 cond (r != 0)
 (some r)
 (Option.bind (nO N l) fun D=>
 cond (!D)
 (some 9)
 (cond ((!(bK at_)) || (!(bD B (-300) 300)))
 (some 4)
 (some 0)))
theorem aCi {N:Nat} {G:aU} {Lf:List Ent} {w:World} (l:List aG) (at_:Int) (B:Int) {J:Option Addr} {I:Nat} (H:Rd G 2 J I (l.map bF)) (hc:Ctx G (Lf) w) {D:Int} (hF:pC N l at_ B=some D):Calls Tryz.prog 20 #[.slice J l.length I,i6 at_,i6 B] w (fun e w=>e=.returned (i6 D)∧Ctx G (Lf) w):=by
 unfold pC at hF
 refine bU Tryz.func20 rfl Tryz.ntmps20 rfl fun a hf=>zS fun K h=>sp 1 hf rfl fun a hf=>zT h ?_
 refine zS fun K h=>sp 1 hf rfl fun a hf=>?_
 obtain ⟨r,hr,hF⟩:=aA hF
 refine zQ (v:=i6 r) hf hc aMp rfl (fun w hc=>vN l H hc hr) fun a w hf hc=>sp 1 hf rfl fun a hf=>zT h ?_
 refine wp_seq_k fun K3 h3=>wp_block ?_
 refine zS fun K h=>sp 3 hf rfl fun a hf=>zT h ?_
 refine zI hf rfl hF ?_ ?_ <;> clear hF <;> intro hF
 ·refine zS fun K h=>sp 2 hf rfl fun a hf=>zT h ?_
  refine wp_ret ?_
  refine bT ?_
  refine aQ ?_
  obtain rfl:=sj hF
  exact zO1 Tryz.results20 hf rfl ⟨rfl,hc⟩
 ·refine zS fun K h=>sp 1 hf rfl fun a hf=>?_
  obtain ⟨O,M,hF⟩:=aA hF
  refine zQ (v:=.bool O) hf hc aMa rfl (fun w hc=>vJ l H hc M) fun a w hf hc=>sp 2 hf rfl fun a hf=>zT h ?_
  refine zI hf rfl hF ?_ ?_ <;> clear hF <;> intro hF
  ·refine zS fun K h=>sp 1 hf rfl fun a hf=>zT h ?_
   refine wp_ret ?_
   refine bT ?_
   refine aQ ?_
   obtain rfl:=sj hF
   exact zO1 Tryz.results20 hf rfl ⟨rfl,hc⟩
  ·refine zS fun K h=>sp 1 hf rfl fun a hf=>zQ (v:=.bool (bK at_)) hf hc aKi rfl (fun w hc=>rF at_ hc rfl) fun a w hf hc=>sp 2 hf rfl fun a hf=>gQ 4 (fun a=>Has 27 a [(1,i6 at_),(2,i6 B),(19,i6 at_),(20,.bool (bK at_)),(21,.bool (!(bK at_))),(22,.bool (!(bK at_))),(26,.bool ((!(bK at_)) || (!(bD B (-300) 300))))]) hc ?_ ?_
   ·cases hb:(!(bK at_))
    ·rw [hb] at hf
     refine sp 1 hf rfl fun a hf=>zQ (v:=.bool (bD B (-300) 300)) hf hc vH rfl (fun w hc=>hU B (-300) 300 hc rfl) fun a w hf hc=>sp 2 hf rfl fun a hf=>aS ⟨hf.kp rfl,hc⟩
    ·rw [hb] at hf
     refine stS hf rfl rfl rfl fun a hf=>stS hf rfl rfl rfl fun a hf=>stS hf rfl rfl rfl fun a hf=>sp 1 hf rfl fun a hf=>aS ⟨hf.kp rfl,hc⟩
   intro a w ⟨hf,hc⟩
   refine sp 1 hf rfl fun a hf=>zT h ?_
   refine zI hf rfl hF ?_ ?_ <;> clear hF <;> intro hF
   ·refine zS fun K h=>sp 1 hf rfl fun a hf=>zT h ?_
    refine wp_ret ?_
    refine bT ?_
    refine aQ ?_
    obtain rfl:=sj hF
    exact zO1 Tryz.results20 hf rfl ⟨rfl,hc⟩
   ·refine wp_skip ?_
    refine h3 _ _ ?_
    refine zS fun K h=>sp 1 hf rfl fun a hf=>zT h ?_
    refine wp_ret ?_
    obtain rfl:=sj hF
    exact zO1 Tryz.results20 hf rfl ⟨rfl,hc⟩

def gV (m:aG) (x:Int):Bool :=
 (decide (x < m.Stage))
theorem yN {G:aU} {Lf:List Ent} {w:World} (m:aG) (x:Int) {b_:Nat}  (hc:Ctx G (.box b_ [i6 x] 3::Lf) w) {B:Bool} (hF:gV m x=B):Calls Tryz.prog 52 #[.agg #[i6 m.Stage,i6 m.Flow],pq b_] w (fun e w=>e=.returned (.bool B)∧Ctx G (.box b_ [i6 x] 3::Lf) w):=by
 unfold gV at hF
 refine bU Tryz.func52 rfl Tryz.ntmps52 rfl fun a hf=>zS fun K h=>zB hf hc rfl fun D a w hf hc=>sp 1 hf rfl fun a hf=>zT h ?_
 refine zS fun K h=>zP hf rfl (pFA qR rfl) fun a hf=>zL hf hc aY m0 rfl fun a w hf hc=>zL hf hc aY m1 rfl fun a w hf hc=>sp 2 hf rfl fun a hf=>zT h ?_
 refine wp_ret ?_
 obtain rfl:=hF
 replace hc:=hc.drop k0
 exact zO1 Tryz.results52 hf rfl ⟨rfl,hc⟩

def dJ (N:Nat) (s_:List aG) (f_:Int) (x:Int):Option (cP (Int) (Int)) :=
 cond (decide (x < ((s_.length:Nat):Int)))
 (Option.bind (bQ s_ x) fun B=>
 cond (gV B f_)
 (some (.ret x))
 (some (.cont (W (x + 1)))))
 (some (.brk x))
def bX (N:Nat) (s_:List aG) (f_:Int):Option (Int) :=
 Option.bind (bC (fun s4=>dJ N s_ f_ s4) N 0) fun x4=>
 exK x4 (fun s4=>some (-1)) some
theorem kH {N:Nat} {G:aU} {Lf:List Ent} {w:World} (s_:List aG) (f_:Int) {D:Option Addr} {H:Nat} {b_:Nat} (O:Rd G 2 D H (s_.map bF)) (hc:Ctx G (.box b_ [i6 f_] 3::Lf) w) {J:Int} (hF:bX N s_ f_=some J):Calls Tryz.prog 51 #[.slice D s_.length H,.func (.func 52) #[] #[pq b_]] w (fun e w=>e=.returned (i6 J)∧Ctx G (.box b_ [i6 f_] 3::Lf) w):=by
 unfold bX at hF
 refine bU Tryz.func51 rfl Tryz.ntmps51 rfl fun a hf=>zS fun K h=>sp 1 hf rfl fun a hf=>zT h ?_
 refine wp_seq_k fun K2 h2=>zS fun K h=>sp 1 hf rfl fun a hf=>zP hf rfl (cR Tryz.underlying41 rfl) fun a hf=>sp 1 hf rfl fun a hf=>zT h ?_
 refine wp_block ?_
 obtain ⟨x4,U,hF⟩:=aA hF
 let S4:Int→Act→World→Prop:=(fun (zz:Int) a w=>Has 19 a [(0,.slice D s_.length H),(1,.func (.func 52) #[] #[pq b_]),(7,i6 ((s_.length:Nat):Int)),(8,i6 zz)]∧Ctx G (.box b_ [i6 f_] 3::Lf) w)
 have X:∀ (zz:Int) a w,x4=.go zz→S4 zz a w→K2 a w:=by
  rintro x a w rfl ⟨hf,hc⟩
  replace hF:=cI hF
  refine h2 _ _ ?_
  refine zS fun K h=>sp 1 hf rfl fun a hf=>zT h ?_
  refine wp_ret ?_
  obtain rfl:=sj hF
  exact zO1 Tryz.results51 hf rfl ⟨rfl,hc⟩
 have V:∀ r,x4=.out r→r=J:=by
  rintro r rfl
  exact sj hF
 refine eR N (eO (S:=S4) (x:=x4) ?_ N 0 _ _ ⟨hf.kp rfl,hc⟩ U)
 clear hF hf hc
 rintro x Z a w KB4 ⟨hf,hc⟩ hF B R
 unfold dJ at hF
 refine zS fun K h=>sp 1 hf rfl fun a hf=>zT h ?_
 refine wp_seq_k fun K7 h7=>zI hf rfl hF ?_ ?_ <;> clear hF <;> intro hF
 ·refine wp_skip ?_
  refine h7 _ _ ?_
  refine wp_seq_k fun K8 h8=>wp_block ?_
  refine zS fun K h=>sp 2 hf rfl fun a hf=>zT h ?_
  refine zS fun K h=>sp 3 hf rfl fun a hf=>?_
  obtain ⟨I,M,hF⟩:=aA hF
  obtain ⟨Y,o,qa,qp⟩:=O.atm M
  refine zP hf rfl (pIA Tryz.underlying41 tJ rfl rfl qa) fun a hf=>zE hf hc rfl (jE (vs:=[i6 I.Stage,i6 I.Flow]) aC9 rfl rfl (dS qp (n:=2) (o':=0) rfl)) fun a w hf hc=>zQ (v:=.bool (gV I f_)) hf hc en_52 rfl (fun w hc=>(yN I f_ (hc.pick k0) rfl).mono fun e w h=>⟨h.1,(h.2.unpick k0)⟩) fun a w hf hc=>zT h ?_
  refine zI hf rfl hF ?_ ?_ <;> clear hF <;> intro hF
  ·refine zS fun K h=>sp 2 hf rfl fun a hf=>zT h ?_
   refine wp_ret ?_
   refine bT ?_
   refine aQ ?_
   refine aQ ?_
   have he:=sj hF
   rw [← he] at B
   replace hF:=V _ B
   refine bT ?_
   refine aQ ?_
   obtain rfl:=hF
   exact zO1 Tryz.results51 hf rfl ⟨rfl,hc⟩
  ·refine wp_skip ?_
   refine h8 _ _ ?_
   refine eB ?_
   refine sp 2 hf rfl fun a hf=>aS ?_
   exact R (W (x + 1)) _ _ (sj hF).symm ⟨hf.kp rfl,hc⟩
 ·refine wp_exit ?_
  refine bI ?_
  refine bI ?_
  have he:=sj hF
  rw [← he] at B
  refine fZ ?_
  exact X _ _ _ B ⟨hf.kp rfl,hc⟩

def iA (N:Nat) (D:Int) (B:Int):Option (cP (Int × Int) (fE)) :=
 cond (B != 0)
 (Option.bind (nz B) fun H=>
 some (.cont (B,D.tmod B)))
 (some (.brk (D,B)))
def nU (N:Nat) (n:Int) (d:Int):Option (fE) :=
 Option.bind (bC (fun s4=>iA N s4.1 s4.2) N (max n (W (0 - n)),d)) fun x4=>
 exK x4 (fun s4=>Option.bind (nz s4.1) fun un=>
 Option.bind (nz s4.1) fun B=>
 some (⟨W (n.tdiv s4.1),W (d.tdiv s4.1)⟩:fE)) some
theorem aBh {N:Nat} {G:aU} {Lf:List Ent} {w:World} (n:Int) (d:Int)   (hc:Ctx G (Lf) w) {I:fE} (hF:nU N n d=some I):Calls Tryz.prog 50 #[i6 n,i6 d] w (fun e w=>e=.returned (.agg #[i6 I.N,i6 I.D])∧Ctx G (Lf) w):=by
 unfold nU at hF
 refine bU Tryz.func50 rfl Tryz.ntmps50 rfl fun a hf=>zS fun K h=>zA hf hc aC7 rfl fun H a w hf hc=>zT h ?_
 refine zS fun K h=>sp 3 hf rfl fun a hf=>zP hf rfl (aHr rfl rfl) fun a hf=>sp 3 hf rfl fun a hf=>zT h ?_
 refine wp_seq_k fun K3 h3=>wp_block ?_
 obtain ⟨x4,X,hF⟩:=aA hF
 let S4:(Int × Int)→Act→World→Prop:=(fun (zz:Int × Int) a w=>Has 25 a [(0,i6 n),(1,i6 d),(4,pq H),(5,i6 zz.1),(6,i6 zz.2)]∧Ctx G (.box H [i6 0,i6 0] 47::Lf) w)
 have Z:∀ (zz:Int × Int) a w,x4=.go zz→S4 zz a w→K3 a w:=by
  rintro ⟨B,M⟩ a w rfl ⟨hf,hc⟩
  replace hF:=cI hF
  refine h3 _ _ ?_
  refine wp_seq_k fun K5 h5=>?_
  obtain ⟨un,Y,hF⟩:=aA hF
  obtain ⟨b,R,hF⟩:=aA hF
  refine iE (fun θ=>[⟨none,none,0,i6 n⟩,⟨none,none,1,i6 d⟩,⟨none,none,4,pq H⟩,⟨none,none,5,i6 B⟩,⟨some 0,none,18,i6 n⟩,⟨some 1,none,19,i6 B⟩,⟨some 2,none,20,i6 (W (n.tdiv B))⟩,⟨some 3,none,21,i6 d⟩,⟨some 4,none,22,i6 B⟩,⟨some 5,none,23,i6 (W (d.tdiv B))⟩,⟨some 6,none,24,.agg #[i6 (W (n.tdiv B)),i6 (W (d.tdiv B))]⟩]) (fun E θ=>(bif E 7 then .box H [i6 (W (n.tdiv B)),i6 (W (d.tdiv B))] 47 else .box H [i6 0,i6 0] 47)::Lf) [] (fun a w=>Has 25 a [(4,pq H)]∧Ctx G (.box H [i6 (W (n.tdiv B)),i6 (W (d.tdiv B))] 47::Lf) w) aW (by kernel_rfl) (by kernel_rfl) (eV.of hf ⟨rfl,rfl,rfl,rfl,trivial,trivial,trivial,trivial,trivial,trivial,trivial,trivial⟩) hc ⟨?_,?_,?_,?_,?_,?_,?_,?_,trivial⟩ ?_ ?_
  ·intro E θ a w hD hi hp he hc
   have hf:=he.h0.mT he 0 rfl
   refine sp 1 hf rfl fun a hf=>zD θ he hi hf 4 rfl rfl rfl hc
  ·intro E θ a w hD hi hp he hc
   have hf:=he.h0.mT he 3 rfl
   refine sp 1 hf rfl fun a hf=>zD θ he hi hf 5 rfl rfl rfl hc
  ·intro E θ a w hD hi hp he hc
   have e0:=hp.o 0 rfl
   have e1:=hp.o 1 rfl
   have hf:=(he.h0.mP he 4 rfl e0).mP he 5 rfl e1
   refine zP hf rfl (aI5 rfl rfl (qJ Y)) fun a hf=>zD θ he hi hf 6 rfl rfl rfl hc
  ·intro E θ a w hD hi hp he hc
   have hf:=he.h0.mT he 1 rfl
   refine sp 1 hf rfl fun a hf=>zD θ he hi hf 7 rfl rfl rfl hc
  ·intro E θ a w hD hi hp he hc
   have hf:=he.h0.mT he 3 rfl
   refine sp 1 hf rfl fun a hf=>zD θ he hi hf 8 rfl rfl rfl hc
  ·intro E θ a w hD hi hp he hc
   have e3:=hp.o 3 rfl
   have e4:=hp.o 4 rfl
   have hf:=(he.h0.mP he 7 rfl e3).mP he 8 rfl e4
   refine zP hf rfl (aI5 rfl rfl (qJ R)) fun a hf=>zD θ he hi hf 9 rfl rfl rfl hc
  ·intro E θ a w hD hi hp he hc
   have e2:=hp.o 2 rfl
   have e5:=hp.o 5 rfl
   have hf:=(he.h0.mP he 6 rfl e2).mP he 9 rfl e5
   refine zP hf rfl (bL (cells:=[i6 (W (n.tdiv B)),i6 (W (d.tdiv B))]) aHq rfl rfl) fun a hf=>zD θ he hi hf 10 rfl rfl rfl hc
  ·intro E θ a w hD hi hp he hc
   have e6:=hp.o 6 rfl
   try dsimp only at hc
   rw [hi] at hc
   have hf:=(he.h0.mT he 2 rfl).mP he 10 rfl e6
   refine zW hf hc xH u0 rfl fun w hc=>zG θ he hi hf rfl ?_
   try dsimp only
   rw [aX E 7]
   exact hc
  ·intro E θ a w U he hc
   have hf:=he.h0
   have e7:=U 7 rfl
   replace hf:=hf.more he 2 rfl (onT)
   try dsimp only at hc
   rw [e7] at hc
   exact ⟨hf.kp rfl,hc⟩
  rintro a w ⟨hf,hc⟩
  refine h5 _ _ ?_
  refine wp_ret ?_
  obtain rfl:=sj hF
  exact lC (by simp) rfl Tryz.results50 hf hc (cW (vs:=[i6 (W (n.tdiv B)),i6 (W (d.tdiv B))]) aCa rfl rfl (bR (n:=2) m0 rfl)) ⟨rfl,(hc.drop k0)⟩
 have i:∀ r,x4=.out r→r=I:=by
  rintro r rfl
  exact sj hF
 refine eR N (eO (S:=S4) (x:=x4) ?_ N (max n (W (0 - n)),d) _ _ ⟨hf.kp rfl,hc⟩ X)
 clear hF hf hc
 rintro ⟨B,M⟩ j a w KB4 ⟨hf,hc⟩ hF J V
 unfold iA at hF
 refine wp_seq_k fun K6 h6=>zS fun K h=>sp 2 hf rfl fun a hf=>zT h ?_
 refine zI hf rfl hF ?_ ?_ <;> clear hF <;> intro hF
 ·refine wp_skip ?_
  refine h6 _ _ ?_
  refine lH fun K8 h8=>wp_block ?_
  obtain ⟨g,O,hF⟩:=aA hF
  refine cQ hc aW (by kernel_rfl) ?_
  refine qE hf rfl rfl rfl (Pu.ev (pM rfl)) fun a hf=>qE hf rfl rfl rfl (Pu.ev (pM rfl)) fun a hf=>qE hf rfl rfl rfl (Pu.ev (pM rfl)) fun a hf=>qE hf rfl rfl rfl (Pu.ev (aG3 rfl rfl (qJ O))) fun a hf=>qE hf rfl rfl rfl (Pu.ev (pA rfl)) fun a hf=>qE hf rfl rfl rfl (Pu.ev (pA rfl)) fun a hf=>?_
  intro w hc
  refine h8 _ _ ?_
  exact V (M,B.tmod M) _ _ (sj hF).symm ⟨hf.kp rfl,hc⟩
 ·refine wp_exit ?_
  refine bI ?_
  refine bI ?_
  have he:=sj hF
  rw [← he] at J
  refine fZ ?_
  exact Z _ _ _ J ⟨hf.kp rfl,hc⟩

def oW (N:Nat) (a_:aG) (b_:aG) (x:Int):Option (fE) :=
 Option.bind (nU N (W ((W (a_.Flow * (W (b_.Stage - a_.Stage)))) + (W ((W (b_.Flow - a_.Flow)) * (W (x - a_.Stage)))))) (W (b_.Stage - a_.Stage))) fun r=>
 some r
theorem yU {N:Nat} {G:aU} {Lf:List Ent} {w:World} (a_:aG) (b_:aG) (x:Int) {B:Nat}  (hc:Ctx G (.box B [i6 x] 3::Lf) w) {H:fE} (hF:oW N a_ b_ x=some H):Calls Tryz.prog 49 #[.agg #[i6 a_.Stage,i6 a_.Flow],.agg #[i6 b_.Stage,i6 b_.Flow],pq B] w (fun e w=>e=.returned (.agg #[i6 H.N,i6 H.D])∧Ctx G (.box B [i6 x] 3::Lf) w):=by
 unfold oW at hF
 refine bU Tryz.func49 rfl Tryz.ntmps49 rfl fun a hf=>zS fun K h=>zB hf hc rfl fun M a w hf hc=>zB hf hc rfl fun I a w hf hc=>zA hf hc aC7 rfl fun J a w hf hc=>zT h ?_
 refine zS fun K h=>zP hf rfl (pFA qR rfl) fun a hf=>zL hf hc aY m1 rfl fun a w hf hc=>zP hf rfl (pFA qR rfl) fun a hf=>zL hf hc aY m2 rfl fun a w hf hc=>sp 2 hf rfl fun a hf=>zT h ?_
 refine zS fun K h=>zP hf rfl (pFA sI rfl) fun a hf=>zL hf hc aY m2 rfl fun a w hf hc=>sp 2 hf rfl fun a hf=>zP hf rfl (pFA sI rfl) fun a hf=>zL hf hc aY m1 rfl fun a w hf hc=>zP hf rfl (pFA sI rfl) fun a hf=>zL hf hc aY m2 rfl fun a w hf hc=>sp 1 hf rfl fun a hf=>zL hf hc aY m3 rfl fun a w hf hc=>zP hf rfl (pFA qR rfl) fun a hf=>zL hf hc aY m2 rfl fun a w hf hc=>sp 4 hf rfl fun a hf=>?_
 obtain ⟨r,hr,hF⟩:=aA hF
 refine zQ (v:=.agg #[i6 r.N,i6 r.D]) hf hc en_50 rfl (fun w hc=>aBh (W ((W (a_.Flow * (W (b_.Stage - a_.Stage)))) + (W ((W (b_.Flow - a_.Flow)) * (W (x - a_.Stage)))))) (W (b_.Stage - a_.Stage)) hc hr) fun a w hf hc=>zW hf hc xH u0 rfl fun w hc=>zT h ?_
 refine wp_ret ?_
 obtain rfl:=sj hF
 replace hc:=(((hc.drop k2).drop k1).pick k0).pick k1
 exact lC (by simp) rfl Tryz.results49 hf hc (cW (vs:=[i6 r.N,i6 r.D]) aCa rfl rfl (bR (n:=2) m1 rfl)) ⟨rfl,(hc.drop k1)⟩

def lV (N:Nat) (l:List aG) (at_:Int):Option (fE) :=
 Option.bind (bQ l (W (((l.length:Nat):Int) - 1))) fun B=>
 Option.bind (bQ l 0) fun H=>
 cond (decide (at_≤H.Stage))
 (Option.bind (bQ l 0) fun I=>
 some (⟨I.Flow,1⟩:fE))
 (cond (decide (B.Stage≤at_))
 (some (⟨B.Flow,1⟩:fE))
 (Option.bind (bX N l at_) fun r=>
 Option.bind (bQ l (W (r - 1))) fun M=>
 Option.bind (bQ l r) fun D=>
 Option.bind (oW N M D at_) fun J=>
 some J))
theorem vB {N:Nat} {G:aU} {Lf:List Ent} {w:World} (l:List aG) (at_:Int) {U:Option Addr} {O:Nat} (J:Rd G 2 U O (l.map bF)) (hc:Ctx G (Lf) w) {V:fE} (hF:lV N l at_=some V):Calls Tryz.prog 21 #[.slice U l.length O,i6 at_] w (fun e w=>e=.returned (.agg #[i6 V.N,i6 V.D])∧Ctx G (Lf) w):=by
 unfold lV at hF
 refine bU Tryz.func21 rfl Tryz.ntmps21 rfl fun a hf=>zS fun K h=>zB hf hc rfl fun I a w hf hc=>zA hf hc aC7 rfl fun S a w hf hc=>zT h ?_
 refine zS fun K h=>sp 2 hf rfl fun a hf=>zP hf rfl (cR Tryz.underlying41 rfl) fun a hf=>sp 1 hf rfl fun a hf=>?_
 obtain ⟨H,k,hF⟩:=aA hF
 obtain ⟨ap,o,qa,qp⟩:=J.atm k
 refine zP hf rfl (pIA Tryz.underlying41 tJ rfl rfl qa) fun a hf=>zE hf hc rfl (jE (vs:=[i6 H.Stage,i6 H.Flow]) aC9 rfl rfl (dS qp (n:=2) (o':=0) rfl)) fun a w hf hc=>zA hf hc zr_39 rfl fun X a w hf hc=>zW hf hc tJ u0 rfl fun w hc=>zT h ?_
 refine wp_seq_k fun K3 h3=>wp_block ?_
 refine wp_seq_k fun K4 h4=>?_
 obtain ⟨an,s,hF⟩:=aA hF
 obtain ⟨ak,aj,d,b⟩:=J.atm s
 refine cQ hc aW (by kernel_rfl) ?_
 refine qE hf rfl rfl rfl (cN aY rfl (bO m2 rfl)) fun a hf=>qE hf rfl rfl rfl (Pu.ev (pM rfl)) fun a hf=>qE hf rfl rfl rfl (Pu.ev (pIA Tryz.underlying41 tJ rfl rfl d)) fun a hf=>qE hf rfl rfl rfl (Pu.ev (pFA qR rfl)) fun a hf=>qE hf rfl rfl rfl (cN aY rfl (gO (j:=0) b rfl)) fun a hf=>qE hf rfl rfl rfl (Pu.ev (pLe rfl rfl)) fun a hf=>qE hf rfl rfl rfl (Pu.ev (pA rfl)) fun a hf=>?_
 intro w hc
 refine h4 _ _ ?_
 refine zI hf rfl hF ?_ ?_ <;> clear hF <;> intro hF
 ·refine zS fun K h=>sp 1 hf rfl fun a hf=>?_
  obtain ⟨Y,q,hF⟩:=aA hF
  obtain ⟨aq,am,y,z⟩:=J.atm q
  refine zP hf rfl (pIA Tryz.underlying41 tJ rfl rfl y) fun a hf=>zP hf rfl (pFA sI rfl) fun a hf=>zE hf hc rfl (cN aY rfl (gO (j:=1) z rfl)) fun a w hf hc=>zP hf rfl (bL (cells:=[i6 Y.Flow,i6 1]) aHq rfl rfl) fun a hf=>zW hf hc xH u1 rfl fun w hc=>zT h ?_
  refine wp_ret ?_
  refine bT ?_
  refine aQ ?_
  obtain rfl:=sj hF
  replace hc:=(hc.drop k2).drop k0
  exact lC (by simp) rfl Tryz.results21 hf hc (cW (vs:=[i6 Y.Flow,i6 1]) aCa rfl rfl (bR (n:=2) m0 rfl)) ⟨rfl,(hc.drop k0)⟩
 ·refine zS fun K h=>zL hf hc aY m2 rfl fun a w hf hc=>zP hf rfl (pFA qR rfl) fun a hf=>zL hf hc aY m0 rfl fun a w hf hc=>sp 2 hf rfl fun a hf=>zT h ?_
  refine zI hf rfl hF ?_ ?_ <;> clear hF <;> intro hF
  ·refine zS fun K h=>zP hf rfl (pFA sI rfl) fun a hf=>zL hf hc aY m0 rfl fun a w hf hc=>zP hf rfl (bL (cells:=[i6 H.Flow,i6 1]) aHq rfl rfl) fun a hf=>zW hf hc xH u1 rfl fun w hc=>zT h ?_
   refine wp_ret ?_
   refine bT ?_
   refine aQ ?_
   obtain rfl:=sj hF
   replace hc:=(hc.drop k2).drop k0
   exact lC (by simp) rfl Tryz.results21 hf hc (cW (vs:=[i6 H.Flow,i6 1]) aCa rfl rfl (bR (n:=2) m0 rfl)) ⟨rfl,(hc.drop k0)⟩
  ·refine wp_skip ?_
   refine h3 _ _ ?_
   refine zS fun K h=>zP hf rfl (pMF (us:=[pq I]) rfl rfl) fun a hf=>sp 1 hf rfl fun a hf=>zT h ?_
   refine zS fun K h=>sp 1 hf rfl fun a hf=>zP hf rfl (pMF (us:=[pq I]) rfl rfl) fun a hf=>?_
   obtain ⟨r,hr,hF⟩:=aA hF
   refine zQ (v:=i6 r) hf hc aM7 rfl (fun w hc=>(kH l at_ J (hc.pick k2) hr).mono fun e w h=>⟨h.1,(h.2.unpick k2)⟩) fun a w hf hc=>sp 1 hf rfl fun a hf=>zT h ?_
   refine wp_seq_k fun K10 af=>?_
   obtain ⟨R,i,hF⟩:=aA hF
   obtain ⟨ac,ai,t,g⟩:=J.atm i
   obtain ⟨M,u,hF⟩:=aA hF
   obtain ⟨ag,ab,p,x⟩:=J.atm u
   obtain ⟨B,m,hF⟩:=aA hF
   refine iE (fun θ=>[⟨none,none,0,.slice U l.length O⟩,⟨none,none,4,pq S⟩,⟨none,none,6,.func (.func 49) #[] #[pq I]⟩,⟨none,none,7,i6 r⟩,⟨some 0,none,38,.func (.func 49) #[] #[pq I]⟩,⟨some 1,none,39,.slice U l.length O⟩,⟨some 2,none,40,i6 r⟩,⟨some 3,none,41,i6 (W (r - 1))⟩,⟨some 4,none,42,.pointer (some ⟨ac,ai,none⟩)⟩,⟨some 5,none,43,.agg #[i6 R.Stage,i6 R.Flow]⟩,⟨some 6,none,44,.slice U l.length O⟩,⟨some 7,none,45,i6 r⟩,⟨some 8,none,46,.pointer (some ⟨ag,ab,none⟩)⟩,⟨some 9,none,47,.agg #[i6 M.Stage,i6 M.Flow]⟩,⟨some 10,none,48,.agg #[i6 B.N,i6 B.D]⟩]) (fun E θ=>.box X [i6 H.Stage,i6 H.Flow] 39::(bif E 11 then .box S [i6 B.N,i6 B.D] 47 else .box S [i6 0,i6 0] 47)::.box I [i6 at_] 3::Lf) [] (fun a w=>Has 49 a [(4,pq S)]∧Ctx G (.box X [i6 H.Stage,i6 H.Flow] 39::.box S [i6 B.N,i6 B.D] 47::.box I [i6 at_] 3::Lf) w) aW (by kernel_rfl) (by kernel_rfl) (eV.of hf ⟨rfl,rfl,rfl,rfl,trivial,trivial,trivial,trivial,trivial,trivial,trivial,trivial,trivial,trivial,trivial,trivial⟩) hc ⟨?_,?_,?_,?_,?_,?_,?_,?_,?_,?_,?_,?_,trivial⟩ ?_ ?_
   ·intro E θ a w hD hi hp he hc
    have hf:=he.h0.mT he 2 rfl
    refine sp 1 hf rfl fun a hf=>zD θ he hi hf 4 rfl rfl rfl hc
   ·intro E θ a w hD hi hp he hc
    have hf:=he.h0.mT he 0 rfl
    refine sp 1 hf rfl fun a hf=>zD θ he hi hf 5 rfl rfl rfl hc
   ·intro E θ a w hD hi hp he hc
    have hf:=he.h0.mT he 3 rfl
    refine sp 1 hf rfl fun a hf=>zD θ he hi hf 6 rfl rfl rfl hc
   ·intro E θ a w hD hi hp he hc
    have e2:=hp.o 2 rfl
    have hf:=he.h0.mP he 6 rfl e2
    refine sp 1 hf rfl fun a hf=>zD θ he hi hf 7 rfl rfl rfl hc
   ·intro E θ a w hD hi hp he hc
    have e1:=hp.o 1 rfl
    have e3:=hp.o 3 rfl
    have hf:=(he.h0.mP he 5 rfl e1).mP he 7 rfl e3
    refine zP hf rfl (pIA Tryz.underlying41 tJ rfl rfl t) fun a hf=>zD θ he hi hf 8 rfl rfl rfl hc
   ·intro E θ a w hD hi hp he hc
    have e4:=hp.o 4 rfl
    have hf:=he.h0.mP he 8 rfl e4
    refine zE hf hc rfl (jE (vs:=[i6 R.Stage,i6 R.Flow]) aC9 rfl rfl (dS g (n:=2) (o':=0) rfl)) fun a w hf hc=>zD θ he hi hf 9 rfl rfl rfl hc
   ·intro E θ a w hD hi hp he hc
    have hf:=he.h0.mT he 0 rfl
    refine sp 1 hf rfl fun a hf=>zD θ he hi hf 10 rfl rfl rfl hc
   ·intro E θ a w hD hi hp he hc
    have hf:=he.h0.mT he 3 rfl
    refine sp 1 hf rfl fun a hf=>zD θ he hi hf 11 rfl rfl rfl hc
   ·intro E θ a w hD hi hp he hc
    have e6:=hp.o 6 rfl
    have e7:=hp.o 7 rfl
    have hf:=(he.h0.mP he 10 rfl e6).mP he 11 rfl e7
    refine zP hf rfl (pIA Tryz.underlying41 tJ rfl rfl p) fun a hf=>zD θ he hi hf 12 rfl rfl rfl hc
   ·intro E θ a w hD hi hp he hc
    have e8:=hp.o 8 rfl
    have hf:=he.h0.mP he 12 rfl e8
    refine zE hf hc rfl (jE (vs:=[i6 M.Stage,i6 M.Flow]) aC9 rfl rfl (dS x (n:=2) (o':=0) rfl)) fun a w hf hc=>zD θ he hi hf 13 rfl rfl rfl hc
   ·intro E θ a w hD hi hp he hc
    have e0:=hp.o 0 rfl
    have e5:=hp.o 5 rfl
    have e9:=hp.o 9 rfl
    have hf:=((he.h0.mP he 4 rfl e0).mP he 9 rfl e5).mP he 13 rfl e9
    refine zQ (v:=.agg #[i6 B.N,i6 B.D]) hf hc en_49 rfl (fun w hc=>(yU R M at_ (hc.pick k2) m).mono fun e w h=>⟨h.1,(h.2.unpick k2)⟩) fun a w hf hc=>zD θ he hi hf 14 rfl rfl rfl hc
   ·intro E θ a w hD hi hp he hc
    have aa:=hp.o 10 rfl
    try dsimp only at hc
    rw [hi] at hc
    have hf:=(he.h0.mT he 1 rfl).mP he 14 rfl aa
    refine zW hf hc xH u1 rfl fun w hc=>zG θ he hi hf rfl ?_
    try dsimp only
    rw [aX E 11]
    exact hc
   ·intro E θ a w Z he hc
    have hf:=he.h0
    have ad:=Z 11 rfl
    replace hf:=hf.more he 1 rfl (onT)
    try dsimp only at hc
    rw [ad] at hc
    exact ⟨hf.kp rfl,hc⟩
   rintro a w ⟨hf,hc⟩
   refine af _ _ ?_
   refine wp_ret ?_
   obtain rfl:=sj hF
   replace hc:=(hc.drop k2).drop k0
   exact lC (by simp) rfl Tryz.results21 hf hc (cW (vs:=[i6 B.N,i6 B.D]) aCa rfl rfl (bR (n:=2) m0 rfl)) ⟨rfl,(hc.drop k0)⟩

def nM (N:Nat) (B:List aG) (stage:Int) (D:Int):Option (fE × Int) :=
 Option.bind (pC N B stage D) fun r=>
 cond (r != 0)
 (some ((⟨0,0⟩:fE),r))
 (Option.bind (lV N B (W (stage - D))) fun H=>
 some (H,0))
theorem aA5 {N:Nat} {G:aU} {Lf:List Ent} {w:World} (B:List aG) (stage:Int) (H:Int) {J:Option Addr} {M:Nat} (I:Rd G 2 J M (B.map bF)) (hc:Ctx G (Lf) w) {O:fE × Int} (hF:nM N B stage H=some O):Calls Tryz.prog 10 #[.slice J B.length M,i6 stage,i6 H] w (fun e w=>e=.returned (.tuple #[.agg #[i6 O.1.N,i6 O.1.D],i6 O.2])∧Ctx G (Lf) w):=by
 unfold nM at hF
 refine bU Tryz.func10 rfl Tryz.ntmps10 rfl fun a hf=>zS fun K h=>zA hf hc aC7 rfl fun U a w hf hc=>sp 1 hf rfl fun a hf=>zT h ?_
 refine wp_seq_k fun K2 h2=>zS fun K h=>sp 3 hf rfl fun a hf=>?_
 obtain ⟨r,hr,hF⟩:=aA hF
 refine zQ (v:=i6 r) hf hc en_20 rfl (fun w hc=>aCi B stage H I hc hr) fun a w hf hc=>sp 1 hf rfl fun a hf=>zT h ?_
 refine zS fun K h=>sp 2 hf rfl fun a hf=>zT h ?_
 refine zI hf rfl hF ?_ ?_ <;> clear hF <;> intro hF
 ·refine zS fun K h=>zP hf rfl (bL (cells:=[i6 0,i6 0]) aHq rfl rfl) fun a hf=>sp 1 hf rfl fun a hf=>zW hf hc xH u0 rfl fun w hc=>sp 1 hf rfl fun a hf=>zT h ?_
  refine wp_ret ?_
  refine aQ ?_
  obtain rfl:=sj hF
  exact qX (by simp) rfl Tryz.results10 hf hc (cW (vs:=[i6 0,i6 0]) aCa rfl rfl (bR (n:=2) m0 rfl)) (show eZ _ 7=_ from rfl) ⟨rfl,(hc.drop k0)⟩
 ·refine wp_skip ?_
  refine h2 _ _ ?_
  refine zS fun K h=>sp 4 hf rfl fun a hf=>?_
  obtain ⟨R,S,hF⟩:=aA hF
  refine zQ (v:=.agg #[i6 R.N,i6 R.D]) hf hc aMe rfl (fun w hc=>vB B (W (stage - H)) I hc S) fun a w hf hc=>zW hf hc xH u0 rfl fun w hc=>sp 1 hf rfl fun a hf=>zT h ?_
  refine wp_ret ?_
  obtain rfl:=sj hF
  exact qX (by simp) rfl Tryz.results10 hf hc (cW (vs:=[i6 R.N,i6 R.D]) aCa rfl rfl (bR (n:=2) m0 rfl)) (show eZ _ 7=_ from rfl) ⟨rfl,(hc.drop k0)⟩

def eW (g:aJ):Bool :=
 ((((bD g.Day 0 40000) && (bK g.Stage)) && (bD g.Flow.Lo 0 g.Flow.Hi)) && (jB g.Flow.Hi))
theorem zJ {G:aU} {Lf:List Ent} {w:World} (g:aJ)   (hc:Ctx G (Lf) w) {D:Bool} (hF:eW g=D):Calls Tryz.prog 91 #[.agg #[i6 g.Day,i6 g.Stage,i6 g.Flow.Lo,i6 g.Flow.Hi]] w (fun e w=>e=.returned (.bool D)∧Ctx G (Lf) w):=by
 unfold eW at hF
 refine bU Tryz.func91 rfl Tryz.ntmps91 rfl fun a hf=>zS fun K h=>zB hf hc rfl fun B a w hf hc=>sp 1 hf rfl fun a hf=>zT h ?_
 refine zS fun K h=>zP hf rfl (pFA aD1 rfl) fun a hf=>zL hf hc aY m0 rfl fun a w hf hc=>zQ (v:=.bool (bD g.Day 0 40000)) hf hc vH rfl (fun w hc=>hU g.Day 0 40000 hc rfl) fun a w hf hc=>sp 1 hf rfl fun a hf=>gQ 4 (fun a=>Has 26 a [(1,pq B),(2,.bool false),(3,pq B),(4,i6 g.Day),(5,.bool (bD g.Day 0 40000)),(6,.bool (bD g.Day 0 40000)),(10,.bool ((bD g.Day 0 40000) && (bK g.Stage)))]) hc ?_ ?_
 ·cases hb:(bD g.Day 0 40000)
  ·rw [hb] at hf
   refine stS hf rfl rfl rfl fun a hf=>stS hf rfl rfl rfl fun a hf=>stS hf rfl rfl rfl fun a hf=>sp 1 hf rfl fun a hf=>aS ⟨hf.kp rfl,hc⟩
  ·rw [hb] at hf
   refine zP hf rfl (pFA aHf rfl) fun a hf=>zL hf hc aY m0 rfl fun a w hf hc=>zQ (v:=.bool (bK g.Stage)) hf hc aKi rfl (fun w hc=>rF g.Stage hc rfl) fun a w hf hc=>sp 1 hf rfl fun a hf=>aS ⟨hf.kp rfl,hc⟩
 intro a w ⟨hf,hc⟩
 refine sp 1 hf rfl fun a hf=>gQ 8 (fun a=>Has 26 a [(1,pq B),(2,.bool false),(3,pq B),(4,i6 g.Day),(5,.bool (bD g.Day 0 40000)),(6,.bool (bD g.Day 0 40000)),(10,.bool ((bD g.Day 0 40000) && (bK g.Stage))),(11,.bool ((bD g.Day 0 40000) && (bK g.Stage))),(19,.bool (((bD g.Day 0 40000) && (bK g.Stage)) && (bD g.Flow.Lo 0 g.Flow.Hi)))]) hc ?_ ?_
 ·cases hb:((bD g.Day 0 40000) && (bK g.Stage))
  ·rw [hb] at hf
   refine stS hf rfl rfl rfl fun a hf=>stS hf rfl rfl rfl fun a hf=>stS hf rfl rfl rfl fun a hf=>stS hf rfl rfl rfl fun a hf=>stS hf rfl rfl rfl fun a hf=>stS hf rfl rfl rfl fun a hf=>stS hf rfl rfl rfl fun a hf=>sp 1 hf rfl fun a hf=>aS ⟨hf.kp rfl,hc⟩
  ·rw [hb] at hf
   refine zP hf rfl (pFA xL rfl) fun a hf=>zP hf rfl (pFA fY rfl) fun a hf=>zL hf hc aY m0 rfl fun a w hf hc=>zP hf rfl (pFA xL rfl) fun a hf=>zP hf rfl (pFA fD rfl) fun a hf=>zL hf hc aY m0 rfl fun a w hf hc=>zQ (v:=.bool (bD g.Flow.Lo 0 g.Flow.Hi)) hf hc vH rfl (fun w hc=>hU g.Flow.Lo 0 g.Flow.Hi hc rfl) fun a w hf hc=>sp 1 hf rfl fun a hf=>aS ⟨hf.kp rfl,hc⟩
 intro a w ⟨hf,hc⟩
 refine sp 1 hf rfl fun a hf=>gQ 5 (fun a=>Has 26 a [(1,pq B),(2,.bool false),(3,pq B),(4,i6 g.Day),(5,.bool (bD g.Day 0 40000)),(6,.bool (bD g.Day 0 40000)),(10,.bool ((bD g.Day 0 40000) && (bK g.Stage))),(11,.bool ((bD g.Day 0 40000) && (bK g.Stage))),(19,.bool (((bD g.Day 0 40000) && (bK g.Stage)) && (bD g.Flow.Lo 0 g.Flow.Hi))),(20,.bool (((bD g.Day 0 40000) && (bK g.Stage)) && (bD g.Flow.Lo 0 g.Flow.Hi))),(25,.bool ((((bD g.Day 0 40000) && (bK g.Stage)) && (bD g.Flow.Lo 0 g.Flow.Hi)) && (jB g.Flow.Hi)))]) hc ?_ ?_
 ·cases hb:(((bD g.Day 0 40000) && (bK g.Stage)) && (bD g.Flow.Lo 0 g.Flow.Hi))
  ·rw [hb] at hf
   refine stS hf rfl rfl rfl fun a hf=>stS hf rfl rfl rfl fun a hf=>stS hf rfl rfl rfl fun a hf=>stS hf rfl rfl rfl fun a hf=>sp 1 hf rfl fun a hf=>aS ⟨hf.kp rfl,hc⟩
  ·rw [hb] at hf
   refine zP hf rfl (pFA xL rfl) fun a hf=>zP hf rfl (pFA fD rfl) fun a hf=>zL hf hc aY m0 rfl fun a w hf hc=>zQ (v:=.bool (jB g.Flow.Hi)) hf hc aMt rfl (fun w hc=>wK g.Flow.Hi hc rfl) fun a w hf hc=>sp 1 hf rfl fun a hf=>aS ⟨hf.kp rfl,hc⟩
 intro a w ⟨hf,hc⟩
 refine sp 1 hf rfl fun a hf=>zT h ?_
 refine wp_ret ?_
 obtain rfl:=hF
 replace hc:=hc.drop k0
 exact zO1 Tryz.results91 hf rfl ⟨rfl,hc⟩

def eN (x:aJ):Bool :=
 (!(eW (⟨x.Day,x.Stage,x.Flow⟩:aJ)))
theorem oO {G:aU} {Lf:List Ent} {w:World} (x:aJ) {b_:Nat}  (hc:Ctx G (.box b_ [.func (.func 91) #[] #[]] 186::Lf) w) {B:Bool} (hF:eN x=B):Calls Tryz.prog 120 #[.agg #[i6 x.Day,i6 x.Stage,i6 x.Flow.Lo,i6 x.Flow.Hi],pq b_] w (fun e w=>e=.returned (.bool B)∧Ctx G (.box b_ [.func (.func 91) #[] #[]] 186::Lf) w):=by
 unfold eN at hF
 refine bU Tryz.func120 rfl Tryz.ntmps120 rfl fun a hf=>zS fun K h=>zB hf hc rfl fun D a w hf hc=>sp 1 hf rfl fun a hf=>zT h ?_
 refine zS fun K h=>zL hf hc aO7 m1 rfl fun a w hf hc=>zN hf hc aE4 m0 rfl fun a w hf hc=>zQ (v:=.bool (eW (⟨x.Day,x.Stage,x.Flow⟩:aJ))) hf hc en_91 rfl (fun w hc=>zJ (⟨x.Day,x.Stage,x.Flow⟩:aJ) hc rfl) fun a w hf hc=>sp 2 hf rfl fun a hf=>zT h ?_
 refine wp_ret ?_
 obtain rfl:=hF
 replace hc:=hc.drop k0
 exact zO1 Tryz.results120 hf rfl ⟨rfl,hc⟩

def fB (N:Nat) (s_:List aJ) (x:Int):Option (cP (Int) (Int)) :=
 cond (decide (x < ((s_.length:Nat):Int)))
 (Option.bind (bQ s_ x) fun B=>
 cond (eN B)
 (some (.ret x))
 (some (.cont (W (x + 1)))))
 (some (.brk x))
def cF (N:Nat) (s_:List aJ):Option (Int) :=
 Option.bind (bC (fun s4=>fB N s_ s4) N 0) fun x4=>
 exK x4 (fun s4=>some (-1)) some
theorem jP {N:Nat} {G:aU} {Lf:List Ent} {w:World} (s_:List aJ) {H:Option Addr} {I:Nat} {b_:Nat} (O:Rd G 4 H I (s_.map bB)) (hc:Ctx G (.box b_ [.func (.func 91) #[] #[]] 186::Lf) w) {J:Int} (hF:cF N s_=some J):Calls Tryz.prog 135 #[.slice H s_.length I,.func (.func 120) #[] #[pq b_]] w (fun e w=>e=.returned (i6 J)∧Ctx G (.box b_ [.func (.func 91) #[] #[]] 186::Lf) w):=by
 unfold cF at hF
 refine bU Tryz.func135 rfl Tryz.ntmps135 rfl fun a hf=>zS fun K h=>sp 1 hf rfl fun a hf=>zT h ?_
 refine wp_seq_k fun K2 h2=>zS fun K h=>sp 1 hf rfl fun a hf=>zP hf rfl (cR Tryz.underlying42 rfl) fun a hf=>sp 1 hf rfl fun a hf=>zT h ?_
 refine wp_block ?_
 obtain ⟨x4,U,hF⟩:=aA hF
 let S4:Int→Act→World→Prop:=(fun (zz:Int) a w=>Has 19 a [(0,.slice H s_.length I),(1,.func (.func 120) #[] #[pq b_]),(7,i6 ((s_.length:Nat):Int)),(8,i6 zz)]∧Ctx G (.box b_ [.func (.func 91) #[] #[]] 186::Lf) w)
 have X:∀ (zz:Int) a w,x4=.go zz→S4 zz a w→K2 a w:=by
  rintro x a w rfl ⟨hf,hc⟩
  replace hF:=cI hF
  refine h2 _ _ ?_
  refine zS fun K h=>sp 1 hf rfl fun a hf=>zT h ?_
  refine wp_ret ?_
  obtain rfl:=sj hF
  exact zO1 Tryz.results135 hf rfl ⟨rfl,hc⟩
 have V:∀ r,x4=.out r→r=J:=by
  rintro r rfl
  exact sj hF
 refine eR N (eO (S:=S4) (x:=x4) ?_ N 0 _ _ ⟨hf.kp rfl,hc⟩ U)
 clear hF hf hc
 rintro x Z a w KB4 ⟨hf,hc⟩ hF B R
 unfold fB at hF
 refine zS fun K h=>sp 1 hf rfl fun a hf=>zT h ?_
 refine wp_seq_k fun K7 h7=>zI hf rfl hF ?_ ?_ <;> clear hF <;> intro hF
 ·refine wp_skip ?_
  refine h7 _ _ ?_
  refine wp_seq_k fun K8 h8=>wp_block ?_
  refine zS fun K h=>sp 2 hf rfl fun a hf=>zT h ?_
  refine zS fun K h=>sp 3 hf rfl fun a hf=>?_
  obtain ⟨D,M,hF⟩:=aA hF
  obtain ⟨Y,o,qa,qp⟩:=O.atm M
  refine zP hf rfl (pIA Tryz.underlying42 aC5 rfl rfl qa) fun a hf=>zE hf hc rfl (jE (vs:=[i6 D.Day,i6 D.Stage,i6 D.Flow.Lo,i6 D.Flow.Hi]) aE4 rfl rfl (dS qp (n:=4) (o':=0) rfl)) fun a w hf hc=>zQ (v:=.bool (eN D)) hf hc aN8 rfl (fun w hc=>(oO D (hc.pick k0) rfl).mono fun e w h=>⟨h.1,(h.2.unpick k0)⟩) fun a w hf hc=>zT h ?_
  refine zI hf rfl hF ?_ ?_ <;> clear hF <;> intro hF
  ·refine zS fun K h=>sp 2 hf rfl fun a hf=>zT h ?_
   refine wp_ret ?_
   refine bT ?_
   refine aQ ?_
   refine aQ ?_
   have he:=sj hF
   rw [← he] at B
   replace hF:=V _ B
   refine bT ?_
   refine aQ ?_
   obtain rfl:=hF
   exact zO1 Tryz.results135 hf rfl ⟨rfl,hc⟩
  ·refine wp_skip ?_
   refine h8 _ _ ?_
   refine eB ?_
   refine sp 2 hf rfl fun a hf=>aS ?_
   exact R (W (x + 1)) _ _ (sj hF).symm ⟨hf.kp rfl,hc⟩
 ·refine wp_exit ?_
  refine bI ?_
  refine bI ?_
  have he:=sj hF
  rw [← he] at B
  refine fZ ?_
  exact X _ _ _ B ⟨hf.kp rfl,hc⟩

def cC (N:Nat) (s_:List aJ):Option (Bool) :=
 Option.bind (cF N s_) fun r=>
 some (decide (0≤r))
theorem iX {N:Nat} {G:aU} {Lf:List Ent} {w:World} (s_:List aJ) {B:Option Addr} {D:Nat} {b_:Nat} (I:Rd G 4 B D (s_.map bB)) (hc:Ctx G (.box b_ [.func (.func 91) #[] #[]] 186::Lf) w) {H:Bool} (hF:cC N s_=some H):Calls Tryz.prog 119 #[.slice B s_.length D,.func (.func 120) #[] #[pq b_]] w (fun e w=>e=.returned (.bool H)∧Ctx G (.box b_ [.func (.func 91) #[] #[]] 186::Lf) w):=by
 unfold cC at hF
 refine bU Tryz.func119 rfl Tryz.ntmps119 rfl fun a hf=>zS fun K h=>sp 1 hf rfl fun a hf=>zT h ?_
 refine zS fun K h=>sp 2 hf rfl fun a hf=>?_
 obtain ⟨r,hr,hF⟩:=aA hF
 refine zQ (v:=i6 r) hf hc aNr rfl (fun w hc=>(jP s_ I (hc.pick k0) hr).mono fun e w h=>⟨h.1,(h.2.unpick k0)⟩) fun a w hf hc=>sp 2 hf rfl fun a hf=>zT h ?_
 refine wp_ret ?_
 obtain rfl:=sj hF
 exact zO1 Tryz.results119 hf rfl ⟨rfl,hc⟩

def fA (N:Nat) (l:List aJ):Option (Bool) :=
 Option.bind (cC N l) fun r=>
 some (!r)
theorem qC {N:Nat} {G:aU} {Lf:List Ent} {w:World} (l:List aJ) {H:Option Addr} {D:Nat} (I:Rd G 4 H D (l.map bB)) (hc:Ctx G (Lf) w) {B:Bool} (hF:fA N l=some B):Calls Tryz.prog 90 #[.slice H l.length D,.func (.func 91) #[] #[]] w (fun e w=>e=.returned (.bool B)∧Ctx G (Lf) w):=by
 unfold fA at hF
 refine bU Tryz.func90 rfl Tryz.ntmps90 rfl fun a hf=>zS fun K h=>zB hf hc rfl fun J a w hf hc=>sp 1 hf rfl fun a hf=>zT h ?_
 refine zS fun K h=>sp 1 hf rfl fun a hf=>zP hf rfl (pMF (us:=[pq J]) rfl rfl) fun a hf=>?_
 obtain ⟨r,hr,hF⟩:=aA hF
 refine zQ (v:=.bool r) hf hc aNh rfl (fun w hc=>(iX l I (hc.pick k0) hr).mono fun e w h=>⟨h.1,(h.2.unpick k0)⟩) fun a w hf hc=>sp 2 hf rfl fun a hf=>zT h ?_
 refine wp_ret ?_
 obtain rfl:=sj hF
 replace hc:=hc.drop k0
 exact zO1 Tryz.results90 hf rfl ⟨rfl,hc⟩

def iJ (N:Nat) (r:aR) (x:Int):Option (cP (Int) (Int)) :=
 cond (decide (x < ((r.Gaugings.length:Nat):Int)))
 (Option.bind (bQ r.Gaugings x) fun H=>
 Option.bind (cond (decide (0 < x)) (Option.bind (bQ r.Gaugings (W (x - 1))) fun D=>
 some (decide (H.Day≤D.Day))) (some false)) fun B=>
 cond B
 (some (.ret 9))
 (some (.cont (W (x + 1)))))
 (some (.brk x))
def pF (N:Nat) (r:aR):Option (Int) :=
 Option.bind (nR N r.Rating) fun B=>
 cond ((B == 3) || (!(bD ((r.Gaugings.length:Nat):Int) 1 30)))
 (some 3)
 (cond (B != 0)
 (some B)
 (Option.bind (fA N r.Gaugings) fun J=>
 cond (!J)
 (some 60)
 (Option.bind (nO N r.Rating) fun I=>
 cond (!I)
 (some 9)
 (Option.bind (bC (fun D=>iJ N r D) N 0) fun H=>
 exK H (fun D=>some 0) some))))
theorem aA8 {N:Nat} {G:aU} {Lf:List Ent} {w:World} (r:aR) {J:Option Addr} {I:Nat} {B:Option Addr} {D:Nat} (O:Rd G 2 J I (r.Rating.map bF)) (H:Rd G 4 B D (r.Gaugings.map bB)) (hc:Ctx G (Lf) w) {Y:Int} (hF:pF N r=some Y):Calls Tryz.prog 53 #[.agg #[.slice J r.Rating.length I,.slice B r.Gaugings.length D]] w (fun e w=>e=.returned (i6 Y)∧Ctx G (Lf) w):=by
 unfold pF at hF
 refine bU Tryz.func53 rfl Tryz.ntmps53 rfl fun a hf=>zS fun K h=>zB hf hc rfl fun V a w hf hc=>sp 1 hf rfl fun a hf=>zT h ?_
 refine zS fun K h=>zP hf rfl (pFA aAw rfl) fun a hf=>zL hf hc aId m0 rfl fun a w hf hc=>?_
 obtain ⟨R,k,hF⟩:=aA hF
 refine zQ (v:=i6 R) hf hc aMp rfl (fun w hc=>vN r.Rating O hc k) fun a w hf hc=>sp 1 hf rfl fun a hf=>zT h ?_
 refine wp_seq_k fun K3 h3=>wp_block ?_
 refine zS fun K h=>sp 3 hf rfl fun a hf=>gQ 6 (fun a=>Has 56 a [(1,pq V),(3,i6 R),(10,i6 R),(11,.bool (R == 3)),(12,.bool (R == 3)),(18,.bool ((R == 3) || (!(bD ((r.Gaugings.length:Nat):Int) 1 30))))]) hc ?_ ?_
 ·cases hb:(R == 3)
  ·rw [hb] at hf
   refine zP hf rfl (pFA oU rfl) fun a hf=>zL hf hc yA m0 rfl fun a w hf hc=>zP hf rfl (cR Tryz.underlying42 rfl) fun a hf=>zQ (v:=.bool (bD ((r.Gaugings.length:Nat):Int) 1 30)) hf hc vH rfl (fun w hc=>hU ((r.Gaugings.length:Nat):Int) 1 30 hc rfl) fun a w hf hc=>sp 2 hf rfl fun a hf=>aS ⟨hf.kp rfl,hc⟩
  ·rw [hb] at hf
   refine stS hf rfl rfl rfl fun a hf=>stS hf rfl rfl rfl fun a hf=>stS hf rfl rfl rfl fun a hf=>stS hf rfl rfl rfl fun a hf=>stS hf rfl rfl rfl fun a hf=>sp 1 hf rfl fun a hf=>aS ⟨hf.kp rfl,hc⟩
 intro a w ⟨hf,hc⟩
 refine sp 1 hf rfl fun a hf=>zT h ?_
 refine zI hf rfl hF ?_ ?_ <;> clear hF <;> intro hF
 ·refine zS fun K h=>sp 1 hf rfl fun a hf=>zT h ?_
  refine wp_ret ?_
  refine bT ?_
  refine aQ ?_
  obtain rfl:=sj hF
  replace hc:=hc.drop k0
  exact zO1 Tryz.results53 hf rfl ⟨rfl,hc⟩
 ·refine zS fun K h=>sp 3 hf rfl fun a hf=>zT h ?_
  refine zI hf rfl hF ?_ ?_ <;> clear hF <;> intro hF
  ·refine zS fun K h=>sp 2 hf rfl fun a hf=>zT h ?_
   refine wp_ret ?_
   refine bT ?_
   refine aQ ?_
   obtain rfl:=sj hF
   replace hc:=hc.drop k0
   exact zO1 Tryz.results53 hf rfl ⟨rfl,hc⟩
  ·refine zS fun K h=>zP hf rfl (pFA oU rfl) fun a hf=>zL hf hc yA m0 rfl fun a w hf hc=>?_
   obtain ⟨y,t,hF⟩:=aA hF
   refine zQ (v:=.bool y) hf hc en_90 rfl (fun w hc=>qC r.Gaugings H hc t) fun a w hf hc=>sp 2 hf rfl fun a hf=>zT h ?_
   refine zI hf rfl hF ?_ ?_ <;> clear hF <;> intro hF
   ·refine zS fun K h=>sp 1 hf rfl fun a hf=>zT h ?_
    refine wp_ret ?_
    refine bT ?_
    refine aQ ?_
    obtain rfl:=sj hF
    replace hc:=hc.drop k0
    exact zO1 Tryz.results53 hf rfl ⟨rfl,hc⟩
   ·refine zS fun K h=>zP hf rfl (pFA aAw rfl) fun a hf=>zL hf hc aId m0 rfl fun a w hf hc=>?_
    obtain ⟨ag,g,hF⟩:=aA hF
    refine zQ (v:=.bool ag) hf hc aMa rfl (fun w hc=>vJ r.Rating O hc g) fun a w hf hc=>sp 2 hf rfl fun a hf=>zT h ?_
    refine zI hf rfl hF ?_ ?_ <;> clear hF <;> intro hF
    ·refine zS fun K h=>sp 1 hf rfl fun a hf=>zT h ?_
     refine wp_ret ?_
     refine bT ?_
     refine aQ ?_
     obtain rfl:=sj hF
     replace hc:=hc.drop k0
     exact zO1 Tryz.results53 hf rfl ⟨rfl,hc⟩
    ·refine wp_skip ?_
     refine h3 _ _ ?_
     refine wp_seq_k fun K12 ac=>zS fun K h=>zP hf rfl (pFA oU rfl) fun a hf=>zL hf hc yA m0 rfl fun a w hf hc=>zP hf rfl (cR Tryz.underlying42 rfl) fun a hf=>sp 1 hf rfl fun a hf=>zT h ?_
     refine wp_block ?_
     obtain ⟨Z,m,hF⟩:=aA hF
     let S14:Int→Act→World→Prop:=(fun (zz:Int) a w=>Has 56 a [(1,pq V),(34,.slice B r.Gaugings.length D),(35,i6 ((r.Gaugings.length:Nat):Int)),(36,i6 zz)]∧Ctx G (.box V [.slice J r.Rating.length I,.slice B r.Gaugings.length D] 44::Lf) w)
     have u:∀ (zz:Int) a w,Z=.go zz→S14 zz a w→K12 a w:=by
      rintro x a w rfl ⟨hf,hc⟩
      replace hF:=cI hF
      refine ac _ _ ?_
      refine zS fun K h=>sp 1 hf rfl fun a hf=>zT h ?_
      refine wp_ret ?_
      obtain rfl:=sj hF
      replace hc:=hc.drop k0
      exact zO1 Tryz.results53 hf rfl ⟨rfl,hc⟩
     have s:∀ r,Z=.out r→r=Y:=by
      rintro r rfl
      exact sj hF
     refine eR N (eO (S:=S14) (x:=Z) ?_ N 0 _ _ ⟨hf.kp rfl,hc⟩ m)
     clear hF hf hc
     rintro x ai a w KB14 ⟨hf,hc⟩ hF M p
     unfold iJ at hF
     refine zS fun K h=>sp 1 hf rfl fun a hf=>zT h ?_
     refine wp_seq_k fun K17 ab=>zI hf rfl hF ?_ ?_ <;> clear hF <;> intro hF
     ·refine wp_skip ?_
      refine ab _ _ ?_
      refine wp_seq_k fun K18 ad=>wp_block ?_
      refine zS fun K h=>sp 1 hf rfl fun a hf=>?_
      obtain ⟨U,q,hF⟩:=aA hF
      obtain ⟨aj,o,qa,qp⟩:=H.atm q
      refine zP hf rfl (pIA Tryz.underlying42 aC5 rfl rfl qa) fun a hf=>zE hf hc rfl (jE (vs:=[i6 U.Day,i6 U.Stage,i6 U.Flow.Lo,i6 U.Flow.Hi]) aE4 rfl rfl (dS qp (n:=4) (o':=0) rfl)) fun a w hf hc=>zA hf hc aMn rfl fun af a w hf hc=>sp 1 hf rfl fun a hf=>zW hf hc aC5 u0 rfl fun w hc=>zT h ?_
      refine wp_seq_k fun K20 aa=>?_
      obtain ⟨z,X,hF⟩:=aA hF
      refine cQ hc aW (by kernel_rfl) ?_
      refine qE hf rfl rfl rfl (Pu.ev (pM rfl)) fun a hf=>qE hf rfl rfl rfl (Pu.ev (pGt rfl rfl)) fun a hf=>qE hf rfl rfl rfl (Pu.ev (pM rfl)) fun a hf=>qCut 11 (fun a=>Has 56 a [(1,pq V),(34,.slice B r.Gaugings.length D),(35,i6 ((r.Gaugings.length:Nat):Int)),(36,i6 x),(5,pq af),(4,i6 x),(41,i6 x),(42,.bool (decide (0 < x))),(43,.bool (decide (0 < x))),(54,.bool z)]) ?_ ?_
      ·cases hb:(decide (0 < x))
       ·rw [hb] at hf
        have hF:=mR hb X
        obtain rfl:=sj hF
        refine qS hf rfl rfl rfl fun a hf=>qS hf rfl rfl rfl fun a hf=>qS hf rfl rfl rfl fun a hf=>qS hf rfl rfl rfl fun a hf=>qS hf rfl rfl rfl fun a hf=>qS hf rfl rfl rfl fun a hf=>qS hf rfl rfl rfl fun a hf=>qS hf rfl rfl rfl fun a hf=>qS hf rfl rfl rfl fun a hf=>qS hf rfl rfl rfl fun a hf=>qE hf rfl rfl rfl (Pu.ev (pPf rfl rfl)) fun a hf=>aJd (hf.kp rfl)
       ·rw [hb] at hf
        have hF:=mN hb X
        obtain ⟨an,b,hF⟩:=aA hF
        obtain ⟨ak,am,i,d⟩:=H.atm b
        refine qE hf rfl rfl rfl (Pu.ev (pFA aD1 rfl)) fun a hf=>qE hf rfl rfl rfl (cN aY rfl (bO m0 rfl)) fun a hf=>qE hf rfl rfl rfl (Pu.ev (pFA oU rfl)) fun a hf=>qE hf rfl rfl rfl (cN yA rfl (bO m1 rfl)) fun a hf=>qE hf rfl rfl rfl (Pu.ev (pM rfl)) fun a hf=>qE hf rfl rfl rfl (Pu.ev (aEq rfl rfl)) fun a hf=>qE hf rfl rfl rfl (Pu.ev (pIA Tryz.underlying42 aC5 rfl rfl i)) fun a hf=>qE hf rfl rfl rfl (Pu.ev (pFA aD1 rfl)) fun a hf=>qE hf rfl rfl rfl (cN aY rfl (gO (j:=0) d rfl)) fun a hf=>qE hf rfl rfl rfl (Pu.ev (pLe rfl rfl)) fun a hf=>qE hf rfl rfl rfl (Pu.ev (pPt rfl rfl)) fun a hf=>?_
        obtain rfl:=sj hF
        exact aJd (hf.kp rfl)
      intro a hf
      intro w hc
      refine aa _ _ ?_
      refine zI hf rfl hF ?_ ?_ <;> clear hF <;> intro hF
      ·refine zS fun K h=>sp 1 hf rfl fun a hf=>zT h ?_
       refine wp_ret ?_
       refine bT ?_
       refine aQ ?_
       refine aQ ?_
       have he:=sj hF
       rw [← he] at M
       replace hF:=s _ M
       refine bT ?_
       refine aQ ?_
       obtain rfl:=hF
       replace hc:=(hc.drop k1).drop k0
       exact zO1 Tryz.results53 hf rfl ⟨rfl,hc⟩
      ·refine wp_skip ?_
       refine ad _ _ ?_
       refine eB ?_
       refine sp 2 hf rfl fun a hf=>aS ?_
       replace hc:=hc.drop k0
       exact p (W (x + 1)) _ _ (sj hF).symm ⟨hf.kp rfl,hc⟩
     ·refine wp_exit ?_
      refine bI ?_
      refine bI ?_
      have he:=sj hF
      rw [← he] at M
      refine fZ ?_
      exact u _ _ _ M ⟨hf.kp rfl,hc⟩

def xZ  : Unit :=
 ()
theorem mY {G:aU} {Lf:List Ent} {w:World}    (hc:Ctx G (Lf) w) {B:Unit} (hF:xZ=B):Calls Tryz.prog 27 #[] w (fun e w=>e=.returned (.func (.func 60) #[] #[])∧Ctx G (Lf) w):=by
 unfold xZ at hF
 refine bU Tryz.func27 rfl Tryz.ntmps27 rfl fun a hf=>zS fun K h=>sp 1 hf rfl fun a hf=>zT h ?_
 refine zS fun K h=>sp 1 hf rfl fun a hf=>zT h ?_
 refine wp_ret ?_
 obtain rfl:=hF
 exact zO1 Tryz.results27 hf rfl ⟨rfl,hc⟩

def dN (N:Nat) {σ:Type} (y:σ→(Int × Int)→Option (σ × Bool)) (x:Int) (sg:σ):Option (cP (Int × σ) (σ)) :=
 cond (decide (x < 601))
 (Option.bind (y sg (x,W (x - 300))) fun ry=>
 cond (!ry.2)
 (some (.ret ry.1))
 (some (.cont (W (x + 1),ry.1))))
 (some (.brk (x,sg)))
def eA (N:Nat) {σ:Type} (y:σ→(Int × Int)→Option (σ × Bool)) (B:σ):Option (σ) :=
 Option.bind (bC (fun s3=>dN N y s3.1 s3.2) N (0,B)) fun x3=>
 exK x3 (fun s3=>some s3.2) some
theorem lM {N:Nat} {G:aU} {Lf:List Ent} {w:World} {σ:Type}    (J:σ→List Ent→Prop) (y:σ→(Int × Int)→Option (σ × Bool)) {l:Nat} (hy:oI Tryz.prog G l (fun x:(Int × Int)=>[i6 x.1,i6 x.2]) J y) (I:σ) {Ls0:List Ent} (M:J I Ls0) (hc:Ctx G ((Ls0++Lf)) w) {H:σ} (hF:eA N  y I=some H):Calls Tryz.prog 60 #[.func (.yield l) #[] #[]] w (fun e w=>(∃ v,e=.returned v)∧∃ L,J H L∧Ctx G ((L++Lf)) w):=by
 unfold eA at hF
 refine bU Tryz.func60 rfl Tryz.ntmps60 rfl fun a hf=>zS fun K h=>sp 1 hf rfl fun a hf=>zT h ?_
 refine lH fun K2 h2=>wp_block ?_
 obtain ⟨x3,U,hF⟩:=aA hF
 let S3:(Int × σ)→Act→World→Prop:=(fun (zz:Int × σ) a w=>∃ (Ls:List Ent),J zz.2 Ls∧Has 13 a [(0,.func (.yield l) #[] #[]),(3,i6 zz.1)]∧Ctx G ((Ls++Lf)) w)
 have R:∀ (zz:Int × σ) a w,x3=.go zz→S3 zz a w→K2 a w:=by
  rintro ⟨x,sg⟩ a w rfl ⟨Ls,hJ,hf,hc⟩
  replace hF:=cI hF
  refine h2 _ _ ?_
  obtain rfl:=sj hF
  exact rG (by simp) rfl Tryz.results60 hf ⟨⟨_,rfl⟩,Ls,hJ,hc⟩
 have V:∀ r,x3=.out r→r=H:=by
  rintro r rfl
  exact sj hF
 refine eR N (eO (S:=S3) (x:=x3) ?_ N (0,I) _ _ ⟨Ls0,M,hf.kp rfl,hc⟩ U)
 clear hF hf hc
 rintro ⟨x,sg⟩ Y a w KB3 ⟨Ls,hJ,hf,hc⟩ hF B O
 unfold dN at hF
 refine zS fun K h=>sp 1 hf rfl fun a hf=>zT h ?_
 refine wp_seq_k fun K5 h5=>zI hf rfl hF ?_ ?_ <;> clear hF <;> intro hF
 ·refine wp_skip ?_
  refine h5 _ _ ?_
  refine wp_seq_k fun K6 h6=>wp_block ?_
  refine zS fun K h=>sp 2 hf rfl fun a hf=>zT h ?_
  refine wp_seq_k fun K8 h8=>?_
  obtain ⟨ry,X,hF⟩:=aA hF
  refine yReg 4 (fun a w=>Has 13 a [(0,.func (.yield l) #[] #[]),(3,i6 x),(2,i6 x),(6,.func (.yield l) #[] #[]),(7,i6 x),(8,i6 x),(9,i6 (W (x - 300)))]∧Ctx G ((Ls++Lf)) w) (fun _ _ h=>by obtain ⟨⟨_,h⟩,_⟩:=h; cases h) ?_ ?_
  ·refine sp 4 hf rfl fun a hf=>aS ⟨hf.kp rfl,hc⟩
  rintro a w ⟨hf,hc⟩
  refine stY (own:=[]) (v:=(x,W (x - 300))) hy hJ X hf hc rfl rfl rfl rfl rfl rfl fun a w Ls_1 D hf hc=>?_
  replace hc:Ctx G ((Ls_1++Lf)) w:=hc
  refine aH2 (fun _ _ h=>by obtain ⟨⟨_,h⟩,_⟩:=h; cases h) ?_
  refine sp 1 hf rfl fun a hf=>aS ?_
  refine h8 _ _ ?_
  refine zI hf rfl hF ?_ ?_ <;> clear hF <;> intro hF
  ·refine wp_ret ?_
   refine bT ?_
   refine aQ ?_
   refine aQ ?_
   have he:=sj hF
   rw [← he] at B
   replace hF:=V _ B
   refine bT ?_
   refine aQ ?_
   obtain rfl:=hF
   exact rG (by simp) rfl Tryz.results60 hf ⟨⟨_,rfl⟩,Ls_1,D,hc⟩
  ·refine wp_skip ?_
   refine h6 _ _ ?_
   refine eB ?_
   refine sp 2 hf rfl fun a hf=>aS ?_
   exact O (W (x + 1),ry.1) _ _ (sj hF).symm ⟨Ls_1,D,hf.kp rfl,hc⟩
 ·refine wp_exit ?_
  refine bI ?_
  refine bI ?_
  have he:=sj hF
  rw [← he] at B
  refine fZ ?_
  exact R _ _ _ B ⟨Ls,hJ,hf.kp rfl,hc⟩

def kA (N:Nat) (w_:tT) (g:aJ) (B:Int):Option (Bool) :=
 Option.bind (lV N w_.Record.Rating (W (g.Stage - B))) fun r=>
 some ((decide ((W (g.Flow.Lo * r.D))≤r.N)) && (decide (r.N≤(W (g.Flow.Hi * r.D)))))
theorem vD {N:Nat} {G:aU} {Lf:List Ent} {w:World} (w_:tT) (g:aJ) (S:Int) {b_:Nat} {H:Option Addr} {B:Nat} {I:Option Addr} {J:Nat} {M:Option Addr} {O:Nat} (R:Rd G 2 H B (w_.Record.Rating.map bF)) (Y:Rd G 4 I J (w_.Record.Gaugings.map bB)) (i:Rd G 2 M O (w_.passes.map aH)) (hc:Ctx G (.box b_ [.slice H w_.Record.Rating.length B,.slice I w_.Record.Gaugings.length J,.slice M w_.passes.length O] 81::Lf) w) {j:Bool} (hF:kA N w_ g S=some j):Calls Tryz.prog 54 #[pq b_,.agg #[i6 g.Day,i6 g.Stage,i6 g.Flow.Lo,i6 g.Flow.Hi],i6 S] w (fun e w=>e=.returned (.bool j)∧Ctx G (.box b_ [.slice H w_.Record.Rating.length B,.slice I w_.Record.Gaugings.length J,.slice M w_.passes.length O] 81::Lf) w):=by
 unfold kA at hF
 refine bU Tryz.func54 rfl Tryz.ntmps54 rfl fun a hf=>zS fun K h=>zB hf hc rfl fun U a w hf hc=>sp 1 hf rfl fun a hf=>zT h ?_
 refine wp_seq_k fun K2 h2=>?_
 obtain ⟨r,hr,hF⟩:=aA hF
 replace hc:=hc.nilRow 0 0
 refine iE (fun θ=>[⟨none,none,0,pq b_⟩,⟨none,none,2,i6 S⟩,⟨none,none,4,pq U⟩,⟨some 0,none,8,pq b_⟩,⟨some 1,none,9,pq b_⟩,⟨some 2,none,10,pq b_⟩,⟨some 3,none,11,pq b_⟩,⟨some 4,none,12,.slice H w_.Record.Rating.length B⟩,⟨some 5,none,13,.pointer (some ⟨U,1,none⟩)⟩,⟨some 6,none,14,i6 g.Stage⟩,⟨some 7,none,15,i6 S⟩,⟨some 8,none,16,i6 (W (g.Stage - S))⟩,⟨some 9,none,17,.agg #[i6 r.N,i6 r.D]⟩,⟨some 10,none,7,.pointer (some ⟨(θ 80).b,0,none⟩)⟩]) (fun E θ=>(bif E 11 then .box (θ 80).b [i6 r.N,i6 r.D] 47 else bif E 10 then .box (θ 80).b [i6 0,i6 0] 47 else .row none 0 [] 0 0)::.box U [i6 g.Day,i6 g.Stage,i6 g.Flow.Lo,i6 g.Flow.Hi] 53::.box b_ [.slice H w_.Record.Rating.length B,.slice I w_.Record.Gaugings.length J,.slice M w_.passes.length O] 81::Lf) [(11,10)] (fun a w=>∃ (V:Nat),Has 38 a [(4,pq U),(7,pq V)]∧Ctx G (.box V [i6 r.N,i6 r.D] 47::.box U [i6 g.Day,i6 g.Stage,i6 g.Flow.Lo,i6 g.Flow.Hi] 53::.box b_ [.slice H w_.Record.Rating.length B,.slice I w_.Record.Gaugings.length J,.slice M w_.passes.length O] 81::Lf) w) aW (by kernel_rfl) (by kernel_rfl) (eV.of hf ⟨rfl,rfl,rfl,trivial,trivial,trivial,trivial,trivial,trivial,trivial,trivial,trivial,trivial,trivial,trivial⟩) hc ⟨?_,?_,?_,?_,?_,?_,?_,?_,?_,?_,?_,?_,trivial⟩ ?_ ?_
 ·intro E θ a w hD hi hp he hc
  have hf:=he.h0.mT he 0 rfl
  refine sp 1 hf rfl fun a hf=>zD θ he hi hf 3 rfl rfl rfl hc
 ·intro E θ a w hD hi hp he hc
  have e0:=hp.o 0 rfl
  have hf:=he.h0.mP he 3 rfl e0
  refine sp 1 hf rfl fun a hf=>zD θ he hi hf 4 rfl rfl rfl hc
 ·intro E θ a w hD hi hp he hc
  have e1:=hp.o 1 rfl
  have hf:=he.h0.mP he 4 rfl e1
  refine zP hf rfl (pFA aL1 rfl) fun a hf=>zD θ he hi hf 5 rfl rfl rfl hc
 ·intro E θ a w hD hi hp he hc
  have e2:=hp.o 2 rfl
  have hf:=he.h0.mP he 5 rfl e2
  refine zP hf rfl (pFA aAw rfl) fun a hf=>zD θ he hi hf 6 rfl rfl rfl hc
 ·intro E θ a w hD hi hp he hc
  have e3:=hp.o 3 rfl
  have hf:=he.h0.mP he 6 rfl e3
  refine zL hf hc aId m2 rfl fun a w hf hc=>zD θ he hi hf 7 rfl rfl rfl hc
 ·intro E θ a w hD hi hp he hc
  have hf:=he.h0.mT he 2 rfl
  refine zP hf rfl (pFA aHf rfl) fun a hf=>zD θ he hi hf 8 rfl rfl rfl hc
 ·intro E θ a w hD hi hp he hc
  have e5:=hp.o 5 rfl
  have hf:=he.h0.mP he 8 rfl e5
  refine zL hf hc aY m1 rfl fun a w hf hc=>zD θ he hi hf 9 rfl rfl rfl hc
 ·intro E θ a w hD hi hp he hc
  have hf:=he.h0.mT he 1 rfl
  refine sp 1 hf rfl fun a hf=>zD θ he hi hf 10 rfl rfl rfl hc
 ·intro E θ a w hD hi hp he hc
  have e6:=hp.o 6 rfl
  have e7:=hp.o 7 rfl
  have hf:=(he.h0.mP he 9 rfl e6).mP he 10 rfl e7
  refine sp 1 hf rfl fun a hf=>zD θ he hi hf 11 rfl rfl rfl hc
 ·intro E θ a w hD hi hp he hc
  have e4:=hp.o 4 rfl
  have e8:=hp.o 8 rfl
  have hf:=(he.h0.mP he 7 rfl e4).mP he 11 rfl e8
  refine zQ (v:=.agg #[i6 r.N,i6 r.D]) hf hc aMe rfl (fun w hc=>vB w_.Record.Rating (W (g.Stage - S)) R hc hr) fun a w hf hc=>zD θ he hi hf 12 rfl rfl rfl hc
 ·intro E θ a w hD hi hp he hc
  have Z:=hD.f 0 rfl hi
  try dsimp only at hc
  rw [hi,Z] at hc
  have hf:=he.h0
  refine zA hf hc aC7 rfl fun k a w hf hc=>aS ?_
  refine dA ?_
  intro ds u m
  replace hc:=hc.drop k1
  refine ⟨(sK θ 80 ⟨k,none,0,(fun _=>(none,0))⟩),he.put hi m hf rfl [] trivial ⟨qq,qq,qq,qq,qq,qq,qq,qq,qq,qq,qq,qq,qq,qq,trivial⟩,?_⟩
  try dsimp only
  rw [aX E 10,aV 10 Z rfl]
  exact hc
 ·intro E θ a w hD hi hp he hc
  have e9:=hp.o 9 rfl
  have X:=hp.o 10 rfl
  try dsimp only at hc
  rw [X,hi] at hc
  have hf:=(he.h0.mP he 12 rfl e9).mP he 13 rfl X
  refine zW hf hc xH u0 rfl fun w hc=>zG θ he hi hf rfl ?_
  try dsimp only
  rw [eL 11 X,aX E 11]
  exact hc
 ·intro E θ a w d he hc
  have hf:=he.h0
  have X:=d 10 rfl
  have Z:=d 11 rfl
  replace hf:=hf.more he 13 rfl (onP X)
  replace hf:=hf.more he 2 rfl (onT)
  try dsimp only at hc
  rw [X,Z] at hc
  exact ⟨(θ 80).b,hf.kp rfl,hc⟩
 rintro a w ⟨V,hf,hc⟩
 refine h2 _ _ ?_
 refine zS fun K h=>zP hf rfl (pFA aAt rfl) fun a hf=>zL hf hc aY m0 rfl fun a w hf hc=>zP hf rfl (pFA xL rfl) fun a hf=>zP hf rfl (pFA fY rfl) fun a hf=>zL hf hc aY m1 rfl fun a w hf hc=>zP hf rfl (pFA wA rfl) fun a hf=>zL hf hc aY m0 rfl fun a w hf hc=>sp 3 hf rfl fun a hf=>gQ 10 (fun a=>Has 38 a [(4,pq U),(7,pq V),(18,pq V),(19,i6 r.N),(20,.pointer (some ⟨U,2,none⟩)),(21,.pointer (some ⟨U,2,none⟩)),(22,i6 g.Flow.Lo),(23,.pointer (some ⟨V,1,none⟩)),(24,i6 r.D),(25,i6 (W (g.Flow.Lo * r.D))),(26,.bool (decide ((W (g.Flow.Lo * r.D))≤r.N))),(27,.bool (decide ((W (g.Flow.Lo * r.D))≤r.N))),(37,.bool ((decide ((W (g.Flow.Lo * r.D))≤r.N)) && (decide (r.N≤(W (g.Flow.Hi * r.D))))))]) hc ?_ ?_
 ·cases hb:(decide ((W (g.Flow.Lo * r.D))≤r.N))
  ·rw [hb] at hf
   refine stS hf rfl rfl rfl fun a hf=>stS hf rfl rfl rfl fun a hf=>stS hf rfl rfl rfl fun a hf=>stS hf rfl rfl rfl fun a hf=>stS hf rfl rfl rfl fun a hf=>stS hf rfl rfl rfl fun a hf=>stS hf rfl rfl rfl fun a hf=>stS hf rfl rfl rfl fun a hf=>stS hf rfl rfl rfl fun a hf=>sp 1 hf rfl fun a hf=>aS ⟨hf.kp rfl,hc⟩
  ·rw [hb] at hf
   refine zP hf rfl (pFA aAt rfl) fun a hf=>zL hf hc aY m0 rfl fun a w hf hc=>zP hf rfl (pFA xL rfl) fun a hf=>zP hf rfl (pFA fD rfl) fun a hf=>zL hf hc aY m1 rfl fun a w hf hc=>zP hf rfl (pFA wA rfl) fun a hf=>zL hf hc aY m0 rfl fun a w hf hc=>sp 3 hf rfl fun a hf=>aS ⟨hf.kp rfl,hc⟩
 intro a w ⟨hf,hc⟩
 refine sp 1 hf rfl fun a hf=>zT h ?_
 refine wp_ret ?_
 obtain rfl:=sj hF
 replace hc:=(hc.drop k1).drop k0
 exact zO1 Tryz.results54 hf rfl ⟨rfl,hc⟩

def mD (N:Nat) (B:Int) (D:Int):Option (Rs (Int × Int)) :=
 some (.go (D,B))
def fX (N:Nat) (r:aR) (J:List aC) (I:aJ) (D:Int) (H:Int) (xv:Int) (B:Int):Option (Rs (Int × Int)) :=
 Option.bind (kA N (⟨r,J⟩:tT) I B) fun M=>
 cond M
 (cond (decide (H < D))
 (mD N B B)
 (mD N B D))
 (some (.go (D,H)))
def gS (N:Nat) (r:aR) (H:Int) (x:Int) (D:List aC):Option (cP (Int × Int × (List aC)) ((Int) ⊕ ((List aC) × Int))) :=
 cond (decide (x < ((r.Gaugings.length:Nat):Int)))
 (Option.bind (bQ r.Gaugings x) fun J=>
 Option.bind (eA N (rY (fun (zz:Int × Int) (I:(Int × Int))=>fX N r D J zz.1 zz.2 I.1 I.2)) (.go (1,0))) fun M=>
 rsK M (fun B=>cond (decide (B.2 < B.1))
 (some (.brk (6,x,D)))
 (Option.bind (rR ((D++[(⟨B.1,B.2⟩:aC)])).length) fun un=>
 some (.cont (H,W (x + 1),(D++[(⟨B.1,B.2⟩:aC)]))))) (fun B=>none))
 (some (.brk (H,x,D)))
def gY (N:Nat) (r:aR):Option ((Int) ⊕ ((List aC) × Int)) :=
 Option.bind (pF N r) fun D=>
 cond (D != 0)
 (some (.inl D))
 (Option.bind (bC (fun B=>gS N r B.1 B.2.1 B.2.2) N (0,0,([]:List aC))) fun H=>
 exK H (fun B=>some (.inr (B.2.2,B.1))) some)
theorem gM {N:Nat} {G:aU} {Lf:List Ent} {w:World} (r:aR) {H:Option Addr} {I:Nat} {B:Option Addr} {D:Nat} (m:Rd G 2 H I (r.Rating.map bF)) (i:Rd G 4 B D (r.Gaugings.map bB)) (hc:Ctx G (Lf) w) {ai:(Int) ⊕ ((List aC) × Int)} (hF:gY N r=some ai):Calls Tryz.prog 22 #[.agg #[.slice H r.Rating.length I,.slice B r.Gaugings.length D]] w (fun e w=>vF (fun rr=>e=.returned (.tuple #[.pointer none,i6 rr])∧Ctx G (Lf) w) (fun rr=>∃ (av:Nat) (ar:Option Addr) (an:Nat),e=.returned (.tuple #[pq av,i6 rr.2])∧Ctx G (.row ar an (rr.1.map aH) 51 2::.box av [.slice H r.Rating.length I,.slice B r.Gaugings.length D,.slice ar rr.1.length an] 81::Lf) w) ai):=by
 unfold gY at hF
 refine xK Tryz.func22 rfl Tryz.ntmps22 rfl fun a hf=>zS fun K h=>zB hf hc rfl fun bd a w hf hc=>sp 2 hf rfl fun a hf=>zT h ?_
 refine wp_scope_straight ?_
 refine wp_seq_k fun K2 h2=>zS fun K h=>zN hf hc wJ m0 rfl fun a w hf hc=>?_
 obtain ⟨a9,ay,hF⟩:=aA hF
 refine zQ (v:=i6 a9) hf hc en_53 rfl (fun w hc=>aA8 r m i hc ay) fun a w hf hc=>sp 1 hf rfl fun a hf=>zT h ?_
 refine zS fun K h=>sp 2 hf rfl fun a hf=>zT h ?_
 refine zI hf rfl hF ?_ ?_ <;> clear hF <;> intro hF
 ·refine zS fun K h=>sp 3 hf rfl fun a hf=>zT h ?_
  refine wp_ret ?_
  refine aQ ?_
  refine aH7 ?_
  obtain rfl:=sj hF
  replace hc:=hc.drop k0
  refine wV hf ?_
  exact aMf Tryz.results22 hf hc (show eZ _ 2=_ from rfl) (show eZ _ 3=_ from rfl) ⟨rfl,hc⟩
 ·refine wp_skip ?_
  refine h2 _ _ ?_
  refine zS fun K h=>zN hf hc wJ m0 rfl fun a w hf hc=>zP hf rfl (bL (cells:=[.slice H r.Rating.length I,.slice B r.Gaugings.length D,.slice none 0 0]) bt_81 rfl rfl) fun a hf=>zB hf hc rfl fun O a w hf hc=>sp 1 hf rfl fun a hf=>zT h ?_
  refine zS fun K h=>sp 1 hf rfl fun a hf=>zT h ?_
  refine zS fun K h=>sp 1 hf rfl fun a hf=>zP hf rfl (pMF (vs:=[pq O]) (us:=[]) rfl rfl) fun a hf=>zA hf hc aOi rfl fun Z a w hf hc=>zW hf hc aOc u0 rfl fun w hc=>zT h ?_
  refine wp_seq_k fun K9 h9=>wp_label ?_
  refine h9 _ _ ?_
  refine wp_seq_k fun K10 bb=>zS fun K h=>zP hf rfl (pFA oU rfl) fun a hf=>zL hf hc yA m2 rfl fun a w hf hc=>zP hf rfl (cR Tryz.underlying42 rfl) fun a hf=>sp 1 hf rfl fun a hf=>zT h ?_
  refine wp_block ?_
  obtain ⟨ad,a2,hF⟩:=aA hF
  let S12:(Int × Int × (List aC))→Act→World→Prop:=(fun (zz:Int × Int × (List aC)) a w=>∃ (U:Option Addr) (V:Nat) (Ds:List Nat),Has ⟨65,jA Ds⟩ a [(5,pq O),(6,i6 zz.1),(7,pq Z),(24,.slice B r.Gaugings.length D),(25,i6 ((r.Gaugings.length:Nat):Int)),(26,i6 zz.2.1)]∧Ctx G (.row U V (zz.2.2.map aH) 51 2::.box Z [.func (.func 54) #[pq O] #[]] 142::.box O [.slice H r.Rating.length I,.slice B r.Gaugings.length D,.slice U zz.2.2.length V] 81::(kV Ds++Lf)) w)
  have af:∀ (zz:Int × Int × (List aC)) a w,ad=.go zz→S12 zz a w→K10 a w:=by
   rintro ⟨k,x,R⟩ a w rfl ⟨U,V,Ds,hf,hc⟩
   replace hF:=cI hF
   refine bb _ _ ?_
   refine zS fun K h=>sp 4 hf rfl fun a hf=>zT h ?_
   refine wp_ret ?_
   refine aH7 ?_
   obtain rfl:=sj hF
   replace hc:=hc.drop k1
   refine wV hf ?_
   refine uC [.row U V (R.map aH) 51 2,.box O [.slice H r.Rating.length I,.slice B r.Gaugings.length D,.slice U R.length V] 81] Ds hc fun w hc=>?_
   replace hc:Ctx G (.row U V (R.map aH) 51 2::.box O [.slice H r.Rating.length I,.slice B r.Gaugings.length D,.slice U R.length V] 81::Lf) w:=hc
   exact aMf Tryz.results22 hf hc (show eZ _ 2=_ from rfl) (show eZ _ 3=_ from rfl) ⟨O,U,V,rfl,hc⟩
  have bn:∀ r,ad=.out r→r=ai:=by
   rintro r rfl
   exact sj hF
  replace hf:=aHy hf
  replace hc:Ctx G (.box Z [.func (.func 54) #[pq O] #[]] 142::.box O [.slice H r.Rating.length I,.slice B r.Gaugings.length D,.slice none 0 0] 81::.box bd [.slice H r.Rating.length I,.slice B r.Gaugings.length D] 44::(kV []++Lf)) w:=hc
  replace hc:=hc.nilRow 51 2
  replace hc:=hc.drop k3
  refine eR N (eO (S:=S12) (x:=ad) ?_ N (0,0,([]:List aC)) _ _ ⟨none,0,[],hf.kp rfl,hc⟩ a2)
  clear hF hf hc
  rintro ⟨k,x,R⟩ ak a w KB12 ⟨U,V,Ds,hf,hc⟩ hF q a0
  unfold gS at hF
  refine zS fun K h=>sp 1 hf rfl fun a hf=>zT h ?_
  refine wp_seq_k fun K15 bi=>zI hf rfl hF ?_ ?_ <;> clear hF <;> intro hF
  ·refine wp_skip ?_
   refine bi _ _ ?_
   refine wp_seq_k fun K16 bg=>wp_block ?_
   refine zS fun K h=>?_
   obtain ⟨M,a1,hF⟩:=aA hF
   obtain ⟨bp,o,qa,qp⟩:=i.atm a1
   refine zP hf rfl (pIA Tryz.underlying42 aC5 rfl rfl qa) fun a hf=>zE hf hc rfl (jE (vs:=[i6 M.Day,i6 M.Stage,i6 M.Flow.Lo,i6 M.Flow.Hi]) aE4 rfl rfl (dS qp (n:=4) (o':=0) rfl)) fun a w hf hc=>zA hf hc aMn rfl fun g a w hf hc=>zW hf hc aC5 u0 rfl fun w hc=>zT h ?_
   refine zS fun K h=>zP hf rfl (bL (cells:=[i6 1,i6 0]) qD rfl rfl) fun a hf=>zA hf hc uF rfl fun d a w hf hc=>zW hf hc fN u0 rfl fun w hc=>zT h ?_
   refine wp_seq_k fun K19 bk=>zS fun K h=>zQ (v:=.func (.func 60) #[] #[]) hf hc aHd rfl (fun w hc=>mY hc rfl) fun a w hf hc=>zT h ?_
   obtain ⟨bc,ax,hF⟩:=aA hF
   refine aD3 (C:=[]) (C2:=[]) (L0:=[.box d [i6 1,i6 0] 51,.box g [i6 M.Day,i6 M.Stage,i6 M.Flow.Lo,i6 M.Flow.Hi] 53,.row U V (R.map aH) 51 2,.box Z [.func (.func 54) #[pq O] #[]] 142,.box O [.slice H r.Rating.length I,.slice B r.Gaugings.length D,.slice U R.length V] 81]) (Lf:=(kV Ds++Lf)) (encs:=fun x:(Int × Int)=>[i6 x.1,i6 x.2]) (fun (zz:Int × Int) L=>L=[.box d [i6 zz.1,i6 zz.2] 51,.box g [i6 M.Day,i6 M.Stage,i6 M.Flow.Lo,i6 M.Flow.Hi] 53,.row U V (R.map aH) 51 2,.box Z [.func (.func 54) #[pq O] #[]] 142,.box O [.slice H r.Rating.length I,.slice B r.Gaugings.length D,.slice U R.length V] 81]) (fun (zz:Int × Int) (au:(Int × Int))=>fX N r R M zz.1 zz.2 au.1 au.2) (1,0) bc hf hc rfl aIi (fun _=>rfl) rfl rfl ?_ ?_ ?_ ?_
   ·intro lq mq J L Lx w hy hJ hc
    exact lM  J _ hy _ hJ hc ax
   ·clear hF hf hc
    rintro lq mq ⟨Y,X⟩ ⟨xv,j⟩ oq _ Lr Lb a w bq rfl hF hf hc hK
    replace hf:Has 65 a [(5,pq O),(6,i6 k),(7,pq Z),(9,pq g),(10,pq d),(24,.slice B r.Gaugings.length D),(25,i6 ((r.Gaugings.length:Nat):Int)),(26,i6 x),(32,i6 xv),(33,i6 j)]:=hf.kp rfl
    replace hc:Ctx G (.box d [i6 Y,i6 X] 51::.box g [i6 M.Day,i6 M.Stage,i6 M.Flow.Lo,i6 M.Flow.Hi] 53::.row U V (R.map aH) 51 2::.box Z [.func (.func 54) #[pq O] #[]] 142::.box O [.slice H r.Rating.length I,.slice B r.Gaugings.length D,.slice U R.length V] 81::Lr) w:=hc
    replace hF:fX N r R M Y X xv j=some oq:=hF
    unfold fX at hF
    refine mU (fun _ _ h=>h) rfl ?_
    refine sp 1 hf rfl fun a hf=>aS ?_
    refine hK _ _ [.box d [i6 Y,i6 X] 51,.box g [i6 M.Day,i6 M.Stage,i6 M.Flow.Lo,i6 M.Flow.Hi] 53,.row U V (R.map aH) 51 2,.box Z [.func (.func 54) #[pq O] #[]] 142,.box O [.slice H r.Rating.length I,.slice B r.Gaugings.length D,.slice U R.length V] 81] hc fun w hc=>?_
    replace hc:Ctx G (.box d [i6 Y,i6 X] 51::.box g [i6 M.Day,i6 M.Stage,i6 M.Flow.Lo,i6 M.Flow.Hi] 53::.row U V (R.map aH) 51 2::.box Z [.func (.func 54) #[pq O] #[]] 142::.box O [.slice H r.Rating.length I,.slice B r.Gaugings.length D,.slice U R.length V] 81::Lb) w:=hc
    refine rK fun K22 ap=>pW ?_
    refine qA fun K23 bm=>mU (fun _ _ h=>h) rfl ?_
    refine zL hf hc aNu m3 rfl fun a w hf hc=>zN hf hc aE4 m1 rfl fun a w hf hc=>sp 1 hf rfl fun a hf=>?_
    obtain ⟨am,a4,hF⟩:=aA hF
    refine zQ (v:=.bool am) hf hc en_54 rfl (fun w hc=>by obtain ⟨G1,aj,a3,hc,az⟩:=lend hc k2; exact (vD (⟨r,R⟩:tT) M j (m.mono aj) (i.mono aj) a3 (hc.pick k3) a4).mono fun e w h=>⟨h.1,((az _ _ (h.2.unpick k3)).unpick k2)⟩) fun a w hf hc=>aS ?_
    refine bm _ _ ?_
    refine xR (b:=am) hf rfl (fun hb=>?_) (fun hb=>?_)
    ·replace hF:=mN hb hF
     clear hb
     refine qA fun K24 bf=>?_
     have ab:∀ (z:Int) a w,Has 65 a [(5,pq O),(6,i6 k),(7,pq Z),(9,pq g),(10,pq d),(12,i6 j),(24,.slice B r.Gaugings.length D),(25,i6 ((r.Gaugings.length:Nat):Int)),(26,i6 x)]→Ctx G (.box d [i6 z,i6 X] 51::.box g [i6 M.Day,i6 M.Stage,i6 M.Flow.Lo,i6 M.Flow.Hi] 53::.row U V (R.map aH) 51 2::.box Z [.func (.func 54) #[pq O] #[]] 142::.box O [.slice H r.Rating.length I,.slice B r.Gaugings.length D,.slice U R.length V] 81::Lb) w→mD N j z=some oq→K24 a w:=by
      repeat (clear hF)
      repeat (clear hc)
      repeat (clear hf)
      intro z a w hf hc hF
      unfold mD at hF
      refine bf _ _ ?_
      refine mU (fun _ _ h=>h) rfl ?_
      refine sp 1 hf rfl fun a hf=>zP hf rfl (pFA fD rfl) fun a hf=>zW hf hc eQ u0 rfl fun w hc=>aS ?_
      refine ap _ _ ?_
      exact ⟨(z,j),_,(sj hF).symm,rfl,hc⟩
     refine qA fun K25 a6=>mU (fun _ _ h=>h) rfl ?_
     refine zP hf rfl (pFA fY rfl) fun a hf=>zL hf hc aY m0 rfl fun a w hf hc=>zP hf rfl (pFA fD rfl) fun a hf=>zL hf hc aY m0 rfl fun a w hf hc=>sp 1 hf rfl fun a hf=>aS ?_
     refine a6 _ _ ?_
     refine xR (b:=(decide (X < Y))) hf rfl (fun hb=>?_) (fun hb=>?_)
     ·replace hF:=mN hb hF
      clear hb
      refine mU (fun _ _ h=>h) rfl ?_
      refine sp 1 hf rfl fun a hf=>zP hf rfl (pFA fY rfl) fun a hf=>zW hf hc eQ u0 rfl fun w hc=>aS ?_
      exact ab j _ _  (hf.kp rfl) hc hF
     ·replace hF:=mR hb hF
      clear hb
      refine yB ?_
      exact ab Y _ _  (hf.kp rfl) hc hF
    ·replace hF:=mR hb hF
     clear hb
     refine yB ?_
     refine ap _ _ ?_
     exact ⟨(Y,X),_,(sj hF).symm,rfl,hc⟩
   ·rintro D_1 ⟨Y,X⟩ _ a w ac rfl hf hc
    replace hf:Has ⟨65,jA (D_1::Ds)⟩ a [(5,pq O),(6,i6 k),(7,pq Z),(9,pq g),(10,pq d),(24,.slice B r.Gaugings.length D),(25,i6 ((r.Gaugings.length:Nat):Int)),(26,i6 x)]:=hf.kp rfl
    replace hc:Ctx G (.box d [i6 Y,i6 X] 51::.box g [i6 M.Day,i6 M.Stage,i6 M.Flow.Lo,i6 M.Flow.Hi] 53::.row U V (R.map aH) 51 2::.box Z [.func (.func 54) #[pq O] #[]] 142::.box O [.slice H r.Rating.length I,.slice B r.Gaugings.length D,.slice U R.length V] 81::(kV (D_1::Ds)++Lf)) w:=kS (C:=[]) (L:=[.box d [i6 Y,i6 X] 51,.box g [i6 M.Day,i6 M.Stage,i6 M.Flow.Lo,i6 M.Flow.Hi] 53,.row U V (R.map aH) 51 2,.box Z [.func (.func 54) #[pq O] #[]] 142,.box O [.slice H r.Rating.length I,.slice B r.Gaugings.length D,.slice U R.length V] 81]) hc
    replace hF:(cond (decide (X < Y)) (some (.brk (6,x,R))) (Option.bind (rR ((R++[(⟨Y,X⟩:aC)])).length) fun un=>some (.cont (k,W (x + 1),(R++[(⟨Y,X⟩:aC)])))))=some ak:=by rcases ac with rfl | rfl <;> exact hF
    refine bk _ _ ?_
    refine wp_seq_k fun K26 a5=>zS fun K h=>zP hf rfl (pFA fY rfl) fun a hf=>zL hf hc aY m0 rfl fun a w hf hc=>zP hf rfl (pFA fD rfl) fun a hf=>zL hf hc aY m0 rfl fun a w hf hc=>sp 1 hf rfl fun a hf=>zT h ?_
    refine zI hf rfl hF ?_ ?_ <;> clear hF <;> intro hF
    ·refine zS fun K h=>sp 1 hf rfl fun a hf=>zT h ?_
     refine wp_exit ?_
     refine bI ?_
     refine aH9 rfl ?_
     refine bI ?_
     refine bI ?_
     replace hc:=(hc.drop k1).drop k0
     have he:=sj hF
     rw [← he] at q
     refine fZ ?_
     exact af _ _ _ q ⟨U,V,(D_1::Ds),hf.kp rfl,hc⟩
    ·refine wp_skip ?_
     refine a5 _ _ ?_
     obtain ⟨un,bj,hF⟩:=aA hF
     replace hc:=hc.nilRow 0 0
     refine iE (fun θ=>[⟨none,none,5,pq O⟩,⟨none,none,6,i6 k⟩,⟨none,none,7,pq Z⟩,⟨none,none,10,pq d⟩,⟨none,none,24,.slice B r.Gaugings.length D⟩,⟨none,none,25,i6 ((r.Gaugings.length:Nat):Int)⟩,⟨none,none,26,i6 x⟩,⟨some 0,none,52,pq O⟩,⟨some 1,none,53,pq O⟩,⟨some 2,none,54,pq O⟩,⟨some 3,none,55,.pointer (some ⟨O,2,none⟩)⟩,⟨some 4,none,56,.slice U R.length V⟩,⟨some 5,none,57,.agg #[i6 Y,i6 X]⟩,⟨some 6,none,58,.slice (some ⟨(θ 48).b,0,none⟩) 1 1⟩,⟨some 7,none,59,.slice ((θ 56).p) ((R++[(⟨Y,X⟩:aC)]).length) ((θ 56).c)⟩,⟨some 8,none,60,pq O⟩,⟨some 9,none,61,.pointer (some ⟨O,2,none⟩)⟩]) (fun E θ=>(bif E 6 then .row (some ⟨(θ 48).b,0,none⟩) 1 (([(⟨Y,X⟩:aC)]:List aC).map aH) 51 2 else .row none 0 [] 0 0)::.box d [i6 Y,i6 X] 51::.box g [i6 M.Day,i6 M.Stage,i6 M.Flow.Lo,i6 M.Flow.Hi] 53::(bif E 7 then .row ((θ 56).p) ((θ 56).c) ((R++[(⟨Y,X⟩:aC)]).map aH) 51 2 else .row U V (R.map aH) 51 2)::.box Z [.func (.func 54) #[pq O] #[]] 142::(bif E 10 then .box O [.slice H r.Rating.length I,.slice B r.Gaugings.length D,.slice ((θ 56).p) ((R++[(⟨Y,X⟩:aC)]).length) ((θ 56).c)] 81 else .box O [.slice H r.Rating.length I,.slice B r.Gaugings.length D,.slice U R.length V] 81)::(kV (D_1::Ds)++Lf)) [(10,4),(10,7)] (fun a w=>∃ (aq:Nat) (aa:Option Addr) (y:Nat),Has ⟨65,jA (D_1::Ds)⟩ a [(5,pq O),(6,i6 k),(7,pq Z),(24,.slice B r.Gaugings.length D),(25,i6 ((r.Gaugings.length:Nat):Int)),(26,i6 x)]∧Ctx G (.row (some ⟨aq,0,none⟩) 1 (([(⟨Y,X⟩:aC)]:List aC).map aH) 51 2::.box d [i6 Y,i6 X] 51::.box g [i6 M.Day,i6 M.Stage,i6 M.Flow.Lo,i6 M.Flow.Hi] 53::.row aa y ((R++[(⟨Y,X⟩:aC)]).map aH) 51 2::.box Z [.func (.func 54) #[pq O] #[]] 142::.box O [.slice H r.Rating.length I,.slice B r.Gaugings.length D,.slice aa ((R++[(⟨Y,X⟩:aC)]).length) y] 81::(kV (D_1::Ds)++Lf)) w) aW (by kernel_rfl) (by kernel_rfl) (eV.of hf ⟨rfl,rfl,rfl,rfl,rfl,rfl,rfl,trivial,trivial,trivial,trivial,trivial,trivial,trivial,trivial,trivial,trivial,trivial⟩) hc ⟨?_,?_,?_,?_,?_,?_,?_,?_,?_,?_,?_,trivial⟩ ?_ ?_
     ·intro E θ a w hD hi hp he hc
      have hf:=he.h0.mT he 0 rfl
      refine sp 1 hf rfl fun a hf=>zD θ he hi hf 7 rfl rfl rfl hc
     ·intro E θ a w hD hi hp he hc
      have hf:=he.h0.mT he 0 rfl
      refine sp 1 hf rfl fun a hf=>zD θ he hi hf 8 rfl rfl rfl hc
     ·intro E θ a w hD hi hp he hc
      have e1:=hp.o 1 rfl
      have hf:=he.h0.mP he 8 rfl e1
      refine sp 1 hf rfl fun a hf=>zD θ he hi hf 9 rfl rfl rfl hc
     ·intro E θ a w hD hi hp he hc
      have e2:=hp.o 2 rfl
      have hf:=he.h0.mP he 9 rfl e2
      refine zP hf rfl (pFA sJ rfl) fun a hf=>zD θ he hi hf 10 rfl rfl rfl hc
     ·intro E θ a w hD hi hp he hc
      have e3:=hp.o 3 rfl
      have s:=hD.f 0 rfl hi
      try dsimp only at hc
      rw [s] at hc
      have hf:=he.h0.mP he 10 rfl e3
      refine zL hf hc rC m5 rfl fun a w hf hc=>zD θ he hi hf 11 rfl rfl rfl ?_
      try dsimp only
      rw [aV 4 s rfl]
      exact hc
     ·intro E θ a w hD hi hp he hc
      have hf:=he.h0.mT he 3 rfl
      refine zN hf hc iS m1 rfl fun a w hf hc=>zD θ he hi hf 12 rfl rfl rfl hc
     ·intro E θ a w hD hi hp he hc
      have e5:=hp.o 5 rfl
      try dsimp only at hc
      rw [hi] at hc
      have hf:=he.h0.mP he 12 rfl e5
      refine pJ (rows:=([(⟨Y,X⟩:aC)]:List aC).map aH) (vs:=[(0,.agg #[i6 Y,i6 X])]) hf hc rfl rfl aC8 rfl ⟨rfl,rfl,rfl,trivial⟩ rfl rfl fun ba a w hf hc=>aS ?_
      refine dA ?_
      intro ds u ag
      replace hc:=hc.drop k1
      refine ⟨(sK θ 48 ⟨ba,none,0,(fun _=>(none,0))⟩),he.put hi ag hf rfl [] trivial ⟨qq,qq,qq,qq,qq,qq,qq,qq,qq,qq,qq,qq,qq,qq,qq,qq,qq,trivial⟩,?_⟩
      try dsimp only
      rw [aX E 6]
      exact hc
     ·intro E θ a w hD hi hp he hc
      have e4:=hp.o 4 rfl
      have e6:=hp.o 6 rfl
      have s:=hD.f 1 rfl hi
      try dsimp only at hc
      rw [e6,hi,s] at hc
      have hf:=(he.h0.mP he 11 rfl e4).mP he 13 rfl e6
      refine qI (xs:=R) (ys:=([(⟨Y,X⟩:aC)]:List aC)) hf hc rfl rfl aC8 rfl rfl rfl rfl rfl gU (mJ hc m0) (fun _ _=>u3) (by simpa using gJ bj) fun a7 a8 a w hf hc=>aS ?_
      refine dA ?_
      intro ds u ag
      refine ⟨(sK θ 56 ⟨0,a7,a8,(fun _=>(none,0))⟩),he.put hi ag hf rfl [] trivial ⟨qq,qq,qq,qq,qq,qq,qq,qq,qq,qq,qq,qq,qq,qq,qq,qq,qq,trivial⟩,?_⟩
      try dsimp only
      rw [eL 7 e6,aX E 7,aV 7 s rfl]
      exact hc
     ·intro E θ a w hD hi hp he hc
      have e0:=hp.o 0 rfl
      have hf:=he.h0.mP he 7 rfl e0
      refine sp 1 hf rfl fun a hf=>zD θ he hi hf 15 rfl rfl rfl hc
     ·intro E θ a w hD hi hp he hc
      have e8:=hp.o 8 rfl
      have hf:=he.h0.mP he 15 rfl e8
      refine zP hf rfl (pFA sJ rfl) fun a hf=>zD θ he hi hf 16 rfl rfl rfl hc
     ·intro E θ a w hD hi hp he hc
      have e7:=hp.o 7 rfl
      have e9:=hp.o 9 rfl
      try dsimp only at hc
      rw [hi] at hc
      have hf:=(he.h0.mP he 14 rfl e7).mP he 16 rfl e9
      refine zW hf hc aMy u5 rfl fun w hc=>zG θ he hi hf rfl ?_
      try dsimp only
      rw [aX E 10]
      exact hc
     ·intro E θ a w t he hc
      have hf:=he.h0
      have e6:=t 6 rfl
      have e7:=t 7 rfl
      have s:=t 10 rfl
      replace hf:=hf.more he 6 rfl (onT)
      replace hf:=hf.more he 5 rfl (onT)
      replace hf:=hf.more he 4 rfl (onT)
      replace hf:=hf.more he 2 rfl (onT)
      replace hf:=hf.more he 1 rfl (onT)
      replace hf:=hf.more he 0 rfl (onT)
      try dsimp only at hc
      rw [e6,e7,s] at hc
      exact ⟨(θ 48).b,(θ 56).p,(θ 56).c,hf.kp rfl,hc⟩
     rintro a w ⟨aq,aa,y,hf,hc⟩
     refine bg _ _ ?_
     refine eB ?_
     refine sp 2 hf rfl fun a hf=>aS ?_
     replace hc:=((hc.drop k2).drop k1).drop k0
     exact a0 (k,W (x + 1),(R++[(⟨Y,X⟩:aC)])) _ _ (sj hF).symm ⟨aa,y,(D_1::Ds),hf.kp rfl,hc⟩
   ·rintro D_1 ⟨Y,X⟩ _ a w ac rfl hf hc
    replace hf:Has ⟨65,jA (D_1::Ds)⟩ a [(5,pq O),(6,i6 k),(7,pq Z),(9,pq g),(10,pq d),(24,.slice B r.Gaugings.length D),(25,i6 ((r.Gaugings.length:Nat):Int)),(26,i6 x)]:=hf.kp rfl
    replace hc:Ctx G (.box d [i6 Y,i6 X] 51::.box g [i6 M.Day,i6 M.Stage,i6 M.Flow.Lo,i6 M.Flow.Hi] 53::.row U V (R.map aH) 51 2::.box Z [.func (.func 54) #[pq O] #[]] 142::.box O [.slice H r.Rating.length I,.slice B r.Gaugings.length D,.slice U R.length V] 81::(kV (D_1::Ds)++Lf)) w:=kS (C:=[]) (L:=[.box d [i6 Y,i6 X] 51,.box g [i6 M.Day,i6 M.Stage,i6 M.Flow.Lo,i6 M.Flow.Hi] 53,.row U V (R.map aH) 51 2,.box Z [.func (.func 54) #[pq O] #[]] 142,.box O [.slice H r.Rating.length I,.slice B r.Gaugings.length D,.slice U R.length V] 81]) hc
    replace hF:(none)=some ak:=by subst ac; exact hF
    cases hF
  ·refine wp_exit ?_
   refine bI ?_
   refine bI ?_
   have he:=sj hF
   rw [← he] at q
   refine fZ ?_
   exact af _ _ _ q ⟨U,V,Ds,hf.kp rfl,hc⟩

def nZ (N:Nat) (l:List Int) (B:Int) (x:Int):Option (cP (Int × Int) (Int)) :=
 cond (decide (x < ((l.length:Nat):Int)))
 (Option.bind (bQ l x) fun D=>
 some (.cont (max B D,W (x + 1))))
 (some (.brk (B,x)))
def oA (N:Nat) (first:Int) (l:List Int):Option (Int) :=
 Option.bind (bC (fun s4=>nZ N l s4.1 s4.2) N (first,0)) fun x4=>
 exK x4 (fun s4=>some s4.1) some
theorem yE {N:Nat} {G:aU} {Lf:List Ent} {w:World} (first:Int) (l:List Int) {J:Option Addr} {H:Nat} (X:Rd G 1 J H (l.map aB)) (hc:Ctx G (Lf) w) {I:Int} (hF:oA N first l=some I):Calls Tryz.prog 55 #[i6 first,.slice J l.length H] w (fun e w=>e=.returned (i6 I)∧Ctx G (Lf) w):=by
 unfold oA at hF
 refine bU Tryz.func55 rfl Tryz.ntmps55 rfl fun a hf=>zS fun K h=>sp 1 hf rfl fun a hf=>zT h ?_
 refine wp_seq_k fun K2 h2=>zS fun K h=>sp 1 hf rfl fun a hf=>zP hf rfl (cR Tryz.underlying26 rfl) fun a hf=>sp 1 hf rfl fun a hf=>zT h ?_
 refine wp_block ?_
 obtain ⟨x4,R,hF⟩:=aA hF
 let S4:(Int × Int)→Act→World→Prop:=(fun (zz:Int × Int) a w=>Has 18 a [(0,i6 zz.1),(7,.slice J l.length H),(8,i6 ((l.length:Nat):Int)),(9,i6 zz.2)]∧Ctx G (Lf) w)
 have V:∀ (zz:Int × Int) a w,x4=.go zz→S4 zz a w→K2 a w:=by
  rintro ⟨B,x⟩ a w rfl ⟨hf,hc⟩
  replace hF:=cI hF
  refine h2 _ _ ?_
  refine zS fun K h=>sp 2 hf rfl fun a hf=>zT h ?_
  refine wp_ret ?_
  obtain rfl:=sj hF
  exact zO1 Tryz.results55 hf rfl ⟨rfl,hc⟩
 have Z:∀ r,x4=.out r→r=I:=by
  rintro r rfl
  exact sj hF
 refine eR N (eO (S:=S4) (x:=x4) ?_ N (first,0) _ _ ⟨hf.kp rfl,hc⟩ R)
 clear hF hf hc
 rintro ⟨B,x⟩ b a w KB4 ⟨hf,hc⟩ hF D O
 unfold nZ at hF
 refine zS fun K h=>sp 1 hf rfl fun a hf=>zT h ?_
 refine wp_seq_k fun K7 h7=>zI hf rfl hF ?_ ?_ <;> clear hF <;> intro hF
 ·refine wp_skip ?_
  refine h7 _ _ ?_
  refine wp_seq_k fun K8 h8=>wp_block ?_
  refine zS fun K h=>?_
  obtain ⟨U,M,hF⟩:=aA hF
  obtain ⟨Y,o,qa,qp⟩:=X.atm M
  refine zP hf rfl (pIA Tryz.underlying26 eQ rfl rfl qa) fun a hf=>zE hf hc rfl (cN aY rfl (gO (j:=0) qp rfl)) fun a w hf hc=>sp 1 hf rfl fun a hf=>zT h ?_
  refine eB ?_
  refine sp 2 hf rfl fun a hf=>zP hf rfl (aHr rfl rfl) fun a hf=>sp 1 hf rfl fun a hf=>aS ?_
  refine h8 _ _ ?_
  refine eB ?_
  refine sp 2 hf rfl fun a hf=>aS ?_
  exact O (max B U,W (x + 1)) _ _ (sj hF).symm ⟨hf.kp rfl,hc⟩
 ·refine wp_exit ?_
  refine bI ?_
  refine bI ?_
  have he:=sj hF
  rw [← he] at D
  refine fZ ?_
  exact V _ _ _ D ⟨hf.kp rfl,hc⟩

def nQ (N:Nat) (a_:Int) (b_:Int):Option (Int) :=
 Option.bind (oA N (W (a_ - b_)) ([W (b_ - a_)]:List Int)) fun r=>
 some r
theorem vG {N:Nat} {G:aU} {Lf:List Ent} {w:World} (a_:Int) (b_:Int)   (hc:Ctx G (Lf) w) {B:Int} (hF:nQ N a_ b_=some B):Calls Tryz.prog 24 #[i6 a_,i6 b_] w (fun e w=>e=.returned (i6 B)∧Ctx G (Lf) w):=by
 unfold nQ at hF
 refine bU Tryz.func24 rfl Tryz.ntmps24 rfl fun a hf=>zS fun K h=>sp 1 hf rfl fun a hf=>zT h ?_
 refine zS fun K h=>sp 6 hf rfl fun a hf=>pJ (rows:=([W (b_ - a_)]:List Int).map aB) (vs:=[(0,i6 (W (b_ - a_)))]) hf hc rfl rfl qG rfl ⟨rfl,rfl,rfl,trivial⟩ rfl rfl fun J a w hf hc=>?_
 obtain ⟨r,hr,hF⟩:=aA hF
 refine zQ (v:=i6 r) hf hc en_55 rfl (fun w hc=>by obtain ⟨G1,I,D,hc,H⟩:=lend hc k0; exact (yE (W (a_ - b_)) ([W (b_ - a_)]:List Int) D hc hr).mono fun e w h=>⟨h.1,((H _ _ h.2).unpick k0)⟩) fun a w hf hc=>sp 1 hf rfl fun a hf=>zT h ?_
 refine wp_ret ?_
 obtain rfl:=sj hF
 replace hc:=hc.drop k0
 exact zO1 Tryz.results24 hf rfl ⟨rfl,hc⟩

def jR (N:Nat) (x:Int) (B:Int):Option (cP (Int × Int) (Int × Int)) :=
 some (.cont (B,W (x + 1)))
def iG (N:Nat) (B:List Int) (I:(List aC) × Int) (D:Int) (x:Int):Option (cP (Int × Int) (Int × Int)) :=
 cond (decide (x < ((I.1.length:Nat):Int)))
 (Option.bind (bQ I.1 x) fun H=>
 Option.bind (bQ B x) fun J=>
 cond (!(bD J H.Lo H.Hi))
 (some (.ret (0,7)))
 (cond (decide (0 < x))
 (Option.bind (bQ B x) fun O=>
 Option.bind (bQ B (W (x - 1))) fun R=>
 Option.bind (nQ N O R) fun M=>
 jR N x (W (D + M)))
 (jR N x D)))
 (some (.brk (D,x)))
def nV (N:Nat) (r:aR) (B:List Int):Option (Int × Int) :=
 Option.bind (gY N r) (vF (fun I=>cond (I != 0)
 (some (0,I))
 (cond (((B.length:Nat):Int) != ((r.Gaugings.length:Nat):Int))
 (some (0,2))
 (none)))
 (fun H=>cond (H.2 != 0)
 (some (0,H.2))
 (cond (((B.length:Nat):Int) != ((r.Gaugings.length:Nat):Int))
 (some (0,2))
 (Option.bind (bC (fun D=>iG N B H D.1 D.2) N (0,0)) fun J=>
 exK J (fun D=>some (D.1,0)) some))))
theorem aCg {N:Nat} {G:aU} {Lf:List Ent} {w:World} (r:aR) (H:List Int) {U:Option Addr} {X:Nat} {I:Option Addr} {M:Nat} {D:Option Addr} {B:Nat} (V:Rd G 2 U X (r.Rating.map bF)) (J:Rd G 4 I M (r.Gaugings.map bB)) (O:Rd G 1 D B (H.map aB)) (hc:Ctx G (Lf) w) {q:Int × Int} (hF:nV N r H=some q):Calls Tryz.prog 11 #[.agg #[.slice U r.Rating.length X,.slice I r.Gaugings.length M],.slice D H.length B] w (fun e w=>e=.returned (.tuple #[i6 q.1,i6 q.2])∧Ctx G (Lf) w):=by
 unfold nV at hF
 refine bU Tryz.func11 rfl Tryz.ntmps11 rfl fun a hf=>zS fun K h=>zB hf hc rfl fun bg a w hf hc=>sp 2 hf rfl fun a hf=>zT h ?_
 refine zS fun K h=>zN hf hc wJ m0 rfl fun a w hf hc=>?_
 obtain ⟨aa,u,hF⟩:=aA hF
 cases aa with
 | inl aa=>
  replace hF:=wF hF
  refine zC hf aAb rfl (gM r V J hc u) ?_
  rintro _ w ⟨rfl,hc⟩
  refine ⟨_,rfl,fun a hf=>?_⟩
  refine sp 5 hf rfl fun a hf=>zT h ?_
  refine wp_seq_k fun K3 h3=>wp_block ?_
  refine zS fun K h=>sp 3 hf rfl fun a hf=>zT h ?_
  refine zI hf rfl hF ?_ ?_ <;> clear hF <;> intro hF
  ·refine zS fun K h=>sp 3 hf rfl fun a hf=>zT h ?_
   refine wp_ret ?_
   refine bT ?_
   refine aQ ?_
   obtain rfl:=sj hF
   replace hc:=hc.drop k0
   exact zO2 Tryz.results11 hf rfl rfl ⟨rfl,hc⟩
  ·refine zS fun K h=>sp 1 hf rfl fun a hf=>zP hf rfl (cR Tryz.underlying26 rfl) fun a hf=>zP hf rfl (pFA oU rfl) fun a hf=>zL hf hc yA m0 rfl fun a w hf hc=>zP hf rfl (cR Tryz.underlying42 rfl) fun a hf=>sp 2 hf rfl fun a hf=>zT h ?_
   refine zI hf rfl hF ?_ ?_ <;> clear hF <;> intro hF
   ·refine zS fun K h=>sp 2 hf rfl fun a hf=>zT h ?_
    refine wp_ret ?_
    refine bT ?_
    refine aQ ?_
    obtain rfl:=sj hF
    replace hc:=hc.drop k0
    exact zO2 Tryz.results11 hf rfl rfl ⟨rfl,hc⟩
   ·refine wp_skip ?_
    refine h3 _ _ ?_
    refine zS fun K h=>sp 1 hf rfl fun a hf=>zT h ?_
    refine wp_seq_k fun K9 h9=>wp_seq_k fun K10 bf=>wD hF
 | inr d=>
  replace hF:=wI hF
  have az:=u
  refine zC hf aAb rfl (gM r V J hc az) ?_
  rintro _ w ⟨a9,a3,a8,rfl,hc⟩
  refine ⟨_,rfl,fun a hf=>?_⟩
  refine sp 5 hf rfl fun a hf=>zT h ?_
  refine wp_seq_k fun K11 a6=>wp_block ?_
  refine zS fun K h=>sp 3 hf rfl fun a hf=>zT h ?_
  refine zI hf rfl hF ?_ ?_ <;> clear hF <;> intro hF
  ·refine zS fun K h=>sp 3 hf rfl fun a hf=>zT h ?_
   refine wp_ret ?_
   refine bT ?_
   refine aQ ?_
   obtain rfl:=sj hF
   replace hc:=((hc.drop k2).drop k1).drop k0
   exact zO2 Tryz.results11 hf rfl rfl ⟨rfl,hc⟩
  ·refine zS fun K h=>sp 1 hf rfl fun a hf=>zP hf rfl (cR Tryz.underlying26 rfl) fun a hf=>zP hf rfl (pFA oU rfl) fun a hf=>zL hf hc yA m2 rfl fun a w hf hc=>zP hf rfl (cR Tryz.underlying42 rfl) fun a hf=>sp 2 hf rfl fun a hf=>zT h ?_
   refine zI hf rfl hF ?_ ?_ <;> clear hF <;> intro hF
   ·refine zS fun K h=>sp 2 hf rfl fun a hf=>zT h ?_
    refine wp_ret ?_
    refine bT ?_
    refine aQ ?_
    obtain rfl:=sj hF
    replace hc:=((hc.drop k2).drop k1).drop k0
    exact zO2 Tryz.results11 hf rfl rfl ⟨rfl,hc⟩
   ·refine wp_skip ?_
    refine a6 _ _ ?_
    refine zS fun K h=>sp 1 hf rfl fun a hf=>zT h ?_
    refine wp_seq_k fun K17 a5=>zS fun K h=>sp 2 hf rfl fun a hf=>zP hf rfl (pFA sJ rfl) fun a hf=>zL hf hc rC m1 rfl fun a w hf hc=>zP hf rfl (cR Tryz.underlying79 rfl) fun a hf=>sp 1 hf rfl fun a hf=>zT h ?_
    refine wp_block ?_
    obtain ⟨t,ag,hF⟩:=aA hF
    let S19:(Int × Int)→Act→World→Prop:=(fun (zz:Int × Int) a w=>∃ (k:Option Addr) (b:Nat),Has 63 a [(1,.slice D H.length B),(8,i6 zz.1),(30,.slice k d.1.length b),(31,i6 ((d.1.length:Nat):Int)),(32,i6 zz.2)]∧Ctx G (.row k b (d.1.map aH) 51 2::Lf) w)
    have av:∀ (zz:Int × Int) a w,t=.go zz→S19 zz a w→K17 a w:=by
     rintro ⟨s,x⟩ a w rfl ⟨k,b,hf,hc⟩
     replace hF:=cI hF
     refine a5 _ _ ?_
     refine zS fun K h=>sp 3 hf rfl fun a hf=>zT h ?_
     refine wp_ret ?_
     obtain rfl:=sj hF
     replace hc:=hc.drop k0
     exact zO2 Tryz.results11 hf rfl rfl ⟨rfl,hc⟩
    have ax:∀ r,t=.out r→r=q:=by
     rintro r rfl
     exact sj hF
    replace hc:=(hc.drop k2).drop k1
    refine eR N (eO (S:=S19) (x:=t) ?_ N (0,0) _ _ ⟨a3,a8,hf.kp rfl,hc⟩ ag)
    clear hF hf hc
    rintro ⟨s,x⟩ am a w KB19 ⟨k,b,hf,hc⟩ hF R an
    unfold iG at hF
    refine zS fun K h=>sp 1 hf rfl fun a hf=>zT h ?_
    refine wp_seq_k fun K22 a4=>zI hf rfl hF ?_ ?_ <;> clear hF <;> intro hF
    ·refine wp_skip ?_
     refine a4 _ _ ?_
     refine wp_seq_k fun K23 a7=>?_
     have z:∀ (Z:Int) (p:Option Addr) (m:Nat) a w,Has 63 a [(1,.slice D H.length B),(8,i6 Z),(30,.slice p d.1.length m),(31,i6 ((d.1.length:Nat):Int)),(32,i6 x)]→Ctx G (.row p m (d.1.map aH) 51 2::Lf) w→jR N x Z=some am→K23 a w:=by
      repeat (clear hF)
      repeat (clear hc)
      repeat (clear hf)
      intro Z p m a w hf hc hF
      unfold jR at hF
      refine a7 _ _ ?_
      refine eB ?_
      refine sp 2 hf rfl fun a hf=>aS ?_
      exact an (Z,W (x + 1)) _ _ (sj hF).symm ⟨p,m,hf.kp rfl,hc⟩
     refine wp_block ?_
     refine zS fun K h=>sp 1 hf rfl fun a hf=>?_
     obtain ⟨Y,ay,hF⟩:=aA hF
     obtain ⟨g,rfl,qa,qr⟩:=jM hc m0 ay
     refine zP hf rfl (pIA Tryz.underlying79 fN rfl rfl qa) fun a hf=>zE hf hc rfl (jE (vs:=[i6 Y.Lo,i6 Y.Hi]) iS rfl rfl (jV (sz:=2) (i:=x.toNat) m0 qr (n:=2) (o':=0) rfl)) fun a w hf hc=>zA hf hc uF rfl fun bc a w hf hc=>sp 1 hf rfl fun a hf=>zW hf hc fN u0 rfl fun w hc=>zT h ?_
     refine wp_seq_k fun K25 a2=>wp_seq_k fun K26 a1=>?_
     obtain ⟨y,ap,hF⟩:=aA hF
     obtain ⟨ba,o,ak,qp⟩:=O.atm ap
     refine cQ hc aW (by kernel_rfl) ?_
     refine qE hf rfl rfl rfl (Pu.ev (pM rfl)) fun a hf=>qE hf rfl rfl rfl (Pu.ev (pM rfl)) fun a hf=>qE hf rfl rfl rfl (Pu.ev (pIA Tryz.underlying26 eQ rfl rfl ak)) fun a hf=>qE hf rfl rfl rfl (cN aY rfl (gO (j:=0) qp rfl)) fun a hf=>qE hf rfl rfl rfl (Pu.ev (pFA fY rfl)) fun a hf=>qE hf rfl rfl rfl (cN aY rfl (bO m0 rfl)) fun a hf=>qE hf rfl rfl rfl (Pu.ev (pFA fD rfl)) fun a hf=>qE hf rfl rfl rfl (cN aY rfl (bO m0 rfl)) fun a hf=>qE hf rfl rfl rfl (eC (v:=.bool (bD y Y.Lo Y.Hi)) (vs:=[i6 y,i6 Y.Lo,i6 Y.Hi]) (caps:=[]) vH rfl rfl rfl rfl (fun w hc=>hU y Y.Lo Y.Hi hc rfl)) fun a hf=>qE hf rfl rfl rfl (Pu.ev (pNot rfl)) fun a hf=>?_
     intro w hc
     refine a1 _ _ ?_
     refine zI hf rfl hF ?_ ?_ <;> clear hF <;> intro hF
     ·refine zS fun K h=>sp 2 hf rfl fun a hf=>zT h ?_
      refine wp_ret ?_
      refine aQ ?_
      refine bT ?_
      refine aQ ?_
      refine aQ ?_
      have he:=sj hF
      rw [← he] at R
      replace hF:=ax _ R
      refine bT ?_
      refine aQ ?_
      obtain rfl:=hF
      replace hc:=(hc.drop k1).drop k0
      exact zO2 Tryz.results11 hf rfl rfl ⟨rfl,hc⟩
     ·refine wp_skip ?_
      refine a2 _ _ ?_
      refine zS fun K h=>sp 2 hf rfl fun a hf=>zT h ?_
      refine zI hf rfl hF ?_ ?_ <;> clear hF <;> intro hF
      ·obtain ⟨ad,ai,hF⟩:=aA hF
       obtain ⟨bd,bb,a0,aj⟩:=O.atm ai
       obtain ⟨ab,ar,hF⟩:=aA hF
       obtain ⟨bi,bj,au,af⟩:=O.atm ar
       obtain ⟨ac,aq,hF⟩:=aA hF
       refine cQ hc aW (by kernel_rfl) ?_
       refine qE hf rfl rfl rfl (Pu.ev (pM rfl)) fun a hf=>qE hf rfl rfl rfl (Pu.ev (pM rfl)) fun a hf=>qE hf rfl rfl rfl (Pu.ev (pM rfl)) fun a hf=>qE hf rfl rfl rfl (Pu.ev (pIA Tryz.underlying26 eQ rfl rfl a0)) fun a hf=>qE hf rfl rfl rfl (cN aY rfl (gO (j:=0) aj rfl)) fun a hf=>qE hf rfl rfl rfl (Pu.ev (pM rfl)) fun a hf=>qE hf rfl rfl rfl (Pu.ev (pM rfl)) fun a hf=>qE hf rfl rfl rfl (Pu.ev (aEq rfl rfl)) fun a hf=>qE hf rfl rfl rfl (Pu.ev (pIA Tryz.underlying26 eQ rfl rfl au)) fun a hf=>qE hf rfl rfl rfl (cN aY rfl (gO (j:=0) af rfl)) fun a hf=>qE hf rfl rfl rfl (eC (v:=i6 ac) (vs:=[i6 ad,i6 ab]) (caps:=[]) aMd rfl rfl rfl rfl (fun w hc=>vG ad ab hc aq)) fun a hf=>qE hf rfl rfl rfl (Pu.ev (aI3 rfl rfl)) fun a hf=>qE hf rfl rfl rfl (Pu.ev (pA rfl)) fun a hf=>?_
       intro w hc
       replace hc:=hc.drop k0
       exact z (W (s + ac)) (some ⟨g,0,none⟩) b _ _  (hf.kp rfl) hc hF
      ·refine wp_skip ?_
       replace hc:=hc.drop k0
       exact z s (some ⟨g,0,none⟩) b _ _  (hf.kp rfl) hc hF
    ·refine wp_exit ?_
     refine bI ?_
     refine bI ?_
     have he:=sj hF
     rw [← he] at R
     refine fZ ?_
     exact av _ _ _ R ⟨k,b,hf.kp rfl,hc⟩

def dH (N:Nat) (s_:List aC):Option ((List aC)) :=
 Option.bind (rR (s_).length) fun un=>
 some s_
theorem nJ {N:Nat} {G:aU} {Lf:List Ent} {w:World} (s_:List aC) {D:Option Addr} {I:Nat} (H:Rd G 2 D I (s_.map aH)) (hc:Ctx G (Lf) w) {B:(List aC)} (hF:dH N s_=some B):Calls Tryz.prog 56 #[.slice D s_.length I] w (fun e w=>∃ (J:Option Addr) (M:Nat),e=.returned (.slice J B.length M)∧Ctx G (.row J M (B.map aH) 51 2::Lf) w):=by
 unfold dH at hF
 refine bU Tryz.func56 rfl Tryz.ntmps56 rfl fun a hf=>zS fun K h=>sp 1 hf rfl fun a hf=>zT h ?_
 refine wp_seq_k fun K2 h2=>zS fun K h=>sp 1 hf rfl fun a hf=>zP hf rfl (pEqN Tryz.underlying79 rfl rfl) fun a hf=>zT h ?_
 rcases aEh H with ⟨hp,hx⟩ | hp
 ·rw [hp] at hf
  replace hF:(some ([]:List aC))=some B:=by
   try rw [hx] at hF
   exact hF
  refine aG1 hf rfl ?_
  refine zS fun K h=>sp 1 hf rfl fun a hf=>zT h ?_
  refine wp_ret ?_
  refine aQ ?_
  obtain rfl:=sj hF
  replace hc:=hc.nilRow 51 2
  exact zO1 Tryz.results56 hf rfl ⟨none,0,rfl,hc⟩
 ·rw [hp] at hf
  refine aDv hf rfl ?_
  refine wp_skip ?_
  refine h2 _ _ ?_
  refine zS fun K h=>pJ (rows:=([]:List aC).map aH) (vs:=[]) hf hc rfl rfl aC8 rfl trivial rfl rfl fun U a w hf hc=>sp 1 hf rfl fun a hf=>?_
  obtain ⟨un,R,hF⟩:=aA hF
  refine qI (xs:=([]:List aC)) (ys:=s_) hf hc rfl rfl aC8 rfl rfl rfl rfl rfl gU (aGo hc H) (fun _ _=>u0) (by simpa using gJ R) fun O S a w hf hc=>sp 1 hf rfl fun a hf=>zT h ?_
  refine wp_ret ?_
  obtain rfl:=sj hF
  exact zO1 Tryz.results56 hf rfl ⟨O,S,rfl,hc⟩

def fC (N:Nat) (B:List aC) (D:Int) (H:Int):Option (cP ((List aC) × Int × Int) ((List aC))) :=
 cond (decide (D < H))
 (Option.bind (bQ B H) fun J=>
 Option.bind (bQ B D) fun I=>
 Option.bind (bQ B D) fun M=>
 Option.bind (bQ B H) fun O=>
 some (.cont (((B.set D.toNat J).set H.toNat I),W (D + 1),W (H - 1))))
 (some (.brk (B,D,H)))
def cV (N:Nat) (s_:List aC):Option ((List aC)) :=
 Option.bind (bC (fun s3=>fC N s3.1 s3.2.1 s3.2.2) N (s_,0,W (((s_.length:Nat):Int) - 1))) fun x3=>
 exK x3 (fun s3=>Option.bind (xQ s3.1 s_) fun _=>
 some s3.1) some
theorem mM {N:Nat} {G:aU} {Lf:List Ent} {w:World} (s_:List aC) {U:Option Addr} {B:Nat}  (hc:Ctx G (.row U B (s_.map aH) 51 2::Lf) w) {X:(List aC)} (hF:cV N s_=some X):Calls Tryz.prog 57 #[.slice U s_.length B] w (fun e w=>e=.returned (.tuple #[])∧X.length=s_.length∧Ctx G (.row U B (X.map aH) 51 2::Lf) w):=by
 unfold cV at hF
 refine bU Tryz.func57 rfl Tryz.ntmps57 rfl fun a hf=>zS fun K h=>sp 1 hf rfl fun a hf=>zP hf rfl (cR Tryz.underlying79 rfl) fun a hf=>sp 3 hf rfl fun a hf=>zT h ?_
 refine lH fun K2 h2=>wp_block ?_
 obtain ⟨x3,v,hF⟩:=aA hF
 let S3:((List aC) × Int × Int)→Act→World→Prop:=(fun (zz:(List aC) × Int × Int) a w=>Has 28 a [(0,.slice U zz.1.length B),(2,i6 zz.2.1),(3,i6 zz.2.2)]∧Ctx G (.row U B (zz.1.map aH) 51 2::Lf) w)
 have u:∀ (zz:(List aC) × Int × Int) a w,x3=.go zz→S3 zz a w→K2 a w:=by
  rintro ⟨J,I,M⟩ a w rfl ⟨hf,hc⟩
  replace hF:=cI hF
  refine h2 _ _ ?_
  obtain ⟨_,ac,hF⟩:=uR hF
  obtain rfl:=sj hF
  exact rG (by simp) rfl Tryz.results57 hf ⟨rfl,ac,hc⟩
 have ak:∀ r,x3=.out r→r=X:=by
  rintro r rfl
  exact sj hF
 refine eR N (eO (S:=S3) (x:=x3) ?_ N (s_,0,W (((s_.length:Nat):Int) - 1)) _ _ ⟨hf.kp rfl,hc⟩ v)
 clear hF hf hc
 rintro ⟨J,I,M⟩ ai a w KB3 ⟨hf,hc⟩ hF V ab
 unfold fC at hF
 refine wp_seq_k fun K4 h4=>zS fun K h=>sp 3 hf rfl fun a hf=>zT h ?_
 refine zI hf rfl hF ?_ ?_ <;> clear hF <;> intro hF
 ·refine wp_skip ?_
  refine h4 _ _ ?_
  refine wp_seq_k fun K6 h6=>wp_block ?_
  obtain ⟨O,m,hF⟩:=aA hF
  obtain ⟨g,rfl,qa,qr⟩:=jM hc m0 m
  obtain ⟨R,p,hF⟩:=aA hF
  obtain ⟨j,t⟩:=iF hc m0 p
  obtain ⟨am,b,hF⟩:=aA hF
  obtain ⟨s,af⟩:=iF hc m0 b
  obtain ⟨aj,Z,hF⟩:=aA hF
  obtain ⟨q,ag⟩:=iF hc m0 Z
  refine iE (fun θ=>[⟨none,none,0,.slice (some ⟨g,0,none⟩) J.length B⟩,⟨none,none,2,i6 I⟩,⟨none,none,3,i6 M⟩,⟨some 0,none,14,.slice (some ⟨g,0,none⟩) J.length B⟩,⟨some 1,none,15,i6 I⟩,⟨some 2,none,16,.slice (some ⟨g,0,none⟩) J.length B⟩,⟨some 3,none,17,i6 M⟩,⟨some 4,none,18,.slice (some ⟨g,0,none⟩) J.length B⟩,⟨some 5,none,19,i6 M⟩,⟨some 6,none,20,.pointer (some ⟨g,M.toNat * 2,none⟩)⟩,⟨some 7,none,21,.agg #[i6 O.Lo,i6 O.Hi]⟩,⟨some 8,none,22,.slice (some ⟨g,0,none⟩) J.length B⟩,⟨some 9,none,23,i6 I⟩,⟨some 10,none,24,.pointer (some ⟨g,I.toNat * 2,none⟩)⟩,⟨some 11,none,25,.agg #[i6 R.Lo,i6 R.Hi]⟩,⟨some 12,none,26,.pointer (some ⟨g,I.toNat * 2,none⟩)⟩,⟨some 14,none,27,.pointer (some ⟨g,M.toNat * 2,none⟩)⟩]) (fun E θ=>(bif E 15 then .row (some ⟨g,0,none⟩) B (((J.set I.toNat O).set M.toNat R).map aH) 51 2 else bif E 13 then .row (some ⟨g,0,none⟩) B ((J.set I.toNat O).map aH) 51 2 else .row (some ⟨g,0,none⟩) B (J.map aH) 51 2)::Lf) [(13,6),(15,6),(13,7),(15,7),(11,10),(13,11),(15,10),(15,11),(13,12),(15,12),(15,13),(15,14)] (fun a w=>Has 28 a [(0,.slice (some ⟨g,0,none⟩) J.length B),(2,i6 I),(3,i6 M)]∧Ctx G (.row (some ⟨g,0,none⟩) B (((J.set I.toNat O).set M.toNat R).map aH) 51 2::Lf) w) aW (by kernel_rfl) (by kernel_rfl) (eV.of hf ⟨rfl,rfl,rfl,trivial,trivial,trivial,trivial,trivial,trivial,trivial,trivial,trivial,trivial,trivial,trivial,trivial,trivial,trivial⟩) hc ⟨?_,?_,?_,?_,?_,?_,?_,?_,?_,?_,?_,?_,?_,?_,?_,?_,trivial⟩ ?_ ?_
  ·intro E θ a w hD hi hp he hc
   have hf:=he.h0.mT he 0 rfl
   refine sp 1 hf rfl fun a hf=>zD θ he hi hf 3 rfl rfl rfl hc
  ·intro E θ a w hD hi hp he hc
   have hf:=he.h0.mT he 1 rfl
   refine sp 1 hf rfl fun a hf=>zD θ he hi hf 4 rfl rfl rfl hc
  ·intro E θ a w hD hi hp he hc
   have hf:=he.h0.mT he 0 rfl
   refine sp 1 hf rfl fun a hf=>zD θ he hi hf 5 rfl rfl rfl hc
  ·intro E θ a w hD hi hp he hc
   have hf:=he.h0.mT he 2 rfl
   refine sp 1 hf rfl fun a hf=>zD θ he hi hf 6 rfl rfl rfl hc
  ·intro E θ a w hD hi hp he hc
   have hf:=he.h0.mT he 0 rfl
   refine sp 1 hf rfl fun a hf=>zD θ he hi hf 7 rfl rfl rfl hc
  ·intro E θ a w hD hi hp he hc
   have hf:=he.h0.mT he 2 rfl
   refine sp 1 hf rfl fun a hf=>zD θ he hi hf 8 rfl rfl rfl hc
  ·intro E θ a w hD hi hp he hc
   have e4:=hp.o 4 rfl
   have e5:=hp.o 5 rfl
   have H:=hD.f 0 rfl hi
   have D:=hD.f 1 rfl hi
   try dsimp only at hc
   rw [H,D] at hc
   have hf:=(he.h0.mP he 7 rfl e4).mP he 8 rfl e5
   refine zP hf rfl (pIA Tryz.underlying79 fN rfl rfl qa) fun a hf=>zD θ he hi hf 9 rfl rfl rfl ?_
   try dsimp only
   rw [aV 6 H rfl,aV 6 D rfl]
   exact hc
  ·intro E θ a w hD hi hp he hc
   have e6:=hp.o 6 rfl
   have H:=hD.f 2 rfl hi
   have D:=hD.f 3 rfl hi
   try dsimp only at hc
   rw [H,D] at hc
   have hf:=he.h0.mP he 9 rfl e6
   refine zE hf hc rfl (jE (vs:=[i6 O.Lo,i6 O.Hi]) iS rfl rfl (jV (sz:=2) (i:=M.toNat) m0 qr (n:=2) (o':=0) rfl)) fun a w hf hc=>zD θ he hi hf 10 rfl rfl rfl ?_
   try dsimp only
   rw [aV 7 H rfl,aV 7 D rfl]
   exact hc
  ·intro E θ a w hD hi hp he hc
   have hf:=he.h0.mT he 0 rfl
   refine sp 1 hf rfl fun a hf=>zD θ he hi hf 11 rfl rfl rfl hc
  ·intro E θ a w hD hi hp he hc
   have hf:=he.h0.mT he 1 rfl
   refine sp 1 hf rfl fun a hf=>zD θ he hi hf 12 rfl rfl rfl hc
  ·intro E θ a w hD hi hp he hc
   have e8:=hp.o 8 rfl
   have e9:=hp.o 9 rfl
   have d:=hD.f 4 rfl hi
   have H:=hD.f 5 rfl d
   have D:=hD.f 6 rfl hi
   try dsimp only at hc
   rw [H,D] at hc
   have hf:=(he.h0.mP he 11 rfl e8).mP he 12 rfl e9
   refine zP hf rfl (pIA Tryz.underlying79 fN rfl rfl j) fun a hf=>zD θ he hi hf 13 rfl rfl rfl ?_
   try dsimp only
   rw [aV 10 H rfl,aV 10 D rfl]
   exact hc
  ·intro E θ a w hD hi hp he hc
   have y:=hp.o 10 rfl
   have H:=hD.f 5 rfl hi
   have D:=hD.f 7 rfl hi
   try dsimp only at hc
   rw [H,D] at hc
   have hf:=he.h0.mP he 13 rfl y
   refine zE hf hc rfl (jE (vs:=[i6 R.Lo,i6 R.Hi]) iS rfl rfl (jV (sz:=2) (i:=I.toNat) m0 t (n:=2) (o':=0) rfl)) fun a w hf hc=>zD θ he hi hf 14 rfl rfl rfl ?_
   try dsimp only
   rw [aV 11 H rfl,aV 11 D rfl]
   exact hc
  ·intro E θ a w hD hi hp he hc
   have e0:=hp.o 0 rfl
   have e1:=hp.o 1 rfl
   have H:=hD.f 8 rfl hi
   have D:=hD.f 9 rfl hi
   try dsimp only at hc
   rw [H,D] at hc
   have hf:=(he.h0.mP he 3 rfl e0).mP he 4 rfl e1
   refine zP hf rfl (pIA Tryz.underlying79 fN rfl rfl s) fun a hf=>zD θ he hi hf 15 rfl rfl rfl ?_
   try dsimp only
   rw [aV 12 H rfl,aV 12 D rfl]
   exact hc
  ·intro E θ a w hD hi hp he hc
   have e7:=hp.o 7 rfl
   have aa:=hp.o 12 rfl
   have D:=hD.f 10 rfl hi
   try dsimp only at hc
   rw [hi,D] at hc
   have hf:=(he.h0.mP he 10 rfl e7).mP he 15 rfl aa
   refine aCs (sz:=2) (vs:=[i6 O.Lo,i6 O.Hi]) (o':=0) (z:=O) (xs:=J) hf hc rfl rfl rfl rfl fN rfl (fun x=>(gU x).1) (nA b) (fun _ _=>rfl) rfl u0 fun w hc=>zG θ he hi hf rfl ?_
   try dsimp only
   rw [aX E 13,aV 13 D rfl]
   exact hc
  ·intro E θ a w hD hi hp he hc
   have e2:=hp.o 2 rfl
   have e3:=hp.o 3 rfl
   have H:=hp.o 13 rfl
   have D:=hD.f 11 rfl hi
   try dsimp only at hc
   rw [H,D] at hc
   have hf:=(he.h0.mP he 5 rfl e2).mP he 6 rfl e3
   refine zP hf rfl (pIA Tryz.underlying79 fN rfl rfl q) fun a hf=>zD θ he hi hf 16 rfl rfl rfl ?_
   try dsimp only
   rw [eL 14 H,aV 14 D rfl]
   exact hc
  ·intro E θ a w hD hi hp he hc
   have d:=hp.o 11 rfl
   have ad:=hp.o 14 rfl
   have H:=hp.o 13 rfl
   try dsimp only at hc
   rw [H,hi] at hc
   have hf:=(he.h0.mP he 14 rfl d).mP he 16 rfl ad
   refine aCs (sz:=2) (vs:=[i6 R.Lo,i6 R.Hi]) (o':=0) (z:=R) (xs:=(J.set I.toNat O)) hf hc rfl rfl rfl rfl fN rfl (fun x=>(gU x).1) (by simpa using nA Z) (fun _ _=>rfl) rfl u0 fun w hc=>zG θ he hi hf rfl ?_
   try dsimp only
   rw [eL 15 H,aX E 15]
   exact hc
  ·intro E θ a w Y he hc
   have hf:=he.h0
   have H:=Y 13 rfl
   have D:=Y 15 rfl
   replace hf:=hf.more he 2 rfl (onT)
   replace hf:=hf.more he 1 rfl (onT)
   replace hf:=hf.more he 0 rfl (onT)
   try dsimp only at hc
   rw [H,D] at hc
   exact ⟨hf.kp rfl,hc⟩
  rintro a w ⟨hf,hc⟩
  refine h6 _ _ ?_
  refine eB ?_
  refine sp 6 hf rfl fun a hf=>aS ?_
  replace hf:=hf.castAt 0 (v':=.slice (some ⟨g,0,none⟩) (((J.set I.toNat O).set M.toNat R).length) B) rfl (congrArg (fun k=>Value.slice (some ⟨g,0,none⟩) k B) (by simp))
  exact ab (((J.set I.toNat O).set M.toNat R),W (I + 1),W (M - 1)) _ _ (sj hF).symm ⟨hf.kp rfl,hc⟩
 ·refine wp_exit ?_
  refine bI ?_
  refine bI ?_
  have he:=sj hF
  rw [← he] at V
  refine fZ ?_
  exact u _ _ _ V ⟨hf.kp rfl,hc⟩

def jF (N:Nat) (s_:aC) (x:Nat→Int) (xv:Int) (B:Int):Option (Rs ((Nat→Int))) :=
 cond (!(bD B s_.Lo s_.Hi))
 (Option.bind (inR xv 601) fun un=>
 some (.go (kU x xv.toNat 1073741824)))
 (some (.go x))
def pD (N:Nat) (s_:aC):Option ((Nat→Int)) :=
 Option.bind (eA N (rY (fun (zz:(Nat→Int)) (D:(Int × Int))=>jF N s_ zz D.1 D.2)) (.go (fun _=>0))) fun x5=>
 rsK x5 (fun B=>some B) (fun B=>none)
theorem aCc {N:Nat} {G:aU} {Lf:List Ent} {w:World} (s_:aC)   (hc:Ctx G (Lf) w) {I:(Nat→Int)} (hF:pD N s_=some I):Calls Tryz.prog 92 #[.agg #[i6 s_.Lo,i6 s_.Hi]] w (fun e w=>∃ (S:Nat),e=.returned (pq S)∧Ctx G (.box S (aN [] 601 aB I []) 87::Lf) w):=by
 unfold pD at hF
 refine xK Tryz.func92 rfl Tryz.ntmps92 rfl fun a hf=>zS fun K h=>zB hf hc rfl fun D a w hf hc=>sp 1 hf rfl fun a hf=>zT h ?_
 refine zS fun K h=>aKl (cs:=(aN [] 601 aB (fun _=>0) [])) hf hc rfl rfl aJ5 rfl fun B a w hf hc=>zT h ?_
 refine wp_seq_k fun K3 h3=>zS fun K h=>zQ (v:=.func (.func 60) #[] #[]) hf hc aHd rfl (fun w hc=>mY hc rfl) fun a w hf hc=>zT h ?_
 obtain ⟨x5,U,hF⟩:=aA hF
 refine aD3 (C:=[]) (C2:=[]) (L0:=[.box B (aN [] 601 aB ((fun _=>0)) []) 87,.box D [i6 s_.Lo,i6 s_.Hi] 51]) (Lf:=Lf) (encs:=fun x:(Int × Int)=>[i6 x.1,i6 x.2]) (fun (zz:(Nat→Int)) L=>L=[.box B (aN [] 601 aB zz []) 87,.box D [i6 s_.Lo,i6 s_.Hi] 51]) (fun (zz:(Nat→Int)) (R:(Int × Int))=>jF N s_ zz R.1 R.2) (fun _=>0) x5 hf hc rfl aIi (fun _=>rfl) rfl rfl ?_ ?_ ?_ ?_
 ·intro lq mq J L Lx w hy hJ hc
  exact lM  J _ hy _ hJ hc U
 ·clear hF hf hc
  rintro lq mq x ⟨xv,H⟩ oq _ Lr Lb a w V rfl hF hf hc hK
  replace hf:Has 18 a [(1,pq D),(3,pq B),(7,i6 xv),(8,i6 H)]:=hf.kp rfl
  replace hc:Ctx G (.box B (aN [] 601 aB x []) 87::.box D [i6 s_.Lo,i6 s_.Hi] 51::Lr) w:=hc
  replace hF:jF N s_ x xv H=some oq:=hF
  unfold jF at hF
  refine qA fun K6 h6=>mU (fun _ _ h=>h) rfl ?_
  refine sp 1 hf rfl fun a hf=>aS ?_
  refine h6 _ _ ?_
  refine mU (fun _ _ h=>h) rfl ?_
  refine sp 1 hf rfl fun a hf=>aS ?_
  refine hK _ _ [.box B (aN [] 601 aB x []) 87,.box D [i6 s_.Lo,i6 s_.Hi] 51] hc fun w hc=>?_
  replace hc:Ctx G (.box B (aN [] 601 aB x []) 87::.box D [i6 s_.Lo,i6 s_.Hi] 51::Lb) w:=hc
  refine rK fun K7 h7=>pW ?_
  refine qA fun K8 h8=>mU (fun _ _ h=>h) rfl ?_
  refine sp 1 hf rfl fun a hf=>zP hf rfl (pFA fY rfl) fun a hf=>zL hf hc aY m1 rfl fun a w hf hc=>zP hf rfl (pFA fD rfl) fun a hf=>zL hf hc aY m1 rfl fun a w hf hc=>zQ (v:=.bool (bD H s_.Lo s_.Hi)) hf hc vH rfl (fun w hc=>hU H s_.Lo s_.Hi hc rfl) fun a w hf hc=>sp 1 hf rfl fun a hf=>aS ?_
  refine h8 _ _ ?_
  refine xR (b:=(!(bD H s_.Lo s_.Hi))) hf rfl (fun hb=>?_) (fun hb=>?_)
  ·replace hF:=mN hb hF
   clear hb
   refine mU (fun _ _ h=>h) rfl ?_
   refine sp 1 hf rfl fun a hf=>?_
   obtain ⟨un,M,hF⟩:=aA hF
   refine zP hf rfl (kK Tryz.underlying87 eQ rfl rfl (aT M).1 (aT M).2) fun a hf=>aEn (vs:=[i6 1073741824]) (o':=0) (z:=1073741824) hf hc rfl rfl rfl rfl eQ rfl (fun x=>(bA x).1) rfl M rfl rfl u0 fun w hc=>aS ?_
   refine h7 _ _ ?_
   exact ⟨(kU x xv.toNat 1073741824),_,(sj hF).symm,rfl,hc⟩
  ·replace hF:=mR hb hF
   clear hb
   refine yB ?_
   refine h7 _ _ ?_
   exact ⟨x,_,(sj hF).symm,rfl,hc⟩
 ·rintro D_1 x _ a w O rfl hf hc
  replace hf:Has ⟨18,jA (D_1::[])⟩ a [(1,pq D),(3,pq B)]:=hf.kp rfl
  replace hc:Ctx G (.box B (aN [] 601 aB x []) 87::.box D [i6 s_.Lo,i6 s_.Hi] 51::(kV (D_1::[])++Lf)) w:=kS (C:=[]) (L:=[.box B (aN [] 601 aB x []) 87,.box D [i6 s_.Lo,i6 s_.Hi] 51]) hc
  replace hF:(some x)=some I:=by rcases O with rfl | rfl <;> exact hF
  refine h3 _ _ ?_
  refine zS fun K h=>sp 1 hf rfl fun a hf=>zT h ?_
  refine wp_ret ?_
  obtain rfl:=sj hF
  replace hc:=hc.drop k1
  refine wV hf ?_
  refine uC [.box B (aN [] 601 aB x []) 87] (D_1::[]) hc fun w hc=>?_
  replace hc:Ctx G (.box B (aN [] 601 aB x []) 87::Lf) w:=hc
  exact aDg Tryz.results92 hf hc (show eZ _ 2=_ from rfl) ⟨B,rfl,hc⟩
 ·rintro D_1 x _ a w O rfl hf hc
  replace hf:Has ⟨18,jA (D_1::[])⟩ a [(1,pq D),(3,pq B)]:=hf.kp rfl
  replace hc:Ctx G (.box B (aN [] 601 aB x []) 87::.box D [i6 s_.Lo,i6 s_.Hi] 51::(kV (D_1::[])++Lf)) w:=kS (C:=[]) (L:=[.box B (aN [] 601 aB x []) 87,.box D [i6 s_.Lo,i6 s_.Hi] 51]) hc
  replace hF:(none)=some I:=by subst O; exact hF
  cases hF

def fP (N:Nat) (s_:aC) (B:Nat→Int) (xv:Int) (D:Int):Option (Rs ((Nat→Int))) :=
 cond (!(bD D s_.Lo s_.Hi))
 (Option.bind (inR xv 601) fun un=>
 some (.go (kU B xv.toNat 1073741824)))
 (some (.go B))
def jD (N:Nat) (m:Nat→Int) (D:Int) (B:Int) (H:Nat→Int):Option (cP (Int × Int × (Nat→Int)) ((Nat→Int))) :=
 cond (decide (0≤B))
 (Option.bind (inR B 601) fun I=>
 Option.bind (inR B 601) fun M=>
 Option.bind (inR B 601) fun J=>
 some (.cont (min (W (D + 1)) (m B.toNat),W (B - 1),(kU H B.toNat (min (H B.toNat) (min (W (D + 1)) (m B.toNat)))))))
 (some (.brk (D,B,H)))
def kF (N:Nat) (m:Nat→Int) (B:Int) (x:Int) (D:Nat→Int):Option (cP (Int × Int × (Nat→Int)) ((Nat→Int))) :=
 cond (decide (x < 601))
 (Option.bind (inR x 601) fun I=>
 Option.bind (inR x 601) fun H=>
 some (.cont (min (W (B + 1)) (m x.toNat),W (x + 1),(kU D x.toNat (min (W (B + 1)) (m x.toNat))))))
 (some (.brk (B,x,D)))
def lT (N:Nat) (m:Nat→Int) (s_:aC):Option ((Nat→Int)) :=
 Option.bind (rO (aL 601 m) 0 ((601:Nat):Int)) fun sub=>
 Option.bind (bC (fun s7=>kF N m s7.1 s7.2.1 s7.2.2) N (1073741824,0,(fun _=>0))) fun x7=>
 exK x7 (fun s7=>Option.bind (bC (fun B=>jD N m B.1 B.2.1 B.2.2) N (1073741824,600,s7.2.2)) fun I=>
 exK I (fun B=>Option.bind (eA N (rY (fun (zz:(Nat→Int)) (H:(Int × Int))=>fP N s_ zz H.1 H.2)) (.go B.2.2)) fun J=>
 rsK J (fun D=>some D) (fun D=>none)) some) some
theorem xN {N:Nat} {G:aU} {Lf:List Ent} {w:World} (m:Nat→Int) (s_:aC) {b_:Nat}  (hc:Ctx G (.box b_ (aN [] 601 aB m []) 87::Lf) w) {X:(Nat→Int)} (hF:lT N m s_=some X):Calls Tryz.prog 93 #[pq b_,.agg #[i6 s_.Lo,i6 s_.Hi]] w (fun e w=>e=.returned (.tuple #[])∧Ctx G (.box b_ (aN [] 601 aB X []) 87::Lf) w):=by
 unfold lT at hF
 refine xK Tryz.func93 rfl Tryz.ntmps93 rfl fun a hf=>zS fun K h=>zB hf hc rfl fun M a w hf hc=>zB hf hc rfl fun I a w hf hc=>zT h ?_
 refine zS fun K h=>zL hf hc zR m1 rfl fun a w hf hc=>sp 1 hf rfl fun a hf=>zE hf hc rfl (jE (vs:=(aN [] 601 aB m [])) aCy rfl (dC _).1 (bR (n:=601) m2 (aC4 (dC _).1))) fun a w hf hc=>aKl (cs:=(aN [] 601 aB (fun _=>0) [])) hf hc rfl rfl aJ5 rfl fun R a w hf hc=>aMi (enc:=cT) (f:=(fun _=>0)) (z:=m) hf hc rfl rfl rfl dC wL u0 fun w hc=>zT h ?_
 refine zS fun K h=>zL hf hc zR m2 rfl fun a w hf hc=>sp 1 hf rfl fun a hf=>?_
 obtain ⟨sub,u,hF⟩:=aA hF
 refine zP hf rfl (pSlA (xs:=(aL 601 m)) Tryz.underlying87 eQ rfl vO rfl rfl u) fun a hf=>stClN (n:=601) (f:=m) (x0:=0) (v:=i6 0) hf hc rfl Tryz.underlying26 aJu rfl rfl rfl subP0 (aJ6 u rfl rfl) rfl rfl (fun x=>(bA x).1) u3 fun w hc=>zT h ?_
 refine zS fun K h=>sp 1 hf rfl fun a hf=>zT h ?_
 refine wp_seq_k fun K5 h5=>zS fun K h=>sp 1 hf rfl fun a hf=>zT h ?_
 refine wp_block ?_
 obtain ⟨x7,ax,hF⟩:=aA hF
 let S7:(Int × Int × (Nat→Int))→Act→World→Prop:=(fun (zz:Int × Int × (Nat→Int)) a w=>Has 66 a [(2,pq M),(3,pq I),(4,pq R),(5,i6 zz.1),(16,i6 zz.2.1)]∧Ctx G (.box R (aN [] 601 aB m []) 87::.box I [i6 s_.Lo,i6 s_.Hi] 51::.box M [pq b_] 187::.box b_ (aN [] 601 aB zz.2.2 []) 87::Lf) w)
 have aq:∀ (zz:Int × Int × (Nat→Int)) a w,x7=.go zz→S7 zz a w→K5 a w:=by
  rintro ⟨U,x,p⟩ a w rfl ⟨hf,hc⟩
  replace hF:=cI hF
  refine h5 _ _ ?_
  refine zS fun K h=>sp 1 hf rfl fun a hf=>zT h ?_
  refine wp_seq_k fun K9 h9=>zS fun K h=>sp 1 hf rfl fun a hf=>zT h ?_
  refine wp_block ?_
  obtain ⟨t,aj,hF⟩:=aA hF
  let S11:(Int × Int × (Nat→Int))→Act→World→Prop:=(fun (zz:Int × Int × (Nat→Int)) a w=>Has 66 a [(2,pq M),(3,pq I),(4,pq R),(5,i6 zz.1),(7,i6 zz.2.1)]∧Ctx G (.box R (aN [] 601 aB m []) 87::.box I [i6 s_.Lo,i6 s_.Hi] 51::.box M [pq b_] 187::.box b_ (aN [] 601 aB zz.2.2 []) 87::Lf) w)
  have af:∀ (zz:Int × Int × (Nat→Int)) a w,t=.go zz→S11 zz a w→K9 a w:=by
   rintro ⟨D,B,O⟩ a w rfl ⟨hf,hc⟩
   replace hF:=cI hF
   refine h9 _ _ ?_
   refine zS fun K h=>zQ (v:=.func (.func 60) #[] #[]) hf hc aHd rfl (fun w hc=>mY hc rfl) fun a w hf hc=>zT h ?_
   obtain ⟨az,ag,hF⟩:=aA hF
   replace hc:=hc.drop k0
   refine aD3 (C:=[]) (C2:=[]) (L0:=[.box I [i6 s_.Lo,i6 s_.Hi] 51,.box M [pq b_] 187,.box b_ (aN [] 601 aB O []) 87]) (Lf:=Lf) (encs:=fun x:(Int × Int)=>[i6 x.1,i6 x.2]) (fun (zz:(Nat→Int)) L=>L=[.box I [i6 s_.Lo,i6 s_.Hi] 51,.box M [pq b_] 187,.box b_ (aN [] 601 aB zz []) 87]) (fun (zz:(Nat→Int)) (ab:(Int × Int))=>fP N s_ zz ab.1 ab.2) O az hf hc rfl aIi (fun _=>rfl) rfl rfl ?_ ?_ ?_ ?_
   ·intro lq mq J L Lx w hy hJ hc
    exact lM  J _ hy _ hJ hc ag
   ·clear hF hf hc
    rintro lq mq H ⟨xv,V⟩ oq _ Lr Lb a w a8 rfl hF hf hc hK
    replace hf:Has 66 a [(2,pq M),(3,pq I),(53,i6 xv),(54,i6 V)]:=hf.kp rfl
    replace hc:Ctx G (.box I [i6 s_.Lo,i6 s_.Hi] 51::.box M [pq b_] 187::.box b_ (aN [] 601 aB H []) 87::Lr) w:=hc
    replace hF:fP N s_ H xv V=some oq:=hF
    unfold fP at hF
    refine qA fun K14 ak=>mU (fun _ _ h=>h) rfl ?_
    refine sp 1 hf rfl fun a hf=>aS ?_
    refine ak _ _ ?_
    refine mU (fun _ _ h=>h) rfl ?_
    refine sp 1 hf rfl fun a hf=>aS ?_
    refine hK _ _ [.box I [i6 s_.Lo,i6 s_.Hi] 51,.box M [pq b_] 187,.box b_ (aN [] 601 aB H []) 87] hc fun w hc=>?_
    replace hc:Ctx G (.box I [i6 s_.Lo,i6 s_.Hi] 51::.box M [pq b_] 187::.box b_ (aN [] 601 aB H []) 87::Lb) w:=hc
    refine rK fun K15 ac=>pW ?_
    refine qA fun K16 au=>mU (fun _ _ h=>h) rfl ?_
    refine sp 1 hf rfl fun a hf=>zP hf rfl (pFA fY rfl) fun a hf=>zL hf hc aY m0 rfl fun a w hf hc=>zP hf rfl (pFA fD rfl) fun a hf=>zL hf hc aY m0 rfl fun a w hf hc=>zQ (v:=.bool (bD V s_.Lo s_.Hi)) hf hc vH rfl (fun w hc=>hU V s_.Lo s_.Hi hc rfl) fun a w hf hc=>sp 1 hf rfl fun a hf=>aS ?_
    refine au _ _ ?_
    refine xR (b:=(!(bD V s_.Lo s_.Hi))) hf rfl (fun hb=>?_) (fun hb=>?_)
    ·replace hF:=mN hb hF
     clear hb
     refine mU (fun _ _ h=>h) rfl ?_
     refine zL hf hc zR m1 rfl fun a w hf hc=>sp 2 hf rfl fun a hf=>?_
     obtain ⟨un,aa,hF⟩:=aA hF
     refine zP hf rfl (kK Tryz.underlying87 eQ rfl rfl (aT aa).1 (aT aa).2) fun a hf=>aEn (vs:=[i6 1073741824]) (o':=0) (z:=1073741824) hf hc rfl rfl rfl rfl eQ rfl (fun x=>(bA x).1) rfl aa rfl rfl u2 fun w hc=>aS ?_
     refine ac _ _ ?_
     exact ⟨(kU H xv.toNat 1073741824),_,(sj hF).symm,rfl,hc⟩
    ·replace hF:=mR hb hF
     clear hb
     refine yB ?_
     refine ac _ _ ?_
     exact ⟨H,_,(sj hF).symm,rfl,hc⟩
   ·rintro D_1 H _ a w y rfl hf hc
    replace hf:Has ⟨66,jA (D_1::[])⟩ a [(2,pq M),(3,pq I)]:=hf.kp rfl
    replace hc:Ctx G (.box I [i6 s_.Lo,i6 s_.Hi] 51::.box M [pq b_] 187::.box b_ (aN [] 601 aB H []) 87::(kV (D_1::[])++Lf)) w:=kS (C:=[]) (L:=[.box I [i6 s_.Lo,i6 s_.Hi] 51,.box M [pq b_] 187,.box b_ (aN [] 601 aB H []) 87]) hc
    replace hF:(some H)=some X:=by rcases y with rfl | rfl <;> exact hF
    obtain rfl:=sj hF
    replace hc:=(hc.drop k1).drop k0
    refine wV hf ?_
    refine uC [.box b_ (aN [] 601 aB H []) 87] (D_1::[]) hc fun w hc=>?_
    replace hc:Ctx G (.box b_ (aN [] 601 aB H []) 87::Lf) w:=hc
    exact aM2 Tryz.results93 ⟨rfl,hc⟩
   ·rintro D_1 H _ a w y rfl hf hc
    replace hf:Has ⟨66,jA (D_1::[])⟩ a [(2,pq M),(3,pq I)]:=hf.kp rfl
    replace hc:Ctx G (.box I [i6 s_.Lo,i6 s_.Hi] 51::.box M [pq b_] 187::.box b_ (aN [] 601 aB H []) 87::(kV (D_1::[])++Lf)) w:=kS (C:=[]) (L:=[.box I [i6 s_.Lo,i6 s_.Hi] 51,.box M [pq b_] 187,.box b_ (aN [] 601 aB H []) 87]) hc
    replace hF:(none)=some X:=by subst y; exact hF
    cases hF
  have a2:∀ r,t=.out r→r=X:=by
   rintro r rfl
   exact sj hF
  refine eR N (eO (S:=S11) (x:=t) ?_ N (1073741824,600,p) _ _ ⟨hf.kp rfl,hc⟩ aj)
  clear hF hf hc
  rintro ⟨D,B,O⟩ a6 a w KB11 ⟨hf,hc⟩ hF k ai
  unfold jD at hF
  refine wp_seq_k fun K17 ap=>zS fun K h=>sp 2 hf rfl fun a hf=>zT h ?_
  refine zI hf rfl hF ?_ ?_ <;> clear hF <;> intro hF
  ·refine wp_skip ?_
   refine ap _ _ ?_
   refine wp_seq_k fun K19 av=>wp_block ?_
   refine zS fun K h=>sp 3 hf rfl fun a hf=>?_
   obtain ⟨a3,i,hF⟩:=aA hF
   refine zP hf rfl (kK Tryz.underlying87 eQ rfl rfl (aT i).1 (aT i).2) fun a hf=>zE hf hc rfl (cN aY rfl (gF (j:=0) m0 (fun x=>(bA x).1) rfl i rfl)) fun a w hf hc=>zP hf rfl (aC3 rfl rfl) fun a hf=>sp 1 hf rfl fun a hf=>zT h ?_
   obtain ⟨a1,d,hF⟩:=aA hF
   obtain ⟨a5,Z,hF⟩:=aA hF
   refine iE (fun θ=>[⟨none,none,2,pq M⟩,⟨none,none,3,pq I⟩,⟨none,none,4,pq R⟩,⟨none,none,5,i6 (min (W (D + 1)) (m B.toNat))⟩,⟨none,none,7,i6 B⟩,⟨some 0,none,41,pq b_⟩,⟨some 1,none,42,i6 B⟩,⟨some 2,none,43,pq b_⟩,⟨some 3,none,44,i6 B⟩,⟨some 4,none,45,pq b_⟩,⟨some 5,none,46,.pointer (some ⟨b_,0 + B.toNat * 1,none⟩)⟩,⟨some 6,none,47,i6 (O B.toNat)⟩,⟨some 7,none,48,i6 (min (W (D + 1)) (m B.toNat))⟩,⟨some 8,none,49,i6 (min (O B.toNat) (min (W (D + 1)) (m B.toNat)))⟩,⟨some 9,none,50,pq b_⟩,⟨some 10,none,51,.pointer (some ⟨b_,0 + B.toNat * 1,none⟩)⟩]) (fun E θ=>.box R (aN [] 601 aB m []) 87::.box I [i6 s_.Lo,i6 s_.Hi] 51::.box M [pq b_] 187::(bif E 11 then .box b_ (aN [] 601 aB (kU O B.toNat (min (O B.toNat) (min (W (D + 1)) (m B.toNat)))) []) 87 else .box b_ (aN [] 601 aB O []) 87)::Lf) [(11,6)] (fun a w=>Has 66 a [(2,pq M),(3,pq I),(4,pq R),(5,i6 (min (W (D + 1)) (m B.toNat))),(7,i6 B)]∧Ctx G (.box R (aN [] 601 aB m []) 87::.box I [i6 s_.Lo,i6 s_.Hi] 51::.box M [pq b_] 187::.box b_ (aN [] 601 aB (kU O B.toNat (min (O B.toNat) (min (W (D + 1)) (m B.toNat)))) []) 87::Lf) w) aW (by kernel_rfl) (by kernel_rfl) (eV.of hf ⟨rfl,rfl,rfl,rfl,rfl,trivial,trivial,trivial,trivial,trivial,trivial,trivial,trivial,trivial,trivial,trivial,trivial⟩) hc ⟨?_,?_,?_,?_,?_,?_,?_,?_,?_,?_,?_,?_,trivial⟩ ?_ ?_
   ·intro E θ a w hD hi hp he hc
    have hf:=he.h0.mT he 0 rfl
    refine zL hf hc zR m2 rfl fun a w hf hc=>zD θ he hi hf 5 rfl rfl rfl hc
   ·intro E θ a w hD hi hp he hc
    have hf:=he.h0.mT he 4 rfl
    refine sp 1 hf rfl fun a hf=>zD θ he hi hf 6 rfl rfl rfl hc
   ·intro E θ a w hD hi hp he hc
    have hf:=he.h0.mT he 0 rfl
    refine zL hf hc zR m2 rfl fun a w hf hc=>zD θ he hi hf 7 rfl rfl rfl hc
   ·intro E θ a w hD hi hp he hc
    have hf:=he.h0.mT he 4 rfl
    refine sp 1 hf rfl fun a hf=>zD θ he hi hf 8 rfl rfl rfl hc
   ·intro E θ a w hD hi hp he hc
    have e2:=hp.o 2 rfl
    have hf:=he.h0.mP he 7 rfl e2
    refine sp 1 hf rfl fun a hf=>zD θ he hi hf 9 rfl rfl rfl hc
   ·intro E θ a w hD hi hp he hc
    have e3:=hp.o 3 rfl
    have e4:=hp.o 4 rfl
    have hf:=(he.h0.mP he 8 rfl e3).mP he 9 rfl e4
    refine zP hf rfl (kK Tryz.underlying87 eQ rfl rfl (aT d).1 (aT d).2) fun a hf=>zD θ he hi hf 10 rfl rfl rfl hc
   ·intro E θ a w hD hi hp he hc
    have e5:=hp.o 5 rfl
    have s:=hD.f 0 rfl hi
    try dsimp only at hc
    rw [s] at hc
    have hf:=he.h0.mP he 10 rfl e5
    refine zE hf hc rfl (cN aY rfl (gF (j:=0) m3 (fun x=>(bA x).1) rfl d rfl)) fun a w hf hc=>zD θ he hi hf 11 rfl rfl rfl ?_
    try dsimp only
    rw [aV 6 s rfl]
    exact hc
   ·intro E θ a w hD hi hp he hc
    have hf:=he.h0.mT he 3 rfl
    refine sp 1 hf rfl fun a hf=>zD θ he hi hf 12 rfl rfl rfl hc
   ·intro E θ a w hD hi hp he hc
    have e6:=hp.o 6 rfl
    have e7:=hp.o 7 rfl
    have hf:=(he.h0.mP he 11 rfl e6).mP he 12 rfl e7
    refine zP hf rfl (aC3 rfl rfl) fun a hf=>zD θ he hi hf 13 rfl rfl rfl hc
   ·intro E θ a w hD hi hp he hc
    have e0:=hp.o 0 rfl
    have hf:=he.h0.mP he 5 rfl e0
    refine sp 1 hf rfl fun a hf=>zD θ he hi hf 14 rfl rfl rfl hc
   ·intro E θ a w hD hi hp he hc
    have e1:=hp.o 1 rfl
    have e9:=hp.o 9 rfl
    have hf:=(he.h0.mP he 6 rfl e1).mP he 14 rfl e9
    refine zP hf rfl (kK Tryz.underlying87 eQ rfl rfl (aT Z).1 (aT Z).2) fun a hf=>zD θ he hi hf 15 rfl rfl rfl hc
   ·intro E θ a w hD hi hp he hc
    have e8:=hp.o 8 rfl
    have ar:=hp.o 10 rfl
    try dsimp only at hc
    rw [hi] at hc
    have hf:=(he.h0.mP he 13 rfl e8).mP he 15 rfl ar
    refine aEn (vs:=[i6 (min (O B.toNat) (min (W (D + 1)) (m B.toNat)))]) (o':=0) (z:=min (O B.toNat) (min (W (D + 1)) (m B.toNat))) hf hc rfl rfl rfl rfl eQ rfl (fun x=>(bA x).1) rfl Z rfl rfl u3 fun w hc=>zG θ he hi hf rfl ?_
    try dsimp only
    rw [aX E 11]
    exact hc
   ·intro E θ a w ad he hc
    have hf:=he.h0
    have s:=ad 11 rfl
    replace hf:=hf.more he 4 rfl (onT)
    replace hf:=hf.more he 3 rfl (onT)
    replace hf:=hf.more he 2 rfl (onT)
    replace hf:=hf.more he 1 rfl (onT)
    replace hf:=hf.more he 0 rfl (onT)
    try dsimp only at hc
    rw [s] at hc
    exact ⟨hf.kp rfl,hc⟩
   rintro a w ⟨hf,hc⟩
   refine av _ _ ?_
   refine eB ?_
   refine sp 3 hf rfl fun a hf=>aS ?_
   exact ai (min (W (D + 1)) (m B.toNat),W (B - 1),(kU O B.toNat (min (O B.toNat) (min (W (D + 1)) (m B.toNat))))) _ _ (sj hF).symm ⟨hf.kp rfl,hc⟩
  ·refine wp_exit ?_
   refine bI ?_
   refine bI ?_
   have he:=sj hF
   rw [← he] at k
   refine fZ ?_
   exact af _ _ _ k ⟨hf.kp rfl,hc⟩
 have a9:∀ r,x7=.out r→r=X:=by
  rintro r rfl
  exact sj hF
 refine eR N (eO (S:=S7) (x:=x7) ?_ N (1073741824,0,(fun _=>0)) _ _ ⟨hf.kp rfl,hc⟩ ax)
 clear hF hf hc
 rintro ⟨U,x,p⟩ a7 a w KB7 ⟨hf,hc⟩ hF q am
 unfold kF at hF
 refine zS fun K h=>sp 1 hf rfl fun a hf=>zT h ?_
 refine wp_seq_k fun K22 an=>zI hf rfl hF ?_ ?_ <;> clear hF <;> intro hF
 ·refine wp_skip ?_
  refine an _ _ ?_
  refine wp_seq_k fun K23 ay=>wp_block ?_
  refine zS fun K h=>sp 2 hf rfl fun a hf=>zT h ?_
  refine zS fun K h=>sp 3 hf rfl fun a hf=>?_
  obtain ⟨a4,Y,hF⟩:=aA hF
  refine zP hf rfl (kK Tryz.underlying87 eQ rfl rfl (aT Y).1 (aT Y).2) fun a hf=>zE hf hc rfl (cN aY rfl (gF (j:=0) m0 (fun x=>(bA x).1) rfl Y rfl)) fun a w hf hc=>zP hf rfl (aC3 rfl rfl) fun a hf=>sp 1 hf rfl fun a hf=>zT h ?_
  refine eB ?_
  refine zL hf hc zR m2 rfl fun a w hf hc=>sp 3 hf rfl fun a hf=>?_
  obtain ⟨a0,g,hF⟩:=aA hF
  refine zP hf rfl (kK Tryz.underlying87 eQ rfl rfl (aT g).1 (aT g).2) fun a hf=>aEn (vs:=[i6 (min (W (U + 1)) (m x.toNat))]) (o':=0) (z:=min (W (U + 1)) (m x.toNat)) hf hc rfl rfl rfl rfl eQ rfl (fun x=>(bA x).1) rfl g rfl rfl u3 fun w hc=>aS ?_
  refine ay _ _ ?_
  refine eB ?_
  refine sp 2 hf rfl fun a hf=>aS ?_
  exact am (min (W (U + 1)) (m x.toNat),W (x + 1),(kU p x.toNat (min (W (U + 1)) (m x.toNat)))) _ _ (sj hF).symm ⟨hf.kp rfl,hc⟩
 ·refine wp_exit ?_
  refine bI ?_
  refine bI ?_
  have he:=sj hF
  rw [← he] at q
  refine fZ ?_
  exact aq _ _ _ q ⟨hf.kp rfl,hc⟩

def gI (N:Nat) (sub:List aC) (out:List (Nat→Int)) (x:Int) (D:Nat→Int):Option (cP ((List (Nat→Int)) × Int × (Nat→Int)) ((List (Nat→Int)))) :=
 cond (decide (x < ((sub.length:Nat):Int)))
 (Option.bind (bQ sub x) fun H=>
 Option.bind (lT N D H) fun B=>
 Option.bind (rR ((out++[B])).length) fun un=>
 some (.cont ((out++[B]),W (x + 1),B)))
 (some (.brk (out,x,D)))
def lX (N:Nat) (l:List aC):Option ((List (Nat→Int))) :=
 Option.bind (bQ l 0) fun B=>
 Option.bind (pD N B) fun r=>
 Option.bind (rO l 1 ((l.length:Nat):Int)) fun sub=>
 Option.bind (bC (fun s6=>gI N sub s6.1 s6.2.1 s6.2.2) N (([r]:List (Nat→Int)),0,r)) fun x6=>
 exK x6 (fun s6=>some s6.1) some
theorem xY {N:Nat} {G:aU} {Lf:List Ent} {w:World} (l:List aC) {X:Option Addr} {I:Nat} (V:Rd G 2 X I (l.map aH)) (hc:Ctx G (Lf) w) {J:(List (Nat→Int))} (hF:lX N l=some J):Calls Tryz.prog 58 #[.slice X l.length I] w (fun e w=>∃ (d:Option Addr) (b:Nat),e=.returned (.slice d J.length b)∧Ctx G (.row d b (J.map cT) 87 601::Lf) w):=by
 unfold lX at hF
 refine bU Tryz.func58 rfl Tryz.ntmps58 rfl fun a hf=>zS fun K h=>sp 1 hf rfl fun a hf=>zT h ?_
 refine zS fun K h=>sp 1 hf rfl fun a hf=>?_
 obtain ⟨O,k,hF⟩:=aA hF
 obtain ⟨ac,o,qa,qp⟩:=V.atm k
 refine zP hf rfl (pIA Tryz.underlying79 fN rfl rfl qa) fun a hf=>zE hf hc rfl (jE (vs:=[i6 O.Lo,i6 O.Hi]) iS rfl rfl (dS qp (n:=2) (o':=0) rfl)) fun a w hf hc=>?_
 obtain ⟨r,hr,hF⟩:=aA hF
 refine zC hf en_92 rfl (aCc O hc hr) ?_
 rintro _ w ⟨Y,rfl,hc⟩
 refine ⟨_,rfl,fun a hf=>?_⟩
 refine sp 1 hf rfl fun a hf=>zT h ?_
 refine zS fun K h=>sp 2 hf rfl fun a hf=>zE hf hc rfl (jE (vs:=(aN [] 601 aB r [])) aCy rfl (dC _).1 (bR (n:=601) m0 (aC4 (dC _).1))) fun a w hf hc=>pJ (rows:=([r]:List (Nat→Int)).map cT) (vs:=[(0,.agg (aN [] 601 aB r []).toArray)]) hf hc rfl rfl aJ8 rfl ⟨rfl,rfl,(dC _).1,trivial⟩ rfl rfl fun u a w hf hc=>sp 1 hf rfl fun a hf=>zT h ?_
 refine wp_seq_k fun K4 h4=>zS fun K h=>sp 1 hf rfl fun a hf=>?_
 obtain ⟨sub,R,hF⟩:=aA hF
 have qs:=Rd.sub V R
 refine zP hf rfl (pSl Tryz.underlying79 fN rfl rfl (by simpa using V.1) rfl rfl R) fun a hf=>zP hf rfl (cR Tryz.underlying79 rfl) fun a hf=>sp 1 hf rfl fun a hf=>zT h ?_
 refine wp_block ?_
 obtain ⟨x6,p,hF⟩:=aA hF
 let S6:((List (Nat→Int)) × Int × (Nat→Int))→Act→World→Prop:=(fun (zz:(List (Nat→Int)) × Int × (Nat→Int)) a w=>∃ (D:Option Addr) (H:Nat),Has 33 a [(3,pq Y),(4,.slice D zz.1.length H),(16,.slice (uI X I (1:Int).toNat 2) sub.length (I - (1:Int).toNat)),(17,i6 ((sub.length:Nat):Int)),(18,i6 zz.2.1)]∧Ctx G (.row D H (zz.1.map cT) 87 601::.box Y (aN [] 601 aB zz.2.2 []) 87::Lf) w)
 have y:∀ (zz:(List (Nat→Int)) × Int × (Nat→Int)) a w,x6=.go zz→S6 zz a w→K4 a w:=by
  rintro ⟨out,x,Z⟩ a w rfl ⟨D,H,hf,hc⟩
  replace hF:=cI hF
  refine h4 _ _ ?_
  refine zS fun K h=>sp 2 hf rfl fun a hf=>zT h ?_
  refine wp_ret ?_
  obtain rfl:=sj hF
  replace hc:=hc.drop k1
  exact zO1 Tryz.results58 hf rfl ⟨D,H,rfl,hc⟩
 have af:∀ r,x6=.out r→r=J:=by
  rintro r rfl
  exact sj hF
 refine eR N (eO (S:=S6) (x:=x6) ?_ N (([r]:List (Nat→Int)),0,r) _ _ ⟨(some ⟨u,0,none⟩),1,hf.kp rfl,hc⟩ p)
 clear hF hf hc
 rintro ⟨out,x,Z⟩ ai a w KB6 ⟨D,H,hf,hc⟩ hF M v
 unfold gI at hF
 refine zS fun K h=>sp 1 hf rfl fun a hf=>zT h ?_
 refine wp_seq_k fun K9 h9=>zI hf rfl hF ?_ ?_ <;> clear hF <;> intro hF
 ·refine wp_skip ?_
  refine h9 _ _ ?_
  refine wp_seq_k fun K10 z=>wp_block ?_
  refine zS fun K h=>?_
  obtain ⟨U,g,hF⟩:=aA hF
  obtain ⟨aa,ab,j,i⟩:=qs.atm g
  refine zP hf rfl (pIA Tryz.underlying79 fN rfl rfl j) fun a hf=>zE hf hc rfl (jE (vs:=[i6 U.Lo,i6 U.Hi]) iS rfl rfl (dS i (n:=2) (o':=0) rfl)) fun a w hf hc=>zA hf hc uF rfl fun ag a w hf hc=>zW hf hc fN u0 rfl fun w hc=>zT h ?_
  refine zS fun K h=>sp 1 hf rfl fun a hf=>zN hf hc iS m0 rfl fun a w hf hc=>?_
  obtain ⟨B,m,hF⟩:=aA hF
  refine zC hf en_93 rfl (xN Z U (hc.pick k2) m) ?_
  rintro _ w ⟨rfl,hc⟩
  refine ⟨_,rfl,fun a hf=>?_⟩
  refine zT h ?_
  refine eB ?_
  refine sp 3 hf rfl fun a hf=>zE hf hc rfl (jE (vs:=(aN [] 601 aB B [])) aCy rfl (dC _).1 (bR (n:=601) m0 (aC4 (dC _).1))) fun a w hf hc=>pJ (rows:=([B]:List (Nat→Int)).map cT) (vs:=[(0,.agg (aN [] 601 aB B []).toArray)]) hf hc rfl rfl aJ8 rfl ⟨rfl,rfl,(dC _).1,trivial⟩ rfl rfl fun ad a w hf hc=>?_
  obtain ⟨un,t,hF⟩:=aA hF
  refine qI (xs:=out) (ys:=([B]:List (Nat→Int))) hf hc rfl rfl aJ8 rfl rfl rfl rfl rfl dC (mJ hc m0) (fun _ _=>u3) (by simpa using gJ t) fun q s a w hf hc=>sp 1 hf rfl fun a hf=>aS ?_
  refine z _ _ ?_
  refine eB ?_
  refine sp 2 hf rfl fun a hf=>aS ?_
  replace hc:=(((hc.drop k2).drop k0).pick k0).pick k1
  exact v ((out++[B]),W (x + 1),B) _ _ (sj hF).symm ⟨q,s,hf.kp rfl,hc⟩
 ·refine wp_exit ?_
  refine bI ?_
  refine bI ?_
  have he:=sj hF
  rw [← he] at M
  refine fZ ?_
  exact y _ _ _ M ⟨D,H,hf.kp rfl,hc⟩

def dX (N:Nat) (B:List (Nat→Int)) (D:Int) (H:Int):Option (cP ((List (Nat→Int)) × Int × Int) ((List (Nat→Int)))) :=
 cond (decide (D < H))
 (Option.bind (bQ B H) fun J=>
 Option.bind (bQ B D) fun I=>
 Option.bind (bQ B D) fun M=>
 Option.bind (bQ B H) fun O=>
 some (.cont (((B.set D.toNat J).set H.toNat I),W (D + 1),W (H - 1))))
 (some (.brk (B,D,H)))
def cE (N:Nat) (s_:List (Nat→Int)):Option ((List (Nat→Int))) :=
 Option.bind (bC (fun s3=>dX N s3.1 s3.2.1 s3.2.2) N (s_,0,W (((s_.length:Nat):Int) - 1))) fun x3=>
 exK x3 (fun s3=>Option.bind (xQ s3.1 s_) fun _=>
 some s3.1) some
theorem kZ {N:Nat} {G:aU} {Lf:List Ent} {w:World} (s_:List (Nat→Int)) {R:Option Addr} {B:Nat}  (hc:Ctx G (.row R B (s_.map cT) 87 601::Lf) w) {X:(List (Nat→Int))} (hF:cE N s_=some X):Calls Tryz.prog 59 #[.slice R s_.length B] w (fun e w=>e=.returned (.tuple #[])∧X.length=s_.length∧Ctx G (.row R B (X.map cT) 87 601::Lf) w):=by
 unfold cE at hF
 refine bU Tryz.func59 rfl Tryz.ntmps59 rfl fun a hf=>zS fun K h=>sp 1 hf rfl fun a hf=>zP hf rfl (cR Tryz.underlying83 rfl) fun a hf=>sp 3 hf rfl fun a hf=>zT h ?_
 refine lH fun K2 h2=>wp_block ?_
 obtain ⟨x3,v,hF⟩:=aA hF
 let S3:((List (Nat→Int)) × Int × Int)→Act→World→Prop:=(fun (zz:(List (Nat→Int)) × Int × Int) a w=>Has 28 a [(0,.slice R zz.1.length B),(2,i6 zz.2.1),(3,i6 zz.2.2)]∧Ctx G (.row R B (zz.1.map cT) 87 601::Lf) w)
 have u:∀ (zz:(List (Nat→Int)) × Int × Int) a w,x3=.go zz→S3 zz a w→K2 a w:=by
  rintro ⟨J,I,M⟩ a w rfl ⟨hf,hc⟩
  replace hF:=cI hF
  refine h2 _ _ ?_
  obtain ⟨_,ac,hF⟩:=uR hF
  obtain rfl:=sj hF
  exact rG (by simp) rfl Tryz.results59 hf ⟨rfl,ac,hc⟩
 have ak:∀ r,x3=.out r→r=X:=by
  rintro r rfl
  exact sj hF
 refine eR N (eO (S:=S3) (x:=x3) ?_ N (s_,0,W (((s_.length:Nat):Int) - 1)) _ _ ⟨hf.kp rfl,hc⟩ v)
 clear hF hf hc
 rintro ⟨J,I,M⟩ ai a w KB3 ⟨hf,hc⟩ hF V ab
 unfold dX at hF
 refine wp_seq_k fun K4 h4=>zS fun K h=>sp 3 hf rfl fun a hf=>zT h ?_
 refine zI hf rfl hF ?_ ?_ <;> clear hF <;> intro hF
 ·refine wp_skip ?_
  refine h4 _ _ ?_
  refine wp_seq_k fun K6 h6=>wp_block ?_
  obtain ⟨O,m,hF⟩:=aA hF
  obtain ⟨g,rfl,qa,qr⟩:=jM hc m0 m
  obtain ⟨U,p,hF⟩:=aA hF
  obtain ⟨j,t⟩:=iF hc m0 p
  obtain ⟨am,b,hF⟩:=aA hF
  obtain ⟨s,af⟩:=iF hc m0 b
  obtain ⟨aj,Z,hF⟩:=aA hF
  obtain ⟨q,ag⟩:=iF hc m0 Z
  refine iE (fun θ=>[⟨none,none,0,.slice (some ⟨g,0,none⟩) J.length B⟩,⟨none,none,2,i6 I⟩,⟨none,none,3,i6 M⟩,⟨some 0,none,14,.slice (some ⟨g,0,none⟩) J.length B⟩,⟨some 1,none,15,i6 I⟩,⟨some 2,none,16,.slice (some ⟨g,0,none⟩) J.length B⟩,⟨some 3,none,17,i6 M⟩,⟨some 4,none,18,.slice (some ⟨g,0,none⟩) J.length B⟩,⟨some 5,none,19,i6 M⟩,⟨some 6,none,20,.pointer (some ⟨g,M.toNat * 601,none⟩)⟩,⟨some 7,none,21,.agg (aN [] 601 aB O []).toArray⟩,⟨some 8,none,22,.slice (some ⟨g,0,none⟩) J.length B⟩,⟨some 9,none,23,i6 I⟩,⟨some 10,none,24,.pointer (some ⟨g,I.toNat * 601,none⟩)⟩,⟨some 11,none,25,.agg (aN [] 601 aB U []).toArray⟩,⟨some 12,none,26,.pointer (some ⟨g,I.toNat * 601,none⟩)⟩,⟨some 14,none,27,.pointer (some ⟨g,M.toNat * 601,none⟩)⟩]) (fun E θ=>(bif E 15 then .row (some ⟨g,0,none⟩) B (((J.set I.toNat O).set M.toNat U).map cT) 87 601 else bif E 13 then .row (some ⟨g,0,none⟩) B ((J.set I.toNat O).map cT) 87 601 else .row (some ⟨g,0,none⟩) B (J.map cT) 87 601)::Lf) [(13,6),(15,6),(13,7),(15,7),(11,10),(13,11),(15,10),(15,11),(13,12),(15,12),(15,13),(15,14)] (fun a w=>Has 28 a [(0,.slice (some ⟨g,0,none⟩) J.length B),(2,i6 I),(3,i6 M)]∧Ctx G (.row (some ⟨g,0,none⟩) B (((J.set I.toNat O).set M.toNat U).map cT) 87 601::Lf) w) aW (by kernel_rfl) (by kernel_rfl) (eV.of hf ⟨rfl,rfl,rfl,trivial,trivial,trivial,trivial,trivial,trivial,trivial,trivial,trivial,trivial,trivial,trivial,trivial,trivial,trivial⟩) hc ⟨?_,?_,?_,?_,?_,?_,?_,?_,?_,?_,?_,?_,?_,?_,?_,?_,trivial⟩ ?_ ?_
  ·intro E θ a w hD hi hp he hc
   have hf:=he.h0.mT he 0 rfl
   refine sp 1 hf rfl fun a hf=>zD θ he hi hf 3 rfl rfl rfl hc
  ·intro E θ a w hD hi hp he hc
   have hf:=he.h0.mT he 1 rfl
   refine sp 1 hf rfl fun a hf=>zD θ he hi hf 4 rfl rfl rfl hc
  ·intro E θ a w hD hi hp he hc
   have hf:=he.h0.mT he 0 rfl
   refine sp 1 hf rfl fun a hf=>zD θ he hi hf 5 rfl rfl rfl hc
  ·intro E θ a w hD hi hp he hc
   have hf:=he.h0.mT he 2 rfl
   refine sp 1 hf rfl fun a hf=>zD θ he hi hf 6 rfl rfl rfl hc
  ·intro E θ a w hD hi hp he hc
   have hf:=he.h0.mT he 0 rfl
   refine sp 1 hf rfl fun a hf=>zD θ he hi hf 7 rfl rfl rfl hc
  ·intro E θ a w hD hi hp he hc
   have hf:=he.h0.mT he 2 rfl
   refine sp 1 hf rfl fun a hf=>zD θ he hi hf 8 rfl rfl rfl hc
  ·intro E θ a w hD hi hp he hc
   have e4:=hp.o 4 rfl
   have e5:=hp.o 5 rfl
   have H:=hD.f 0 rfl hi
   have D:=hD.f 1 rfl hi
   try dsimp only at hc
   rw [H,D] at hc
   have hf:=(he.h0.mP he 7 rfl e4).mP he 8 rfl e5
   refine zP hf rfl (pIA Tryz.underlying83 wL rfl rfl qa) fun a hf=>zD θ he hi hf 9 rfl rfl rfl ?_
   try dsimp only
   rw [aV 6 H rfl,aV 6 D rfl]
   exact hc
  ·intro E θ a w hD hi hp he hc
   have e6:=hp.o 6 rfl
   have H:=hD.f 2 rfl hi
   have D:=hD.f 3 rfl hi
   try dsimp only at hc
   rw [H,D] at hc
   have hf:=he.h0.mP he 9 rfl e6
   refine zE hf hc rfl (jE (vs:=(aN [] 601 aB O [])) aCy rfl (dC _).1 (jV (sz:=601) (i:=M.toNat) m0 qr (n:=601) (o':=0) (aC4 (dC _).1))) fun a w hf hc=>zD θ he hi hf 10 rfl rfl rfl ?_
   try dsimp only
   rw [aV 7 H rfl,aV 7 D rfl]
   exact hc
  ·intro E θ a w hD hi hp he hc
   have hf:=he.h0.mT he 0 rfl
   refine sp 1 hf rfl fun a hf=>zD θ he hi hf 11 rfl rfl rfl hc
  ·intro E θ a w hD hi hp he hc
   have hf:=he.h0.mT he 1 rfl
   refine sp 1 hf rfl fun a hf=>zD θ he hi hf 12 rfl rfl rfl hc
  ·intro E θ a w hD hi hp he hc
   have e8:=hp.o 8 rfl
   have e9:=hp.o 9 rfl
   have d:=hD.f 4 rfl hi
   have H:=hD.f 5 rfl d
   have D:=hD.f 6 rfl hi
   try dsimp only at hc
   rw [H,D] at hc
   have hf:=(he.h0.mP he 11 rfl e8).mP he 12 rfl e9
   refine zP hf rfl (pIA Tryz.underlying83 wL rfl rfl j) fun a hf=>zD θ he hi hf 13 rfl rfl rfl ?_
   try dsimp only
   rw [aV 10 H rfl,aV 10 D rfl]
   exact hc
  ·intro E θ a w hD hi hp he hc
   have y:=hp.o 10 rfl
   have H:=hD.f 5 rfl hi
   have D:=hD.f 7 rfl hi
   try dsimp only at hc
   rw [H,D] at hc
   have hf:=he.h0.mP he 13 rfl y
   refine zE hf hc rfl (jE (vs:=(aN [] 601 aB U [])) aCy rfl (dC _).1 (jV (sz:=601) (i:=I.toNat) m0 t (n:=601) (o':=0) (aC4 (dC _).1))) fun a w hf hc=>zD θ he hi hf 14 rfl rfl rfl ?_
   try dsimp only
   rw [aV 11 H rfl,aV 11 D rfl]
   exact hc
  ·intro E θ a w hD hi hp he hc
   have e0:=hp.o 0 rfl
   have e1:=hp.o 1 rfl
   have H:=hD.f 8 rfl hi
   have D:=hD.f 9 rfl hi
   try dsimp only at hc
   rw [H,D] at hc
   have hf:=(he.h0.mP he 3 rfl e0).mP he 4 rfl e1
   refine zP hf rfl (pIA Tryz.underlying83 wL rfl rfl s) fun a hf=>zD θ he hi hf 15 rfl rfl rfl ?_
   try dsimp only
   rw [aV 12 H rfl,aV 12 D rfl]
   exact hc
  ·intro E θ a w hD hi hp he hc
   have e7:=hp.o 7 rfl
   have aa:=hp.o 12 rfl
   have D:=hD.f 10 rfl hi
   try dsimp only at hc
   rw [hi,D] at hc
   have hf:=(he.h0.mP he 10 rfl e7).mP he 15 rfl aa
   refine aMo (enc:=cT) (z:=O) (xs:=J) hf hc rfl rfl rfl dC wL (nA b) u0 fun w hc=>zG θ he hi hf rfl ?_
   try dsimp only
   rw [aX E 13,aV 13 D rfl]
   exact hc
  ·intro E θ a w hD hi hp he hc
   have e2:=hp.o 2 rfl
   have e3:=hp.o 3 rfl
   have H:=hp.o 13 rfl
   have D:=hD.f 11 rfl hi
   try dsimp only at hc
   rw [H,D] at hc
   have hf:=(he.h0.mP he 5 rfl e2).mP he 6 rfl e3
   refine zP hf rfl (pIA Tryz.underlying83 wL rfl rfl q) fun a hf=>zD θ he hi hf 16 rfl rfl rfl ?_
   try dsimp only
   rw [eL 14 H,aV 14 D rfl]
   exact hc
  ·intro E θ a w hD hi hp he hc
   have d:=hp.o 11 rfl
   have ad:=hp.o 14 rfl
   have H:=hp.o 13 rfl
   try dsimp only at hc
   rw [H,hi] at hc
   have hf:=(he.h0.mP he 14 rfl d).mP he 16 rfl ad
   refine aMo (enc:=cT) (z:=U) (xs:=(J.set I.toNat O)) hf hc rfl rfl rfl dC wL (by simpa using nA Z) u0 fun w hc=>zG θ he hi hf rfl ?_
   try dsimp only
   rw [eL 15 H,aX E 15]
   exact hc
  ·intro E θ a w Y he hc
   have hf:=he.h0
   have H:=Y 13 rfl
   have D:=Y 15 rfl
   replace hf:=hf.more he 2 rfl (onT)
   replace hf:=hf.more he 1 rfl (onT)
   replace hf:=hf.more he 0 rfl (onT)
   try dsimp only at hc
   rw [H,D] at hc
   exact ⟨hf.kp rfl,hc⟩
  rintro a w ⟨hf,hc⟩
  refine h6 _ _ ?_
  refine eB ?_
  refine sp 6 hf rfl fun a hf=>aS ?_
  replace hf:=hf.castAt 0 (v':=.slice (some ⟨g,0,none⟩) (((J.set I.toNat O).set M.toNat U).length) B) rfl (congrArg (fun k=>Value.slice (some ⟨g,0,none⟩) k B) (by simp))
  exact ab (((J.set I.toNat O).set M.toNat U),W (I + 1),W (M - 1)) _ _ (sj hF).symm ⟨hf.kp rfl,hc⟩
 ·refine wp_exit ?_
  refine bI ?_
  refine bI ?_
  have he:=sj hF
  rw [← he] at V
  refine fZ ?_
  exact u _ _ _ V ⟨hf.kp rfl,hc⟩

def mE (N:Nat) (l:List aC):Option ((List (Nat→Int))) :=
 Option.bind (dH N l) fun r=>
 Option.bind (cV N r) fun H=>
 Option.bind (lX N H) fun D=>
 Option.bind (cE N D) fun B=>
 some B
theorem aAk {N:Nat} {G:aU} {Lf:List Ent} {w:World} (l:List aC) {M:Option Addr} {H:Nat} (b:Rd G 2 M H (l.map aH)) (hc:Ctx G (Lf) w) {D:(List (Nat→Int))} (hF:mE N l=some D):Calls Tryz.prog 25 #[.slice M l.length H] w (fun e w=>∃ (J:Option Addr) (I:Nat),e=.returned (.slice J D.length I)∧Ctx G (.row J I (D.map cT) 87 601::Lf) w):=by
 unfold mE at hF
 refine bU Tryz.func25 rfl Tryz.ntmps25 rfl fun a hf=>zS fun K h=>sp 1 hf rfl fun a hf=>zT h ?_
 refine zS fun K h=>sp 1 hf rfl fun a hf=>?_
 obtain ⟨r,hr,hF⟩:=aA hF
 refine zC hf en_56 rfl (nJ l b hc hr) ?_
 rintro _ w ⟨i,k,rfl,hc⟩
 refine ⟨_,rfl,fun a hf=>?_⟩
 refine sp 1 hf rfl fun a hf=>zT h ?_
 refine zS fun K h=>sp 1 hf rfl fun a hf=>?_
 obtain ⟨X,S,hF⟩:=aA hF
 refine zC hf en_57 rfl (mM r (hc.pick k0) S) ?_
 rintro _ w ⟨rfl,hl,hc⟩
 refine ⟨_,rfl,fun a hf=>?_⟩
 try rw [← hl] at hf
 try rw [← hl] at hc
 refine zT h ?_
 refine zS fun K h=>sp 1 hf rfl fun a hf=>?_
 obtain ⟨d,O,hF⟩:=aA hF
 obtain ⟨G1,g,R,hc,U⟩:=lend hc k0
 refine zC hf en_58 rfl (xY X R hc O) ?_
 rintro _ w ⟨Y,Z,rfl,hc⟩
 refine ⟨_,rfl,fun a hf=>?_⟩
 replace hc:=U _ _ hc
 refine sp 1 hf rfl fun a hf=>zT h ?_
 refine zS fun K h=>sp 1 hf rfl fun a hf=>?_
 obtain ⟨j,V,hF⟩:=aA hF
 refine zC hf en_59 rfl (kZ d (hc.pick k1) V) ?_
 rintro _ w ⟨rfl,B,hc⟩
 refine ⟨_,rfl,fun a hf=>?_⟩
 try rw [← B] at hf
 try rw [← B] at hc
 refine zT h ?_
 refine zS fun K h=>sp 2 hf rfl fun a hf=>zT h ?_
 refine wp_ret ?_
 obtain rfl:=sj hF
 replace hc:=hc.drop k1
 exact zO1 Tryz.results25 hf rfl ⟨Y,Z,rfl,hc⟩

def dU (N:Nat) (x:List Int) (m:Int) (B:Int):Option (cP (Int × Int) (Int)) :=
 cond (decide (B < ((x.length:Nat):Int)))
 (Option.bind (bQ x B) fun D=>
 some (.cont (min m D,W (B + 1))))
 (some (.brk (m,B)))
def iM (N:Nat) (x:List Int):Option (Int) :=
 cond (decide (((x.length:Nat):Int) < 1))
 (none)
 (Option.bind (bQ x 0) fun B=>
 Option.bind (bC (fun s7=>dU N x s7.1 s7.2) N (B,1)) fun x7=>
 exK x7 (fun s7=>some s7.1) some)
theorem tS {N:Nat} {G:aU} {Lf:List Ent} {w:World} (x:List Int) {I:Option Addr} {D:Nat} (M:Rd G 1 I D (x.map aB)) (hc:Ctx G (Lf) w) {H:Int} (hF:iM N x=some H):Calls Tryz.prog 26 #[.slice I x.length D] w (fun e w=>e=.returned (i6 H)∧Ctx G (Lf) w):=by
 unfold iM at hF
 refine bU Tryz.func26 rfl Tryz.ntmps26 rfl fun a hf=>zS fun K h=>sp 1 hf rfl fun a hf=>zT h ?_
 refine wp_seq_k fun K2 h2=>zS fun K h=>sp 1 hf rfl fun a hf=>zP hf rfl (cR Tryz.underlying26 rfl) fun a hf=>sp 1 hf rfl fun a hf=>zT h ?_
 refine zI hf rfl hF ?_ ?_ <;> clear hF <;> intro hF
 ·exact wD hF
 ·refine wp_skip ?_
  refine h2 _ _ ?_
  refine zS fun K h=>sp 1 hf rfl fun a hf=>?_
  obtain ⟨Y,V,hF⟩:=aA hF
  obtain ⟨n,o,qa,qp⟩:=M.atm V
  refine zP hf rfl (pIA Tryz.underlying26 eQ rfl rfl qa) fun a hf=>zE hf hc rfl (cN aY rfl (gO (j:=0) qp rfl)) fun a w hf hc=>sp 1 hf rfl fun a hf=>zT h ?_
  refine wp_seq_k fun K5 h5=>zS fun K h=>sp 1 hf rfl fun a hf=>zT h ?_
  refine wp_block ?_
  obtain ⟨x7,g,hF⟩:=aA hF
  let S7:(Int × Int)→Act→World→Prop:=(fun (zz:Int × Int) a w=>Has 25 a [(0,.slice I x.length D),(3,i6 zz.1),(4,i6 zz.2)]∧Ctx G (Lf) w)
  have d:∀ (zz:Int × Int) a w,x7=.go zz→S7 zz a w→K5 a w:=by
   rintro ⟨m,J⟩ a w rfl ⟨hf,hc⟩
   replace hF:=cI hF
   refine h5 _ _ ?_
   refine zS fun K h=>sp 2 hf rfl fun a hf=>zT h ?_
   refine wp_ret ?_
   obtain rfl:=sj hF
   exact zO1 Tryz.results26 hf rfl ⟨rfl,hc⟩
  have q:∀ r,x7=.out r→r=H:=by
   rintro r rfl
   exact sj hF
  refine eR N (eO (S:=S7) (x:=x7) ?_ N (Y,1) _ _ ⟨hf.kp rfl,hc⟩ g)
  clear hF hf hc
  rintro ⟨m,J⟩ p a w KB7 ⟨hf,hc⟩ hF B X
  unfold dU at hF
  refine wp_seq_k fun K9 h9=>zS fun K h=>sp 2 hf rfl fun a hf=>zP hf rfl (cR Tryz.underlying26 rfl) fun a hf=>sp 1 hf rfl fun a hf=>zT h ?_
  refine zI hf rfl hF ?_ ?_ <;> clear hF <;> intro hF
  ·refine wp_skip ?_
   refine h9 _ _ ?_
   refine wp_seq_k fun K11 b=>wp_block ?_
   refine eB ?_
   refine sp 3 hf rfl fun a hf=>?_
   obtain ⟨Z,O,hF⟩:=aA hF
   obtain ⟨i,k,U,R⟩:=M.atm O
   refine zP hf rfl (pIA Tryz.underlying26 eQ rfl rfl U) fun a hf=>zE hf hc rfl (cN aY rfl (gO (j:=0) R rfl)) fun a w hf hc=>zP hf rfl (aC3 rfl rfl) fun a hf=>sp 1 hf rfl fun a hf=>aS ?_
   refine b _ _ ?_
   refine eB ?_
   refine sp 3 hf rfl fun a hf=>aS ?_
   exact X (min m Z,W (J + 1)) _ _ (sj hF).symm ⟨hf.kp rfl,hc⟩
  ·refine wp_exit ?_
   refine bI ?_
   refine bI ?_
   have he:=sj hF
   rw [← he] at B
   refine fZ ?_
   exact d _ _ _ B ⟨hf.kp rfl,hc⟩

end Go.Nilo
