/-
 What functions of the Go text compute, as plain functions, and that they do, part 4 of 5. Conditions: what each theorem names.
-/
import Derived.Test.YtmkacilcbfiieaaGreatSm3
import Derived.Test.YtmkacilcbfiieaaGreatProg
set_option linter.unusedVariables false
set_option linter.unusedSimpArgs false
set_option maxRecDepth 100000
set_option maxHeartbeats 4000000
namespace Go.Nilo
open Go.Proofs


def fV (N:Nat) (debt:Int) (p_:bU) (B:List Int) (H:List Int) (days:Int) (rule:Int) (x:aM):Option (Bool) :=
 cond ((((decide (45 < ((p_.Can.length:Nat):Int))) || (decide (15 < ((B.length:Nat):Int)))) || (decide (15 < ((H.length:Nat):Int)))) || ((decide (40 < days)) && (decide (days≤366))))
 (Option.bind (fR N) fun r=>
 some r)
 (Option.bind (lW N B) fun M=>
 Option.bind (lW N H) fun S=>
 Option.bind (lW N p_.Can) fun Z=>
 Option.bind (fZ N debt (⟨p_.Least,p_.Part,Z⟩:bU)) fun Y=>
 Option.bind (nN N debt p_.Least p_.Part p_.Can) fun b=>
 Option.bind (cK N Y.1 b.1) fun s=>
 cond ((!s) || (Y.2 != b.2))
 (some false)
 (Option.bind (fG N M days rule) fun X=>
 Option.bind (jD N B days rule) fun d=>
 Option.bind (cK N X.1 d.1) fun p=>
 cond ((!p) || (X.2 != d.2))
 (some false)
 (Option.bind (nJ N M S rule) fun R=>
 Option.bind (oQ N B H rule) fun O=>
 cond (((R.1 != O.1) || (R.2.1 != O.2.1)) || (R.2.2 != O.2.2))
 (some false)
 (Option.bind (lD N M S rule) fun J=>
 Option.bind (mQ N B H rule) fun I=>
 cond (((!(J.1.N == I.1.N && J.1.D == I.1.D)) || (!(J.2.1.N == I.2.1.N && J.2.1.D == I.2.1.D))) || (J.2.2 != I.2.2))
 (some false)
 (Option.bind (oT N M S rule x) fun U=>
 Option.bind (nC N B H rule x) fun V=>
 Option.bind (cond ((U.1 == V.1) && (U.2 == V.2)) (Option.bind (cK N M B) fun i=>
 some i) (some false)) fun o=>
 Option.bind (cond o (Option.bind (cK N S H) fun g=>
 some g) (some false)) fun m=>
 Option.bind (cond m (Option.bind (cK N Z p_.Can) fun j=>
 some j) (some false)) fun q=>
 Option.bind (cond q (Option.bind (fR N) fun k=>
 some k) (some false)) fun n=>
 some n)))))
theorem kX {N:Nat} {G:bA} {Lf:List Ent} {w:World} (debt:Int) (p_:bU) (B:List Int) (J:List Int) (days:Int) (rule:Int) (x:aM) {g:Option Addr} {d:Nat} {V:Option Addr} {R:Nat} {S:Option Addr} {U:Nat} (aj:Rd G 1 g d (p_.Can.map aD)) (n:Rd G 1 V R (B.map aD)) (s:Rd G 1 S U (J.map aD)) (hc:Ctx G (Lf) w) {bj:Bool} (hF:fV N debt p_ B J days rule x=some bj):Calls Tryz.prog 9 #[i6 debt,.agg #[i6 p_.Least,i6 p_.Part,.slice g p_.Can.length d],.slice V B.length R,.slice S J.length U,i6 days,i6 rule,.agg #[i6 x.N,i6 x.D]] w (fun e w=>e=.returned (.bool bj)∧Ctx G (Lf) w):=by
 unfold fV at hF
 refine cG Tryz.func9 rfl Tryz.ntmps9 rfl fun a hf=>zS fun K h=>zB hf hc rfl fun i a w hf hc=>zB hf hc rfl fun aa a w hf hc=>sp 1 hf rfl fun a hf=>zT h ?_
 refine wp_seq_k fun K2 h2=>zS fun K h=>zP hf rfl (pFA pO rfl) fun a hf=>zL hf hc xC m1 rfl fun a w hf hc=>zP hf rfl (bL Tryz.underlying22 rfl) fun a hf=>sp 2 hf rfl fun a hf=>cP 4 (fun a=>Has 217 a [(0,i6 debt),(2,.slice V B.length R),(3,.slice S J.length U),(4,i6 days),(5,i6 rule),(8,pq i),(13,pq aa),(32,.pointer (some ⟨i,2,none⟩)),(33,.slice g p_.Can.length d),(34,i6 ((p_.Can.length:Nat):Int)),(35,.bool (decide (45 < ((p_.Can.length:Nat):Int)))),(36,.bool (decide (45 < ((p_.Can.length:Nat):Int)))),(40,.bool ((decide (45 < ((p_.Can.length:Nat):Int))) || (decide (15 < ((B.length:Nat):Int)))))]) hc ?_ ?_
 ·cases hb:(decide (45 < ((p_.Can.length:Nat):Int)))
  ·rw [hb] at hf
   refine sp 1 hf rfl fun a hf=>zP hf rfl (bL Tryz.underlying22 rfl) fun a hf=>sp 2 hf rfl fun a hf=>aP ⟨hf.kp rfl,hc⟩
  ·rw [hb] at hf
   refine stS hf rfl rfl rfl fun a hf=>stS hf rfl rfl rfl fun a hf=>stS hf rfl rfl rfl fun a hf=>sp 1 hf rfl fun a hf=>aP ⟨hf.kp rfl,hc⟩
 intro a w ⟨hf,hc⟩
 refine sp 1 hf rfl fun a hf=>cP 4 (fun a=>Has 217 a [(0,i6 debt),(2,.slice V B.length R),(3,.slice S J.length U),(4,i6 days),(5,i6 rule),(8,pq i),(13,pq aa),(32,.pointer (some ⟨i,2,none⟩)),(33,.slice g p_.Can.length d),(34,i6 ((p_.Can.length:Nat):Int)),(35,.bool (decide (45 < ((p_.Can.length:Nat):Int)))),(36,.bool (decide (45 < ((p_.Can.length:Nat):Int)))),(40,.bool ((decide (45 < ((p_.Can.length:Nat):Int))) || (decide (15 < ((B.length:Nat):Int))))),(41,.bool ((decide (45 < ((p_.Can.length:Nat):Int))) || (decide (15 < ((B.length:Nat):Int))))),(45,.bool (((decide (45 < ((p_.Can.length:Nat):Int))) || (decide (15 < ((B.length:Nat):Int)))) || (decide (15 < ((J.length:Nat):Int)))))]) hc ?_ ?_
 ·cases hb:((decide (45 < ((p_.Can.length:Nat):Int))) || (decide (15 < ((B.length:Nat):Int))))
  ·rw [hb] at hf
   refine sp 1 hf rfl fun a hf=>zP hf rfl (bL Tryz.underlying22 rfl) fun a hf=>sp 2 hf rfl fun a hf=>aP ⟨hf.kp rfl,hc⟩
  ·rw [hb] at hf
   refine stS hf rfl rfl rfl fun a hf=>stS hf rfl rfl rfl fun a hf=>stS hf rfl rfl rfl fun a hf=>sp 1 hf rfl fun a hf=>aP ⟨hf.kp rfl,hc⟩
 intro a w ⟨hf,hc⟩
 refine sp 1 hf rfl fun a hf=>cP 7 (fun a=>Has 217 a [(0,i6 debt),(2,.slice V B.length R),(3,.slice S J.length U),(4,i6 days),(5,i6 rule),(8,pq i),(13,pq aa),(32,.pointer (some ⟨i,2,none⟩)),(33,.slice g p_.Can.length d),(34,i6 ((p_.Can.length:Nat):Int)),(35,.bool (decide (45 < ((p_.Can.length:Nat):Int)))),(36,.bool (decide (45 < ((p_.Can.length:Nat):Int)))),(40,.bool ((decide (45 < ((p_.Can.length:Nat):Int))) || (decide (15 < ((B.length:Nat):Int))))),(41,.bool ((decide (45 < ((p_.Can.length:Nat):Int))) || (decide (15 < ((B.length:Nat):Int))))),(45,.bool (((decide (45 < ((p_.Can.length:Nat):Int))) || (decide (15 < ((B.length:Nat):Int)))) || (decide (15 < ((J.length:Nat):Int))))),(46,.bool (((decide (45 < ((p_.Can.length:Nat):Int))) || (decide (15 < ((B.length:Nat):Int)))) || (decide (15 < ((J.length:Nat):Int))))),(53,.bool ((((decide (45 < ((p_.Can.length:Nat):Int))) || (decide (15 < ((B.length:Nat):Int)))) || (decide (15 < ((J.length:Nat):Int)))) || ((decide (40 < days)) && (decide (days≤366)))))]) hc ?_ ?_
 ·cases hb:(((decide (45 < ((p_.Can.length:Nat):Int))) || (decide (15 < ((B.length:Nat):Int)))) || (decide (15 < ((J.length:Nat):Int))))
  ·rw [hb] at hf
   refine sp 3 hf rfl fun a hf=>cP 3 (fun a=>Has 217 a [(0,i6 debt),(2,.slice V B.length R),(3,.slice S J.length U),(4,i6 days),(5,i6 rule),(8,pq i),(13,pq aa),(32,.pointer (some ⟨i,2,none⟩)),(33,.slice g p_.Can.length d),(34,i6 ((p_.Can.length:Nat):Int)),(35,.bool (decide (45 < ((p_.Can.length:Nat):Int)))),(36,.bool (decide (45 < ((p_.Can.length:Nat):Int)))),(40,.bool ((decide (45 < ((p_.Can.length:Nat):Int))) || (decide (15 < ((B.length:Nat):Int))))),(41,.bool ((decide (45 < ((p_.Can.length:Nat):Int))) || (decide (15 < ((B.length:Nat):Int))))),(45,.bool false),(46,.bool false),(47,i6 days),(48,.bool (decide (40 < days))),(49,.bool (decide (40 < days))),(52,.bool ((decide (40 < days)) && (decide (days≤366))))]) hc ?_ ?_
   ·cases hb:(decide (40 < days))
    ·rw [hb] at hf
     refine stS hf rfl rfl rfl fun a hf=>stS hf rfl rfl rfl fun a hf=>sp 1 hf rfl fun a hf=>aP ⟨hf.kp rfl,hc⟩
    ·rw [hb] at hf
     refine sp 3 hf rfl fun a hf=>aP ⟨hf.kp rfl,hc⟩
   intro a w ⟨hf,hc⟩
   refine sp 1 hf rfl fun a hf=>aP ⟨hf.kp rfl,hc⟩
  ·rw [hb] at hf
   refine stS hf rfl rfl rfl fun a hf=>stS hf rfl rfl rfl fun a hf=>stS hf rfl rfl rfl fun a hf=>stS hf rfl rfl rfl fun a hf=>stS hf rfl rfl rfl fun a hf=>stS hf rfl rfl rfl fun a hf=>sp 1 hf rfl fun a hf=>aP ⟨hf.kp rfl,hc⟩
 intro a w ⟨hf,hc⟩
 refine zT h ?_
 refine zI hf rfl hF ?_ ?_ <;> clear hF <;> intro hF
 ·refine zS fun K h=>?_
  obtain ⟨r,hr,hF⟩:=aA hF
  refine zQ (v:=.bool r) hf hc aAh rfl (fun w hc=>jT hc hr) fun a w hf hc=>sp 1 hf rfl fun a hf=>zT h ?_
  refine wp_ret ?_
  refine aN ?_
  obtain rfl:=sj hF
  replace hc:=(hc.drop k1).drop k0
  exact zO1 Tryz.results9 hf rfl ⟨rfl,hc⟩
 ·refine wp_skip ?_
  refine h2 _ _ ?_
  refine wp_seq_k fun K5 h5=>?_
  obtain ⟨j,bv,hF⟩:=aA hF
  obtain ⟨k,b6,hF⟩:=aA hF
  obtain ⟨m,b2,hF⟩:=aA hF
  replace hc:=hc.nilRow 0 0
  replace hc:=hc.nilRow 0 0
  replace hc:=hc.nilRow 0 0
  refine dJ (fun θ=>[⟨none,none,0,i6 debt⟩,⟨none,none,2,.slice V B.length R⟩,⟨none,none,3,.slice S J.length U⟩,⟨none,none,4,i6 days⟩,⟨none,none,5,i6 rule⟩,⟨none,none,8,pq i⟩,⟨none,none,13,pq aa⟩,⟨some 0,none,55,.slice V B.length R⟩,⟨some 1,none,56,.slice ((θ 8).p) j.length ((θ 8).c)⟩,⟨some 2,none,57,.slice S J.length U⟩,⟨some 3,none,58,.slice ((θ 24).p) k.length ((θ 24).c)⟩,⟨some 4,none,59,.pointer (some ⟨i,2,none⟩)⟩,⟨some 5,none,60,.slice g p_.Can.length d⟩,⟨some 6,none,61,.slice ((θ 48).p) m.length ((θ 48).c)⟩,⟨some 7,none,15,.slice ((θ 8).p) j.length ((θ 8).c)⟩,⟨some 8,none,16,.slice ((θ 24).p) k.length ((θ 24).c)⟩,⟨some 9,none,17,.slice ((θ 48).p) m.length ((θ 48).c)⟩]) (fun E θ=>(bif E 6 then .row ((θ 48).p) ((θ 48).c) (m.map aD) 3 1 else .row none 0 [] 0 0)::(bif E 3 then .row ((θ 24).p) ((θ 24).c) (k.map aD) 3 1 else .row none 0 [] 0 0)::(bif E 1 then .row ((θ 8).p) ((θ 8).c) (j.map aD) 3 1 else .row none 0 [] 0 0)::.box aa [i6 x.N,i6 x.D] 43::.box i [i6 p_.Least,i6 p_.Part,.slice g p_.Can.length d] 40::Lf) [(7,1),(8,3),(9,6)] (fun a w=>∃ (ad:Option Addr) (ac:Nat) (z:Option Addr) (ab:Nat) (y:Option Addr) (t:Nat),Has 217 a [(0,i6 debt),(2,.slice V B.length R),(3,.slice S J.length U),(4,i6 days),(5,i6 rule),(8,pq i),(13,pq aa),(15,.slice ad j.length ac),(16,.slice z k.length ab),(17,.slice y m.length t)]∧Ctx G (.row y t (m.map aD) 3 1::.row z ab (k.map aD) 3 1::.row ad ac (j.map aD) 3 1::.box aa [i6 x.N,i6 x.D] 43::.box i [i6 p_.Least,i6 p_.Part,.slice g p_.Can.length d] 40::Lf) w) aY (by kernel_rfl) (by kernel_rfl) (eY.of hf ⟨rfl,rfl,rfl,rfl,rfl,rfl,rfl,trivial,trivial,trivial,trivial,trivial,trivial,trivial,trivial,trivial,trivial,trivial⟩) hc ⟨?_,?_,?_,?_,?_,?_,?_,?_,?_,?_,trivial⟩ ?_ ?_
  ·intro E θ a w hD hi hp he hc
   have hf:=he.h0.mT he 1 rfl
   refine sp 1 hf rfl fun a hf=>zD θ he hi hf 7 rfl rfl rfl hc
  ·intro E θ a w hD hi hp he hc
   have e0:=hp.o 0 rfl
   have e7:=hD.f 0 rfl hi
   try dsimp only at hc
   rw [hi] at hc
   have hf:=he.h0.mP he 7 rfl e0
   refine zC hf aIa rfl (qD B n hc bv) ?_
   rintro _ w ⟨cg,cb,rfl,hc⟩
   refine ⟨_,rfl,fun a hf=>?_⟩
   refine aP ?_
   refine bV ?_
   intro ds u ax
   replace hc:=(((hc.drop k3).pick k0).pick k2).pick k2
   refine ⟨(fY θ 8 ⟨0,cg,cb,(fun _=>(none,0))⟩),he.put hi ax hf rfl [7] ⟨⟨e7,rfl⟩,trivial⟩ ⟨qq,qq,qq,qq,qq,qq,qq,qq,qq,qq,qq,qq,qq,qq,trivial,qq,qq,trivial⟩,?_⟩
   try dsimp only
   rw [aU E 1]
   exact hc
  ·intro E θ a w hD hi hp he hc
   have hf:=he.h0.mT he 2 rfl
   refine sp 1 hf rfl fun a hf=>zD θ he hi hf 9 rfl rfl rfl hc
  ·intro E θ a w hD hi hp he hc
   have e2:=hp.o 2 rfl
   have e8:=hD.f 1 rfl hi
   try dsimp only at hc
   rw [hi] at hc
   have hf:=he.h0.mP he 9 rfl e2
   refine zC hf aIa rfl (qD J s hc b6) ?_
   rintro _ w ⟨cp,ck,rfl,hc⟩
   refine ⟨_,rfl,fun a hf=>?_⟩
   refine aP ?_
   refine bV ?_
   intro ds u ax
   replace hc:=((hc.drop k2).pick k0).pick k1
   refine ⟨(fY θ 24 ⟨0,cp,ck,(fun _=>(none,0))⟩),he.put hi ax hf rfl [8] ⟨⟨e8,rfl⟩,trivial⟩ ⟨qq,qq,qq,qq,qq,qq,qq,qq,qq,qq,qq,qq,qq,qq,qq,trivial,qq,trivial⟩,?_⟩
   try dsimp only
   rw [aU E 3]
   exact hc
  ·intro E θ a w hD hi hp he hc
   have hf:=he.h0.mT he 5 rfl
   refine zP hf rfl (pFA pO rfl) fun a hf=>zD θ he hi hf 11 rfl rfl rfl hc
  ·intro E θ a w hD hi hp he hc
   have e4:=hp.o 4 rfl
   have hf:=he.h0.mP he 11 rfl e4
   refine zL hf hc xC m4 rfl fun a w hf hc=>zD θ he hi hf 12 rfl rfl rfl hc
  ·intro E θ a w hD hi hp he hc
   have e5:=hp.o 5 rfl
   have e9:=hD.f 2 rfl hi
   try dsimp only at hc
   rw [hi] at hc
   have hf:=he.h0.mP he 12 rfl e5
   refine zC hf aIa rfl (qD p_.Can aj hc b2) ?_
   rintro _ w ⟨cj,cf,rfl,hc⟩
   refine ⟨_,rfl,fun a hf=>?_⟩
   refine aP ?_
   refine bV ?_
   intro ds u ax
   replace hc:=hc.drop k1
   refine ⟨(fY θ 48 ⟨0,cj,cf,(fun _=>(none,0))⟩),he.put hi ax hf rfl [9] ⟨⟨e9,rfl⟩,trivial⟩ ⟨qq,qq,qq,qq,qq,qq,qq,qq,qq,qq,qq,qq,qq,qq,qq,qq,trivial,trivial⟩,?_⟩
   try dsimp only
   rw [aU E 6]
   exact hc
  ·intro E θ a w hD hi hp he hc
   have e1:=hp.o 1 rfl
   have hf:=he.h0.mP he 8 rfl e1
   refine sp 1 hf rfl fun a hf=>zD θ he hi hf 14 rfl rfl rfl hc
  ·intro E θ a w hD hi hp he hc
   have e3:=hp.o 3 rfl
   have hf:=he.h0.mP he 10 rfl e3
   refine sp 1 hf rfl fun a hf=>zD θ he hi hf 15 rfl rfl rfl hc
  ·intro E θ a w hD hi hp he hc
   have e6:=hp.o 6 rfl
   have hf:=he.h0.mP he 13 rfl e6
   refine sp 1 hf rfl fun a hf=>zD θ he hi hf 16 rfl rfl rfl hc
  ·intro E θ a w ak he hc
   have hf:=he.h0
   have e1:=ak 1 rfl
   have e3:=ak 3 rfl
   have e6:=ak 6 rfl
   have e7:=ak 7 rfl
   have e8:=ak 8 rfl
   have e9:=ak 9 rfl
   replace hf:=hf.more he 16 rfl (onP e9)
   replace hf:=hf.more he 15 rfl (onP e8)
   replace hf:=hf.more he 14 rfl (onP e7)
   replace hf:=hf.more he 6 rfl (onT)
   replace hf:=hf.more he 5 rfl (onT)
   replace hf:=hf.more he 4 rfl (onT)
   replace hf:=hf.more he 3 rfl (onT)
   replace hf:=hf.more he 2 rfl (onT)
   replace hf:=hf.more he 1 rfl (onT)
   replace hf:=hf.more he 0 rfl (onT)
   try dsimp only at hc
   rw [e1,e3,e6] at hc
   exact ⟨(θ 8).p,(θ 8).c,(θ 24).p,(θ 24).c,(θ 48).p,(θ 48).c,hf.kp rfl,hc⟩
  rintro a w ⟨ad,ac,z,ab,y,t,hf,hc⟩
  refine h5 _ _ ?_
  refine zS fun K h=>sp 1 hf rfl fun a hf=>zP hf rfl (pFA xT rfl) fun a hf=>zL hf hc bB m4 rfl fun a w hf hc=>zP hf rfl (pFA vT rfl) fun a hf=>zL hf hc bB m4 rfl fun a w hf hc=>sp 1 hf rfl fun a hf=>zP hf rfl (bG (cells:=[i6 p_.Least,i6 p_.Part,.slice y m.length t]) aCt rfl rfl) fun a hf=>?_
  obtain ⟨au,bx,hF⟩:=aA hF
  obtain ⟨G1,q,Z,hc,b⟩:=lend hc k0
  refine zC hf aIh rfl (pJ debt (⟨p_.Least,p_.Part,m⟩:bU) Z hc bx) ?_
  rintro _ w ⟨br,bk,rfl,hc⟩
  refine ⟨_,rfl,fun a hf=>?_⟩
  replace hc:=b _ _ hc
  refine sp 5 hf rfl fun a hf=>zT h ?_
  refine zS fun K h=>sp 1 hf rfl fun a hf=>zP hf rfl (pFA xT rfl) fun a hf=>zL hf hc bB m5 rfl fun a w hf hc=>zP hf rfl (pFA vT rfl) fun a hf=>zL hf hc bB m5 rfl fun a w hf hc=>zP hf rfl (pFA pO rfl) fun a hf=>zL hf hc xC m5 rfl fun a w hf hc=>?_
  obtain ⟨av,b4,hF⟩:=aA hF
  refine zC hf en_43 rfl (yB debt p_.Least p_.Part p_.Can aj hc b4) ?_
  rintro _ w ⟨bs,bp,rfl,hc⟩
  refine ⟨_,rfl,fun a hf=>?_⟩
  refine sp 5 hf rfl fun a hf=>zT h ?_
  refine wp_seq_k fun K8 h8=>zS fun K h=>sp 2 hf rfl fun a hf=>?_
  obtain ⟨ap,b9,hF⟩:=aA hF
  refine zQ (v:=.bool ap) hf hc tY rfl (fun w hc=>by obtain ⟨G1,q,Z,hc,b⟩:=lend hc k2; obtain ⟨G2,ag,af,hc,ai⟩:=lend hc k0; exact (dP au.1 av.1 (Z.mono ag) af hc b9).mono fun e w h=>⟨h.1,((b _ _ ((ai _ _ h.2).unpick k0)).unpick k2)⟩) fun a w hf hc=>sp 2 hf rfl fun a hf=>cP 4 (fun a=>Has 217 a [(2,.slice V B.length R),(3,.slice S J.length U),(4,i6 days),(5,i6 rule),(8,pq i),(13,pq aa),(15,.slice ad j.length ac),(16,.slice z k.length ab),(17,.slice y m.length t),(18,.slice br au.1.length bk),(19,i6 au.2),(20,.slice bs av.1.length bp),(21,i6 av.2),(84,.slice br au.1.length bk),(85,.slice bs av.1.length bp),(86,.bool ap),(87,.bool (!ap)),(88,.bool (!ap)),(92,.bool ((!ap) || (au.2 != av.2)))]) hc ?_ ?_
  ·cases hb:(!ap)
   ·rw [hb] at hf
    refine sp 4 hf rfl fun a hf=>aP ⟨hf.kp rfl,hc⟩
   ·rw [hb] at hf
    refine stS hf rfl rfl rfl fun a hf=>stS hf rfl rfl rfl fun a hf=>stS hf rfl rfl rfl fun a hf=>sp 1 hf rfl fun a hf=>aP ⟨hf.kp rfl,hc⟩
  intro a w ⟨hf,hc⟩
  refine zT h ?_
  refine zI hf rfl hF ?_ ?_ <;> clear hF <;> intro hF
  ·refine zS fun K h=>sp 1 hf rfl fun a hf=>zT h ?_
   refine wp_ret ?_
   refine aN ?_
   obtain rfl:=sj hF
   replace hc:=((((((hc.drop k6).drop k5).drop k4).drop k3).drop k2).drop k1).drop k0
   exact zO1 Tryz.results9 hf rfl ⟨rfl,hc⟩
  ·refine wp_skip ?_
   refine h8 _ _ ?_
   refine zS fun K h=>sp 3 hf rfl fun a hf=>?_
   obtain ⟨ar,b3,hF⟩:=aA hF
   obtain ⟨G1,q,Z,hc,b⟩:=lend hc k4
   refine zC hf aGs rfl (oW j days rule Z hc b3) ?_
   rintro _ w ⟨bn,bm,rfl,hc⟩
   refine ⟨_,rfl,fun a hf=>?_⟩
   replace hc:=b _ _ hc
   refine sp 5 hf rfl fun a hf=>zT h ?_
   refine wp_seq_k fun K12 ci=>bR ?_
   refine sp 3 hf rfl fun a hf=>?_
   obtain ⟨ay,b7,hF⟩:=aA hF
   refine zC hf en_44 rfl (aBr B days rule n hc b7) ?_
   rintro _ w ⟨a2,a4,rfl,hc⟩
   refine ⟨_,rfl,fun a hf=>?_⟩
   refine sp 5 hf rfl fun a hf=>aP ?_
   replace hc:=(hc.drop k5).drop k3
   refine ci _ _ ?_
   refine wp_seq_k fun K13 cn=>zS fun K h=>sp 2 hf rfl fun a hf=>?_
   obtain ⟨an,bz,hF⟩:=aA hF
   refine zQ (v:=.bool an) hf hc tY rfl (fun w hc=>by obtain ⟨G1,q,Z,hc,b⟩:=lend hc k2; obtain ⟨G2,ag,af,hc,ai⟩:=lend hc k0; exact (dP ar.1 ay.1 (Z.mono ag) af hc bz).mono fun e w h=>⟨h.1,((b _ _ ((ai _ _ h.2).unpick k0)).unpick k2)⟩) fun a w hf hc=>sp 2 hf rfl fun a hf=>cP 4 (fun a=>Has 217 a [(2,.slice V B.length R),(3,.slice S J.length U),(5,i6 rule),(8,pq i),(13,pq aa),(15,.slice ad j.length ac),(16,.slice z k.length ab),(17,.slice y m.length t),(18,.slice bn ar.1.length bm),(19,i6 ar.2),(20,.slice a2 ay.1.length a4),(21,i6 ay.2),(107,.slice bn ar.1.length bm),(108,.slice a2 ay.1.length a4),(109,.bool an),(110,.bool (!an)),(111,.bool (!an)),(115,.bool ((!an) || (ar.2 != ay.2)))]) hc ?_ ?_
   ·cases hb:(!an)
    ·rw [hb] at hf
     refine sp 4 hf rfl fun a hf=>aP ⟨hf.kp rfl,hc⟩
    ·rw [hb] at hf
     refine stS hf rfl rfl rfl fun a hf=>stS hf rfl rfl rfl fun a hf=>stS hf rfl rfl rfl fun a hf=>sp 1 hf rfl fun a hf=>aP ⟨hf.kp rfl,hc⟩
   intro a w ⟨hf,hc⟩
   refine zT h ?_
   refine zI hf rfl hF ?_ ?_ <;> clear hF <;> intro hF
   ·refine zS fun K h=>sp 1 hf rfl fun a hf=>zT h ?_
    refine wp_ret ?_
    refine aN ?_
    obtain rfl:=sj hF
    replace hc:=((((((hc.drop k6).drop k5).drop k4).drop k3).drop k2).drop k1).drop k0
    exact zO1 Tryz.results9 hf rfl ⟨rfl,hc⟩
   ·refine wp_skip ?_
    refine cn _ _ ?_
    refine zS fun K h=>sp 3 hf rfl fun a hf=>?_
    obtain ⟨X,bc,hF⟩:=aA hF
    refine zQ (v:=.tuple #[i6 X.1,i6 X.2.1,i6 X.2.2]) hf hc aLb rfl (fun w hc=>by obtain ⟨G1,q,Z,hc,b⟩:=lend hc k1; obtain ⟨G2,ag,af,hc,ai⟩:=lend hc k3; exact (tW j k rule (Z.mono ag) af hc bc).mono fun e w h=>⟨h.1,((b _ _ ((ai _ _ h.2).unpick k3)).unpick k1)⟩) fun a w hf hc=>sp 7 hf rfl fun a hf=>zT h ?_
    refine zS fun K h=>sp 3 hf rfl fun a hf=>?_
    obtain ⟨Y,a9,hF⟩:=aA hF
    refine zQ (v:=.tuple #[i6 Y.1,i6 Y.2.1,i6 Y.2.2]) hf hc en_46 rfl (fun w hc=>zX B J rule n s hc a9) fun a w hf hc=>sp 7 hf rfl fun a hf=>zT h ?_
    refine wp_seq_k fun K18 cc=>zS fun K h=>sp 4 hf rfl fun a hf=>cP 4 (fun a=>Has 217 a [(2,.slice V B.length R),(3,.slice S J.length U),(5,i6 rule),(8,pq i),(13,pq aa),(15,.slice ad j.length ac),(16,.slice z k.length ab),(17,.slice y m.length t),(19,i6 X.2.2),(21,i6 Y.2.2),(22,i6 X.1),(23,i6 X.2.1),(24,i6 Y.1),(25,i6 Y.2.1),(132,i6 X.1),(133,i6 Y.1),(134,.bool (X.1 != Y.1)),(135,.bool (X.1 != Y.1)),(139,.bool ((X.1 != Y.1) || (X.2.1 != Y.2.1)))]) hc ?_ ?_
    ·cases hb:(X.1 != Y.1)
     ·rw [hb] at hf
      refine sp 4 hf rfl fun a hf=>aP ⟨hf.kp rfl,hc⟩
     ·rw [hb] at hf
      refine stS hf rfl rfl rfl fun a hf=>stS hf rfl rfl rfl fun a hf=>stS hf rfl rfl rfl fun a hf=>sp 1 hf rfl fun a hf=>aP ⟨hf.kp rfl,hc⟩
    intro a w ⟨hf,hc⟩
    refine sp 1 hf rfl fun a hf=>cP 4 (fun a=>Has 217 a [(2,.slice V B.length R),(3,.slice S J.length U),(5,i6 rule),(8,pq i),(13,pq aa),(15,.slice ad j.length ac),(16,.slice z k.length ab),(17,.slice y m.length t),(19,i6 X.2.2),(21,i6 Y.2.2),(22,i6 X.1),(23,i6 X.2.1),(24,i6 Y.1),(25,i6 Y.2.1),(132,i6 X.1),(133,i6 Y.1),(134,.bool (X.1 != Y.1)),(135,.bool (X.1 != Y.1)),(139,.bool ((X.1 != Y.1) || (X.2.1 != Y.2.1))),(140,.bool ((X.1 != Y.1) || (X.2.1 != Y.2.1))),(144,.bool (((X.1 != Y.1) || (X.2.1 != Y.2.1)) || (X.2.2 != Y.2.2)))]) hc ?_ ?_
    ·cases hb:((X.1 != Y.1) || (X.2.1 != Y.2.1))
     ·rw [hb] at hf
      refine sp 4 hf rfl fun a hf=>aP ⟨hf.kp rfl,hc⟩
     ·rw [hb] at hf
      refine stS hf rfl rfl rfl fun a hf=>stS hf rfl rfl rfl fun a hf=>stS hf rfl rfl rfl fun a hf=>sp 1 hf rfl fun a hf=>aP ⟨hf.kp rfl,hc⟩
    intro a w ⟨hf,hc⟩
    refine zT h ?_
    refine zI hf rfl hF ?_ ?_ <;> clear hF <;> intro hF
    ·refine zS fun K h=>sp 1 hf rfl fun a hf=>zT h ?_
     refine wp_ret ?_
     refine aN ?_
     obtain rfl:=sj hF
     replace hc:=((((((hc.drop k6).drop k5).drop k4).drop k3).drop k2).drop k1).drop k0
     exact zO1 Tryz.results9 hf rfl ⟨rfl,hc⟩
    ·refine wp_skip ?_
     refine cc _ _ ?_
     refine wp_seq_k fun K21 cd=>bR ?_
     refine sp 3 hf rfl fun a hf=>?_
     obtain ⟨O,ba,hF⟩:=aA hF
     refine zQ (v:=.tuple #[.agg #[i6 O.1.N,i6 O.1.D],.agg #[i6 O.2.1.N,i6 O.2.1.D],i6 O.2.2]) hf hc aKn rfl (fun w hc=>by obtain ⟨G1,q,Z,hc,b⟩:=lend hc k1; obtain ⟨G2,ag,af,hc,ai⟩:=lend hc k3; exact (sK j k rule (Z.mono ag) af hc ba).mono fun e w h=>⟨h.1,((b _ _ ((ai _ _ h.2).unpick k3)).unpick k1)⟩) fun a w hf hc=>sp 4 hf rfl fun a hf=>zA hf hc rA rfl fun bi a w hf hc=>zA hf hc rA rfl fun bt a w hf hc=>zW hf hc jU u1 rfl fun w hc=>zW hf hc jU u0 rfl fun w hc=>sp 1 hf rfl fun a hf=>aP ?_
     replace hc:=(hc.drop k4).drop k2
     refine cd _ _ ?_
     refine zS fun K h=>sp 3 hf rfl fun a hf=>?_
     obtain ⟨M,a7,hF⟩:=aA hF
     refine zQ (v:=.tuple #[.agg #[i6 M.1.N,i6 M.1.D],.agg #[i6 M.2.1.N,i6 M.2.1.D],i6 M.2.2]) hf hc en_48 rfl (fun w hc=>xQ B J rule n s hc a7) fun a w hf hc=>sp 4 hf rfl fun a hf=>zA hf hc rA rfl fun bu a w hf hc=>zA hf hc rA rfl fun bq a w hf hc=>zW hf hc jU u1 rfl fun w hc=>zW hf hc jU u0 rfl fun w hc=>sp 1 hf rfl fun a hf=>zT h ?_
     refine wp_seq_k fun K23 cm=>wp_seq_k fun K24 cq=>bR ?_
     refine zN hf hc jW m3 rfl fun a w hf hc=>zN hf hc jW m1 rfl fun a w hf hc=>zP hf rfl (aEi aGn rfl rfl (aC6 _ _ _ _)) fun a hf=>sp 1 hf rfl fun a hf=>cP 4 (fun a=>Has 217 a [(2,.slice V B.length R),(3,.slice S J.length U),(5,i6 rule),(8,pq i),(13,pq aa),(15,.slice ad j.length ac),(16,.slice z k.length ab),(17,.slice y m.length t),(19,i6 O.2.2),(21,i6 M.2.2),(26,pq bi),(27,pq bt),(28,pq bu),(29,pq bq),(161,.agg #[i6 O.1.N,i6 O.1.D]),(162,.agg #[i6 M.1.N,i6 M.1.D]),(163,.bool (!(O.1.N == M.1.N && O.1.D == M.1.D))),(164,.bool (!(O.1.N == M.1.N && O.1.D == M.1.D))),(168,.bool ((!(O.1.N == M.1.N && O.1.D == M.1.D)) || (!(O.2.1.N == M.2.1.N && O.2.1.D == M.2.1.D))))]) hc ?_ ?_
     ·cases hb:(!(O.1.N == M.1.N && O.1.D == M.1.D))
      ·rw [hb] at hf
       refine zN hf hc jW m2 rfl fun a w hf hc=>zN hf hc jW m0 rfl fun a w hf hc=>zP hf rfl (aEi aGn rfl rfl (aC6 _ _ _ _)) fun a hf=>sp 1 hf rfl fun a hf=>aP ⟨hf.kp rfl,hc⟩
      ·rw [hb] at hf
       refine stS hf rfl rfl rfl fun a hf=>stS hf rfl rfl rfl fun a hf=>stS hf rfl rfl rfl fun a hf=>sp 1 hf rfl fun a hf=>aP ⟨hf.kp rfl,hc⟩
     intro a w ⟨hf,hc⟩
     refine sp 1 hf rfl fun a hf=>cP 4 (fun a=>Has 217 a [(2,.slice V B.length R),(3,.slice S J.length U),(5,i6 rule),(8,pq i),(13,pq aa),(15,.slice ad j.length ac),(16,.slice z k.length ab),(17,.slice y m.length t),(19,i6 O.2.2),(21,i6 M.2.2),(26,pq bi),(27,pq bt),(28,pq bu),(29,pq bq),(161,.agg #[i6 O.1.N,i6 O.1.D]),(162,.agg #[i6 M.1.N,i6 M.1.D]),(163,.bool (!(O.1.N == M.1.N && O.1.D == M.1.D))),(164,.bool (!(O.1.N == M.1.N && O.1.D == M.1.D))),(168,.bool ((!(O.1.N == M.1.N && O.1.D == M.1.D)) || (!(O.2.1.N == M.2.1.N && O.2.1.D == M.2.1.D)))),(169,.bool ((!(O.1.N == M.1.N && O.1.D == M.1.D)) || (!(O.2.1.N == M.2.1.N && O.2.1.D == M.2.1.D)))),(173,.bool (((!(O.1.N == M.1.N && O.1.D == M.1.D)) || (!(O.2.1.N == M.2.1.N && O.2.1.D == M.2.1.D))) || (O.2.2 != M.2.2)))]) hc ?_ ?_
     ·cases hb:((!(O.1.N == M.1.N && O.1.D == M.1.D)) || (!(O.2.1.N == M.2.1.N && O.2.1.D == M.2.1.D)))
      ·rw [hb] at hf
       refine sp 4 hf rfl fun a hf=>aP ⟨hf.kp rfl,hc⟩
      ·rw [hb] at hf
       refine stS hf rfl rfl rfl fun a hf=>stS hf rfl rfl rfl fun a hf=>stS hf rfl rfl rfl fun a hf=>sp 1 hf rfl fun a hf=>aP ⟨hf.kp rfl,hc⟩
     intro a w ⟨hf,hc⟩
     refine aP ?_
     replace hc:=(((hc.drop k3).drop k2).drop k1).drop k0
     refine cq _ _ ?_
     refine zI hf rfl hF ?_ ?_ <;> clear hF <;> intro hF
     ·refine zS fun K h=>sp 1 hf rfl fun a hf=>zT h ?_
      refine wp_ret ?_
      refine aN ?_
      obtain rfl:=sj hF
      replace hc:=((((hc.drop k4).drop k3).drop k2).drop k1).drop k0
      exact zO1 Tryz.results9 hf rfl ⟨rfl,hc⟩
     ·refine wp_skip ?_
      refine cm _ _ ?_
      refine zS fun K h=>sp 3 hf rfl fun a hf=>zN hf hc jW m3 rfl fun a w hf hc=>?_
      obtain ⟨I,bf,hF⟩:=aA hF
      refine zQ (v:=.tuple #[.bool I.1,i6 I.2]) hf hc en_49 rfl (fun w hc=>by obtain ⟨G1,q,Z,hc,b⟩:=lend hc k0; obtain ⟨G2,ag,af,hc,ai⟩:=lend hc k1; exact (zV j k rule x (Z.mono ag) af hc bf).mono fun e w h=>⟨h.1,((b _ _ ((ai _ _ h.2).unpick k1)).unpick k0)⟩) fun a w hf hc=>sp 5 hf rfl fun a hf=>zT h ?_
      refine zS fun K h=>sp 3 hf rfl fun a hf=>zN hf hc jW m3 rfl fun a w hf hc=>?_
      obtain ⟨H,bb,hF⟩:=aA hF
      refine zQ (v:=.tuple #[.bool H.1,i6 H.2]) hf hc aKq rfl (fun w hc=>uA B J rule x n s hc bb) fun a w hf hc=>sp 5 hf rfl fun a hf=>zT h ?_
      refine zS fun K h=>sp 2 hf rfl fun a hf=>zP hf rfl (pEqB Tryz.underlying4 rfl rfl) fun a hf=>sp 1 hf rfl fun a hf=>cP 4 (fun a=>Has 217 a [(2,.slice V B.length R),(3,.slice S J.length U),(8,pq i),(15,.slice ad j.length ac),(16,.slice z k.length ab),(17,.slice y m.length t),(19,i6 I.2),(21,i6 H.2),(30,.bool I.1),(31,.bool H.1),(190,.bool I.1),(191,.bool H.1),(192,.bool (I.1 == H.1)),(193,.bool (I.1 == H.1)),(197,.bool ((I.1 == H.1) && (I.2 == H.2)))]) hc ?_ ?_
      ·cases hb:(I.1 == H.1)
       ·rw [hb] at hf
        refine stS hf rfl rfl rfl fun a hf=>stS hf rfl rfl rfl fun a hf=>stS hf rfl rfl rfl fun a hf=>sp 1 hf rfl fun a hf=>aP ⟨hf.kp rfl,hc⟩
       ·rw [hb] at hf
        refine sp 4 hf rfl fun a hf=>aP ⟨hf.kp rfl,hc⟩
      intro a w ⟨hf,hc⟩
      refine sp 1 hf rfl fun a hf=>?_
      obtain ⟨am,a5,hF⟩:=aA hF
      refine cP 4 (fun a=>Has 217 a [(2,.slice V B.length R),(3,.slice S J.length U),(8,pq i),(15,.slice ad j.length ac),(16,.slice z k.length ab),(17,.slice y m.length t),(19,i6 I.2),(21,i6 H.2),(30,.bool I.1),(31,.bool H.1),(190,.bool I.1),(191,.bool H.1),(192,.bool (I.1 == H.1)),(193,.bool (I.1 == H.1)),(197,.bool ((I.1 == H.1) && (I.2 == H.2))),(198,.bool ((I.1 == H.1) && (I.2 == H.2))),(202,.bool am)]) hc ?_ ?_
      ·cases hb:((I.1 == H.1) && (I.2 == H.2))
       ·rw [hb] at hf
        have hF:=fN hb a5
        obtain rfl:=sj hF
        refine stS hf rfl rfl rfl fun a hf=>stS hf rfl rfl rfl fun a hf=>stS hf rfl rfl rfl fun a hf=>sp 1 hf rfl fun a hf=>aP ⟨hf.kp rfl,hc⟩
       ·rw [hb] at hf
        have hF:=fO hb a5
        refine sp 2 hf rfl fun a hf=>?_
        obtain ⟨b1,a6,hF⟩:=aA hF
        refine zQ (v:=.bool b1) hf hc tY rfl (fun w hc=>by obtain ⟨G1,q,Z,hc,b⟩:=lend hc k0; exact (dP j B Z (n.mono q) hc a6).mono fun e w h=>⟨h.1,((b _ _ h.2).unpick k0)⟩) fun a w hf hc=>sp 1 hf rfl fun a hf=>?_
        obtain rfl:=sj hF
        exact aP ⟨hf.kp rfl,hc⟩
      intro a w ⟨hf,hc⟩
      refine sp 1 hf rfl fun a hf=>?_
      obtain ⟨aq,a0,hF⟩:=aA hF
      refine cP 4 (fun a=>Has 217 a [(2,.slice V B.length R),(3,.slice S J.length U),(8,pq i),(15,.slice ad j.length ac),(16,.slice z k.length ab),(17,.slice y m.length t),(19,i6 I.2),(21,i6 H.2),(30,.bool I.1),(31,.bool H.1),(190,.bool I.1),(191,.bool H.1),(192,.bool (I.1 == H.1)),(193,.bool (I.1 == H.1)),(197,.bool ((I.1 == H.1) && (I.2 == H.2))),(198,.bool ((I.1 == H.1) && (I.2 == H.2))),(202,.bool am),(203,.bool am),(207,.bool aq)]) hc ?_ ?_
      ·cases hb:am
       ·rw [hb] at hf
        try rw [hb] at hc
        have hF:=fN hb a0
        obtain rfl:=sj hF
        refine stS hf rfl rfl rfl fun a hf=>stS hf rfl rfl rfl fun a hf=>stS hf rfl rfl rfl fun a hf=>sp 1 hf rfl fun a hf=>aP ⟨hf.kp rfl,hc⟩
       ·rw [hb] at hf
        try rw [hb] at hc
        have hF:=fO hb a0
        refine sp 2 hf rfl fun a hf=>?_
        obtain ⟨b0,bd,hF⟩:=aA hF
        refine zQ (v:=.bool b0) hf hc tY rfl (fun w hc=>by obtain ⟨G1,q,Z,hc,b⟩:=lend hc k2; exact (dP k J Z (s.mono q) hc bd).mono fun e w h=>⟨h.1,((b _ _ h.2).unpick k2)⟩) fun a w hf hc=>sp 1 hf rfl fun a hf=>?_
        obtain rfl:=sj hF
        exact aP ⟨hf.kp rfl,hc⟩
      intro a w ⟨hf,hc⟩
      refine sp 1 hf rfl fun a hf=>?_
      obtain ⟨az,a1,hF⟩:=aA hF
      refine cP 5 (fun a=>Has 217 a [(2,.slice V B.length R),(3,.slice S J.length U),(8,pq i),(15,.slice ad j.length ac),(16,.slice z k.length ab),(17,.slice y m.length t),(19,i6 I.2),(21,i6 H.2),(30,.bool I.1),(31,.bool H.1),(190,.bool I.1),(191,.bool H.1),(192,.bool (I.1 == H.1)),(193,.bool (I.1 == H.1)),(197,.bool ((I.1 == H.1) && (I.2 == H.2))),(198,.bool ((I.1 == H.1) && (I.2 == H.2))),(202,.bool am),(203,.bool am),(207,.bool aq),(208,.bool aq),(213,.bool az)]) hc ?_ ?_
      ·cases hb:aq
       ·rw [hb] at hf
        try rw [hb] at hc
        have hF:=fN hb a1
        obtain rfl:=sj hF
        refine stS hf rfl rfl rfl fun a hf=>stS hf rfl rfl rfl fun a hf=>stS hf rfl rfl rfl fun a hf=>stS hf rfl rfl rfl fun a hf=>sp 1 hf rfl fun a hf=>aP ⟨hf.kp rfl,hc⟩
       ·rw [hb] at hf
        try rw [hb] at hc
        have hF:=fO hb a1
        refine sp 1 hf rfl fun a hf=>zP hf rfl (pFA pO rfl) fun a hf=>zL hf hc xC m4 rfl fun a w hf hc=>?_
        obtain ⟨b8,a8,hF⟩:=aA hF
        refine zQ (v:=.bool b8) hf hc tY rfl (fun w hc=>by obtain ⟨G1,q,Z,hc,b⟩:=lend hc k1; exact (dP m p_.Can Z (aj.mono q) hc a8).mono fun e w h=>⟨h.1,((b _ _ h.2).unpick k1)⟩) fun a w hf hc=>sp 1 hf rfl fun a hf=>?_
        obtain rfl:=sj hF
        exact aP ⟨hf.kp rfl,hc⟩
      intro a w ⟨hf,hc⟩
      refine sp 1 hf rfl fun a hf=>?_
      obtain ⟨ca,a3,hF⟩:=aA hF
      refine cP 2 (fun a=>Has 217 a [(2,.slice V B.length R),(3,.slice S J.length U),(8,pq i),(15,.slice ad j.length ac),(16,.slice z k.length ab),(17,.slice y m.length t),(19,i6 I.2),(21,i6 H.2),(30,.bool I.1),(31,.bool H.1),(190,.bool I.1),(191,.bool H.1),(192,.bool (I.1 == H.1)),(193,.bool (I.1 == H.1)),(197,.bool ((I.1 == H.1) && (I.2 == H.2))),(198,.bool ((I.1 == H.1) && (I.2 == H.2))),(202,.bool am),(203,.bool am),(207,.bool aq),(208,.bool aq),(213,.bool az),(214,.bool az),(216,.bool ca)]) hc ?_ ?_
      ·cases hb:az
       ·rw [hb] at hf
        try rw [hb] at hc
        have hF:=fN hb a3
        obtain rfl:=sj hF
        refine stS hf rfl rfl rfl fun a hf=>sp 1 hf rfl fun a hf=>aP ⟨hf.kp rfl,hc⟩
       ·rw [hb] at hf
        try rw [hb] at hc
        have hF:=fO hb a3
        obtain ⟨b5,bg,hF⟩:=aA hF
        refine zQ (v:=.bool b5) hf hc aAh rfl (fun w hc=>jT hc bg) fun a w hf hc=>sp 1 hf rfl fun a hf=>?_
        obtain rfl:=sj hF
        exact aP ⟨hf.kp rfl,hc⟩
      intro a w ⟨hf,hc⟩
      refine sp 1 hf rfl fun a hf=>zT h ?_
      refine wp_ret ?_
      obtain rfl:=sj hF
      replace hc:=((((hc.drop k4).drop k3).drop k2).drop k1).drop k0
      exact zO1 Tryz.results9 hf rfl ⟨rfl,hc⟩

end Go.Nilo
