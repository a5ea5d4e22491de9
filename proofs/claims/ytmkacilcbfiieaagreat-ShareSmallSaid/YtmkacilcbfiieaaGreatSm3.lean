/-
 What functions of the Go text compute, as plain functions, and that they do, part 3 of 5. Conditions: what each theorem names.
-/
import Derived.Test.YtmkacilcbfiieaaGreatSm2
import Derived.Test.YtmkacilcbfiieaaGreatProg
set_option linter.unusedVariables false
set_option linter.unusedSimpArgs false
set_option maxRecDepth 100000
set_option maxHeartbeats 4000000
namespace Go.Nilo
open Go.Proofs


def iQ (N:Nat) (l:List bS) (B:Int):Option (bH (Int) (Int)) :=
 cond (decide (B < ((l.length:Nat):Int)))
 (Option.bind (aZ l B) fun H=>
 Option.bind (cond (cS H.Index 0 1000000000) (some true) (Option.bind (aZ l B) fun D=>
 some (cS D.Delivered 0 1000000000))) fun I=>
 cond I
 (some (.ret 100))
 (some (.cont (W (B + 1)))))
 (some (.brk B))
def oF (N:Nat) (b_:bO) (B:aE) (l:List bS):Option (Int) :=
 Option.bind (gC N b_) fun r=>
 cond (r != 0)
 (some r)
 (cond (cS B (-1000000000) 1000000000)
 (some 4)
 (cond (decide (40 < ((l.length:Nat):Int)))
 (some 3)
 (Option.bind (aT (fun D=>iQ N l D) N 0) fun H=>
 exK H (fun D=>some 0) some)))
theorem uT {N:Nat} {G:bA} {Lf:List Ent} {w:World} (b_:bO) (I:aE) (l:List bS) {B:Option Addr} {H:Nat} {R:Option Addr} {O:Nat} (M:Rd G 2 B H (b_.Table.map bW)) (d:Rd G 5 R O (l.map dE)) (hc:Ctx G (Lf) w) {X:Int} (hF:oF N b_ I l=some X):Calls Tryz.prog 74 #[.agg #[.slice B b_.Table.length H,i6 b_.Credit],.agg #[i6 I.Lo,i6 I.Hi],.slice R l.length O] w (fun e w=>e=.returned (i6 X)∧Ctx G (Lf) w):=by
 unfold oF at hF
 refine cG Tryz.func74 rfl Tryz.ntmps74 rfl fun a hf=>zS fun K h=>zB hf hc rfl fun af a w hf hc=>zB hf hc rfl fun ab a w hf hc=>sp 1 hf rfl fun a hf=>zT h ?_
 refine wp_seq_k fun K2 h2=>zS fun K h=>zN hf hc uL m1 rfl fun a w hf hc=>?_
 obtain ⟨r,hr,hF⟩:=aA hF
 refine zQ (v:=i6 r) hf hc aIj rfl (fun w hc=>mS b_ M hc hr) fun a w hf hc=>sp 1 hf rfl fun a hf=>zT h ?_
 refine zS fun K h=>sp 2 hf rfl fun a hf=>zT h ?_
 refine zI hf rfl hF ?_ ?_ <;> clear hF <;> intro hF
 ·refine zS fun K h=>sp 2 hf rfl fun a hf=>zT h ?_
  refine wp_ret ?_
  refine aN ?_
  obtain rfl:=sj hF
  replace hc:=(hc.drop k1).drop k0
  exact zO1 Tryz.results74 hf rfl ⟨rfl,hc⟩
 ·refine wp_skip ?_
  refine h2 _ _ ?_
  refine wp_seq_k fun K6 h6=>zS fun K h=>zN hf hc mL m0 rfl fun a w hf hc=>zQ (v:=.bool (cS I (-1000000000) 1000000000)) hf hc aGj rfl (fun w hc=>oL I (-1000000000) 1000000000 hc rfl) fun a w hf hc=>zT h ?_
  refine zI hf rfl hF ?_ ?_ <;> clear hF <;> intro hF
  ·refine zS fun K h=>sp 1 hf rfl fun a hf=>zT h ?_
   refine wp_ret ?_
   refine aN ?_
   obtain rfl:=sj hF
   replace hc:=(hc.drop k1).drop k0
   exact zO1 Tryz.results74 hf rfl ⟨rfl,hc⟩
  ·refine wp_skip ?_
   refine h6 _ _ ?_
   refine wp_seq_k fun K9 h9=>zS fun K h=>sp 1 hf rfl fun a hf=>zP hf rfl (bL Tryz.underlying83 rfl) fun a hf=>sp 1 hf rfl fun a hf=>zT h ?_
   refine zI hf rfl hF ?_ ?_ <;> clear hF <;> intro hF
   ·refine zS fun K h=>sp 1 hf rfl fun a hf=>zT h ?_
    refine wp_ret ?_
    refine aN ?_
    obtain rfl:=sj hF
    replace hc:=(hc.drop k1).drop k0
    exact zO1 Tryz.results74 hf rfl ⟨rfl,hc⟩
   ·refine wp_skip ?_
    refine h9 _ _ ?_
    refine wp_seq_k fun K12 t=>zS fun K h=>sp 1 hf rfl fun a hf=>zT h ?_
    refine wp_block ?_
    obtain ⟨Z,s,hF⟩:=aA hF
    let S14:Int→Act→World→Prop:=(fun (zz:Int) a w=>Has 39 a [(2,.slice R l.length O),(8,i6 zz)]∧Ctx G (Lf) w)
    have k:∀ (zz:Int) a w,Z=.go zz→S14 zz a w→K12 a w:=by
     rintro U a w rfl ⟨hf,hc⟩
     replace hF:=bQ hF
     refine t _ _ ?_
     refine zS fun K h=>sp 1 hf rfl fun a hf=>zT h ?_
     refine wp_ret ?_
     obtain rfl:=sj hF
     exact zO1 Tryz.results74 hf rfl ⟨rfl,hc⟩
    have q:∀ r,Z=.out r→r=X:=by
     rintro r rfl
     exact sj hF
    replace hc:=(hc.drop k1).drop k0
    refine cX N (cV (S:=S14) (x:=Z) ?_ N 0 _ _ ⟨hf.kp rfl,hc⟩ s)
    clear hF hf hc
    rintro U aa a w KB14 ⟨hf,hc⟩ hF D g
    unfold iQ at hF
    refine wp_seq_k fun K16 u=>zS fun K h=>sp 2 hf rfl fun a hf=>zP hf rfl (bL Tryz.underlying83 rfl) fun a hf=>sp 1 hf rfl fun a hf=>zT h ?_
    refine zI hf rfl hF ?_ ?_ <;> clear hF <;> intro hF
    ·refine wp_skip ?_
     refine u _ _ ?_
     refine wp_seq_k fun K18 y=>wp_block ?_
     refine zS fun K h=>sp 2 hf rfl fun a hf=>?_
     obtain ⟨J,i,hF⟩:=aA hF
     obtain ⟨b,o,qa,qp⟩:=d.atm i
     refine zP hf rfl (pIA Tryz.underlying83 tM rfl rfl qa) fun a hf=>zP hf rfl (pFA vH rfl) fun a hf=>zE hf hc rfl (kG (vs:=[i6 J.Index.Lo,i6 J.Index.Hi]) mL rfl rfl (cR qp (n:=2) (o':=0) rfl)) fun a w hf hc=>zQ (v:=.bool (cS J.Index 0 1000000000)) hf hc aGj rfl (fun w hc=>oL J.Index 0 1000000000 hc rfl) fun a w hf hc=>sp 1 hf rfl fun a hf=>?_
     obtain ⟨z,Y,hF⟩:=aA hF
     refine cP 7 (fun a=>Has 39 a [(2,.slice R l.length O),(8,i6 U),(25,.slice R l.length O),(26,i6 U),(27,.pointer (some ⟨b,o,none⟩)),(28,.pointer (some ⟨b,o + 0,none⟩)),(29,.agg #[i6 J.Index.Lo,i6 J.Index.Hi]),(30,.bool (cS J.Index 0 1000000000)),(31,.bool (cS J.Index 0 1000000000)),(38,.bool z)]) hc ?_ ?_
     ·cases hb:(cS J.Index 0 1000000000)
      ·rw [hb] at hf
       have hF:=fN hb Y
       refine sp 2 hf rfl fun a hf=>?_
       obtain ⟨V,j,hF⟩:=aA hF
       obtain ⟨ad,ac,p,m⟩:=d.atm j
       refine zP hf rfl (pIA Tryz.underlying83 tM rfl rfl p) fun a hf=>zP hf rfl (pFA uY rfl) fun a hf=>zE hf hc rfl (kG (vs:=[i6 V.Delivered.Lo,i6 V.Delivered.Hi]) mL rfl rfl (cR m (n:=2) (o':=2) rfl)) fun a w hf hc=>zQ (v:=.bool (cS V.Delivered 0 1000000000)) hf hc aGj rfl (fun w hc=>oL V.Delivered 0 1000000000 hc rfl) fun a w hf hc=>sp 1 hf rfl fun a hf=>?_
       obtain rfl:=sj hF
       exact aP ⟨hf.kp rfl,hc⟩
      ·rw [hb] at hf
       have hF:=fO hb Y
       obtain rfl:=sj hF
       refine stS hf rfl rfl rfl fun a hf=>stS hf rfl rfl rfl fun a hf=>stS hf rfl rfl rfl fun a hf=>stS hf rfl rfl rfl fun a hf=>stS hf rfl rfl rfl fun a hf=>stS hf rfl rfl rfl fun a hf=>sp 1 hf rfl fun a hf=>aP ⟨hf.kp rfl,hc⟩
     intro a w ⟨hf,hc⟩
     refine zT h ?_
     refine zI hf rfl hF ?_ ?_ <;> clear hF <;> intro hF
     ·refine zS fun K h=>sp 1 hf rfl fun a hf=>zT h ?_
      refine wp_ret ?_
      refine bI ?_
      refine aN ?_
      refine aN ?_
      have he:=sj hF
      rw [← he] at D
      replace hF:=q _ D
      refine bI ?_
      refine aN ?_
      obtain rfl:=hF
      exact zO1 Tryz.results74 hf rfl ⟨rfl,hc⟩
     ·refine wp_skip ?_
      refine y _ _ ?_
      refine bR ?_
      refine sp 3 hf rfl fun a hf=>aP ?_
      exact g (W (U + 1)) _ _ (sj hF).symm ⟨hf.kp rfl,hc⟩
    ·refine wp_exit ?_
     refine bE ?_
     refine bE ?_
     have he:=sj hF
     rw [← he] at D
     refine eX ?_
     exact k _ _ _ D ⟨hf.kp rfl,hc⟩

def hM (N:Nat) (b_:bO) (debt:Int) (H:Int) (B:Int) (D:Bool):Option (Int) :=
 cond D
 (some 0)
 (Option.bind (qW N b_ H) fun r=>
 cond (decide ((W ((W (debt + r)) - B)) < (W (0 - b_.Credit))))
 (some (W (0 - b_.Credit)))
 (some (W ((W (debt + r)) - B))))
theorem qB {N:Nat} {G:bA} {Lf:List Ent} {w:World} (b_:bO) (debt:Int) (J:Int) (H:Int) (M:Bool) {B:Option Addr} {D:Nat} (I:Rd G 2 B D (b_.Table.map bW)) (hc:Ctx G (Lf) w) {O:Int} (hF:hM N b_ debt J H M=some O):Calls Tryz.prog 75 #[.agg #[.slice B b_.Table.length D,i6 b_.Credit],i6 debt,i6 J,i6 H,.bool M] w (fun e w=>e=.returned (i6 O)∧Ctx G (Lf) w):=by
 unfold hM at hF
 refine cG Tryz.func75 rfl Tryz.ntmps75 rfl fun a hf=>zS fun K h=>zB hf hc rfl fun R a w hf hc=>sp 1 hf rfl fun a hf=>zT h ?_
 refine wp_seq_k fun K2 h2=>zS fun K h=>sp 1 hf rfl fun a hf=>zT h ?_
 refine zI hf rfl hF ?_ ?_ <;> clear hF <;> intro hF
 ·refine zS fun K h=>sp 1 hf rfl fun a hf=>zT h ?_
  refine wp_ret ?_
  refine aN ?_
  obtain rfl:=sj hF
  replace hc:=hc.drop k0
  exact zO1 Tryz.results75 hf rfl ⟨rfl,hc⟩
 ·refine wp_skip ?_
  refine h2 _ _ ?_
  refine zS fun K h=>sp 1 hf rfl fun a hf=>zN hf hc uL m0 rfl fun a w hf hc=>sp 1 hf rfl fun a hf=>?_
  obtain ⟨r,hr,hF⟩:=aA hF
  refine zQ (v:=i6 r) hf hc aK3 rfl (fun w hc=>xK b_ J I hc hr) fun a w hf hc=>sp 4 hf rfl fun a hf=>zT h ?_
  refine wp_seq_k fun K6 h6=>zS fun K h=>sp 1 hf rfl fun a hf=>zP hf rfl (pFA aDa rfl) fun a hf=>zL hf hc bB m0 rfl fun a w hf hc=>sp 2 hf rfl fun a hf=>zT h ?_
  refine zI hf rfl hF ?_ ?_ <;> clear hF <;> intro hF
  ·refine zS fun K h=>zP hf rfl (pFA aDa rfl) fun a hf=>zL hf hc bB m0 rfl fun a w hf hc=>sp 2 hf rfl fun a hf=>zT h ?_
   refine wp_ret ?_
   refine aN ?_
   obtain rfl:=sj hF
   replace hc:=hc.drop k0
   exact zO1 Tryz.results75 hf rfl ⟨rfl,hc⟩
  ·refine wp_skip ?_
   refine h6 _ _ ?_
   refine zS fun K h=>sp 2 hf rfl fun a hf=>zT h ?_
   refine wp_ret ?_
   obtain rfl:=sj hF
   replace hc:=hc.drop k0
   exact zO1 Tryz.results75 hf rfl ⟨rfl,hc⟩

def jI (N:Nat) (b_:bO) (l:List bS) (D:List cD) (debt:Int) (out:List Int) (B:Int):Option (bH (Int × (List Int) × Int) ((List Int) × Int)) :=
 cond (decide (B < ((l.length:Nat):Int)))
 (Option.bind (aZ D B) fun Y=>
 Option.bind (aZ l B) fun X=>
 Option.bind (aZ l B) fun M=>
 Option.bind (cond (aC Y.Index X.Index.Lo M.Index.Hi) (some true) (Option.bind (aZ D B) fun S=>
 Option.bind (aZ l B) fun J=>
 Option.bind (aZ l B) fun R=>
 some (aC S.Delivered J.Delivered.Lo R.Delivered.Hi))) fun I=>
 cond I
 (some (.ret (([]:List Int),7)))
 (Option.bind (aZ D B) fun O=>
 Option.bind (aZ D B) fun U=>
 Option.bind (aZ l B) fun V=>
 Option.bind (hM N b_ debt O.Index U.Delivered V.Spill) fun H=>
 Option.bind (jE ((out++[H])).length) fun un=>
 some (.cont (H,(out++[H]),W (B + 1)))))
 (some (.brk (debt,out,B)))
def qZ (N:Nat) (b_:bO) (B:Int) (l:List bS) (H:List cD):Option ((List Int) × Int) :=
 Option.bind (oF N b_ (⟨B,B⟩:aE) l) fun r=>
 cond (r != 0)
 (some (([]:List Int),r))
 (cond (((H.length:Nat):Int) != ((l.length:Nat):Int))
 (some (([]:List Int),2))
 (Option.bind (aT (fun D=>jI N b_ l H D.1 D.2.1 D.2.2) N (B,([]:List Int),0)) fun I=>
 exK I (fun D=>some (D.2.1,0)) some))
theorem aB4 {N:Nat} {G:bA} {Lf:List Ent} {w:World} (b_:bO) (J:Int) (l:List bS) (M:List cD) {D:Option Addr} {B:Nat} {m:Option Addr} {d:Nat} {I:Option Addr} {H:Nat} (R:Rd G 2 D B (b_.Table.map bW)) (i:Rd G 5 m d (l.map dE)) (O:Rd G 2 I H (M.map eV)) (hc:Ctx G (Lf) w) {p:(List Int) × Int} (hF:qZ N b_ J l M=some p):Calls Tryz.prog 36 #[.agg #[.slice D b_.Table.length B,i6 b_.Credit],i6 J,.slice m l.length d,.slice I M.length H] w (fun e w=>∃ (ag:Option Addr) (aj:Nat),e=.returned (.tuple #[.slice ag p.1.length aj,i6 p.2])∧Ctx G (.row ag aj (p.1.map aD) 3 1::Lf) w):=by
 unfold qZ at hF
 refine cG Tryz.func36 rfl Tryz.ntmps36 rfl fun a hf=>zS fun K h=>zB hf hc rfl fun y a w hf hc=>sp 2 hf rfl fun a hf=>zT h ?_
 refine wp_seq_k fun K2 h2=>zS fun K h=>zN hf hc uL m0 rfl fun a w hf hc=>sp 2 hf rfl fun a hf=>zP hf rfl (bG (cells:=[i6 J,i6 J]) tF rfl rfl) fun a hf=>sp 1 hf rfl fun a hf=>?_
 obtain ⟨r,hr,hF⟩:=aA hF
 refine zQ (v:=i6 r) hf hc aLe rfl (fun w hc=>uT b_ (⟨J,J⟩:aE) l R i hc hr) fun a w hf hc=>sp 1 hf rfl fun a hf=>zT h ?_
 refine zS fun K h=>sp 2 hf rfl fun a hf=>zT h ?_
 refine zI hf rfl hF ?_ ?_ <;> clear hF <;> intro hF
 ·refine zS fun K h=>sp 3 hf rfl fun a hf=>zT h ?_
  refine wp_ret ?_
  refine aN ?_
  obtain rfl:=sj hF
  replace hc:=hc.nilRow 3 1
  replace hc:=hc.drop k1
  exact zO2 Tryz.results36 hf rfl rfl ⟨none,0,rfl,hc⟩
 ·refine wp_skip ?_
  refine h2 _ _ ?_
  refine wp_seq_k fun K6 h6=>zS fun K h=>sp 1 hf rfl fun a hf=>zP hf rfl (bL Tryz.underlying84 rfl) fun a hf=>sp 1 hf rfl fun a hf=>zP hf rfl (bL Tryz.underlying83 rfl) fun a hf=>sp 1 hf rfl fun a hf=>zT h ?_
  refine zI hf rfl hF ?_ ?_ <;> clear hF <;> intro hF
  ·refine zS fun K h=>sp 2 hf rfl fun a hf=>zT h ?_
   refine wp_ret ?_
   refine aN ?_
   obtain rfl:=sj hF
   replace hc:=hc.nilRow 3 1
   replace hc:=hc.drop k1
   exact zO2 Tryz.results36 hf rfl rfl ⟨none,0,rfl,hc⟩
  ·refine wp_skip ?_
   refine h6 _ _ ?_
   refine zS fun K h=>sp 2 hf rfl fun a hf=>zT h ?_
   refine zS fun K h=>sp 1 hf rfl fun a hf=>zT h ?_
   refine wp_seq_k fun K11 bv=>zS fun K h=>sp 1 hf rfl fun a hf=>zT h ?_
   refine wp_block ?_
   obtain ⟨aa,a1,hF⟩:=aA hF
   let S13:(Int × (List Int) × Int)→Act→World→Prop:=(fun (zz:Int × (List Int) × Int) a w=>∃ (Y:Option Addr) (V:Nat),Has 96 a [(2,.slice m l.length d),(3,.slice I M.length H),(4,pq y),(11,i6 zz.1),(12,.slice Y zz.2.1.length V),(13,i6 zz.2.2)]∧Ctx G (.row Y V (zz.2.1.map aD) 3 1::.box y [.slice D b_.Table.length B,i6 b_.Credit] 90::Lf) w)
   have av:∀ (zz:Int × (List Int) × Int) a w,aa=.go zz→S13 zz a w→K11 a w:=by
    rintro ⟨debt,out,k⟩ a w rfl ⟨Y,V,hf,hc⟩
    replace hF:=bQ hF
    refine bv _ _ ?_
    refine zS fun K h=>sp 3 hf rfl fun a hf=>zT h ?_
    refine wp_ret ?_
    obtain rfl:=sj hF
    replace hc:=hc.drop k1
    exact zO2 Tryz.results36 hf rfl rfl ⟨Y,V,rfl,hc⟩
   have au:∀ r,aa=.out r→r=p:=by
    rintro r rfl
    exact sj hF
   replace hc:=hc.nilRow 3 1
   refine cX N (cV (S:=S13) (x:=aa) ?_ N (J,([]:List Int),0) _ _ ⟨none,0,hf.kp rfl,hc⟩ a1)
   clear hF hf hc
   rintro ⟨debt,out,k⟩ b3 a w KB13 ⟨Y,V,hf,hc⟩ hF U ar
   unfold jI at hF
   refine wp_seq_k fun K15 bt=>zS fun K h=>sp 2 hf rfl fun a hf=>zP hf rfl (bL Tryz.underlying83 rfl) fun a hf=>sp 1 hf rfl fun a hf=>zT h ?_
   refine zI hf rfl hF ?_ ?_ <;> clear hF <;> intro hF
   ·refine wp_skip ?_
    refine bt _ _ ?_
    refine wp_seq_k fun K17 bx=>wp_block ?_
    refine wp_seq_k fun K18 bp=>wp_seq_k fun K19 br=>?_
    obtain ⟨X,a7,hF⟩:=aA hF
    obtain ⟨af,o,qa,qp⟩:=O.atm a7
    obtain ⟨b,a9,hF⟩:=aA hF
    obtain ⟨q,u,bf,aq⟩:=i.atm a9
    obtain ⟨Z,a2,hF⟩:=aA hF
    obtain ⟨ad,z,bi,bn⟩:=i.atm a2
    obtain ⟨bq,ac,hF⟩:=aA hF
    refine cQ hc aY (by kernel_rfl) ?_
    refine qE hf rfl rfl rfl (Pu.ev (pM rfl)) fun a hf=>qE hf rfl rfl rfl (Pu.ev (pM rfl)) fun a hf=>qE hf rfl rfl rfl (Pu.ev (pIA Tryz.underlying84 aD4 rfl rfl qa)) fun a hf=>qE hf rfl rfl rfl (Pu.ev (pFA aEl rfl)) fun a hf=>qE hf rfl rfl rfl (bP bB rfl (bK (j:=0) qp rfl)) fun a hf=>qE hf rfl rfl rfl (Pu.ev (pM rfl)) fun a hf=>qE hf rfl rfl rfl (Pu.ev (pM rfl)) fun a hf=>qE hf rfl rfl rfl (Pu.ev (pIA Tryz.underlying83 tM rfl rfl bf)) fun a hf=>qE hf rfl rfl rfl (Pu.ev (pFA vH rfl)) fun a hf=>qE hf rfl rfl rfl (Pu.ev (pFA hC rfl)) fun a hf=>qE hf rfl rfl rfl (bP bB rfl (bK (j:=0) aq rfl)) fun a hf=>qE hf rfl rfl rfl (Pu.ev (pM rfl)) fun a hf=>qE hf rfl rfl rfl (Pu.ev (pM rfl)) fun a hf=>?_
    refine qE hf rfl rfl rfl (Pu.ev (pIA Tryz.underlying83 tM rfl rfl bi)) fun a hf=>qE hf rfl rfl rfl (Pu.ev (pFA vH rfl)) fun a hf=>qE hf rfl rfl rfl (Pu.ev (pFA hI rfl)) fun a hf=>qE hf rfl rfl rfl (bP bB rfl (bK (j:=1) bn rfl)) fun a hf=>qE hf rfl rfl rfl (eC (v:=.bool (aC X.Index b.Index.Lo Z.Index.Hi)) (vs:=[i6 X.Index,i6 b.Index.Lo,i6 Z.Index.Hi]) (caps:=[]) nM rfl rfl rfl rfl (fun w hc=>bJ X.Index b.Index.Lo Z.Index.Hi hc rfl)) fun a hf=>qE hf rfl rfl rfl (Pu.ev (pM rfl)) fun a hf=>aBd 19 (fun a=>Has 96 a [(2,.slice m l.length d),(3,.slice I M.length H),(4,pq y),(11,i6 debt),(12,.slice Y out.length V),(13,i6 k),(35,.slice I M.length H),(36,i6 k),(37,.pointer (some ⟨af,o,none⟩)),(38,.pointer (some ⟨af,o + 0,none⟩)),(39,i6 X.Index),(40,.slice m l.length d),(41,i6 k),(42,.pointer (some ⟨q,u,none⟩)),(43,.pointer (some ⟨q,u + 0,none⟩)),(44,.pointer (some ⟨q,u + 0 + 0,none⟩)),(45,i6 b.Index.Lo),(46,.slice m l.length d),(47,i6 k),(48,.pointer (some ⟨ad,z,none⟩)),(49,.pointer (some ⟨ad,z + 0,none⟩)),(50,.pointer (some ⟨ad,z + 0 + 1,none⟩)),(51,i6 Z.Index.Hi),(52,.bool (aC X.Index b.Index.Lo Z.Index.Hi)),(53,.bool (aC X.Index b.Index.Lo Z.Index.Hi)),(72,.bool bq)]) ?_ ?_
    ·cases hb:(aC X.Index b.Index.Lo Z.Index.Hi)
     ·rw [hb] at hf
      have hF:=fN hb ac
      obtain ⟨ab,a3,hF⟩:=aA hF
      obtain ⟨cf,b6,ax,az⟩:=O.atm a3
      obtain ⟨s,bk,hF⟩:=aA hF
      obtain ⟨b8,cb,a0,a4⟩:=i.atm bk
      obtain ⟨t,bd,hF⟩:=aA hF
      obtain ⟨ca,b4,ba,bg⟩:=i.atm bd
      refine qE hf rfl rfl rfl (Pu.ev (pM rfl)) fun a hf=>qE hf rfl rfl rfl (Pu.ev (pM rfl)) fun a hf=>qE hf rfl rfl rfl (Pu.ev (pIA Tryz.underlying84 aD4 rfl rfl ax)) fun a hf=>qE hf rfl rfl rfl (Pu.ev (pFA aEv rfl)) fun a hf=>qE hf rfl rfl rfl (bP bB rfl (bK (j:=1) az rfl)) fun a hf=>qE hf rfl rfl rfl (Pu.ev (pM rfl)) fun a hf=>qE hf rfl rfl rfl (Pu.ev (pM rfl)) fun a hf=>qE hf rfl rfl rfl (Pu.ev (pIA Tryz.underlying83 tM rfl rfl a0)) fun a hf=>qE hf rfl rfl rfl (Pu.ev (pFA uY rfl)) fun a hf=>qE hf rfl rfl rfl (Pu.ev (pFA hC rfl)) fun a hf=>qE hf rfl rfl rfl (bP bB rfl (bK (j:=2) a4 rfl)) fun a hf=>qE hf rfl rfl rfl (Pu.ev (pM rfl)) fun a hf=>qE hf rfl rfl rfl (Pu.ev (pM rfl)) fun a hf=>?_
      refine qE hf rfl rfl rfl (Pu.ev (pIA Tryz.underlying83 tM rfl rfl ba)) fun a hf=>qE hf rfl rfl rfl (Pu.ev (pFA uY rfl)) fun a hf=>qE hf rfl rfl rfl (Pu.ev (pFA hI rfl)) fun a hf=>qE hf rfl rfl rfl (bP bB rfl (bK (j:=3) bg rfl)) fun a hf=>qE hf rfl rfl rfl (eC (v:=.bool (aC ab.Delivered s.Delivered.Lo t.Delivered.Hi)) (vs:=[i6 ab.Delivered,i6 s.Delivered.Lo,i6 t.Delivered.Hi]) (caps:=[]) nM rfl rfl rfl rfl (fun w hc=>bJ ab.Delivered s.Delivered.Lo t.Delivered.Hi hc rfl)) fun a hf=>qE hf rfl rfl rfl (Pu.ev (pPf rfl rfl)) fun a hf=>?_
      obtain rfl:=sj hF
      exact rU (hf.kp rfl)
     ·rw [hb] at hf
      have hF:=fO hb ac
      obtain rfl:=sj hF
      refine qS hf rfl rfl rfl fun a hf=>qS hf rfl rfl rfl fun a hf=>qS hf rfl rfl rfl fun a hf=>qS hf rfl rfl rfl fun a hf=>qS hf rfl rfl rfl fun a hf=>qS hf rfl rfl rfl fun a hf=>qS hf rfl rfl rfl fun a hf=>qS hf rfl rfl rfl fun a hf=>qS hf rfl rfl rfl fun a hf=>qS hf rfl rfl rfl fun a hf=>qS hf rfl rfl rfl fun a hf=>qS hf rfl rfl rfl fun a hf=>qS hf rfl rfl rfl fun a hf=>?_
      refine qS hf rfl rfl rfl fun a hf=>qS hf rfl rfl rfl fun a hf=>qS hf rfl rfl rfl fun a hf=>qS hf rfl rfl rfl fun a hf=>qS hf rfl rfl rfl fun a hf=>qE hf rfl rfl rfl (Pu.ev (pPt rfl rfl)) fun a hf=>rU (hf.kp rfl)
    intro a hf
    intro w hc
    refine br _ _ ?_
    refine zI hf rfl hF ?_ ?_ <;> clear hF <;> intro hF
    ·refine zS fun K h=>sp 2 hf rfl fun a hf=>zT h ?_
     refine wp_ret ?_
     refine aN ?_
     refine bI ?_
     refine aN ?_
     refine aN ?_
     have he:=sj hF
     rw [← he] at U
     replace hF:=au _ U
     refine bI ?_
     refine aN ?_
     obtain rfl:=hF
     replace hc:=hc.nilRow 3 1
     replace hc:=(hc.drop k2).drop k1
     exact zO2 Tryz.results36 hf rfl rfl ⟨none,0,rfl,hc⟩
    ·refine wp_skip ?_
     refine bp _ _ ?_
     refine wp_seq_k fun K21 bu=>?_
     obtain ⟨am,bb,hF⟩:=aA hF
     obtain ⟨b7,b9,ay,ap⟩:=O.atm bb
     obtain ⟨ak,a5,hF⟩:=aA hF
     obtain ⟨b5,cc,a8,bc⟩:=O.atm a5
     obtain ⟨ai,a6,hF⟩:=aA hF
     obtain ⟨b1,cd,bj,bm⟩:=i.atm a6
     obtain ⟨g,an,hF⟩:=aA hF
     refine cQ hc aY (by kernel_rfl) ?_
     refine qE hf rfl rfl rfl (kG (vs:=[.slice D b_.Table.length B,i6 b_.Credit]) uL rfl rfl (cA (n:=2) m1 rfl)) fun a hf=>qE hf rfl rfl rfl (Pu.ev (pM rfl)) fun a hf=>qE hf rfl rfl rfl (Pu.ev (pM rfl)) fun a hf=>qE hf rfl rfl rfl (Pu.ev (pM rfl)) fun a hf=>qE hf rfl rfl rfl (Pu.ev (pIA Tryz.underlying84 aD4 rfl rfl ay)) fun a hf=>qE hf rfl rfl rfl (Pu.ev (pFA aEl rfl)) fun a hf=>qE hf rfl rfl rfl (bP bB rfl (bK (j:=0) ap rfl)) fun a hf=>qE hf rfl rfl rfl (Pu.ev (pM rfl)) fun a hf=>qE hf rfl rfl rfl (Pu.ev (pM rfl)) fun a hf=>qE hf rfl rfl rfl (Pu.ev (pIA Tryz.underlying84 aD4 rfl rfl a8)) fun a hf=>qE hf rfl rfl rfl (Pu.ev (pFA aEv rfl)) fun a hf=>qE hf rfl rfl rfl (bP bB rfl (bK (j:=1) bc rfl)) fun a hf=>qE hf rfl rfl rfl (Pu.ev (pM rfl)) fun a hf=>?_
     refine qE hf rfl rfl rfl (Pu.ev (pM rfl)) fun a hf=>qE hf rfl rfl rfl (Pu.ev (pIA Tryz.underlying83 tM rfl rfl bj)) fun a hf=>qE hf rfl rfl rfl (Pu.ev (pFA aA4 rfl)) fun a hf=>qE hf rfl rfl rfl (bP aHq rfl (bK (j:=4) bm rfl)) fun a hf=>qE hf rfl rfl rfl (eC (v:=i6 g) (vs:=[.agg #[.slice D b_.Table.length B,i6 b_.Credit],i6 debt,i6 am.Index,i6 ak.Delivered,.bool ai.Spill]) (caps:=[]) aIx rfl rfl rfl rfl (fun w hc=>qB b_ debt am.Index ak.Delivered ai.Spill R hc an)) fun a hf=>qE hf rfl rfl rfl (Pu.ev (pA rfl)) fun a hf=>?_
     intro w hc
     refine bu _ _ ?_
     refine bR ?_
     refine sp 2 hf rfl fun a hf=>gV (rows:=([g]:List Int).map aD) (vs:=[(0,i6 g)]) hf hc rfl rfl fC rfl ⟨rfl,rfl,rfl,trivial⟩ rfl rfl fun b2 a w hf hc=>?_
     obtain ⟨un,bs,hF⟩:=aA hF
     refine iV (xs:=out) (ys:=([g]:List Int)) hf hc rfl rfl fC rfl rfl rfl rfl rfl cM (fA hc m0) (fun _ _=>u1) (by simpa using cB bs) fun b0 bz a w hf hc=>sp 1 hf rfl fun a hf=>aP ?_
     refine bx _ _ ?_
     refine bR ?_
     refine sp 3 hf rfl fun a hf=>aP ?_
     replace hc:=hc.drop k0
     exact ar (g,(out++[g]),W (k + 1)) _ _ (sj hF).symm ⟨b0,bz,hf.kp rfl,hc⟩
   ·refine wp_exit ?_
    refine bE ?_
    refine bE ?_
    have he:=sj hF
    rw [← he] at U
    refine eX ?_
    exact av _ _ _ U ⟨Y,V,hf.kp rfl,hc⟩

def iN (N:Nat) (b_:bO) (l:List bS) (out:List aE) (D:Int) (x:Int) (J:Int):Option (bH ((List aE) × Int × Int × Int) ((List aE) × Int)) :=
 cond (decide (D < ((l.length:Nat):Int)))
 (Option.bind (aZ l D) fun B=>
 Option.bind (hM N b_ x B.Index.Lo B.Delivered.Hi B.Spill) fun H=>
 Option.bind (hM N b_ J B.Index.Hi B.Delivered.Lo B.Spill) fun I=>
 Option.bind (jE ((out++[(⟨H,I⟩:aE)])).length) fun un=>
 some (.cont ((out++[(⟨H,I⟩:aE)]),W (D + 1),H,I)))
 (some (.brk (out,D,x,J)))
def pS (N:Nat) (b_:bO) (D:aE) (l:List bS):Option ((List aE) × Int) :=
 Option.bind (oF N b_ D l) fun r=>
 cond (r != 0)
 (some (([]:List aE),r))
 (Option.bind (aT (fun B=>iN N b_ l B.1 B.2.1 B.2.2.1 B.2.2.2) N (([]:List aE),0,D.Lo,D.Hi)) fun H=>
 exK H (fun B=>some (B.1,0)) some)
theorem aAx {N:Nat} {G:bA} {Lf:List Ent} {w:World} (b_:bO) (R:aE) (l:List bS) {H:Option Addr} {D:Nat} {i:Option Addr} {g:Nat} (J:Rd G 2 H D (b_.Table.map bW)) (s:Rd G 5 i g (l.map dE)) (hc:Ctx G (Lf) w) {b:(List aE) × Int} (hF:pS N b_ R l=some b):Calls Tryz.prog 38 #[.agg #[.slice H b_.Table.length D,i6 b_.Credit],.agg #[i6 R.Lo,i6 R.Hi],.slice i l.length g] w (fun e w=>∃ (p:Option Addr) (q:Nat),e=.returned (.tuple #[.slice p b.1.length q,i6 b.2])∧Ctx G (.row p q (b.1.map bC) 28 2::Lf) w):=by
 unfold pS at hF
 refine cG Tryz.func38 rfl Tryz.ntmps38 rfl fun a hf=>zS fun K h=>zB hf hc rfl fun Z a w hf hc=>zB hf hc rfl fun a7 a w hf hc=>sp 2 hf rfl fun a hf=>zT h ?_
 refine wp_seq_k fun K2 h2=>zS fun K h=>zN hf hc uL m1 rfl fun a w hf hc=>zN hf hc mL m0 rfl fun a w hf hc=>sp 1 hf rfl fun a hf=>?_
 obtain ⟨r,hr,hF⟩:=aA hF
 refine zQ (v:=i6 r) hf hc aLe rfl (fun w hc=>uT b_ R l J s hc hr) fun a w hf hc=>sp 1 hf rfl fun a hf=>zT h ?_
 refine zS fun K h=>sp 2 hf rfl fun a hf=>zT h ?_
 refine zI hf rfl hF ?_ ?_ <;> clear hF <;> intro hF
 ·refine zS fun K h=>sp 3 hf rfl fun a hf=>zT h ?_
  refine wp_ret ?_
  refine aN ?_
  obtain rfl:=sj hF
  replace hc:=hc.nilRow 28 2
  replace hc:=(hc.drop k2).drop k1
  exact zO2 Tryz.results38 hf rfl rfl ⟨none,0,rfl,hc⟩
 ·refine wp_skip ?_
  refine h2 _ _ ?_
  refine zS fun K h=>zN hf hc mL m0 rfl fun a w hf hc=>zA hf hc aG5 rfl fun X a w hf hc=>zW hf hc aBu u0 rfl fun w hc=>zT h ?_
  refine zS fun K h=>sp 1 hf rfl fun a hf=>zT h ?_
  refine wp_seq_k fun K8 h8=>zS fun K h=>sp 1 hf rfl fun a hf=>zT h ?_
  refine wp_block ?_
  obtain ⟨m,y,hF⟩:=aA hF
  let S10:((List aE) × Int × Int × Int)→Act→World→Prop:=(fun (zz:(List aE) × Int × Int × Int) a w=>∃ (V:Option Addr) (U:Nat),Has 61 a [(2,.slice i l.length g),(3,pq Z),(9,pq X),(10,.slice V zz.1.length U),(11,i6 zz.2.1)]∧Ctx G (.row V U (zz.1.map bC) 28 2::.box X [i6 zz.2.2.1,i6 zz.2.2.2] 28::.box Z [.slice H b_.Table.length D,i6 b_.Credit] 90::Lf) w)
  have z:∀ (zz:(List aE) × Int × Int × Int) a w,m=.go zz→S10 zz a w→K8 a w:=by
   rintro ⟨out,k,x,j⟩ a w rfl ⟨V,U,hf,hc⟩
   replace hF:=bQ hF
   refine h8 _ _ ?_
   refine zS fun K h=>sp 3 hf rfl fun a hf=>zT h ?_
   refine wp_ret ?_
   obtain rfl:=sj hF
   replace hc:=(hc.drop k2).drop k1
   exact zO2 Tryz.results38 hf rfl rfl ⟨V,U,rfl,hc⟩
  have a6:∀ r,m=.out r→r=b:=by
   rintro r rfl
   exact sj hF
  replace hc:=hc.nilRow 28 2
  replace hc:=hc.drop k2
  refine cX N (cV (S:=S10) (x:=m) ?_ N (([]:List aE),0,R.Lo,R.Hi) _ _ ⟨none,0,hf.kp rfl,hc⟩ y)
  clear hF hf hc
  rintro ⟨out,k,x,j⟩ a5 a w KB10 ⟨V,U,hf,hc⟩ hF d u
  unfold iN at hF
  refine wp_seq_k fun K12 ax=>zS fun K h=>sp 2 hf rfl fun a hf=>zP hf rfl (bL Tryz.underlying83 rfl) fun a hf=>sp 1 hf rfl fun a hf=>zT h ?_
  refine zI hf rfl hF ?_ ?_ <;> clear hF <;> intro hF
  ·refine wp_skip ?_
   refine ax _ _ ?_
   refine wp_seq_k fun K14 ad=>wp_block ?_
   refine zS fun K h=>sp 2 hf rfl fun a hf=>?_
   obtain ⟨B,aa,hF⟩:=aA hF
   obtain ⟨a9,o,qa,qp⟩:=s.atm aa
   refine zP hf rfl (pIA Tryz.underlying83 tM rfl rfl qa) fun a hf=>zE hf hc rfl (kG (vs:=[i6 B.Index.Lo,i6 B.Index.Hi,i6 B.Delivered.Lo,i6 B.Delivered.Hi,.bool B.Spill]) aL2 rfl rfl (cR qp (n:=5) (o':=0) rfl)) fun a w hf hc=>zA hf hc aMo rfl fun I a w hf hc=>zW hf hc tM u0 rfl fun w hc=>zT h ?_
   refine wp_seq_k fun K16 af=>?_
   obtain ⟨M,t,hF⟩:=aA hF
   obtain ⟨O,ab,hF⟩:=aA hF
   refine dJ (fun θ=>(⟨none,none,2,.slice i l.length g⟩::⟨none,none,3,pq Z⟩::⟨none,none,9,pq X⟩::⟨none,none,10,.slice V out.length U⟩::⟨none,none,11,i6 k⟩::⟨none,none,12,pq I⟩::⟨some 0,none,31,.agg #[.slice H b_.Table.length D,i6 b_.Credit]⟩::⟨some 1,none,32,pq X⟩::⟨some 2,none,33,i6 x⟩::⟨some 3,none,34,pq I⟩::⟨some 4,none,35,pq I⟩::⟨some 5,none,36,i6 B.Index.Lo⟩::⟨some 6,none,37,.pointer (some ⟨I,2,none⟩)⟩::⟨some 7,none,38,.pointer (some ⟨I,3,none⟩)⟩::⟨some 8,none,39,i6 B.Delivered.Hi⟩::⟨some 9,none,40,.pointer (some ⟨I,4,none⟩)⟩::⟨some 10,none,41,.bool B.Spill⟩::⟨some 11,none,42,i6 M⟩::⟨some 12,none,43,.agg #[.slice H b_.Table.length D,i6 b_.Credit]⟩::⟨some 13,none,44,.pointer (some ⟨X,1,none⟩)⟩::⟨some 14,none,45,i6 j⟩::⟨some 15,none,46,pq I⟩::⟨some 16,none,47,.pointer (some ⟨I,1,none⟩)⟩::⟨some 17,none,48,i6 B.Index.Hi⟩::⟨some 18,none,49,.pointer (some ⟨I,2,none⟩)⟩::⟨some 19,none,50,.pointer (some ⟨I,2,none⟩)⟩::⟨some 20,none,51,i6 B.Delivered.Lo⟩::⟨some 21,none,52,.pointer (some ⟨I,4,none⟩)⟩::⟨some 22,none,53,.bool B.Spill⟩::⟨some 23,none,54,i6 O⟩::⟨some 24,none,55,.agg #[i6 M,i6 O]⟩::[])) (fun E θ=>.box I [i6 B.Index.Lo,i6 B.Index.Hi,i6 B.Delivered.Lo,i6 B.Delivered.Hi,.bool B.Spill] 139::.row V U (out.map bC) 28 2::(bif E 25 then .box X [i6 M,i6 O] 28 else .box X [i6 x,i6 j] 28)::.box Z [.slice H b_.Table.length D,i6 b_.Credit] 90::Lf) [(25,2),(25,14)] (fun a w=>Has 61 a [(2,.slice i l.length g),(3,pq Z),(9,pq X),(10,.slice V out.length U),(11,i6 k)]∧Ctx G (.box I [i6 B.Index.Lo,i6 B.Index.Hi,i6 B.Delivered.Lo,i6 B.Delivered.Hi,.bool B.Spill] 139::.row V U (out.map bC) 28 2::.box X [i6 M,i6 O] 28::.box Z [.slice H b_.Table.length D,i6 b_.Credit] 90::Lf) w) aY (by kernel_rfl) (by kernel_rfl) (eY.of hf ⟨rfl,rfl,rfl,rfl,rfl,rfl,trivial,trivial,trivial,trivial,trivial,trivial,trivial,trivial,trivial,trivial,trivial,trivial,trivial,trivial,trivial,trivial,trivial,trivial,trivial,trivial,trivial,trivial,trivial,trivial,trivial,trivial⟩) hc ⟨?_,?_,?_,?_,?_,?_,?_,?_,?_,?_,?_,?_,?_,?_,?_,?_,?_,?_,?_,?_,?_,?_,?_,?_,?_,?_,trivial⟩ ?_ ?_
   ·intro E θ a w hD hi hp he hc
    have hf:=he.h0.mT he 1 rfl
    refine zN hf hc uL m3 rfl fun a w hf hc=>zD θ he hi hf 6 rfl rfl rfl hc
   ·intro E θ a w hD hi hp he hc
    have hf:=he.h0.mT he 2 rfl
    refine zP hf rfl (pFA hC rfl) fun a hf=>zD θ he hi hf 7 rfl rfl rfl hc
   ·intro E θ a w hD hi hp he hc
    have e1:=hp.o 1 rfl
    have Y:=hD.f 0 rfl hi
    try dsimp only at hc
    rw [Y] at hc
    have hf:=he.h0.mP he 7 rfl e1
    refine zL hf hc bB m2 rfl fun a w hf hc=>zD θ he hi hf 8 rfl rfl rfl ?_
    try dsimp only
    rw [eO 2 Y rfl]
    exact hc
   ·intro E θ a w hD hi hp he hc
    have hf:=he.h0.mT he 5 rfl
    refine zP hf rfl (pFA vH rfl) fun a hf=>zD θ he hi hf 9 rfl rfl rfl hc
   ·intro E θ a w hD hi hp he hc
    have e3:=hp.o 3 rfl
    have hf:=he.h0.mP he 9 rfl e3
    refine zP hf rfl (pFA hC rfl) fun a hf=>zD θ he hi hf 10 rfl rfl rfl hc
   ·intro E θ a w hD hi hp he hc
    have e4:=hp.o 4 rfl
    have hf:=he.h0.mP he 10 rfl e4
    refine zL hf hc bB m0 rfl fun a w hf hc=>zD θ he hi hf 11 rfl rfl rfl hc
   ·intro E θ a w hD hi hp he hc
    have hf:=he.h0.mT he 5 rfl
    refine zP hf rfl (pFA uY rfl) fun a hf=>zD θ he hi hf 12 rfl rfl rfl hc
   ·intro E θ a w hD hi hp he hc
    have e6:=hp.o 6 rfl
    have hf:=he.h0.mP he 12 rfl e6
    refine zP hf rfl (pFA hI rfl) fun a hf=>zD θ he hi hf 13 rfl rfl rfl hc
   ·intro E θ a w hD hi hp he hc
    have e7:=hp.o 7 rfl
    have hf:=he.h0.mP he 13 rfl e7
    refine zL hf hc bB m0 rfl fun a w hf hc=>zD θ he hi hf 14 rfl rfl rfl hc
   ·intro E θ a w hD hi hp he hc
    have hf:=he.h0.mT he 5 rfl
    refine zP hf rfl (pFA aA4 rfl) fun a hf=>zD θ he hi hf 15 rfl rfl rfl hc
   ·intro E θ a w hD hi hp he hc
    have e9:=hp.o 9 rfl
    have hf:=he.h0.mP he 15 rfl e9
    refine zL hf hc aHq m0 rfl fun a w hf hc=>zD θ he hi hf 16 rfl rfl rfl hc
   ·intro E θ a w hD hi hp he hc
    have e0:=hp.o 0 rfl
    have e2:=hp.o 2 rfl
    have e5:=hp.o 5 rfl
    have e8:=hp.o 8 rfl
    have an:=hp.o 10 rfl
    have hf:=((((he.h0.mP he 6 rfl e0).mP he 8 rfl e2).mP he 11 rfl e5).mP he 14 rfl e8).mP he 16 rfl an
    refine zQ (v:=i6 M) hf hc aIx rfl (fun w hc=>qB b_ x B.Index.Lo B.Delivered.Hi B.Spill J hc t) fun a w hf hc=>zD θ he hi hf 17 rfl rfl rfl hc
   ·intro E θ a w hD hi hp he hc
    have hf:=he.h0.mT he 1 rfl
    refine zN hf hc uL m3 rfl fun a w hf hc=>zD θ he hi hf 18 rfl rfl rfl hc
   ·intro E θ a w hD hi hp he hc
    have hf:=he.h0.mT he 2 rfl
    refine zP hf rfl (pFA hI rfl) fun a hf=>zD θ he hi hf 19 rfl rfl rfl hc
   ·intro E θ a w hD hi hp he hc
    have a4:=hp.o 13 rfl
    have Y:=hD.f 1 rfl hi
    try dsimp only at hc
    rw [Y] at hc
    have hf:=he.h0.mP he 19 rfl a4
    refine zL hf hc bB m2 rfl fun a w hf hc=>zD θ he hi hf 20 rfl rfl rfl ?_
    try dsimp only
    rw [eO 14 Y rfl]
    exact hc
   ·intro E θ a w hD hi hp he hc
    have hf:=he.h0.mT he 5 rfl
    refine zP hf rfl (pFA vH rfl) fun a hf=>zD θ he hi hf 21 rfl rfl rfl hc
   ·intro E θ a w hD hi hp he hc
    have a0:=hp.o 15 rfl
    have hf:=he.h0.mP he 21 rfl a0
    refine zP hf rfl (pFA hI rfl) fun a hf=>zD θ he hi hf 22 rfl rfl rfl hc
   ·intro E θ a w hD hi hp he hc
    have ap:=hp.o 16 rfl
    have hf:=he.h0.mP he 22 rfl ap
    refine zL hf hc bB m0 rfl fun a w hf hc=>zD θ he hi hf 23 rfl rfl rfl hc
   ·intro E θ a w hD hi hp he hc
    have hf:=he.h0.mT he 5 rfl
    refine zP hf rfl (pFA uY rfl) fun a hf=>zD θ he hi hf 24 rfl rfl rfl hc
   ·intro E θ a w hD hi hp he hc
    have ai:=hp.o 18 rfl
    have hf:=he.h0.mP he 24 rfl ai
    refine zP hf rfl (pFA hC rfl) fun a hf=>zD θ he hi hf 25 rfl rfl rfl hc
   ·intro E θ a w hD hi hp he hc
    have am:=hp.o 19 rfl
    have hf:=he.h0.mP he 25 rfl am
    refine zL hf hc bB m0 rfl fun a w hf hc=>zD θ he hi hf 26 rfl rfl rfl hc
   ·intro E θ a w hD hi hp he hc
    have hf:=he.h0.mT he 5 rfl
    refine zP hf rfl (pFA aA4 rfl) fun a hf=>zD θ he hi hf 27 rfl rfl rfl hc
   ·intro E θ a w hD hi hp he hc
    have ar:=hp.o 21 rfl
    have hf:=he.h0.mP he 27 rfl ar
    refine zL hf hc aHq m0 rfl fun a w hf hc=>zD θ he hi hf 28 rfl rfl rfl hc
   ·intro E θ a w hD hi hp he hc
    have ay:=hp.o 12 rfl
    have a2:=hp.o 14 rfl
    have ag:=hp.o 17 rfl
    have aj:=hp.o 20 rfl
    have az:=hp.o 22 rfl
    have hf:=((((he.h0.mP he 18 rfl ay).mP he 20 rfl a2).mP he 23 rfl ag).mP he 26 rfl aj).mP he 28 rfl az
    refine zQ (v:=i6 O) hf hc aIx rfl (fun w hc=>qB b_ j B.Index.Hi B.Delivered.Lo B.Spill J hc ab) fun a w hf hc=>zD θ he hi hf 29 rfl rfl rfl hc
   ·intro E θ a w hD hi hp he hc
    have ak:=hp.o 11 rfl
    have au:=hp.o 23 rfl
    have hf:=(he.h0.mP he 17 rfl ak).mP he 29 rfl au
    refine zP hf rfl (bG (cells:=[i6 M,i6 O]) tF rfl rfl) fun a hf=>zD θ he hi hf 30 rfl rfl rfl hc
   ·intro E θ a w hD hi hp he hc
    have av:=hp.o 24 rfl
    try dsimp only at hc
    rw [hi] at hc
    have hf:=(he.h0.mT he 2 rfl).mP he 30 rfl av
    refine zW hf hc aBu u2 rfl fun w hc=>zG θ he hi hf rfl ?_
    try dsimp only
    rw [aU E 25]
    exact hc
   ·intro E θ a w ac he hc
    have hf:=he.h0
    have Y:=ac 25 rfl
    replace hf:=hf.more he 4 rfl (onT)
    replace hf:=hf.more he 3 rfl (onT)
    replace hf:=hf.more he 2 rfl (onT)
    replace hf:=hf.more he 1 rfl (onT)
    replace hf:=hf.more he 0 rfl (onT)
    try dsimp only at hc
    rw [Y] at hc
    exact ⟨hf.kp rfl,hc⟩
   rintro a w ⟨hf,hc⟩
   refine af _ _ ?_
   refine bR ?_
   refine sp 1 hf rfl fun a hf=>zN hf hc mL m2 rfl fun a w hf hc=>gV (rows:=([(⟨M,O⟩:aE)]:List aE).map bC) (vs:=[(0,.agg #[i6 M,i6 O])]) hf hc rfl rfl wF rfl ⟨rfl,rfl,rfl,trivial⟩ rfl rfl fun a8 a w hf hc=>?_
   obtain ⟨un,aq,hF⟩:=aA hF
   refine iV (xs:=out) (ys:=([(⟨M,O⟩:aE)]:List aE)) hf hc rfl rfl wF rfl rfl rfl rfl rfl nH (fA hc m0) (fun _ _=>u2) (by simpa using cB aq) fun a3 a1 a w hf hc=>sp 1 hf rfl fun a hf=>aP ?_
   refine ad _ _ ?_
   refine bR ?_
   refine sp 3 hf rfl fun a hf=>aP ?_
   replace hc:=(hc.drop k1).drop k0
   exact u ((out++[(⟨M,O⟩:aE)]),W (k + 1),M,O) _ _ (sj hF).symm ⟨a3,a1,hf.kp rfl,hc⟩
  ·refine wp_exit ?_
   refine bE ?_
   refine bE ?_
   have he:=sj hF
   rw [← he] at d
   refine eX ?_
   exact z _ _ _ d ⟨V,U,hf.kp rfl,hc⟩

def dT (N:Nat) (a_:List aI) (b_:List aI) (B:Int):Option (bH (Int) (Bool)) :=
 cond (decide (B < ((a_.length:Nat):Int)))
 (Option.bind (aZ a_ B) fun H=>
 Option.bind (aZ b_ B) fun D=>
 cond (!(H.Index == D.Index && H.Due == D.Due))
 (some (.ret false))
 (some (.cont (W (B + 1)))))
 (some (.brk B))
def iB (N:Nat) (a_:List aI) (b_:List aI):Option (Bool) :=
 cond (((a_.length:Nat):Int) != ((b_.length:Nat):Int))
 (some false)
 (Option.bind (aT (fun s7=>dT N a_ b_ s7) N 0) fun x7=>
 exK x7 (fun s7=>some true) some)
theorem sZ {N:Nat} {G:bA} {Lf:List Ent} {w:World} (a_:List aI) (b_:List aI) {D:Option Addr} {H:Nat} {I:Option Addr} {J:Nat} (d:Rd G 2 D H (a_.map aO)) (Y:Rd G 2 I J (b_.map aO)) (hc:Ctx G (Lf) w) {M:Bool} (hF:iB N a_ b_=some M):Calls Tryz.prog 39 #[.slice D a_.length H,.slice I b_.length J] w (fun e w=>e=.returned (.bool M)∧Ctx G (Lf) w):=by
 unfold iB at hF
 refine cG Tryz.func39 rfl Tryz.ntmps39 rfl fun a hf=>zS fun K h=>sp 1 hf rfl fun a hf=>zT h ?_
 refine wp_seq_k fun K2 h2=>zS fun K h=>sp 1 hf rfl fun a hf=>zP hf rfl (bL Tryz.underlying30 rfl) fun a hf=>sp 1 hf rfl fun a hf=>zP hf rfl (bL Tryz.underlying30 rfl) fun a hf=>sp 1 hf rfl fun a hf=>zT h ?_
 refine zI hf rfl hF ?_ ?_ <;> clear hF <;> intro hF
 ·refine zS fun K h=>sp 1 hf rfl fun a hf=>zT h ?_
  refine wp_ret ?_
  refine aN ?_
  obtain rfl:=sj hF
  exact zO1 Tryz.results39 hf rfl ⟨rfl,hc⟩
 ·refine wp_skip ?_
  refine h2 _ _ ?_
  refine wp_seq_k fun K5 h5=>zS fun K h=>sp 1 hf rfl fun a hf=>zT h ?_
  refine wp_block ?_
  obtain ⟨x7,m,hF⟩:=aA hF
  let S7:Int→Act→World→Prop:=(fun (zz:Int) a w=>Has 26 a [(0,.slice D a_.length H),(1,.slice I b_.length J),(5,i6 zz)]∧Ctx G (Lf) w)
  have k:∀ (zz:Int) a w,x7=.go zz→S7 zz a w→K5 a w:=by
   rintro O a w rfl ⟨hf,hc⟩
   replace hF:=bQ hF
   refine h5 _ _ ?_
   refine zS fun K h=>sp 1 hf rfl fun a hf=>zT h ?_
   refine wp_ret ?_
   obtain rfl:=sj hF
   exact zO1 Tryz.results39 hf rfl ⟨rfl,hc⟩
  have p:∀ r,x7=.out r→r=M:=by
   rintro r rfl
   exact sj hF
  refine cX N (cV (S:=S7) (x:=x7) ?_ N 0 _ _ ⟨hf.kp rfl,hc⟩ m)
  clear hF hf hc
  rintro O t a w KB7 ⟨hf,hc⟩ hF B i
  unfold dT at hF
  refine wp_seq_k fun K9 h9=>zS fun K h=>sp 2 hf rfl fun a hf=>zP hf rfl (bL Tryz.underlying30 rfl) fun a hf=>sp 1 hf rfl fun a hf=>zT h ?_
  refine zI hf rfl hF ?_ ?_ <;> clear hF <;> intro hF
  ·refine wp_skip ?_
   refine h9 _ _ ?_
   refine wp_seq_k fun K11 g=>wp_block ?_
   refine wp_seq_k fun K12 j=>?_
   obtain ⟨U,V,hF⟩:=aA hF
   obtain ⟨u,o,qa,qp⟩:=d.atm V
   obtain ⟨R,X,hF⟩:=aA hF
   obtain ⟨q,s,b,Z⟩:=Y.atm X
   refine cQ hc aY (by kernel_rfl) ?_
   refine qE hf rfl rfl rfl (Pu.ev (pM rfl)) fun a hf=>qE hf rfl rfl rfl (Pu.ev (pM rfl)) fun a hf=>qE hf rfl rfl rfl (Pu.ev (pIA Tryz.underlying30 oK rfl rfl qa)) fun a hf=>qE hf rfl rfl rfl (kG (vs:=[i6 U.Index,i6 U.Due]) uZ rfl rfl (cR qp (n:=2) (o':=0) rfl)) fun a hf=>qE hf rfl rfl rfl (Pu.ev (pM rfl)) fun a hf=>qE hf rfl rfl rfl (Pu.ev (pM rfl)) fun a hf=>qE hf rfl rfl rfl (Pu.ev (pIA Tryz.underlying30 oK rfl rfl b)) fun a hf=>qE hf rfl rfl rfl (kG (vs:=[i6 R.Index,i6 R.Due]) uZ rfl rfl (cR Z (n:=2) (o':=0) rfl)) fun a hf=>qE hf rfl rfl rfl (Pu.ev (aEi ge_48 rfl rfl (aMn _ _ _ _))) fun a hf=>?_
   intro w hc
   refine j _ _ ?_
   refine zI hf rfl hF ?_ ?_ <;> clear hF <;> intro hF
   ·refine zS fun K h=>sp 1 hf rfl fun a hf=>zT h ?_
    refine wp_ret ?_
    refine bI ?_
    refine aN ?_
    refine aN ?_
    have he:=sj hF
    rw [← he] at B
    replace hF:=p _ B
    refine bI ?_
    refine aN ?_
    obtain rfl:=hF
    exact zO1 Tryz.results39 hf rfl ⟨rfl,hc⟩
   ·refine wp_skip ?_
    refine g _ _ ?_
    refine bR ?_
    refine sp 3 hf rfl fun a hf=>aP ?_
    exact i (W (O + 1)) _ _ (sj hF).symm ⟨hf.kp rfl,hc⟩
  ·refine wp_exit ?_
   refine bE ?_
   refine bE ?_
   have he:=sj hF
   rw [← he] at B
   refine eX ?_
   exact k _ _ _ B ⟨hf.kp rfl,hc⟩

def eH (N:Nat) (a_:List aF) (b_:List aF) (B:Int):Option (bH (Int) (Bool)) :=
 cond (decide (B < ((a_.length:Nat):Int)))
 (Option.bind (aZ a_ B) fun H=>
 Option.bind (aZ b_ B) fun D=>
 cond (!(H.Index.Lo == D.Index.Lo && H.Index.Hi == D.Index.Hi && H.Delivered.Lo == D.Delivered.Lo && H.Delivered.Hi == D.Delivered.Hi && H.Spill == D.Spill))
 (some (.ret false))
 (some (.cont (W (B + 1)))))
 (some (.brk B))
def iZ (N:Nat) (a_:List aF) (b_:List aF):Option (Bool) :=
 cond (((a_.length:Nat):Int) != ((b_.length:Nat):Int))
 (some false)
 (Option.bind (aT (fun s7=>eH N a_ b_ s7) N 0) fun x7=>
 exK x7 (fun s7=>some true) some)
theorem tK {N:Nat} {G:bA} {Lf:List Ent} {w:World} (a_:List aF) (b_:List aF) {I:Option Addr} {J:Nat} {M:Option Addr} {O:Nat} (d:Rd G 5 I J (a_.map aS)) (Y:Rd G 5 M O (b_.map aS)) (hc:Ctx G (Lf) w) {R:Bool} (hF:iZ N a_ b_=some R):Calls Tryz.prog 40 #[.slice I a_.length J,.slice M b_.length O] w (fun e w=>e=.returned (.bool R)∧Ctx G (Lf) w):=by
 unfold iZ at hF
 refine cG Tryz.func40 rfl Tryz.ntmps40 rfl fun a hf=>zS fun K h=>sp 1 hf rfl fun a hf=>zT h ?_
 refine wp_seq_k fun K2 h2=>zS fun K h=>sp 1 hf rfl fun a hf=>zP hf rfl (bL Tryz.underlying33 rfl) fun a hf=>sp 1 hf rfl fun a hf=>zP hf rfl (bL Tryz.underlying33 rfl) fun a hf=>sp 1 hf rfl fun a hf=>zT h ?_
 refine zI hf rfl hF ?_ ?_ <;> clear hF <;> intro hF
 ·refine zS fun K h=>sp 1 hf rfl fun a hf=>zT h ?_
  refine wp_ret ?_
  refine aN ?_
  obtain rfl:=sj hF
  exact zO1 Tryz.results40 hf rfl ⟨rfl,hc⟩
 ·refine wp_skip ?_
  refine h2 _ _ ?_
  refine wp_seq_k fun K5 h5=>zS fun K h=>sp 1 hf rfl fun a hf=>zT h ?_
  refine wp_block ?_
  obtain ⟨x7,m,hF⟩:=aA hF
  let S7:Int→Act→World→Prop:=(fun (zz:Int) a w=>Has 26 a [(0,.slice I a_.length J),(1,.slice M b_.length O),(5,i6 zz)]∧Ctx G (Lf) w)
  have k:∀ (zz:Int) a w,x7=.go zz→S7 zz a w→K5 a w:=by
   rintro U a w rfl ⟨hf,hc⟩
   replace hF:=bQ hF
   refine h5 _ _ ?_
   refine zS fun K h=>sp 1 hf rfl fun a hf=>zT h ?_
   refine wp_ret ?_
   obtain rfl:=sj hF
   exact zO1 Tryz.results40 hf rfl ⟨rfl,hc⟩
  have p:∀ r,x7=.out r→r=R:=by
   rintro r rfl
   exact sj hF
  refine cX N (cV (S:=S7) (x:=x7) ?_ N 0 _ _ ⟨hf.kp rfl,hc⟩ m)
  clear hF hf hc
  rintro U t a w KB7 ⟨hf,hc⟩ hF B i
  unfold eH at hF
  refine wp_seq_k fun K9 h9=>zS fun K h=>sp 2 hf rfl fun a hf=>zP hf rfl (bL Tryz.underlying33 rfl) fun a hf=>sp 1 hf rfl fun a hf=>zT h ?_
  refine zI hf rfl hF ?_ ?_ <;> clear hF <;> intro hF
  ·refine wp_skip ?_
   refine h9 _ _ ?_
   refine wp_seq_k fun K11 g=>wp_block ?_
   refine wp_seq_k fun K12 j=>?_
   obtain ⟨H,V,hF⟩:=aA hF
   obtain ⟨u,o,qa,qp⟩:=d.atm V
   obtain ⟨D,X,hF⟩:=aA hF
   obtain ⟨q,s,b,Z⟩:=Y.atm X
   refine cQ hc aY (by kernel_rfl) ?_
   refine qE hf rfl rfl rfl (Pu.ev (pM rfl)) fun a hf=>qE hf rfl rfl rfl (Pu.ev (pM rfl)) fun a hf=>qE hf rfl rfl rfl (Pu.ev (pIA Tryz.underlying33 vD rfl rfl qa)) fun a hf=>qE hf rfl rfl rfl (kG (vs:=[i6 H.Index.Lo,i6 H.Index.Hi,i6 H.Delivered.Lo,i6 H.Delivered.Hi,.bool H.Spill]) zK rfl rfl (cR qp (n:=5) (o':=0) rfl)) fun a hf=>qE hf rfl rfl rfl (Pu.ev (pM rfl)) fun a hf=>qE hf rfl rfl rfl (Pu.ev (pM rfl)) fun a hf=>qE hf rfl rfl rfl (Pu.ev (pIA Tryz.underlying33 vD rfl rfl b)) fun a hf=>qE hf rfl rfl rfl (kG (vs:=[i6 D.Index.Lo,i6 D.Index.Hi,i6 D.Delivered.Lo,i6 D.Delivered.Hi,.bool D.Spill]) zK rfl rfl (cR Z (n:=5) (o':=0) rfl)) fun a hf=>qE hf rfl rfl rfl (Pu.ev (aEi ge_50 rfl rfl (aLz _ _ _ _ _ _ _ _ _ _))) fun a hf=>?_
   intro w hc
   refine j _ _ ?_
   refine zI hf rfl hF ?_ ?_ <;> clear hF <;> intro hF
   ·refine zS fun K h=>sp 1 hf rfl fun a hf=>zT h ?_
    refine wp_ret ?_
    refine bI ?_
    refine aN ?_
    refine aN ?_
    have he:=sj hF
    rw [← he] at B
    replace hF:=p _ B
    refine bI ?_
    refine aN ?_
    obtain rfl:=hF
    exact zO1 Tryz.results40 hf rfl ⟨rfl,hc⟩
   ·refine wp_skip ?_
    refine g _ _ ?_
    refine bR ?_
    refine sp 3 hf rfl fun a hf=>aP ?_
    exact i (W (U + 1)) _ _ (sj hF).symm ⟨hf.kp rfl,hc⟩
  ·refine wp_exit ?_
   refine bE ?_
   refine bE ?_
   have he:=sj hF
   rw [← he] at B
   refine eX ?_
   exact k _ _ _ B ⟨hf.kp rfl,hc⟩

def dV (N:Nat) (a_:List aB) (b_:List aB) (B:Int):Option (bH (Int) (Bool)) :=
 cond (decide (B < ((a_.length:Nat):Int)))
 (Option.bind (aZ a_ B) fun H=>
 Option.bind (aZ b_ B) fun D=>
 cond (!(H.Index == D.Index && H.Delivered == D.Delivered))
 (some (.ret false))
 (some (.cont (W (B + 1)))))
 (some (.brk B))
def hQ (N:Nat) (a_:List aB) (b_:List aB):Option (Bool) :=
 cond (((a_.length:Nat):Int) != ((b_.length:Nat):Int))
 (some false)
 (Option.bind (aT (fun s7=>dV N a_ b_ s7) N 0) fun x7=>
 exK x7 (fun s7=>some true) some)
theorem sW {N:Nat} {G:bA} {Lf:List Ent} {w:World} (a_:List aB) (b_:List aB) {D:Option Addr} {H:Nat} {I:Option Addr} {J:Nat} (d:Rd G 2 D H (a_.map aW)) (Y:Rd G 2 I J (b_.map aW)) (hc:Ctx G (Lf) w) {M:Bool} (hF:hQ N a_ b_=some M):Calls Tryz.prog 41 #[.slice D a_.length H,.slice I b_.length J] w (fun e w=>e=.returned (.bool M)∧Ctx G (Lf) w):=by
 unfold hQ at hF
 refine cG Tryz.func41 rfl Tryz.ntmps41 rfl fun a hf=>zS fun K h=>sp 1 hf rfl fun a hf=>zT h ?_
 refine wp_seq_k fun K2 h2=>zS fun K h=>sp 1 hf rfl fun a hf=>zP hf rfl (bL Tryz.underlying38 rfl) fun a hf=>sp 1 hf rfl fun a hf=>zP hf rfl (bL Tryz.underlying38 rfl) fun a hf=>sp 1 hf rfl fun a hf=>zT h ?_
 refine zI hf rfl hF ?_ ?_ <;> clear hF <;> intro hF
 ·refine zS fun K h=>sp 1 hf rfl fun a hf=>zT h ?_
  refine wp_ret ?_
  refine aN ?_
  obtain rfl:=sj hF
  exact zO1 Tryz.results41 hf rfl ⟨rfl,hc⟩
 ·refine wp_skip ?_
  refine h2 _ _ ?_
  refine wp_seq_k fun K5 h5=>zS fun K h=>sp 1 hf rfl fun a hf=>zT h ?_
  refine wp_block ?_
  obtain ⟨x7,m,hF⟩:=aA hF
  let S7:Int→Act→World→Prop:=(fun (zz:Int) a w=>Has 26 a [(0,.slice D a_.length H),(1,.slice I b_.length J),(5,i6 zz)]∧Ctx G (Lf) w)
  have k:∀ (zz:Int) a w,x7=.go zz→S7 zz a w→K5 a w:=by
   rintro O a w rfl ⟨hf,hc⟩
   replace hF:=bQ hF
   refine h5 _ _ ?_
   refine zS fun K h=>sp 1 hf rfl fun a hf=>zT h ?_
   refine wp_ret ?_
   obtain rfl:=sj hF
   exact zO1 Tryz.results41 hf rfl ⟨rfl,hc⟩
  have p:∀ r,x7=.out r→r=M:=by
   rintro r rfl
   exact sj hF
  refine cX N (cV (S:=S7) (x:=x7) ?_ N 0 _ _ ⟨hf.kp rfl,hc⟩ m)
  clear hF hf hc
  rintro O t a w KB7 ⟨hf,hc⟩ hF B i
  unfold dV at hF
  refine wp_seq_k fun K9 h9=>zS fun K h=>sp 2 hf rfl fun a hf=>zP hf rfl (bL Tryz.underlying38 rfl) fun a hf=>sp 1 hf rfl fun a hf=>zT h ?_
  refine zI hf rfl hF ?_ ?_ <;> clear hF <;> intro hF
  ·refine wp_skip ?_
   refine h9 _ _ ?_
   refine wp_seq_k fun K11 g=>wp_block ?_
   refine wp_seq_k fun K12 j=>?_
   obtain ⟨U,V,hF⟩:=aA hF
   obtain ⟨u,o,qa,qp⟩:=d.atm V
   obtain ⟨R,X,hF⟩:=aA hF
   obtain ⟨q,s,b,Z⟩:=Y.atm X
   refine cQ hc aY (by kernel_rfl) ?_
   refine qE hf rfl rfl rfl (Pu.ev (pM rfl)) fun a hf=>qE hf rfl rfl rfl (Pu.ev (pM rfl)) fun a hf=>qE hf rfl rfl rfl (Pu.ev (pIA Tryz.underlying38 zJ rfl rfl qa)) fun a hf=>qE hf rfl rfl rfl (kG (vs:=[i6 U.Index,i6 U.Delivered]) aCh rfl rfl (cR qp (n:=2) (o':=0) rfl)) fun a hf=>qE hf rfl rfl rfl (Pu.ev (pM rfl)) fun a hf=>qE hf rfl rfl rfl (Pu.ev (pM rfl)) fun a hf=>qE hf rfl rfl rfl (Pu.ev (pIA Tryz.underlying38 zJ rfl rfl b)) fun a hf=>qE hf rfl rfl rfl (kG (vs:=[i6 R.Index,i6 R.Delivered]) aCh rfl rfl (cR Z (n:=2) (o':=0) rfl)) fun a hf=>qE hf rfl rfl rfl (Pu.ev (aEi ge_37 rfl rfl (aMg _ _ _ _))) fun a hf=>?_
   intro w hc
   refine j _ _ ?_
   refine zI hf rfl hF ?_ ?_ <;> clear hF <;> intro hF
   ·refine zS fun K h=>sp 1 hf rfl fun a hf=>zT h ?_
    refine wp_ret ?_
    refine bI ?_
    refine aN ?_
    refine aN ?_
    have he:=sj hF
    rw [← he] at B
    replace hF:=p _ B
    refine bI ?_
    refine aN ?_
    obtain rfl:=hF
    exact zO1 Tryz.results41 hf rfl ⟨rfl,hc⟩
   ·refine wp_skip ?_
    refine g _ _ ?_
    refine bR ?_
    refine sp 3 hf rfl fun a hf=>aP ?_
    exact i (W (O + 1)) _ _ (sj hF).symm ⟨hf.kp rfl,hc⟩
  ·refine wp_exit ?_
   refine bE ?_
   refine bE ?_
   have he:=sj hF
   rw [← he] at B
   refine eX ?_
   exact k _ _ _ B ⟨hf.kp rfl,hc⟩

def gR (N:Nat) (b_:aH) (I:Int) (B:aE) (l:List aF) (D:List aB):Option (Bool) :=
 cond (((decide (15 < ((b_.Table.length:Nat):Int))) || (decide (45 < ((l.length:Nat):Int)))) || (decide (50 < ((D.length:Nat):Int))))
 (Option.bind (fR N) fun r=>
 some r)
 (Option.bind (lB N b_) fun H=>
 Option.bind (iX N l) fun O=>
 Option.bind (iD N D) fun X=>
 Option.bind (pY N l D) fun R=>
 Option.bind (eA N H) fun u=>
 Option.bind (kK N b_) fun v=>
 Option.bind (gC N v) fun q=>
 cond (u != q)
 (some false)
 (Option.bind (tE N H I) fun Y=>
 Option.bind (kK N b_) fun s=>
 Option.bind (sS N s I) fun S=>
 cond ((Y.1 != S.1) || (Y.2 != S.2))
 (some false)
 (Option.bind (rE N H B.Lo O X) fun J=>
 Option.bind (kK N b_) fun k=>
 Option.bind (qZ N k B.Lo R.1 R.2) fun U=>
 Option.bind (cK N J.1 U.1) fun Z=>
 cond ((!Z) || (J.2 != U.2))
 (some false)
 (Option.bind (oD N H B O) fun V=>
 Option.bind (kK N b_) fun g=>
 Option.bind (pS N g B R.1) fun M=>
 Option.bind (dY N V.1 M.1) fun i=>
 Option.bind (cond ((i && (V.2 == M.2)) && (H.Credit == b_.Credit)) (Option.bind (iB N H.Table b_.Table) fun j=>
 some j) (some false)) fun o=>
 Option.bind (cond o (Option.bind (iZ N O l) fun d=>
 some d) (some false)) fun n=>
 Option.bind (cond n (Option.bind (hQ N X D) fun m=>
 some m) (some false)) fun t=>
 Option.bind (cond t (Option.bind (fR N) fun b=>
 some b) (some false)) fun p=>
 some p))))
theorem kY {N:Nat} {G:bA} {Lf:List Ent} {w:World} (b_:aH) (ap:Int) (S:aE) (l:List aF) (R:List aB) {J:Option Addr} {I:Nat} {ab:Option Addr} {aa:Nat} {O:Option Addr} {M:Nat} (g:Rd G 2 J I (b_.Table.map aO)) (bs:Rd G 5 ab aa (l.map aS)) (a0:Rd G 2 O M (R.map aW)) (hc:Ctx G (Lf) w) {cb:Bool} (hF:gR N b_ ap S l R=some cb):Calls Tryz.prog 8 #[.agg #[.slice J b_.Table.length I,i6 b_.Credit],i6 ap,.agg #[i6 S.Lo,i6 S.Hi],.slice ab l.length aa,.slice O R.length M] w (fun e w=>e=.returned (.bool cb)∧Ctx G (Lf) w):=by
 unfold gR at hF
 refine cG Tryz.func8 rfl Tryz.ntmps8 rfl fun a hf=>zS fun K h=>zB hf hc rfl fun b a w hf hc=>zB hf hc rfl fun ad a w hf hc=>sp 1 hf rfl fun a hf=>zT h ?_
 refine wp_seq_k fun K2 h2=>zS fun K h=>zP hf rfl (pFA gB rfl) fun a hf=>zL hf hc oH m1 rfl fun a w hf hc=>zP hf rfl (bL Tryz.underlying30 rfl) fun a hf=>sp 2 hf rfl fun a hf=>cP 4 (fun a=>Has 156 a [(1,i6 ap),(3,.slice ab l.length aa),(4,.slice O R.length M),(5,pq b),(7,pq ad),(24,pq b),(25,.slice J b_.Table.length I),(26,i6 ((b_.Table.length:Nat):Int)),(27,.bool (decide (15 < ((b_.Table.length:Nat):Int)))),(28,.bool (decide (15 < ((b_.Table.length:Nat):Int)))),(32,.bool ((decide (15 < ((b_.Table.length:Nat):Int))) || (decide (45 < ((l.length:Nat):Int)))))]) hc ?_ ?_
 ·cases hb:(decide (15 < ((b_.Table.length:Nat):Int)))
  ·rw [hb] at hf
   refine sp 1 hf rfl fun a hf=>zP hf rfl (bL Tryz.underlying33 rfl) fun a hf=>sp 2 hf rfl fun a hf=>aP ⟨hf.kp rfl,hc⟩
  ·rw [hb] at hf
   refine stS hf rfl rfl rfl fun a hf=>stS hf rfl rfl rfl fun a hf=>stS hf rfl rfl rfl fun a hf=>sp 1 hf rfl fun a hf=>aP ⟨hf.kp rfl,hc⟩
 intro a w ⟨hf,hc⟩
 refine sp 1 hf rfl fun a hf=>cP 4 (fun a=>Has 156 a [(1,i6 ap),(3,.slice ab l.length aa),(4,.slice O R.length M),(5,pq b),(7,pq ad),(24,pq b),(25,.slice J b_.Table.length I),(26,i6 ((b_.Table.length:Nat):Int)),(27,.bool (decide (15 < ((b_.Table.length:Nat):Int)))),(28,.bool (decide (15 < ((b_.Table.length:Nat):Int)))),(32,.bool ((decide (15 < ((b_.Table.length:Nat):Int))) || (decide (45 < ((l.length:Nat):Int))))),(33,.bool ((decide (15 < ((b_.Table.length:Nat):Int))) || (decide (45 < ((l.length:Nat):Int))))),(37,.bool (((decide (15 < ((b_.Table.length:Nat):Int))) || (decide (45 < ((l.length:Nat):Int)))) || (decide (50 < ((R.length:Nat):Int)))))]) hc ?_ ?_
 ·cases hb:((decide (15 < ((b_.Table.length:Nat):Int))) || (decide (45 < ((l.length:Nat):Int))))
  ·rw [hb] at hf
   refine sp 1 hf rfl fun a hf=>zP hf rfl (bL Tryz.underlying38 rfl) fun a hf=>sp 2 hf rfl fun a hf=>aP ⟨hf.kp rfl,hc⟩
  ·rw [hb] at hf
   refine stS hf rfl rfl rfl fun a hf=>stS hf rfl rfl rfl fun a hf=>stS hf rfl rfl rfl fun a hf=>sp 1 hf rfl fun a hf=>aP ⟨hf.kp rfl,hc⟩
 intro a w ⟨hf,hc⟩
 refine zT h ?_
 refine zI hf rfl hF ?_ ?_ <;> clear hF <;> intro hF
 ·refine zS fun K h=>?_
  obtain ⟨r,hr,hF⟩:=aA hF
  refine zQ (v:=.bool r) hf hc aAh rfl (fun w hc=>jT hc hr) fun a w hf hc=>sp 1 hf rfl fun a hf=>zT h ?_
  refine wp_ret ?_
  refine aN ?_
  obtain rfl:=sj hF
  replace hc:=(hc.drop k1).drop k0
  exact zO1 Tryz.results8 hf rfl ⟨rfl,hc⟩
 ·refine wp_skip ?_
  refine h2 _ _ ?_
  refine zS fun K h=>zN hf hc lE m1 rfl fun a w hf hc=>?_
  obtain ⟨U,cc,hF⟩:=aA hF
  refine zC hf en_27 rfl (vX b_ g hc cc) ?_
  rintro _ w ⟨ar,aq,rfl,hc⟩
  refine ⟨_,rfl,fun a hf=>?_⟩
  refine sp 1 hf rfl fun a hf=>?_
  obtain ⟨d,cx,hF⟩:=aA hF
  refine zC hf en_28 rfl (tS l bs hc cx) ?_
  rintro _ w ⟨z,x,rfl,hc⟩
  refine ⟨_,rfl,fun a hf=>?_⟩
  refine sp 1 hf rfl fun a hf=>?_
  obtain ⟨i,ci,hF⟩:=aA hF
  refine zC hf en_29 rfl (sY R a0 hc ci) ?_
  rintro _ w ⟨t,y,rfl,hc⟩
  refine ⟨_,rfl,fun a hf=>?_⟩
  refine zA hf hc aAv rfl fun s a w hf hc=>zW hf hc aEa u0 rfl fun w hc=>sp 2 hf rfl fun a hf=>zT h ?_
  refine zS fun K h=>sp 2 hf rfl fun a hf=>?_
  obtain ⟨Y,cr,hF⟩:=aA hF
  refine zC hf en_30 rfl (aAo l R bs a0 hc cr) ?_
  rintro _ w ⟨aj,ai,ax,av,rfl,hc⟩
  refine ⟨_,rfl,fun a hf=>?_⟩
  refine sp 5 hf rfl fun a hf=>zT h ?_
  refine wp_seq_k fun K7 h7=>wp_seq_k fun K8 h8=>?_
  obtain ⟨bg,ck,hF⟩:=aA hF
  obtain ⟨ba,c0,hF⟩:=aA hF
  obtain ⟨bd,cj,hF⟩:=aA hF
  replace hc:=hc.nilRow 0 0
  refine dJ (fun θ=>[⟨none,none,1,i6 ap⟩,⟨none,none,3,.slice ab l.length aa⟩,⟨none,none,4,.slice O R.length M⟩,⟨none,none,5,pq b⟩,⟨none,none,7,pq ad⟩,⟨none,none,11,pq s⟩,⟨none,none,12,.slice z d.length x⟩,⟨none,none,13,.slice t i.length y⟩,⟨none,none,14,.slice aj Y.1.length ai⟩,⟨none,none,15,.slice ax Y.2.length av⟩,⟨some 0,none,51,.agg #[.slice ar U.Table.length aq,i6 U.Credit]⟩,⟨some 1,none,52,i6 bg⟩,⟨some 2,none,53,.agg #[.slice J b_.Table.length I,i6 b_.Credit]⟩,⟨some 3,none,54,.agg #[.slice ((θ 24).p) ba.Table.length ((θ 24).c),i6 ba.Credit]⟩,⟨some 4,none,55,i6 bd⟩,⟨some 5,none,56,.bool (bg != bd)⟩]) (fun E θ=>(bif E 3 then .row ((θ 24).p) ((θ 24).c) (ba.Table.map bW) 141 2 else .row none 0 [] 0 0)::.row aj ai (Y.1.map dE) 139 5::.row ax av (Y.2.map eV) 140 2::.box s [.slice ar U.Table.length aq,i6 U.Credit] 32::.row t y (i.map aW) 37 2::.row z x (d.map aS) 50 5::.row ar aq (U.Table.map aO) 48 2::.box ad [i6 S.Lo,i6 S.Hi] 28::.box b [.slice J b_.Table.length I,i6 b_.Credit] 32::Lf) [] (fun a w=>∃ (ca:Option Addr) (b9:Nat),Has 156 a [(1,i6 ap),(3,.slice ab l.length aa),(4,.slice O R.length M),(5,pq b),(7,pq ad),(11,pq s),(12,.slice z d.length x),(13,.slice t i.length y),(14,.slice aj Y.1.length ai),(15,.slice ax Y.2.length av),(56,.bool (bg != bd))]∧Ctx G (.row ca b9 (ba.Table.map bW) 141 2::.row aj ai (Y.1.map dE) 139 5::.row ax av (Y.2.map eV) 140 2::.box s [.slice ar U.Table.length aq,i6 U.Credit] 32::.row t y (i.map aW) 37 2::.row z x (d.map aS) 50 5::.row ar aq (U.Table.map aO) 48 2::.box ad [i6 S.Lo,i6 S.Hi] 28::.box b [.slice J b_.Table.length I,i6 b_.Credit] 32::Lf) w) aY (by kernel_rfl) (by kernel_rfl) (eY.of hf ⟨rfl,rfl,rfl,rfl,rfl,rfl,rfl,rfl,rfl,rfl,trivial,trivial,trivial,trivial,trivial,trivial,trivial⟩) hc ⟨?_,?_,?_,?_,?_,?_,trivial⟩ ?_ ?_
  ·intro E θ a w hD hi hp he hc
   have hf:=he.h0.mT he 5 rfl
   refine zN hf hc lE m3 rfl fun a w hf hc=>zD θ he hi hf 10 rfl rfl rfl hc
  ·intro E θ a w hD hi hp he hc
   have e0:=hp.o 0 rfl
   have hf:=he.h0.mP he 10 rfl e0
   refine zQ (v:=i6 bg) hf hc aHa rfl (fun w hc=>by obtain ⟨G1,m,X,hc,V⟩:=lend hc k6; exact (kH U X hc ck).mono fun e w h=>⟨h.1,((V _ _ h.2).unpick k6)⟩) fun a w hf hc=>zD θ he hi hf 11 rfl rfl rfl hc
  ·intro E θ a w hD hi hp he hc
   have hf:=he.h0.mT he 3 rfl
   refine zN hf hc lE m8 rfl fun a w hf hc=>zD θ he hi hf 12 rfl rfl rfl hc
  ·intro E θ a w hD hi hp he hc
   have e2:=hp.o 2 rfl
   try dsimp only at hc
   rw [hi] at hc
   have hf:=he.h0.mP he 12 rfl e2
   refine zC hf aGl rfl (nS b_ g hc c0) ?_
   rintro _ w ⟨c7,dc,rfl,hc⟩
   refine ⟨_,rfl,fun a hf=>?_⟩
   refine aP ?_
   refine bV ?_
   intro ds u ay
   replace hc:=hc.drop k1
   refine ⟨(fY θ 24 ⟨0,c7,dc,(fun _=>(none,0))⟩),he.put hi ay hf rfl [] trivial ⟨qq,qq,qq,qq,qq,qq,qq,qq,qq,qq,qq,qq,qq,qq,qq,qq,trivial⟩,?_⟩
   try dsimp only
   rw [aU E 3]
   exact hc
  ·intro E θ a w hD hi hp he hc
   have e3:=hp.o 3 rfl
   try dsimp only at hc
   rw [e3] at hc
   have hf:=he.h0.mP he 13 rfl e3
   refine zQ (v:=i6 bd) hf hc aIj rfl (fun w hc=>by obtain ⟨G1,m,X,hc,V⟩:=lend hc k0; exact (mS ba X hc cj).mono fun e w h=>⟨h.1,((V _ _ h.2).unpick k0)⟩) fun a w hf hc=>zD θ he hi hf 14 rfl rfl rfl ?_
   try dsimp only
   rw [dH 4 e3]
   exact hc
  ·intro E θ a w hD hi hp he hc
   have e1:=hp.o 1 rfl
   have e4:=hp.o 4 rfl
   have hf:=(he.h0.mP he 11 rfl e1).mP he 14 rfl e4
   refine sp 1 hf rfl fun a hf=>zD θ he hi hf 15 rfl rfl rfl hc
  ·intro E θ a w ac he hc
   have hf:=he.h0
   have e3:=ac 3 rfl
   have e5:=ac 5 rfl
   replace hf:=hf.more he 15 rfl (onP e5)
   replace hf:=hf.more he 9 rfl (onT)
   replace hf:=hf.more he 8 rfl (onT)
   replace hf:=hf.more he 7 rfl (onT)
   replace hf:=hf.more he 6 rfl (onT)
   replace hf:=hf.more he 5 rfl (onT)
   replace hf:=hf.more he 4 rfl (onT)
   replace hf:=hf.more he 3 rfl (onT)
   replace hf:=hf.more he 2 rfl (onT)
   replace hf:=hf.more he 1 rfl (onT)
   replace hf:=hf.more he 0 rfl (onT)
   try dsimp only at hc
   rw [e3] at hc
   exact ⟨(θ 24).p,(θ 24).c,hf.kp rfl,hc⟩
  rintro a w ⟨ca,b9,hf,hc⟩
  replace hc:=hc.drop k0
  refine h8 _ _ ?_
  refine zI hf rfl hF ?_ ?_ <;> clear hF <;> intro hF
  ·refine zS fun K h=>sp 1 hf rfl fun a hf=>zT h ?_
   refine wp_ret ?_
   refine aN ?_
   obtain rfl:=sj hF
   replace hc:=(((((((hc.drop k7).drop k6).drop k5).drop k4).drop k3).drop k2).drop k1).drop k0
   exact zO1 Tryz.results8 hf rfl ⟨rfl,hc⟩
  ·refine wp_skip ?_
   refine h7 _ _ ?_
   refine zS fun K h=>zN hf hc lE m2 rfl fun a w hf hc=>sp 1 hf rfl fun a hf=>?_
   obtain ⟨au,cy,hF⟩:=aA hF
   refine zQ (v:=.tuple #[i6 au.1,i6 au.2]) hf hc en_33 rfl (fun w hc=>by obtain ⟨G1,m,X,hc,V⟩:=lend hc k5; exact (aDi U ap X hc cy).mono fun e w h=>⟨h.1,((V _ _ h.2).unpick k5)⟩) fun a w hf hc=>sp 5 hf rfl fun a hf=>zT h ?_
   refine wp_seq_k fun K11 c5=>bR ?_
   refine zN hf hc lE m7 rfl fun a w hf hc=>?_
   obtain ⟨da,cf,hF⟩:=aA hF
   refine zC hf aGl rfl (nS b_ g hc cf) ?_
   rintro _ w ⟨dd,df,rfl,hc⟩
   refine ⟨_,rfl,fun a hf=>?_⟩
   refine sp 1 hf rfl fun a hf=>?_
   obtain ⟨af,b2,hF⟩:=aA hF
   refine zQ (v:=.tuple #[i6 af.1,i6 af.2]) hf hc en_34 rfl (fun w hc=>by obtain ⟨G1,m,X,hc,V⟩:=lend hc k0; exact (aDe da ap X hc b2).mono fun e w h=>⟨h.1,((V _ _ h.2).unpick k0)⟩) fun a w hf hc=>sp 5 hf rfl fun a hf=>aP ?_
   replace hc:=hc.drop k0
   refine c5 _ _ ?_
   refine wp_seq_k fun K12 db=>zS fun K h=>sp 4 hf rfl fun a hf=>cP 4 (fun a=>Has 156 a [(3,.slice ab l.length aa),(4,.slice O R.length M),(5,pq b),(7,pq ad),(11,pq s),(12,.slice z d.length x),(13,.slice t i.length y),(14,.slice aj Y.1.length ai),(15,.slice ax Y.2.length av),(16,i6 au.1),(17,i6 au.2),(18,i6 af.1),(19,i6 af.2),(70,i6 au.1),(71,i6 af.1),(72,.bool (au.1 != af.1)),(73,.bool (au.1 != af.1)),(77,.bool ((au.1 != af.1) || (au.2 != af.2)))]) hc ?_ ?_
   ·cases hb:(au.1 != af.1)
    ·rw [hb] at hf
     refine sp 4 hf rfl fun a hf=>aP ⟨hf.kp rfl,hc⟩
    ·rw [hb] at hf
     refine stS hf rfl rfl rfl fun a hf=>stS hf rfl rfl rfl fun a hf=>stS hf rfl rfl rfl fun a hf=>sp 1 hf rfl fun a hf=>aP ⟨hf.kp rfl,hc⟩
   intro a w ⟨hf,hc⟩
   refine zT h ?_
   refine zI hf rfl hF ?_ ?_ <;> clear hF <;> intro hF
   ·refine zS fun K h=>sp 1 hf rfl fun a hf=>zT h ?_
    refine wp_ret ?_
    refine aN ?_
    obtain rfl:=sj hF
    replace hc:=(((((((hc.drop k7).drop k6).drop k5).drop k4).drop k3).drop k2).drop k1).drop k0
    exact zO1 Tryz.results8 hf rfl ⟨rfl,hc⟩
   ·refine wp_skip ?_
    refine db _ _ ?_
    refine zS fun K h=>zN hf hc lE m2 rfl fun a w hf hc=>zP hf rfl (pFA hC rfl) fun a hf=>zL hf hc bB m6 rfl fun a w hf hc=>sp 2 hf rfl fun a hf=>?_
    obtain ⟨ag,b7,hF⟩:=aA hF
    obtain ⟨G1,m,X,hc,V⟩:=lend hc k5
    obtain ⟨G2,ak,an,hc,am⟩:=lend hc k4
    obtain ⟨G3,a2,bc,hc,bb⟩:=lend hc k3
    refine zC hf en_35 rfl (aB2 U S.Lo d i ((X.mono ak).mono a2) (an.mono a2) bc hc b7) ?_
    rintro _ w ⟨a8,a7,rfl,hc⟩
    refine ⟨_,rfl,fun a hf=>?_⟩
    replace hc:=bb _ _ hc
    replace hc:=am _ _ hc
    replace hc:=V _ _ hc
    refine sp 5 hf rfl fun a hf=>zT h ?_
    refine wp_seq_k fun K16 c3=>?_
    obtain ⟨a5,b0,hF⟩:=aA hF
    obtain ⟨Z,b6,hF⟩:=aA hF
    replace hc:=hc.nilRow 0 0
    replace hc:=hc.nilRow 0 0
    refine dJ (fun θ=>[⟨none,none,3,.slice ab l.length aa⟩,⟨none,none,4,.slice O R.length M⟩,⟨none,none,5,pq b⟩,⟨none,none,7,pq ad⟩,⟨none,none,11,pq s⟩,⟨none,none,12,.slice z d.length x⟩,⟨none,none,13,.slice t i.length y⟩,⟨none,none,14,.slice aj Y.1.length ai⟩,⟨none,none,15,.slice ax Y.2.length av⟩,⟨none,none,17,i6 ag.2⟩,⟨none,some 11,19,i6 af.2⟩,⟨none,none,20,.slice a8 ag.1.length a7⟩,⟨some 0,none,88,.agg #[.slice J b_.Table.length I,i6 b_.Credit]⟩,⟨some 1,none,89,.agg #[.slice ((θ 8).p) a5.Table.length ((θ 8).c),i6 a5.Credit]⟩,⟨some 2,none,90,pq ad⟩,⟨some 3,none,91,i6 S.Lo⟩,⟨some 4,none,92,.slice aj Y.1.length ai⟩,⟨some 5,none,93,.slice ax Y.2.length av⟩,⟨some 6,none,94,.tuple #[.slice ((θ 48).p) Z.1.length ((θ 48).c),i6 Z.2]⟩,⟨some 7,none,87,.tuple #[.slice ((θ 48).p) Z.1.length ((θ 48).c),i6 Z.2]⟩,⟨some 8,none,95,.slice ((θ 48).p) Z.1.length ((θ 48).c)⟩,⟨some 9,none,96,i6 Z.2⟩,⟨some 10,none,21,.slice ((θ 48).p) Z.1.length ((θ 48).c)⟩,⟨some 11,none,19,i6 Z.2⟩]) (fun E θ=>(bif E 6 then .row ((θ 48).p) ((θ 48).c) (Z.1.map aD) 3 1 else .row none 0 [] 0 0)::(bif E 1 then .row ((θ 8).p) ((θ 8).c) (a5.Table.map bW) 141 2 else .row none 0 [] 0 0)::.row ar aq (U.Table.map aO) 48 2::.row z x (d.map aS) 50 5::.row t y (i.map aW) 37 2::.row a8 a7 (ag.1.map aD) 3 1::.row aj ai (Y.1.map dE) 139 5::.row ax av (Y.2.map eV) 140 2::.box s [.slice ar U.Table.length aq,i6 U.Credit] 32::.box ad [i6 S.Lo,i6 S.Hi] 28::.box b [.slice J b_.Table.length I,i6 b_.Credit] 32::Lf) [(7,6),(8,7),(10,6)] (fun a w=>∃ (a3:Option Addr) (a4:Nat) (bi:Option Addr) (bq:Nat),Has 156 a [(3,.slice ab l.length aa),(4,.slice O R.length M),(5,pq b),(7,pq ad),(11,pq s),(12,.slice z d.length x),(13,.slice t i.length y),(14,.slice aj Y.1.length ai),(17,i6 ag.2),(20,.slice a8 ag.1.length a7),(21,.slice a3 Z.1.length a4),(19,i6 Z.2)]∧Ctx G (.row a3 a4 (Z.1.map aD) 3 1::.row bi bq (a5.Table.map bW) 141 2::.row ar aq (U.Table.map aO) 48 2::.row z x (d.map aS) 50 5::.row t y (i.map aW) 37 2::.row a8 a7 (ag.1.map aD) 3 1::.row aj ai (Y.1.map dE) 139 5::.row ax av (Y.2.map eV) 140 2::.box s [.slice ar U.Table.length aq,i6 U.Credit] 32::.box ad [i6 S.Lo,i6 S.Hi] 28::.box b [.slice J b_.Table.length I,i6 b_.Credit] 32::Lf) w) aY (by kernel_rfl) (by kernel_rfl) (eY.of hf ⟨rfl,rfl,rfl,rfl,rfl,rfl,rfl,rfl,rfl,rfl,rfl,rfl,trivial,trivial,trivial,trivial,trivial,trivial,trivial,trivial,trivial,trivial,trivial,trivial,trivial⟩) hc ⟨?_,?_,?_,?_,?_,?_,?_,?_,?_,?_,?_,?_,trivial⟩ ?_ ?_
    ·intro E θ a w hD hi hp he hc
     have hf:=he.h0.mT he 2 rfl
     refine zN hf hc lE m10 rfl fun a w hf hc=>zD θ he hi hf 12 rfl rfl rfl hc
    ·intro E θ a w hD hi hp he hc
     have e0:=hp.o 0 rfl
     try dsimp only at hc
     rw [hi] at hc
     have hf:=he.h0.mP he 12 rfl e0
     refine zC hf aGl rfl (nS b_ g hc b0) ?_
     rintro _ w ⟨cu,cp,rfl,hc⟩
     refine ⟨_,rfl,fun a hf=>?_⟩
     refine aP ?_
     refine bV ?_
     intro ds u ay
     replace hc:=((hc.drop k2).pick k0).pick k1
     refine ⟨(fY θ 8 ⟨0,cu,cp,(fun _=>(none,0))⟩),he.put hi ay hf rfl [] trivial ⟨qq,qq,qq,qq,qq,qq,qq,qq,qq,qq,qq,qq,qq,qq,qq,qq,qq,qq,qq,qq,qq,qq,qq,qq,trivial⟩,?_⟩
     try dsimp only
     rw [aU E 1]
     exact hc
    ·intro E θ a w hD hi hp he hc
     have hf:=he.h0.mT he 3 rfl
     refine zP hf rfl (pFA hC rfl) fun a hf=>zD θ he hi hf 14 rfl rfl rfl hc
    ·intro E θ a w hD hi hp he hc
     have e2:=hp.o 2 rfl
     have hf:=he.h0.mP he 14 rfl e2
     refine zL hf hc bB m9 rfl fun a w hf hc=>zD θ he hi hf 15 rfl rfl rfl hc
    ·intro E θ a w hD hi hp he hc
     have hf:=he.h0.mT he 7 rfl
     refine sp 1 hf rfl fun a hf=>zD θ he hi hf 16 rfl rfl rfl hc
    ·intro E θ a w hD hi hp he hc
     have hf:=he.h0.mT he 8 rfl
     refine sp 1 hf rfl fun a hf=>zD θ he hi hf 17 rfl rfl rfl hc
    ·intro E θ a w hD hi hp he hc
     have e1:=hp.o 1 rfl
     have e3:=hp.o 3 rfl
     have e4:=hp.o 4 rfl
     have e5:=hp.o 5 rfl
     have e7:=hD.f 0 rfl hi
     have e8:=hD.f 1 rfl e7
     have bk:=hD.f 2 rfl hi
     try dsimp only at hc
     rw [hi,e1] at hc
     have hf:=(((he.h0.mP he 13 rfl e1).mP he 15 rfl e3).mP he 16 rfl e4).mP he 17 rfl e5
     obtain ⟨G1,m,X,hc,V⟩:=lend hc k1
     obtain ⟨G2,ak,an,hc,am⟩:=lend hc k5
     obtain ⟨G3,a2,bc,hc,bb⟩:=lend hc k5
     refine zC hf en_36 rfl (aB4 a5 S.Lo Y.1 Y.2 ((X.mono ak).mono a2) (an.mono a2) bc hc b6) ?_
     rintro _ w ⟨cm,cv,rfl,hc⟩
     refine ⟨_,rfl,fun a hf=>?_⟩
     replace hc:=bb _ _ hc
     replace hc:=am _ _ hc
     replace hc:=V _ _ hc
     refine aP ?_
     refine bV ?_
     intro ds u ay
     replace hc:=((((((((hc.drop k4).pick k2).pick k2).pick k7).pick k7).pick k7).pick k7).pick k6).pick k7
     refine ⟨(fY θ 48 ⟨0,cm,cv,(fun _=>(none,0))⟩),he.put hi ay hf rfl [7,8,10] ⟨⟨e7,rfl⟩,⟨e8,rfl⟩,⟨bk,rfl⟩,trivial⟩ ⟨qq,qq,qq,qq,qq,qq,qq,qq,qq,qq,qq,qq,qq,qq,qq,qq,qq,qq,qq,trivial,trivial,qq,trivial,qq,trivial⟩,?_⟩
     try dsimp only
     rw [aU E 6,dH 6 e1]
     exact hc
    ·intro E θ a w hD hi hp he hc
     have e6:=hp.o 6 rfl
     have hf:=he.h0.mP he 18 rfl e6
     refine sp 1 hf rfl fun a hf=>zD θ he hi hf 19 rfl rfl rfl hc
    ·intro E θ a w hD hi hp he hc
     have e7:=hp.o 7 rfl
     have hf:=he.h0.mP he 19 rfl e7
     refine sp 1 hf rfl fun a hf=>zD θ he hi hf 20 rfl rfl rfl hc
    ·intro E θ a w hD hi hp he hc
     have e7:=hp.o 7 rfl
     have hf:=he.h0.mP he 19 rfl e7
     refine sp 1 hf rfl fun a hf=>zD θ he hi hf 21 rfl rfl rfl hc
    ·intro E θ a w hD hi hp he hc
     have e8:=hp.o 8 rfl
     have hf:=he.h0.mP he 20 rfl e8
     refine sp 1 hf rfl fun a hf=>zD θ he hi hf 22 rfl rfl rfl hc
    ·intro E θ a w hD hi hp he hc
     have e9:=hp.o 9 rfl
     have hf:=he.h0.mP he 21 rfl e9
     refine sp 1 hf rfl fun a hf=>zD θ he hi hf 23 rfl rfl rfl hc
    ·intro E θ a w ac he hc
     have hf:=he.h0
     have e1:=ac 1 rfl
     have e6:=ac 6 rfl
     have bk:=ac 10 rfl
     have c9:=ac 11 rfl
     replace hf:=hf.more he 23 rfl (onP c9)
     replace hf:=hf.more he 22 rfl (onP bk)
     replace hf:=hf.more he 11 rfl (onT)
     replace hf:=hf.more he 9 rfl (onT)
     replace hf:=hf.more he 7 rfl (onT)
     replace hf:=hf.more he 6 rfl (onT)
     replace hf:=hf.more he 5 rfl (onT)
     replace hf:=hf.more he 4 rfl (onT)
     replace hf:=hf.more he 3 rfl (onT)
     replace hf:=hf.more he 2 rfl (onT)
     replace hf:=hf.more he 1 rfl (onT)
     replace hf:=hf.more he 0 rfl (onT)
     try dsimp only at hc
     rw [e1,e6] at hc
     exact ⟨(θ 48).p,(θ 48).c,(θ 8).p,(θ 8).c,hf.kp rfl,hc⟩
    rintro a w ⟨a3,a4,bi,bq,hf,hc⟩
    replace hc:=(hc.drop k7).drop k1
    refine c3 _ _ ?_
    refine wp_seq_k fun K17 c6=>wp_seq_k fun K18 c8=>bR ?_
    refine sp 2 hf rfl fun a hf=>?_
    obtain ⟨az,b4,hF⟩:=aA hF
    refine zQ (v:=.bool az) hf hc tY rfl (fun w hc=>by obtain ⟨G1,m,X,hc,V⟩:=lend hc k4; obtain ⟨G2,ak,an,hc,am⟩:=lend hc k0; exact (dP ag.1 Z.1 (X.mono ak) an hc b4).mono fun e w h=>⟨h.1,((V _ _ ((am _ _ h.2).unpick k0)).unpick k4)⟩) fun a w hf hc=>sp 2 hf rfl fun a hf=>cP 4 (fun a=>Has 156 a [(3,.slice ab l.length aa),(4,.slice O R.length M),(5,pq b),(7,pq ad),(11,pq s),(12,.slice z d.length x),(13,.slice t i.length y),(14,.slice aj Y.1.length ai),(17,i6 ag.2),(20,.slice a8 ag.1.length a7),(21,.slice a3 Z.1.length a4),(19,i6 Z.2),(97,.slice a8 ag.1.length a7),(98,.slice a3 Z.1.length a4),(99,.bool az),(100,.bool (!az)),(101,.bool (!az)),(105,.bool ((!az) || (ag.2 != Z.2)))]) hc ?_ ?_
    ·cases hb:(!az)
     ·rw [hb] at hf
      refine sp 4 hf rfl fun a hf=>aP ⟨hf.kp rfl,hc⟩
     ·rw [hb] at hf
      refine stS hf rfl rfl rfl fun a hf=>stS hf rfl rfl rfl fun a hf=>stS hf rfl rfl rfl fun a hf=>sp 1 hf rfl fun a hf=>aP ⟨hf.kp rfl,hc⟩
    intro a w ⟨hf,hc⟩
    refine aP ?_
    replace hc:=(hc.drop k4).drop k0
    refine c8 _ _ ?_
    refine zI hf rfl hF ?_ ?_ <;> clear hF <;> intro hF
    ·refine zS fun K h=>sp 1 hf rfl fun a hf=>zT h ?_
     refine wp_ret ?_
     refine aN ?_
     obtain rfl:=sj hF
     replace hc:=((((((hc.drop k6).drop k5).drop k4).drop k3).drop k2).drop k1).drop k0
     exact zO1 Tryz.results8 hf rfl ⟨rfl,hc⟩
    ·refine wp_skip ?_
     refine c6 _ _ ?_
     refine zS fun K h=>zN hf hc lE m4 rfl fun a w hf hc=>zN hf hc mL m5 rfl fun a w hf hc=>sp 1 hf rfl fun a hf=>?_
     obtain ⟨D,b1,hF⟩:=aA hF
     obtain ⟨G1,m,X,hc,V⟩:=lend hc k0
     obtain ⟨G2,ak,an,hc,am⟩:=lend hc k0
     refine zC hf aK8 rfl (vA U S d (X.mono ak) an hc b1) ?_
     rintro _ w ⟨k,j,rfl,hc⟩
     refine ⟨_,rfl,fun a hf=>?_⟩
     replace hc:=am _ _ hc
     replace hc:=V _ _ hc
     refine sp 5 hf rfl fun a hf=>zT h ?_
     refine wp_seq_k fun K21 c4=>?_
     obtain ⟨a6,bv,hF⟩:=aA hF
     obtain ⟨B,b3,hF⟩:=aA hF
     replace hc:=hc.nilRow 0 0
     replace hc:=hc.nilRow 0 0
     refine dJ (fun θ=>[⟨none,none,3,.slice ab l.length aa⟩,⟨none,none,4,.slice O R.length M⟩,⟨none,none,5,pq b⟩,⟨none,none,7,pq ad⟩,⟨none,none,11,pq s⟩,⟨none,none,12,.slice z d.length x⟩,⟨none,none,13,.slice t i.length y⟩,⟨none,none,14,.slice aj Y.1.length ai⟩,⟨none,none,17,i6 D.2⟩,⟨none,some 9,19,i6 Z.2⟩,⟨none,none,22,.slice k D.1.length j⟩,⟨some 0,none,114,.agg #[.slice J b_.Table.length I,i6 b_.Credit]⟩,⟨some 1,none,115,.agg #[.slice ((θ 8).p) a6.Table.length ((θ 8).c),i6 a6.Credit]⟩,⟨some 2,none,116,.agg #[i6 S.Lo,i6 S.Hi]⟩,⟨some 3,none,117,.slice aj Y.1.length ai⟩,⟨some 4,none,118,.tuple #[.slice ((θ 32).p) B.1.length ((θ 32).c),i6 B.2]⟩,⟨some 5,none,113,.tuple #[.slice ((θ 32).p) B.1.length ((θ 32).c),i6 B.2]⟩,⟨some 6,none,119,.slice ((θ 32).p) B.1.length ((θ 32).c)⟩,⟨some 7,none,120,i6 B.2⟩,⟨some 8,none,23,.slice ((θ 32).p) B.1.length ((θ 32).c)⟩,⟨some 9,none,19,i6 B.2⟩]) (fun E θ=>(bif E 4 then .row ((θ 32).p) ((θ 32).c) (B.1.map bC) 28 2 else .row none 0 [] 0 0)::(bif E 1 then .row ((θ 8).p) ((θ 8).c) (a6.Table.map bW) 141 2 else .row none 0 [] 0 0)::.row ar aq (U.Table.map aO) 48 2::.row z x (d.map aS) 50 5::.row k j (D.1.map bC) 28 2::.row t y (i.map aW) 37 2::.row aj ai (Y.1.map dE) 139 5::.box s [.slice ar U.Table.length aq,i6 U.Credit] 32::.box ad [i6 S.Lo,i6 S.Hi] 28::.box b [.slice J b_.Table.length I,i6 b_.Credit] 32::Lf) [(5,4),(6,5),(8,4)] (fun a w=>∃ (n:Option Addr) (q:Nat) (bn:Option Addr) (bm:Nat),Has 156 a [(3,.slice ab l.length aa),(4,.slice O R.length M),(5,pq b),(11,pq s),(12,.slice z d.length x),(13,.slice t i.length y),(17,i6 D.2),(22,.slice k D.1.length j),(23,.slice n B.1.length q),(19,i6 B.2)]∧Ctx G (.row n q (B.1.map bC) 28 2::.row bn bm (a6.Table.map bW) 141 2::.row ar aq (U.Table.map aO) 48 2::.row z x (d.map aS) 50 5::.row k j (D.1.map bC) 28 2::.row t y (i.map aW) 37 2::.row aj ai (Y.1.map dE) 139 5::.box s [.slice ar U.Table.length aq,i6 U.Credit] 32::.box ad [i6 S.Lo,i6 S.Hi] 28::.box b [.slice J b_.Table.length I,i6 b_.Credit] 32::Lf) w) aY (by kernel_rfl) (by kernel_rfl) (eY.of hf ⟨rfl,rfl,rfl,rfl,rfl,rfl,rfl,rfl,rfl,rfl,rfl,trivial,trivial,trivial,trivial,trivial,trivial,trivial,trivial,trivial,trivial,trivial⟩) hc ⟨?_,?_,?_,?_,?_,?_,?_,?_,?_,?_,trivial⟩ ?_ ?_
     ·intro E θ a w hD hi hp he hc
      have hf:=he.h0.mT he 2 rfl
      refine zN hf hc lE m9 rfl fun a w hf hc=>zD θ he hi hf 11 rfl rfl rfl hc
     ·intro E θ a w hD hi hp he hc
      have e0:=hp.o 0 rfl
      try dsimp only at hc
      rw [hi] at hc
      have hf:=he.h0.mP he 11 rfl e0
      refine zC hf aGl rfl (nS b_ g hc bv) ?_
      rintro _ w ⟨c1,cz,rfl,hc⟩
      refine ⟨_,rfl,fun a hf=>?_⟩
      refine aP ?_
      refine bV ?_
      intro ds u ay
      replace hc:=((hc.drop k2).pick k0).pick k1
      refine ⟨(fY θ 8 ⟨0,c1,cz,(fun _=>(none,0))⟩),he.put hi ay hf rfl [] trivial ⟨qq,qq,qq,qq,qq,qq,qq,qq,qq,qq,qq,qq,qq,qq,qq,qq,qq,qq,qq,qq,qq,trivial⟩,?_⟩
      try dsimp only
      rw [aU E 1]
      exact hc
     ·intro E θ a w hD hi hp he hc
      have hf:=he.h0.mT he 3 rfl
      refine zN hf hc mL m8 rfl fun a w hf hc=>zD θ he hi hf 13 rfl rfl rfl hc
     ·intro E θ a w hD hi hp he hc
      have hf:=he.h0.mT he 7 rfl
      refine sp 1 hf rfl fun a hf=>zD θ he hi hf 14 rfl rfl rfl hc
     ·intro E θ a w hD hi hp he hc
      have e1:=hp.o 1 rfl
      have e2:=hp.o 2 rfl
      have e3:=hp.o 3 rfl
      have e5:=hD.f 0 rfl hi
      have e6:=hD.f 1 rfl e5
      have e8:=hD.f 2 rfl hi
      try dsimp only at hc
      rw [hi,e1] at hc
      have hf:=((he.h0.mP he 12 rfl e1).mP he 13 rfl e2).mP he 14 rfl e3
      obtain ⟨G1,m,X,hc,V⟩:=lend hc k1
      obtain ⟨G2,ak,an,hc,am⟩:=lend hc k5
      refine zC hf en_38 rfl (aAx a6 S Y.1 (X.mono ak) an hc b3) ?_
      rintro _ w ⟨cd,cg,rfl,hc⟩
      refine ⟨_,rfl,fun a hf=>?_⟩
      replace hc:=am _ _ hc
      replace hc:=V _ _ hc
      refine aP ?_
      refine bV ?_
      intro ds u ay
      replace hc:=(((((((hc.drop k3).pick k1).pick k6).pick k6).pick k6).pick k6).pick k5).pick k6
      refine ⟨(fY θ 32 ⟨0,cd,cg,(fun _=>(none,0))⟩),he.put hi ay hf rfl [5,6,8] ⟨⟨e5,rfl⟩,⟨e6,rfl⟩,⟨e8,rfl⟩,trivial⟩ ⟨qq,qq,qq,qq,qq,qq,qq,qq,qq,qq,qq,qq,qq,qq,qq,qq,trivial,trivial,qq,trivial,qq,trivial⟩,?_⟩
      try dsimp only
      rw [aU E 4,dH 4 e1]
      exact hc
     ·intro E θ a w hD hi hp he hc
      have e4:=hp.o 4 rfl
      have hf:=he.h0.mP he 15 rfl e4
      refine sp 1 hf rfl fun a hf=>zD θ he hi hf 16 rfl rfl rfl hc
     ·intro E θ a w hD hi hp he hc
      have e5:=hp.o 5 rfl
      have hf:=he.h0.mP he 16 rfl e5
      refine sp 1 hf rfl fun a hf=>zD θ he hi hf 17 rfl rfl rfl hc
     ·intro E θ a w hD hi hp he hc
      have e5:=hp.o 5 rfl
      have hf:=he.h0.mP he 16 rfl e5
      refine sp 1 hf rfl fun a hf=>zD θ he hi hf 18 rfl rfl rfl hc
     ·intro E θ a w hD hi hp he hc
      have e6:=hp.o 6 rfl
      have hf:=he.h0.mP he 17 rfl e6
      refine sp 1 hf rfl fun a hf=>zD θ he hi hf 19 rfl rfl rfl hc
     ·intro E θ a w hD hi hp he hc
      have e7:=hp.o 7 rfl
      have hf:=he.h0.mP he 18 rfl e7
      refine sp 1 hf rfl fun a hf=>zD θ he hi hf 20 rfl rfl rfl hc
     ·intro E θ a w ac he hc
      have hf:=he.h0
      have e1:=ac 1 rfl
      have e4:=ac 4 rfl
      have e8:=ac 8 rfl
      have e9:=ac 9 rfl
      replace hf:=hf.more he 20 rfl (onP e9)
      replace hf:=hf.more he 19 rfl (onP e8)
      replace hf:=hf.more he 10 rfl (onT)
      replace hf:=hf.more he 8 rfl (onT)
      replace hf:=hf.more he 6 rfl (onT)
      replace hf:=hf.more he 5 rfl (onT)
      replace hf:=hf.more he 4 rfl (onT)
      replace hf:=hf.more he 2 rfl (onT)
      replace hf:=hf.more he 1 rfl (onT)
      replace hf:=hf.more he 0 rfl (onT)
      try dsimp only at hc
      rw [e1,e4] at hc
      exact ⟨(θ 32).p,(θ 32).c,(θ 8).p,(θ 8).c,hf.kp rfl,hc⟩
     rintro a w ⟨n,q,bn,bm,hf,hc⟩
     replace hc:=((hc.drop k8).drop k6).drop k1
     refine c4 _ _ ?_
     refine zS fun K h=>sp 2 hf rfl fun a hf=>?_
     obtain ⟨H,bz,hF⟩:=aA hF
     refine zQ (v:=.bool H) hf hc aGg rfl (fun w hc=>by obtain ⟨G1,m,X,hc,V⟩:=lend hc k3; obtain ⟨G2,ak,an,hc,am⟩:=lend hc k0; exact (kL D.1 B.1 (X.mono ak) an hc bz).mono fun e w h=>⟨h.1,((V _ _ ((am _ _ h.2).unpick k0)).unpick k3)⟩) fun a w hf hc=>sp 1 hf rfl fun a hf=>cP 4 (fun a=>Has 156 a [(3,.slice ab l.length aa),(4,.slice O R.length M),(5,pq b),(11,pq s),(12,.slice z d.length x),(13,.slice t i.length y),(17,i6 D.2),(22,.slice k D.1.length j),(23,.slice n B.1.length q),(19,i6 B.2),(121,.slice k D.1.length j),(122,.slice n B.1.length q),(123,.bool H),(124,.bool H),(128,.bool (H && (D.2 == B.2)))]) hc ?_ ?_
     ·cases hb:H
      ·rw [hb] at hf
       try rw [hb] at hc
       refine stS hf rfl rfl rfl fun a hf=>stS hf rfl rfl rfl fun a hf=>stS hf rfl rfl rfl fun a hf=>sp 1 hf rfl fun a hf=>aP ⟨hf.kp rfl,hc⟩
      ·rw [hb] at hf
       try rw [hb] at hc
       refine sp 4 hf rfl fun a hf=>aP ⟨hf.kp rfl,hc⟩
     intro a w ⟨hf,hc⟩
     refine sp 1 hf rfl fun a hf=>cP 6 (fun a=>Has 156 a [(3,.slice ab l.length aa),(4,.slice O R.length M),(5,pq b),(11,pq s),(12,.slice z d.length x),(13,.slice t i.length y),(17,i6 D.2),(22,.slice k D.1.length j),(23,.slice n B.1.length q),(19,i6 B.2),(121,.slice k D.1.length j),(122,.slice n B.1.length q),(123,.bool H),(124,.bool H),(128,.bool (H && (D.2 == B.2))),(129,.bool (H && (D.2 == B.2))),(135,.bool ((H && (D.2 == B.2)) && (U.Credit == b_.Credit)))]) hc ?_ ?_
     ·cases hb:(H && (D.2 == B.2))
      ·rw [hb] at hf
       refine stS hf rfl rfl rfl fun a hf=>stS hf rfl rfl rfl fun a hf=>stS hf rfl rfl rfl fun a hf=>stS hf rfl rfl rfl fun a hf=>stS hf rfl rfl rfl fun a hf=>sp 1 hf rfl fun a hf=>aP ⟨hf.kp rfl,hc⟩
      ·rw [hb] at hf
       refine zP hf rfl (pFA tN rfl) fun a hf=>zL hf hc bB m5 rfl fun a w hf hc=>zP hf rfl (pFA tN rfl) fun a hf=>zL hf hc bB m6 rfl fun a w hf hc=>sp 2 hf rfl fun a hf=>aP ⟨hf.kp rfl,hc⟩
     intro a w ⟨hf,hc⟩
     refine sp 1 hf rfl fun a hf=>?_
     obtain ⟨a1,bt,hF⟩:=aA hF
     refine cP 6 (fun a=>Has 156 a [(3,.slice ab l.length aa),(4,.slice O R.length M),(5,pq b),(11,pq s),(12,.slice z d.length x),(13,.slice t i.length y),(17,i6 D.2),(22,.slice k D.1.length j),(23,.slice n B.1.length q),(19,i6 B.2),(121,.slice k D.1.length j),(122,.slice n B.1.length q),(123,.bool H),(124,.bool H),(128,.bool (H && (D.2 == B.2))),(129,.bool (H && (D.2 == B.2))),(135,.bool ((H && (D.2 == B.2)) && (U.Credit == b_.Credit))),(136,.bool ((H && (D.2 == B.2)) && (U.Credit == b_.Credit))),(142,.bool a1)]) hc ?_ ?_
     ·cases hb:((H && (D.2 == B.2)) && (U.Credit == b_.Credit))
      ·rw [hb] at hf
       have hF:=fN hb bt
       obtain rfl:=sj hF
       refine stS hf rfl rfl rfl fun a hf=>stS hf rfl rfl rfl fun a hf=>stS hf rfl rfl rfl fun a hf=>stS hf rfl rfl rfl fun a hf=>stS hf rfl rfl rfl fun a hf=>sp 1 hf rfl fun a hf=>aP ⟨hf.kp rfl,hc⟩
      ·rw [hb] at hf
       have hF:=fO hb bt
       refine zP hf rfl (pFA gB rfl) fun a hf=>zL hf hc oH m5 rfl fun a w hf hc=>zP hf rfl (pFA gB rfl) fun a hf=>zL hf hc oH m6 rfl fun a w hf hc=>?_
       obtain ⟨cn,b8,hF⟩:=aA hF
       refine zQ (v:=.bool cn) hf hc en_39 rfl (fun w hc=>by obtain ⟨G1,m,X,hc,V⟩:=lend hc k1; exact (sZ U.Table b_.Table X (g.mono m) hc b8).mono fun e w h=>⟨h.1,((V _ _ h.2).unpick k1)⟩) fun a w hf hc=>sp 1 hf rfl fun a hf=>?_
       obtain rfl:=sj hF
       exact aP ⟨hf.kp rfl,hc⟩
     intro a w ⟨hf,hc⟩
     refine sp 1 hf rfl fun a hf=>?_
     obtain ⟨a9,br,hF⟩:=aA hF
     refine cP 4 (fun a=>Has 156 a [(3,.slice ab l.length aa),(4,.slice O R.length M),(5,pq b),(11,pq s),(12,.slice z d.length x),(13,.slice t i.length y),(17,i6 D.2),(22,.slice k D.1.length j),(23,.slice n B.1.length q),(19,i6 B.2),(121,.slice k D.1.length j),(122,.slice n B.1.length q),(123,.bool H),(124,.bool H),(128,.bool (H && (D.2 == B.2))),(129,.bool (H && (D.2 == B.2))),(135,.bool ((H && (D.2 == B.2)) && (U.Credit == b_.Credit))),(136,.bool ((H && (D.2 == B.2)) && (U.Credit == b_.Credit))),(142,.bool a1),(143,.bool a1),(147,.bool a9)]) hc ?_ ?_
     ·cases hb:a1
      ·rw [hb] at hf
       try rw [hb] at hc
       have hF:=fN hb br
       obtain rfl:=sj hF
       refine stS hf rfl rfl rfl fun a hf=>stS hf rfl rfl rfl fun a hf=>stS hf rfl rfl rfl fun a hf=>sp 1 hf rfl fun a hf=>aP ⟨hf.kp rfl,hc⟩
      ·rw [hb] at hf
       try rw [hb] at hc
       have hF:=fO hb br
       refine sp 2 hf rfl fun a hf=>?_
       obtain ⟨cs,bx,hF⟩:=aA hF
       refine zQ (v:=.bool cs) hf hc en_40 rfl (fun w hc=>by obtain ⟨G1,m,X,hc,V⟩:=lend hc k2; exact (tK d l X (bs.mono m) hc bx).mono fun e w h=>⟨h.1,((V _ _ h.2).unpick k2)⟩) fun a w hf hc=>sp 1 hf rfl fun a hf=>?_
       obtain rfl:=sj hF
       exact aP ⟨hf.kp rfl,hc⟩
     intro a w ⟨hf,hc⟩
     refine sp 1 hf rfl fun a hf=>?_
     obtain ⟨bf,bj,hF⟩:=aA hF
     refine cP 4 (fun a=>Has 156 a [(3,.slice ab l.length aa),(4,.slice O R.length M),(5,pq b),(11,pq s),(12,.slice z d.length x),(13,.slice t i.length y),(17,i6 D.2),(22,.slice k D.1.length j),(23,.slice n B.1.length q),(19,i6 B.2),(121,.slice k D.1.length j),(122,.slice n B.1.length q),(123,.bool H),(124,.bool H),(128,.bool (H && (D.2 == B.2))),(129,.bool (H && (D.2 == B.2))),(135,.bool ((H && (D.2 == B.2)) && (U.Credit == b_.Credit))),(136,.bool ((H && (D.2 == B.2)) && (U.Credit == b_.Credit))),(142,.bool a1),(143,.bool a1),(147,.bool a9),(148,.bool a9),(152,.bool bf)]) hc ?_ ?_
     ·cases hb:a9
      ·rw [hb] at hf
       try rw [hb] at hc
       have hF:=fN hb bj
       obtain rfl:=sj hF
       refine stS hf rfl rfl rfl fun a hf=>stS hf rfl rfl rfl fun a hf=>stS hf rfl rfl rfl fun a hf=>sp 1 hf rfl fun a hf=>aP ⟨hf.kp rfl,hc⟩
      ·rw [hb] at hf
       try rw [hb] at hc
       have hF:=fO hb bj
       refine sp 2 hf rfl fun a hf=>?_
       obtain ⟨cq,b5,hF⟩:=aA hF
       refine zQ (v:=.bool cq) hf hc en_41 rfl (fun w hc=>by obtain ⟨G1,m,X,hc,V⟩:=lend hc k4; exact (sW i R X (a0.mono m) hc b5).mono fun e w h=>⟨h.1,((V _ _ h.2).unpick k4)⟩) fun a w hf hc=>sp 1 hf rfl fun a hf=>?_
       obtain rfl:=sj hF
       exact aP ⟨hf.kp rfl,hc⟩
     intro a w ⟨hf,hc⟩
     refine sp 1 hf rfl fun a hf=>?_
     obtain ⟨c2,bp,hF⟩:=aA hF
     refine cP 2 (fun a=>Has 156 a [(3,.slice ab l.length aa),(4,.slice O R.length M),(5,pq b),(11,pq s),(12,.slice z d.length x),(13,.slice t i.length y),(17,i6 D.2),(22,.slice k D.1.length j),(23,.slice n B.1.length q),(19,i6 B.2),(121,.slice k D.1.length j),(122,.slice n B.1.length q),(123,.bool H),(124,.bool H),(128,.bool (H && (D.2 == B.2))),(129,.bool (H && (D.2 == B.2))),(135,.bool ((H && (D.2 == B.2)) && (U.Credit == b_.Credit))),(136,.bool ((H && (D.2 == B.2)) && (U.Credit == b_.Credit))),(142,.bool a1),(143,.bool a1),(147,.bool a9),(148,.bool a9),(152,.bool bf),(153,.bool bf),(155,.bool c2)]) hc ?_ ?_
     ·cases hb:bf
      ·rw [hb] at hf
       try rw [hb] at hc
       have hF:=fN hb bp
       obtain rfl:=sj hF
       refine stS hf rfl rfl rfl fun a hf=>sp 1 hf rfl fun a hf=>aP ⟨hf.kp rfl,hc⟩
      ·rw [hb] at hf
       try rw [hb] at hc
       have hF:=fO hb bp
       obtain ⟨ct,bu,hF⟩:=aA hF
       refine zQ (v:=.bool ct) hf hc aAh rfl (fun w hc=>jT hc bu) fun a w hf hc=>sp 1 hf rfl fun a hf=>?_
       obtain rfl:=sj hF
       exact aP ⟨hf.kp rfl,hc⟩
     intro a w ⟨hf,hc⟩
     refine sp 1 hf rfl fun a hf=>zT h ?_
     refine wp_ret ?_
     obtain rfl:=sj hF
     replace hc:=((((((hc.drop k6).drop k5).drop k4).drop k3).drop k2).drop k1).drop k0
     exact zO1 Tryz.results8 hf rfl ⟨rfl,hc⟩

def lW (N:Nat) (l:List Int):Option ((List Int)) :=
 Option.bind (jE (l).length) fun un=>
 some l
theorem qD {N:Nat} {G:bA} {Lf:List Ent} {w:World} (l:List Int) {J:Option Addr} {D:Nat} (R:Rd G 1 J D (l.map aD)) (hc:Ctx G (Lf) w) {B:(List Int)} (hF:lW N l=some B):Calls Tryz.prog 42 #[.slice J l.length D] w (fun e w=>∃ (I:Option Addr) (H:Nat),e=.returned (.slice I B.length H)∧Ctx G (.row I H (B.map aD) 3 1::Lf) w):=by
 unfold lW at hF
 refine cG Tryz.func42 rfl Tryz.ntmps42 rfl fun a hf=>zS fun K h=>sp 1 hf rfl fun a hf=>zT h ?_
 refine zS fun K h=>sp 1 hf rfl fun a hf=>zT h ?_
 refine zS fun K h=>sp 2 hf rfl fun a hf=>?_
 replace hc:=hc.nilRow 3 1
 obtain ⟨un,S,hF⟩:=aA hF
 refine iV (xs:=([]:List Int)) (ys:=l) hf hc rfl rfl fC rfl rfl rfl rfl rfl cM (yM hc R) (fun _ _=>u0) (by simpa using cB S) fun M O a w hf hc=>sp 1 hf rfl fun a hf=>zT h ?_
 refine wp_ret ?_
 obtain rfl:=sj hF
 exact zO1 Tryz.results42 hf rfl ⟨M,O,rfl,hc⟩

def iL (N:Nat) (D:Int) (out:List Int) (H:Int) (B:Int):Option (bH (Int × (List Int) × Int) ((List Int) × Int)) :=
 Option.bind (jE ((out++[B])).length) fun I=>
 some (.cont (W (D - B),(out++[B]),W (H + 1)))
def iK (N:Nat) (B:Int) (out:List Int) (D:Int) (H:Int):Option (bH (Int × (List Int) × Int) ((List Int) × Int)) :=
 cond (decide (B < H))
 (iL N B out D B)
 (iL N B out D H)
def iI (N:Nat) (I:List Int) (B:Int) (out:List Int) (D:Int) (H:Int):Option (bH (Int × (List Int) × Int) ((List Int) × Int)) :=
 Option.bind (aZ I D) fun M=>
 cond (decide (M < H))
 (Option.bind (aZ I D) fun J=>
 iK N B out D J)
 (iK N B out D H)
def iJ (N:Nat) (D:Int) (I:List Int) (B:Int) (out:List Int) (H:Int) (n:Int):Option (bH (Int × (List Int) × Int) ((List Int) × Int)) :=
 cond (decide (n < D))
 (iI N I B out H D)
 (iI N I B out H n)
def dZ (N:Nat) (I:Int) (D:Int) (J:List Int) (B:Int) (out:List Int) (H:Int):Option (bH (Int × (List Int) × Int) ((List Int) × Int)) :=
 cond ((decide (H < ((J.length:Nat):Int))) && (decide (0 < B)))
 (Option.bind (nz D) fun un=>
 cond (decide ((W ((W (B.tdiv D)) * D)) < B))
 (iJ N I J B out H (W ((W (B.tdiv D)) + 1)))
 (iJ N I J B out H (W (B.tdiv D))))
 (some (.brk (B,out,H)))
def oU (N:Nat) (D:List Int) (B:Int):Option (bH (Int) ((List Int) × Int)) :=
 cond (decide (B < ((D.length:Nat):Int)))
 (Option.bind (aZ D B) fun H=>
 cond (aC H 0 1000000000)
 (some (.ret (([]:List Int),100)))
 (some (.cont (W (B + 1)))))
 (some (.brk B))
def nN (N:Nat) (debt:Int) (D:Int) (I:Int) (H:List Int):Option ((List Int) × Int) :=
 cond (aC debt 0 1000000000)
 (some (([]:List Int),4))
 (cond (decide (40 < ((H.length:Nat):Int)))
 (some (([]:List Int),3))
 (cond ((aC D 1 1000000000) || (aC I 1 100))
 (some (([]:List Int),100))
 (Option.bind (aT (fun J=>oU N H J) N 0) fun O=>
 exK O (fun J=>Option.bind (aT (fun B=>dZ N D I H B.1 B.2.1 B.2.2) N (debt,([]:List Int),0)) fun M=>
 exK M (fun B=>cond (decide (0 < B.1))
 (some (([]:List Int),5))
 (some (B.2.1,0))) some) some)))
theorem yB {N:Nat} {G:bA} {Lf:List Ent} {w:World} (debt:Int) (B:Int) (H:Int) (J:List Int) {I:Option Addr} {M:Nat} (Z:Rd G 1 I M (J.map aD)) (hc:Ctx G (Lf) w) {Y:(List Int) × Int} (hF:nN N debt B H J=some Y):Calls Tryz.prog 43 #[i6 debt,i6 B,i6 H,.slice I J.length M] w (fun e w=>∃ (y:Option Addr) (z:Nat),e=.returned (.tuple #[.slice y Y.1.length z,i6 Y.2])∧Ctx G (.row y z (Y.1.map aD) 3 1::Lf) w):=by
 unfold nN at hF
 refine cG Tryz.func43 rfl Tryz.ntmps43 rfl fun a hf=>zS fun K h=>sp 2 hf rfl fun a hf=>zT h ?_
 refine wp_seq_k fun K2 h2=>zS fun K h=>sp 1 hf rfl fun a hf=>zQ (v:=.bool (aC debt 0 1000000000)) hf hc nM rfl (fun w hc=>bJ debt 0 1000000000 hc rfl) fun a w hf hc=>zT h ?_
 refine zI hf rfl hF ?_ ?_ <;> clear hF <;> intro hF
 ·refine zS fun K h=>sp 2 hf rfl fun a hf=>zT h ?_
  refine wp_ret ?_
  refine aN ?_
  obtain rfl:=sj hF
  replace hc:=hc.nilRow 3 1
  exact zO2 Tryz.results43 hf rfl rfl ⟨none,0,rfl,hc⟩
 ·refine wp_skip ?_
  refine h2 _ _ ?_
  refine wp_seq_k fun K5 h5=>zS fun K h=>sp 1 hf rfl fun a hf=>zP hf rfl (bL Tryz.underlying22 rfl) fun a hf=>sp 1 hf rfl fun a hf=>zT h ?_
  refine zI hf rfl hF ?_ ?_ <;> clear hF <;> intro hF
  ·refine zS fun K h=>sp 2 hf rfl fun a hf=>zT h ?_
   refine wp_ret ?_
   refine aN ?_
   obtain rfl:=sj hF
   replace hc:=hc.nilRow 3 1
   exact zO2 Tryz.results43 hf rfl rfl ⟨none,0,rfl,hc⟩
  ·refine wp_skip ?_
   refine h5 _ _ ?_
   refine wp_seq_k fun K8 h8=>zS fun K h=>sp 1 hf rfl fun a hf=>zQ (v:=.bool (aC B 1 1000000000)) hf hc nM rfl (fun w hc=>bJ B 1 1000000000 hc rfl) fun a w hf hc=>sp 1 hf rfl fun a hf=>cP 3 (fun a=>Has 84 a [(0,i6 debt),(1,i6 B),(2,i6 H),(3,.slice I J.length M),(19,i6 B),(20,.bool (aC B 1 1000000000)),(21,.bool (aC B 1 1000000000)),(24,.bool ((aC B 1 1000000000) || (aC H 1 100)))]) hc ?_ ?_
   ·cases hb:(aC B 1 1000000000)
    ·rw [hb] at hf
     refine sp 1 hf rfl fun a hf=>zQ (v:=.bool (aC H 1 100)) hf hc nM rfl (fun w hc=>bJ H 1 100 hc rfl) fun a w hf hc=>sp 1 hf rfl fun a hf=>aP ⟨hf.kp rfl,hc⟩
    ·rw [hb] at hf
     refine stS hf rfl rfl rfl fun a hf=>stS hf rfl rfl rfl fun a hf=>sp 1 hf rfl fun a hf=>aP ⟨hf.kp rfl,hc⟩
   intro a w ⟨hf,hc⟩
   refine zT h ?_
   refine zI hf rfl hF ?_ ?_ <;> clear hF <;> intro hF
   ·refine zS fun K h=>sp 2 hf rfl fun a hf=>zT h ?_
    refine wp_ret ?_
    refine aN ?_
    obtain rfl:=sj hF
    replace hc:=hc.nilRow 3 1
    exact zO2 Tryz.results43 hf rfl rfl ⟨none,0,rfl,hc⟩
   ·refine wp_skip ?_
    refine h8 _ _ ?_
    refine wp_seq_k fun K11 a2=>zS fun K h=>sp 1 hf rfl fun a hf=>zT h ?_
    refine wp_block ?_
    obtain ⟨p,aj,hF⟩:=aA hF
    let S13:Int→Act→World→Prop:=(fun (zz:Int) a w=>Has 84 a [(0,i6 debt),(1,i6 B),(2,i6 H),(3,.slice I J.length M),(10,i6 zz)]∧Ctx G (Lf) w)
    have ai:∀ (zz:Int) a w,p=.go zz→S13 zz a w→K11 a w:=by
     rintro ab a w rfl ⟨hf,hc⟩
     replace hF:=bQ hF
     refine a2 _ _ ?_
     refine zS fun K h=>sp 1 hf rfl fun a hf=>zT h ?_
     refine wp_seq_k fun K15 a1=>zS fun K h=>sp 1 hf rfl fun a hf=>zT h ?_
     refine wp_block ?_
     obtain ⟨k,am,hF⟩:=aA hF
     let S17:(Int × (List Int) × Int)→Act→World→Prop:=(fun (zz:Int × (List Int) × Int) a w=>∃ (U:Option Addr) (R:Nat),Has 84 a [(0,i6 zz.1),(1,i6 B),(2,i6 H),(3,.slice I J.length M),(11,.slice U zz.2.1.length R),(12,i6 zz.2.2)]∧Ctx G (.row U R (zz.2.1.map aD) 3 1::Lf) w)
     have ac:∀ (zz:Int × (List Int) × Int) a w,k=.go zz→S17 zz a w→K15 a w:=by
      rintro ⟨D,out,O⟩ a w rfl ⟨U,R,hf,hc⟩
      replace hF:=bQ hF
      refine a1 _ _ ?_
      refine wp_seq_k fun K18 ax=>zS fun K h=>sp 2 hf rfl fun a hf=>zT h ?_
      refine zI hf rfl hF ?_ ?_ <;> clear hF <;> intro hF
      ·refine zS fun K h=>sp 2 hf rfl fun a hf=>zT h ?_
       refine wp_ret ?_
       refine aN ?_
       obtain rfl:=sj hF
       replace hc:=hc.nilRow 3 1
       replace hc:=hc.drop k1
       exact zO2 Tryz.results43 hf rfl rfl ⟨none,0,rfl,hc⟩
      ·refine wp_skip ?_
       refine ax _ _ ?_
       refine zS fun K h=>sp 3 hf rfl fun a hf=>zT h ?_
       refine wp_ret ?_
       obtain rfl:=sj hF
       exact zO2 Tryz.results43 hf rfl rfl ⟨U,R,rfl,hc⟩
     have bc:∀ r,k=.out r→r=Y:=by
      rintro r rfl
      exact sj hF
     replace hc:=hc.nilRow 3 1
     refine cX N (cV (S:=S17) (x:=k) ?_ N (debt,([]:List Int),0) _ _ ⟨none,0,hf.kp rfl,hc⟩ am)
     clear hF hf hc
     rintro ⟨D,out,O⟩ b a w KB17 ⟨U,R,hf,hc⟩ hF d an
     unfold dZ at hF
     refine wp_seq_k fun K22 ay=>zS fun K h=>sp 2 hf rfl fun a hf=>zP hf rfl (bL Tryz.underlying22 rfl) fun a hf=>sp 2 hf rfl fun a hf=>cP 3 (fun a=>Has 84 a [(0,i6 D),(1,i6 B),(2,i6 H),(3,.slice I J.length M),(11,.slice U out.length R),(12,i6 O),(36,i6 O),(37,.slice I J.length M),(38,i6 ((J.length:Nat):Int)),(39,.bool (decide (O < ((J.length:Nat):Int)))),(40,.bool (decide (O < ((J.length:Nat):Int)))),(43,.bool ((decide (O < ((J.length:Nat):Int))) && (decide (0 < D))))]) hc ?_ ?_
     ·cases hb:(decide (O < ((J.length:Nat):Int)))
      ·rw [hb] at hf
       refine stS hf rfl rfl rfl fun a hf=>stS hf rfl rfl rfl fun a hf=>sp 1 hf rfl fun a hf=>aP ⟨hf.kp rfl,hc⟩
      ·rw [hb] at hf
       refine sp 3 hf rfl fun a hf=>aP ⟨hf.kp rfl,hc⟩
     intro a w ⟨hf,hc⟩
     refine zT h ?_
     refine zI hf rfl hF ?_ ?_ <;> clear hF <;> intro hF
     ·refine wp_skip ?_
      refine ay _ _ ?_
      refine wp_seq_k fun K24 bb=>wp_block ?_
      refine zS fun K h=>sp 2 hf rfl fun a hf=>?_
      obtain ⟨un,a0,hF⟩:=aA hF
      refine zP hf rfl (nE rfl rfl (eZ a0)) fun a hf=>sp 1 hf rfl fun a hf=>zT h ?_
      refine wp_seq_k fun K26 a7=>?_
      have q:∀ (n:Int) a w,Has 84 a [(0,i6 D),(1,i6 B),(2,i6 H),(3,.slice I J.length M),(11,.slice U out.length R),(12,i6 O),(13,i6 n)]→Ctx G (.row U R (out.map aD) 3 1::Lf) w→iJ N B J D out O n=some b→K26 a w:=by
       repeat (clear hF)
       repeat (clear hc)
       repeat (clear hf)
       intro n a w hf hc hF
       unfold iJ at hF
       refine a7 _ _ ?_
       refine wp_seq_k fun K27 a4=>?_
       have t:∀ (i:Int) a w,Has 84 a [(0,i6 D),(1,i6 B),(2,i6 H),(3,.slice I J.length M),(11,.slice U out.length R),(12,i6 O),(13,i6 i)]→Ctx G (.row U R (out.map aD) 3 1::Lf) w→iI N J D out O i=some b→K27 a w:=by
        repeat (clear hF)
        repeat (clear hc)
        repeat (clear hf)
        intro i a w hf hc hF
        unfold iI at hF
        refine a4 _ _ ?_
        refine wp_seq_k fun K28 ba=>?_
        have m:∀ (g:Int) a w,Has 84 a [(0,i6 D),(1,i6 B),(2,i6 H),(3,.slice I J.length M),(11,.slice U out.length R),(12,i6 O),(13,i6 g)]→Ctx G (.row U R (out.map aD) 3 1::Lf) w→iK N D out O g=some b→K28 a w:=by
         repeat (clear hF)
         repeat (clear hc)
         repeat (clear hf)
         intro g a w hf hc hF
         unfold iK at hF
         refine ba _ _ ?_
         refine wp_seq_k fun K29 a3=>?_
         have s:∀ (X:Int) a w,Has 84 a [(0,i6 D),(1,i6 B),(2,i6 H),(3,.slice I J.length M),(11,.slice U out.length R),(12,i6 O),(13,i6 X)]→Ctx G (.row U R (out.map aD) 3 1::Lf) w→iL N D out O X=some b→K29 a w:=by
          repeat (clear hF)
          repeat (clear hc)
          repeat (clear hf)
          intro X a w hf hc hF
          unfold iL at hF
          refine a3 _ _ ?_
          refine zS fun K h=>sp 2 hf rfl fun a hf=>gV (rows:=([X]:List Int).map aD) (vs:=[(0,i6 X)]) hf hc rfl rfl fC rfl ⟨rfl,rfl,rfl,trivial⟩ rfl rfl fun bk a w hf hc=>?_
          obtain ⟨bd,u,hF⟩:=aA hF
          refine iV (xs:=out) (ys:=([X]:List Int)) hf hc rfl rfl fC rfl rfl rfl rfl rfl cM (fA hc m0) (fun _ _=>u1) (by simpa using cB u) fun a8 a6 a w hf hc=>sp 1 hf rfl fun a hf=>zT h ?_
          refine bR ?_
          refine sp 4 hf rfl fun a hf=>aP ?_
          refine bb _ _ ?_
          refine bR ?_
          refine sp 3 hf rfl fun a hf=>aP ?_
          replace hc:=hc.drop k0
          exact an (W (D - X),(out++[X]),W (O + 1)) _ _ (sj hF).symm ⟨a8,a6,hf.kp rfl,hc⟩
         refine zS fun K h=>sp 3 hf rfl fun a hf=>zT h ?_
         refine zI hf rfl hF ?_ ?_ <;> clear hF <;> intro hF
         ·refine bR ?_
          refine sp 2 hf rfl fun a hf=>aP ?_
          exact s D _ _  (hf.kp rfl) hc hF
         ·refine wp_skip ?_
          exact s g _ _  (hf.kp rfl) hc hF
        refine zS fun K h=>sp 3 hf rfl fun a hf=>?_
        obtain ⟨bn,ap,hF⟩:=aA hF
        obtain ⟨bi,o,qa,qp⟩:=Z.atm ap
        refine zP hf rfl (pIA Tryz.underlying22 cY rfl rfl qa) fun a hf=>zE hf hc rfl (bP bB rfl (bK (j:=0) qp rfl)) fun a w hf hc=>sp 1 hf rfl fun a hf=>zT h ?_
        refine zI hf rfl hF ?_ ?_ <;> clear hF <;> intro hF
        ·refine bR ?_
         refine sp 2 hf rfl fun a hf=>?_
         obtain ⟨a9,aq,hF⟩:=aA hF
         obtain ⟨bg,bj,ar,ad⟩:=Z.atm aq
         refine zP hf rfl (pIA Tryz.underlying22 cY rfl rfl ar) fun a hf=>zE hf hc rfl (bP bB rfl (bK (j:=0) ad rfl)) fun a w hf hc=>sp 1 hf rfl fun a hf=>aP ?_
         exact m a9 _ _  (hf.kp rfl) hc hF
        ·refine wp_skip ?_
         exact m i _ _  (hf.kp rfl) hc hF
       refine zS fun K h=>sp 3 hf rfl fun a hf=>zT h ?_
       refine zI hf rfl hF ?_ ?_ <;> clear hF <;> intro hF
       ·refine bR ?_
        refine sp 2 hf rfl fun a hf=>aP ?_
        exact t B _ _  (hf.kp rfl) hc hF
       ·refine wp_skip ?_
        exact t n _ _  (hf.kp rfl) hc hF
      refine zS fun K h=>sp 5 hf rfl fun a hf=>zT h ?_
      refine zI hf rfl hF ?_ ?_ <;> clear hF <;> intro hF
      ·refine bR ?_
       refine sp 3 hf rfl fun a hf=>aP ?_
       exact q (W ((W (D.tdiv H)) + 1)) _ _  (hf.kp rfl) hc hF
      ·refine wp_skip ?_
       exact q (W (D.tdiv H)) _ _  (hf.kp rfl) hc hF
     ·refine wp_exit ?_
      refine bE ?_
      refine bE ?_
      have he:=sj hF
      rw [← he] at d
      refine eX ?_
      exact ac _ _ _ d ⟨U,R,hf.kp rfl,hc⟩
    have ag:∀ r,p=.out r→r=Y:=by
     rintro r rfl
     exact sj hF
    refine cX N (cV (S:=S13) (x:=p) ?_ N 0 _ _ ⟨hf.kp rfl,hc⟩ aj)
    clear hF hf hc
    rintro ab bf a w KB13 ⟨hf,hc⟩ hF V af
    unfold oU at hF
    refine wp_seq_k fun K35 az=>zS fun K h=>sp 2 hf rfl fun a hf=>zP hf rfl (bL Tryz.underlying22 rfl) fun a hf=>sp 1 hf rfl fun a hf=>zT h ?_
    refine zI hf rfl hF ?_ ?_ <;> clear hF <;> intro hF
    ·refine wp_skip ?_
     refine az _ _ ?_
     refine wp_seq_k fun K37 a5=>wp_block ?_
     refine zS fun K h=>sp 2 hf rfl fun a hf=>?_
     obtain ⟨aa,ak,hF⟩:=aA hF
     obtain ⟨bp,bm,au,av⟩:=Z.atm ak
     refine zP hf rfl (pIA Tryz.underlying22 cY rfl rfl au) fun a hf=>zE hf hc rfl (bP bB rfl (bK (j:=0) av rfl)) fun a w hf hc=>zQ (v:=.bool (aC aa 0 1000000000)) hf hc nM rfl (fun w hc=>bJ aa 0 1000000000 hc rfl) fun a w hf hc=>zT h ?_
     refine zI hf rfl hF ?_ ?_ <;> clear hF <;> intro hF
     ·refine zS fun K h=>sp 2 hf rfl fun a hf=>zT h ?_
      refine wp_ret ?_
      refine bI ?_
      refine aN ?_
      refine aN ?_
      have he:=sj hF
      rw [← he] at V
      replace hF:=ag _ V
      refine bI ?_
      refine aN ?_
      obtain rfl:=hF
      replace hc:=hc.nilRow 3 1
      exact zO2 Tryz.results43 hf rfl rfl ⟨none,0,rfl,hc⟩
     ·refine wp_skip ?_
      refine a5 _ _ ?_
      refine bR ?_
      refine sp 3 hf rfl fun a hf=>aP ?_
      exact af (W (ab + 1)) _ _ (sj hF).symm ⟨hf.kp rfl,hc⟩
    ·refine wp_exit ?_
     refine bE ?_
     refine bE ?_
     have he:=sj hF
     rw [← he] at V
     refine eX ?_
     exact ai _ _ _ V ⟨hf.kp rfl,hc⟩

def pH (N:Nat) (B:List Int) (D:Int):Option (bH (Int) (Int)) :=
 cond (decide (D < ((B.length:Nat):Int)))
 (Option.bind (aZ B D) fun H=>
 cond (aC H 1 1000000)
 (some (.ret 4))
 (some (.cont (W (D + 1)))))
 (some (.brk D))
def mG (N:Nat) (B:List Int):Option (Int) :=
 cond ((decide (((B.length:Nat):Int) < 1)) || (decide (12 < ((B.length:Nat):Int))))
 (some 3)
 (Option.bind (aT (fun s7=>pH N B s7) N 0) fun x7=>
 exK x7 (fun s7=>some 0) some)
theorem sR {N:Nat} {G:bA} {Lf:List Ent} {w:World} (B:List Int) {H:Option Addr} {D:Nat} (J:Rd G 1 H D (B.map aD)) (hc:Ctx G (Lf) w) {M:Int} (hF:mG N B=some M):Calls Tryz.prog 78 #[.slice H B.length D] w (fun e w=>e=.returned (i6 M)∧Ctx G (Lf) w):=by
 unfold mG at hF
 refine cG Tryz.func78 rfl Tryz.ntmps78 rfl fun a hf=>zS fun K h=>sp 1 hf rfl fun a hf=>zT h ?_
 refine wp_seq_k fun K2 h2=>zS fun K h=>sp 1 hf rfl fun a hf=>zP hf rfl (bL Tryz.underlying22 rfl) fun a hf=>sp 2 hf rfl fun a hf=>cP 4 (fun a=>Has 23 a [(0,.slice H B.length D),(4,.slice H B.length D),(5,i6 ((B.length:Nat):Int)),(6,.bool (decide (((B.length:Nat):Int) < 1))),(7,.bool (decide (((B.length:Nat):Int) < 1))),(11,.bool ((decide (((B.length:Nat):Int) < 1)) || (decide (12 < ((B.length:Nat):Int)))))]) hc ?_ ?_
 ·cases hb:(decide (((B.length:Nat):Int) < 1))
  ·rw [hb] at hf
   refine sp 1 hf rfl fun a hf=>zP hf rfl (bL Tryz.underlying22 rfl) fun a hf=>sp 2 hf rfl fun a hf=>aP ⟨hf.kp rfl,hc⟩
  ·rw [hb] at hf
   refine stS hf rfl rfl rfl fun a hf=>stS hf rfl rfl rfl fun a hf=>stS hf rfl rfl rfl fun a hf=>sp 1 hf rfl fun a hf=>aP ⟨hf.kp rfl,hc⟩
 intro a w ⟨hf,hc⟩
 refine zT h ?_
 refine zI hf rfl hF ?_ ?_ <;> clear hF <;> intro hF
 ·refine zS fun K h=>sp 1 hf rfl fun a hf=>zT h ?_
  refine wp_ret ?_
  refine aN ?_
  obtain rfl:=sj hF
  exact zO1 Tryz.results78 hf rfl ⟨rfl,hc⟩
 ·refine wp_skip ?_
  refine h2 _ _ ?_
  refine wp_seq_k fun K5 h5=>zS fun K h=>sp 1 hf rfl fun a hf=>zT h ?_
  refine wp_block ?_
  obtain ⟨x7,Z,hF⟩:=aA hF
  let S7:Int→Act→World→Prop:=(fun (zz:Int) a w=>Has 23 a [(0,.slice H B.length D),(3,i6 zz)]∧Ctx G (Lf) w)
  have Y:∀ (zz:Int) a w,x7=.go zz→S7 zz a w→K5 a w:=by
   rintro O a w rfl ⟨hf,hc⟩
   replace hF:=bQ hF
   refine h5 _ _ ?_
   refine zS fun K h=>sp 1 hf rfl fun a hf=>zT h ?_
   refine wp_ret ?_
   obtain rfl:=sj hF
   exact zO1 Tryz.results78 hf rfl ⟨rfl,hc⟩
  have b:∀ r,x7=.out r→r=M:=by
   rintro r rfl
   exact sj hF
  refine cX N (cV (S:=S7) (x:=x7) ?_ N 0 _ _ ⟨hf.kp rfl,hc⟩ Z)
  clear hF hf hc
  rintro O d a w KB7 ⟨hf,hc⟩ hF I X
  unfold pH at hF
  refine wp_seq_k fun K9 h9=>zS fun K h=>sp 2 hf rfl fun a hf=>zP hf rfl (bL Tryz.underlying22 rfl) fun a hf=>sp 1 hf rfl fun a hf=>zT h ?_
  refine zI hf rfl hF ?_ ?_ <;> clear hF <;> intro hF
  ·refine wp_skip ?_
   refine h9 _ _ ?_
   refine wp_seq_k fun K11 V=>wp_block ?_
   refine zS fun K h=>sp 2 hf rfl fun a hf=>?_
   obtain ⟨R,U,hF⟩:=aA hF
   obtain ⟨g,o,qa,qp⟩:=J.atm U
   refine zP hf rfl (pIA Tryz.underlying22 cY rfl rfl qa) fun a hf=>zE hf hc rfl (bP bB rfl (bK (j:=0) qp rfl)) fun a w hf hc=>zQ (v:=.bool (aC R 1 1000000)) hf hc nM rfl (fun w hc=>bJ R 1 1000000 hc rfl) fun a w hf hc=>zT h ?_
   refine zI hf rfl hF ?_ ?_ <;> clear hF <;> intro hF
   ·refine zS fun K h=>sp 1 hf rfl fun a hf=>zT h ?_
    refine wp_ret ?_
    refine bI ?_
    refine aN ?_
    refine aN ?_
    have he:=sj hF
    rw [← he] at I
    replace hF:=b _ I
    refine bI ?_
    refine aN ?_
    obtain rfl:=hF
    exact zO1 Tryz.results78 hf rfl ⟨rfl,hc⟩
   ·refine wp_skip ?_
    refine V _ _ ?_
    refine bR ?_
    refine sp 3 hf rfl fun a hf=>aP ?_
    exact X (W (O + 1)) _ _ (sj hF).symm ⟨hf.kp rfl,hc⟩
  ·refine wp_exit ?_
   refine bE ?_
   refine bE ?_
   have he:=sj hF
   rw [← he] at I
   refine eX ?_
   exact Y _ _ _ I ⟨hf.kp rfl,hc⟩

def aX (rule:Int) (n:Int):Int :=
 cond (rule == 0)
 (W (2 * n))
 (cond (rule == 1)
 (W ((W (2 * n)) - 1))
 (W ((W (2 * n)) - 2)))
theorem jB {G:bA} {Lf:List Ent} {w:World} (rule:Int) (n:Int)   (hc:Ctx G (Lf) w) {B:Int} (hF:aX rule n=B):Calls Tryz.prog 80 #[i6 rule,i6 n] w (fun e w=>e=.returned (i6 B)∧Ctx G (Lf) w):=by
 unfold aX at hF
 refine cG Tryz.func80 rfl Tryz.ntmps80 rfl fun a hf=>zS fun K h=>sp 1 hf rfl fun a hf=>zT h ?_
 refine wp_seq_k fun K2 h2=>zS fun K h=>sp 2 hf rfl fun a hf=>zT h ?_
 refine zI hf rfl hF ?_ ?_ <;> clear hF <;> intro hF
 ·refine zS fun K h=>sp 3 hf rfl fun a hf=>zT h ?_
  refine wp_ret ?_
  refine aN ?_
  obtain rfl:=hF
  exact zO1 Tryz.results80 hf rfl ⟨rfl,hc⟩
 ·refine wp_skip ?_
  refine h2 _ _ ?_
  refine wp_seq_k fun K5 h5=>zS fun K h=>sp 2 hf rfl fun a hf=>zT h ?_
  refine zI hf rfl hF ?_ ?_ <;> clear hF <;> intro hF
  ·refine zS fun K h=>sp 4 hf rfl fun a hf=>zT h ?_
   refine wp_ret ?_
   refine aN ?_
   obtain rfl:=hF
   exact zO1 Tryz.results80 hf rfl ⟨rfl,hc⟩
  ·refine wp_skip ?_
   refine h5 _ _ ?_
   refine zS fun K h=>sp 4 hf rfl fun a hf=>zT h ?_
   refine wp_ret ?_
   obtain rfl:=hF
   exact zO1 Tryz.results80 hf rfl ⟨rfl,hc⟩

def bY (a_:Int) (x:Int) (b_:Int) (y:Int):Bool :=
 cond ((x == 0) || (y == 0))
 (((x == 0) && (y != 0)))
 ((decide ((W (b_ * x)) < (W (a_ * y)))))
theorem rD {G:bA} {Lf:List Ent} {w:World} (a_:Int) (x:Int) (b_:Int) (y:Int)   (hc:Ctx G (Lf) w) {B:Bool} (hF:bY a_ x b_ y=B):Calls Tryz.prog 79 #[i6 a_,i6 x,i6 b_,i6 y] w (fun e w=>e=.returned (.bool B)∧Ctx G (Lf) w):=by
 unfold bY at hF
 refine cG Tryz.func79 rfl Tryz.ntmps79 rfl fun a hf=>zS fun K h=>sp 1 hf rfl fun a hf=>zT h ?_
 refine wp_seq_k fun K2 h2=>zS fun K h=>sp 3 hf rfl fun a hf=>cP 3 (fun a=>Has 28 a [(0,i6 a_),(1,i6 x),(2,i6 b_),(3,i6 y),(9,i6 x),(10,.bool (x == 0)),(11,.bool (x == 0)),(14,.bool ((x == 0) || (y == 0)))]) hc ?_ ?_
 ·cases hb:(x == 0)
  ·rw [hb] at hf
   refine sp 3 hf rfl fun a hf=>aP ⟨hf.kp rfl,hc⟩
  ·rw [hb] at hf
   refine stS hf rfl rfl rfl fun a hf=>stS hf rfl rfl rfl fun a hf=>sp 1 hf rfl fun a hf=>aP ⟨hf.kp rfl,hc⟩
 intro a w ⟨hf,hc⟩
 refine zT h ?_
 refine zI hf rfl hF ?_ ?_ <;> clear hF <;> intro hF
 ·refine zS fun K h=>sp 3 hf rfl fun a hf=>cP 3 (fun a=>Has 28 a [(1,i6 x),(3,i6 y),(15,i6 x),(16,.bool (x == 0)),(17,.bool (x == 0)),(20,.bool ((x == 0) && (y != 0)))]) hc ?_ ?_
  ·cases hb:(x == 0)
   ·rw [hb] at hf
    refine stS hf rfl rfl rfl fun a hf=>stS hf rfl rfl rfl fun a hf=>sp 1 hf rfl fun a hf=>aP ⟨hf.kp rfl,hc⟩
   ·rw [hb] at hf
    refine sp 3 hf rfl fun a hf=>aP ⟨hf.kp rfl,hc⟩
  intro a w ⟨hf,hc⟩
  refine sp 1 hf rfl fun a hf=>zT h ?_
  refine wp_ret ?_
  refine aN ?_
  obtain rfl:=hF
  exact zO1 Tryz.results79 hf rfl ⟨rfl,hc⟩
 ·refine wp_skip ?_
  refine h2 _ _ ?_
  refine zS fun K h=>sp 8 hf rfl fun a hf=>zT h ?_
  refine wp_ret ?_
  obtain rfl:=hF
  exact zO1 Tryz.results79 hf rfl ⟨rfl,hc⟩

def mD (N:Nat) (n:Int) (B:List Int):Option (bH ((List Int) × Int) (bH ((List Int) × Int) ((List Int) × Int))) :=
 some (.cont (B,W (n + 1)))
def mC (N:Nat) (m:Int) (B:Int):Option (bH (Int × Int) (bH (Int × Int) (bH ((List Int) × Int) (bH ((List Int) × Int) ((List Int) × Int))))) :=
 some (.cont (B,W (m + 1)))
def gL (N:Nat) (B:List Int) (days:Int) (rule:Int) (H:Int) (n:Int) (I:Int) (D:Int) (m:Int):Option (bH (Int × Int) (bH (Int × Int) (bH ((List Int) × Int) (bH ((List Int) × Int) ((List Int) × Int))))) :=
 cond (decide (m≤days))
 (Option.bind (aZ B I) fun M=>
 Option.bind (aZ B H) fun R=>
 Option.bind (aZ B H) fun J=>
 Option.bind (aZ B I) fun O=>
 cond ((bY M (aX rule m) R (aX rule n)) || ((!(bY J (aX rule n) O (aX rule m))) && (decide (I < H))))
 (mC N m (W (D + 1)))
 (mC N m D))
 (some (.brk (D,m)))
def gK (N:Nat) (B:List Int) (days:Int) (rule:Int) (I:Int) (n:Int) (ahead:Int) (H:Int):Option (bH (Int × Int) (bH ((List Int) × Int) (bH ((List Int) × Int) ((List Int) × Int)))) :=
 cond (decide (H < ((B.length:Nat):Int)))
 (Option.bind (aT (fun D=>gL N B days rule I n H D.1 D.2) N (ahead,1)) fun J=>
 exK J (fun D=>some (.cont (D.1,W (H + 1)))) some)
 (some (.brk (ahead,H)))
def gM (N:Nat) (I:List Int) (days:Int) (rule:Int) (D:Int) (B:List Int) (n:Int):Option (bH ((List Int) × Int) (bH ((List Int) × Int) ((List Int) × Int))) :=
 cond (decide (n≤days))
 (Option.bind (aT (fun H=>gK N I days rule D n H.1 H.2) N (0,0)) fun J=>
 exK J (fun H=>cond (decide (H.1 < days))
 (Option.bind (aZ B D) fun M=>
 Option.bind (aZ B D) fun O=>
 mD N n (B.set D.toNat (W (M + 1))))
 (mD N n B)) some)
 (some (.brk (B,n)))
def iM (N:Nat) (B:List Int) (days:Int) (rule:Int) (out:List Int) (D:Int):Option (bH ((List Int) × Int) ((List Int) × Int)) :=
 cond (decide (D < ((B.length:Nat):Int)))
 (Option.bind (aT (fun H=>gM N B days rule D H.1 H.2) N (out,1)) fun I=>
 exK I (fun H=>some (.cont (H.1,W (D + 1)))) some)
 (some (.brk (out,D)))
def jD (N:Nat) (B:List Int) (days:Int) (rule:Int):Option ((List Int) × Int) :=
 Option.bind (mG N B) fun r=>
 cond (r != 0)
 (some (([]:List Int),r))
 (cond (aC days 1 366)
 (some (([]:List Int),4))
 (cond (aC rule 0 2)
 (some (([]:List Int),2))
 (cond ((rule == 2) && (decide (days < ((B.length:Nat):Int))))
 (some (([]:List Int),6))
 (Option.bind (inM ((B.length:Nat):Int)) fun un=>
 Option.bind (aT (fun D=>iM N B days rule D.1 D.2) N ((List.replicate ((B.length:Nat):Int).toNat (0:Int)),0)) fun H=>
 exK H (fun D=>some (D.1,0)) some))))
theorem aBr {N:Nat} {G:bA} {Lf:List Ent} {w:World} (B:List Int) (days:Int) (rule:Int) {H:Option Addr} {D:Nat} (O:Rd G 1 H D (B.map aD)) (hc:Ctx G (Lf) w) {u:(List Int) × Int} (hF:jD N B days rule=some u):Calls Tryz.prog 44 #[.slice H B.length D,i6 days,i6 rule] w (fun e w=>∃ (ar:Option Addr) (au:Nat),e=.returned (.tuple #[.slice ar u.1.length au,i6 u.2])∧Ctx G (.row ar au (u.1.map aD) 3 1::Lf) w):=by
 unfold jD at hF
 refine cG Tryz.func44 rfl Tryz.ntmps44 rfl fun a hf=>zS fun K h=>sp 2 hf rfl fun a hf=>zT h ?_
 refine wp_seq_k fun K2 h2=>zS fun K h=>sp 1 hf rfl fun a hf=>?_
 obtain ⟨r,hr,hF⟩:=aA hF
 refine zQ (v:=i6 r) hf hc aLi rfl (fun w hc=>sR B O hc hr) fun a w hf hc=>sp 1 hf rfl fun a hf=>zT h ?_
 refine zS fun K h=>sp 2 hf rfl fun a hf=>zT h ?_
 refine zI hf rfl hF ?_ ?_ <;> clear hF <;> intro hF
 ·refine zS fun K h=>sp 3 hf rfl fun a hf=>zT h ?_
  refine wp_ret ?_
  refine aN ?_
  obtain rfl:=sj hF
  replace hc:=hc.nilRow 3 1
  exact zO2 Tryz.results44 hf rfl rfl ⟨none,0,rfl,hc⟩
 ·refine wp_skip ?_
  refine h2 _ _ ?_
  refine wp_seq_k fun K6 h6=>zS fun K h=>sp 1 hf rfl fun a hf=>zQ (v:=.bool (aC days 1 366)) hf hc nM rfl (fun w hc=>bJ days 1 366 hc rfl) fun a w hf hc=>zT h ?_
  refine zI hf rfl hF ?_ ?_ <;> clear hF <;> intro hF
  ·refine zS fun K h=>sp 2 hf rfl fun a hf=>zT h ?_
   refine wp_ret ?_
   refine aN ?_
   obtain rfl:=sj hF
   replace hc:=hc.nilRow 3 1
   exact zO2 Tryz.results44 hf rfl rfl ⟨none,0,rfl,hc⟩
  ·refine wp_skip ?_
   refine h6 _ _ ?_
   refine wp_seq_k fun K9 h9=>zS fun K h=>sp 1 hf rfl fun a hf=>zQ (v:=.bool (aC rule 0 2)) hf hc nM rfl (fun w hc=>bJ rule 0 2 hc rfl) fun a w hf hc=>zT h ?_
   refine zI hf rfl hF ?_ ?_ <;> clear hF <;> intro hF
   ·refine zS fun K h=>sp 2 hf rfl fun a hf=>zT h ?_
    refine wp_ret ?_
    refine aN ?_
    obtain rfl:=sj hF
    replace hc:=hc.nilRow 3 1
    exact zO2 Tryz.results44 hf rfl rfl ⟨none,0,rfl,hc⟩
   ·refine wp_skip ?_
    refine h9 _ _ ?_
    refine wp_seq_k fun K12 b2=>zS fun K h=>sp 3 hf rfl fun a hf=>cP 5 (fun a=>Has 113 a [(0,.slice H B.length D),(1,i6 days),(2,i6 rule),(26,i6 rule),(27,.bool (rule == 2)),(28,.bool (rule == 2)),(33,.bool ((rule == 2) && (decide (days < ((B.length:Nat):Int)))))]) hc ?_ ?_
    ·cases hb:(rule == 2)
     ·rw [hb] at hf
      refine stS hf rfl rfl rfl fun a hf=>stS hf rfl rfl rfl fun a hf=>stS hf rfl rfl rfl fun a hf=>stS hf rfl rfl rfl fun a hf=>sp 1 hf rfl fun a hf=>aP ⟨hf.kp rfl,hc⟩
     ·rw [hb] at hf
      refine sp 2 hf rfl fun a hf=>zP hf rfl (bL Tryz.underlying22 rfl) fun a hf=>sp 2 hf rfl fun a hf=>aP ⟨hf.kp rfl,hc⟩
    intro a w ⟨hf,hc⟩
    refine zT h ?_
    refine zI hf rfl hF ?_ ?_ <;> clear hF <;> intro hF
    ·refine zS fun K h=>sp 2 hf rfl fun a hf=>zT h ?_
     refine wp_ret ?_
     refine aN ?_
     obtain rfl:=sj hF
     replace hc:=hc.nilRow 3 1
     exact zO2 Tryz.results44 hf rfl rfl ⟨none,0,rfl,hc⟩
    ·refine wp_skip ?_
     refine b2 _ _ ?_
     refine zS fun K h=>sp 1 hf rfl fun a hf=>zP hf rfl (bL Tryz.underlying22 rfl) fun a hf=>?_
     obtain ⟨un,b1,hF⟩:=aA hF
     refine aJx (m:=(List.replicate ((B.length:Nat):Int).toNat (0:Int)).length) (rows:=(List.replicate ((B.length:Nat):Int).toNat (0:Int)).map aD) hf hc rfl rfl fC rfl rfl (uN b1) rfl rfl (by simp [List.map_replicate,Value.cells]) (by simp) fun b0 a w hf hc=>sp 1 hf rfl fun a hf=>zT h ?_
     refine wp_seq_k fun K16 bt=>zS fun K h=>sp 1 hf rfl fun a hf=>zT h ?_
     refine wp_block ?_
     obtain ⟨aq,a7,hF⟩:=aA hF
     let S18:((List Int) × Int)→Act→World→Prop:=(fun (zz:(List Int) × Int) a w=>∃ (s:Option Addr) (q:Nat),Has 113 a [(0,.slice H B.length D),(1,i6 days),(2,i6 rule),(9,.slice s zz.1.length q),(10,i6 zz.2)]∧Ctx G (.row s q (zz.1.map aD) 3 1::Lf) w)
     have a0:∀ (zz:(List Int) × Int) a w,aq=.go zz→S18 zz a w→K16 a w:=by
      rintro ⟨out,U⟩ a w rfl ⟨s,q,hf,hc⟩
      replace hF:=bQ hF
      refine bt _ _ ?_
      refine zS fun K h=>sp 3 hf rfl fun a hf=>zT h ?_
      refine wp_ret ?_
      obtain rfl:=sj hF
      exact zO2 Tryz.results44 hf rfl rfl ⟨s,q,rfl,hc⟩
     have cc:∀ r,aq=.out r→r=u:=by
      rintro r rfl
      exact sj hF
     refine cX N (cV (S:=S18) (x:=aq) ?_ N ((List.replicate ((B.length:Nat):Int).toNat (0:Int)),0) _ _ ⟨(some ⟨b0,0,none⟩),((B.length:Nat):Int).toNat,hf.kp rfl,hc⟩ a7)
     clear hF hf hc
     rintro ⟨out,U⟩ bn a w KB18 ⟨s,q,hf,hc⟩ hF y av
     unfold iM at hF
     refine wp_seq_k fun K20 b3=>zS fun K h=>sp 2 hf rfl fun a hf=>zP hf rfl (bL Tryz.underlying22 rfl) fun a hf=>sp 1 hf rfl fun a hf=>zT h ?_
     refine zI hf rfl hF ?_ ?_ <;> clear hF <;> intro hF
     ·refine wp_skip ?_
      refine b3 _ _ ?_
      refine wp_seq_k fun K22 bx=>wp_block ?_
      refine zS fun K h=>sp 1 hf rfl fun a hf=>zT h ?_
      refine oV fun K24 b9=>wp_block ?_
      obtain ⟨ag,bd,hF⟩:=aA hF
      let S25:((List Int) × Int)→Act→World→Prop:=(fun (zz:(List Int) × Int) a w=>∃ (R:Option Addr) (J:Nat),Has 113 a [(0,.slice H B.length D),(1,i6 days),(2,i6 rule),(9,.slice R zz.1.length J),(10,i6 U),(11,i6 zz.2)]∧Ctx G (.row R J (zz.1.map aD) 3 1::Lf) w)
      have a1:∀ (zz:(List Int) × Int) a w,ag=.go zz→S25 zz a w→K24 a w:=by
       rintro ⟨I,n⟩ a w rfl ⟨R,J,hf,hc⟩
       replace hF:=bQ hF
       refine b9 _ _ ?_
       refine bx _ _ ?_
       refine bR ?_
       refine sp 3 hf rfl fun a hf=>aP ?_
       exact av (I,W (U + 1)) _ _ (sj hF).symm ⟨R,J,hf.kp rfl,hc⟩
      have ca:∀ r,ag=.out r→r=bn:=by
       rintro r rfl
       exact sj hF
      refine cX N (cV (S:=S25) (x:=ag) ?_ N (out,1) _ _ ⟨s,q,hf.kp rfl,hc⟩ bd)
      clear hF hf hc
      rintro ⟨I,n⟩ aj a w KB25 ⟨R,J,hf,hc⟩ hF aa bi
      unfold gM at hF
      refine wp_seq_k fun K26 b5=>zS fun K h=>sp 3 hf rfl fun a hf=>zT h ?_
      refine zI hf rfl hF ?_ ?_ <;> clear hF <;> intro hF
      ·refine wp_skip ?_
       refine b5 _ _ ?_
       refine wp_seq_k fun K28 b8=>?_
       have ai:∀ (Z:List Int) (af:Option Addr) (ad:Nat) a w,Has 113 a [(0,.slice H B.length D),(1,i6 days),(2,i6 rule),(9,.slice af Z.length ad),(10,i6 U),(11,i6 n)]→Ctx G (.row af ad (Z.map aD) 3 1::Lf) w→mD N n Z=some aj→K28 a w:=by
        repeat (clear hF)
        repeat (clear hc)
        repeat (clear hf)
        intro Z af ad a w hf hc hF
        unfold mD at hF
        refine b8 _ _ ?_
        refine bR ?_
        refine sp 3 hf rfl fun a hf=>aP ?_
        exact bi (Z,W (n + 1)) _ _ (sj hF).symm ⟨af,ad,hf.kp rfl,hc⟩
       refine wp_block ?_
       refine zS fun K h=>sp 1 hf rfl fun a hf=>zT h ?_
       refine wp_seq_k fun K30 bv=>zS fun K h=>sp 1 hf rfl fun a hf=>zT h ?_
       refine wp_block ?_
       obtain ⟨ak,a8,hF⟩:=aA hF
       let S32:(Int × Int)→Act→World→Prop:=(fun (zz:Int × Int) a w=>Has 113 a [(0,.slice H B.length D),(1,i6 days),(2,i6 rule),(9,.slice R I.length J),(10,i6 U),(11,i6 n),(12,i6 zz.1),(13,i6 zz.2)]∧Ctx G (.row R J (I.map aD) 3 1::Lf) w)
       have ax:∀ (zz:Int × Int) a w,ak=.go zz→S32 zz a w→K30 a w:=by
        rintro ⟨ahead,b⟩ a w rfl ⟨hf,hc⟩
        replace hF:=bQ hF
        refine bv _ _ ?_
        refine zS fun K h=>sp 3 hf rfl fun a hf=>zT h ?_
        refine zI hf rfl hF ?_ ?_ <;> clear hF <;> intro hF
        ·refine bR ?_
         refine sp 4 hf rfl fun a hf=>?_
         obtain ⟨ac,ba,hF⟩:=aA hF
         obtain ⟨g,rfl,qa,qr⟩:=nT hc m0 ba
         refine zP hf rfl (pIA Tryz.underlying22 cY rfl rfl qa) fun a hf=>zE hf hc rfl (bP bB rfl (bX (sz:=1) (i:=U.toNat) (j:=0) m0 qr rfl)) fun a w hf hc=>sp 1 hf rfl fun a hf=>?_
         obtain ⟨cp,am,hF⟩:=aA hF
         obtain ⟨bk,cf⟩:=cC hc m0 am
         refine zP hf rfl (pIA Tryz.underlying22 cY rfl rfl bk) fun a hf=>wY (sz:=1) (vs:=[i6 (W (ac + 1))]) (o':=0) (z:=W (ac + 1)) (xs:=I) hf hc rfl rfl rfl rfl cY rfl (fun x=>(cM x).1) (mK am) (fun _ _=>rfl) rfl u0 fun w hc=>aP ?_
         replace hf:=hf.castAt 9 (v':=.slice (some ⟨g,0,none⟩) ((I.set U.toNat (W (ac + 1))).length) J) rfl (congrArg (fun k=>Value.slice (some ⟨g,0,none⟩) k J) (by simp))
         exact ai (I.set U.toNat (W (ac + 1))) (some ⟨g,0,none⟩) J _ _  (hf.kp rfl) hc hF
        ·refine wp_skip ?_
         exact ai I R J _ _  (hf.kp rfl) hc hF
       have cb:∀ r,ak=.out r→r=aj:=by
        rintro r rfl
        exact sj hF
       refine cX N (cV (S:=S32) (x:=ak) ?_ N (0,0) _ _ ⟨hf.kp rfl,hc⟩ a8)
       clear hF hf hc
       rintro ⟨ahead,b⟩ br a w KB32 ⟨hf,hc⟩ hF ab a4
       unfold gK at hF
       refine wp_seq_k fun K34 bs=>zS fun K h=>sp 2 hf rfl fun a hf=>zP hf rfl (bL Tryz.underlying22 rfl) fun a hf=>sp 1 hf rfl fun a hf=>zT h ?_
       refine zI hf rfl hF ?_ ?_ <;> clear hF <;> intro hF
       ·refine wp_skip ?_
        refine bs _ _ ?_
        refine wp_seq_k fun K36 b6=>wp_block ?_
        refine zS fun K h=>sp 1 hf rfl fun a hf=>zT h ?_
        refine oV fun K38 bu=>wp_block ?_
        obtain ⟨an,bb,hF⟩:=aA hF
        let S39:(Int × Int)→Act→World→Prop:=(fun (zz:Int × Int) a w=>Has 113 a [(0,.slice H B.length D),(1,i6 days),(2,i6 rule),(9,.slice R I.length J),(10,i6 U),(11,i6 n),(12,i6 zz.1),(13,i6 b),(14,i6 zz.2)]∧Ctx G (.row R J (I.map aD) 3 1::Lf) w)
        have bj:∀ (zz:Int × Int) a w,an=.go zz→S39 zz a w→K38 a w:=by
         rintro ⟨M,m⟩ a w rfl ⟨hf,hc⟩
         replace hF:=bQ hF
         refine bu _ _ ?_
         refine b6 _ _ ?_
         refine bR ?_
         refine sp 3 hf rfl fun a hf=>aP ?_
         exact a4 (M,W (b + 1)) _ _ (sj hF).symm ⟨hf.kp rfl,hc⟩
        have cd:∀ r,an=.out r→r=br:=by
         rintro r rfl
         exact sj hF
        refine cX N (cV (S:=S39) (x:=an) ?_ N (ahead,1) _ _ ⟨hf.kp rfl,hc⟩ bb)
        clear hF hf hc
        rintro ⟨M,m⟩ bf a w KB39 ⟨hf,hc⟩ hF t a9
        unfold gL at hF
        refine wp_seq_k fun K40 b4=>zS fun K h=>sp 3 hf rfl fun a hf=>zT h ?_
        refine zI hf rfl hF ?_ ?_ <;> clear hF <;> intro hF
        ·refine wp_skip ?_
         refine b4 _ _ ?_
         refine wp_seq_k fun K42 bz=>?_
         have ap:∀ (Y:Int) a w,Has 113 a [(0,.slice H B.length D),(1,i6 days),(2,i6 rule),(9,.slice R I.length J),(10,i6 U),(11,i6 n),(12,i6 Y),(13,i6 b),(14,i6 m)]→Ctx G (.row R J (I.map aD) 3 1::Lf) w→mC N m Y=some bf→K42 a w:=by
          repeat (clear hF)
          repeat (clear hc)
          repeat (clear hf)
          intro Y a w hf hc hF
          unfold mC at hF
          refine bz _ _ ?_
          refine bR ?_
          refine sp 3 hf rfl fun a hf=>aP ?_
          exact a9 (Y,W (m + 1)) _ _ (sj hF).symm ⟨hf.kp rfl,hc⟩
         refine wp_block ?_
         refine wp_seq_k fun K43 b7=>?_
         obtain ⟨d,a5,hF⟩:=aA hF
         obtain ⟨ci,o,bm,qp⟩:=O.atm a5
         obtain ⟨p,a6,hF⟩:=aA hF
         obtain ⟨cg,cj,az,ay⟩:=O.atm a6
         obtain ⟨V,bp,hF⟩:=aA hF
         obtain ⟨cn,cm,a2,bq⟩:=O.atm bp
         obtain ⟨X,bg,hF⟩:=aA hF
         obtain ⟨cq,ck,bc,a3⟩:=O.atm bg
         refine cQ hc aY (by kernel_rfl) ?_
         refine qE hf rfl rfl rfl (Pu.ev (pM rfl)) fun a hf=>qE hf rfl rfl rfl (Pu.ev (pM rfl)) fun a hf=>qE hf rfl rfl rfl (Pu.ev (pIA Tryz.underlying22 cY rfl rfl bm)) fun a hf=>qE hf rfl rfl rfl (bP bB rfl (bK (j:=0) qp rfl)) fun a hf=>qE hf rfl rfl rfl (Pu.ev (pM rfl)) fun a hf=>qE hf rfl rfl rfl (Pu.ev (pM rfl)) fun a hf=>qE hf rfl rfl rfl (eC (v:=i6 (aX rule m)) (vs:=[i6 rule,i6 m]) (caps:=[]) wU rfl rfl rfl rfl (fun w hc=>jB rule m hc rfl)) fun a hf=>qE hf rfl rfl rfl (Pu.ev (pM rfl)) fun a hf=>qE hf rfl rfl rfl (Pu.ev (pM rfl)) fun a hf=>qE hf rfl rfl rfl (Pu.ev (pIA Tryz.underlying22 cY rfl rfl az)) fun a hf=>qE hf rfl rfl rfl (bP bB rfl (bK (j:=0) ay rfl)) fun a hf=>qE hf rfl rfl rfl (Pu.ev (pM rfl)) fun a hf=>qE hf rfl rfl rfl (Pu.ev (pM rfl)) fun a hf=>?_
         refine qE hf rfl rfl rfl (eC (v:=i6 (aX rule n)) (vs:=[i6 rule,i6 n]) (caps:=[]) wU rfl rfl rfl rfl (fun w hc=>jB rule n hc rfl)) fun a hf=>qE hf rfl rfl rfl (eC (v:=.bool (bY d (aX rule m) p (aX rule n))) (vs:=[i6 d,i6 (aX rule m),i6 p,i6 (aX rule n)]) (caps:=[]) aJp rfl rfl rfl rfl (fun w hc=>rD d (aX rule m) p (aX rule n) hc rfl)) fun a hf=>qE hf rfl rfl rfl (Pu.ev (pM rfl)) fun a hf=>qE hf rfl rfl rfl (Pu.ev (pM rfl)) fun a hf=>qE hf rfl rfl rfl (Pu.ev (pIA Tryz.underlying22 cY rfl rfl a2)) fun a hf=>qE hf rfl rfl rfl (bP bB rfl (bK (j:=0) bq rfl)) fun a hf=>qE hf rfl rfl rfl (Pu.ev (pM rfl)) fun a hf=>qE hf rfl rfl rfl (Pu.ev (pM rfl)) fun a hf=>qE hf rfl rfl rfl (eC (v:=i6 (aX rule n)) (vs:=[i6 rule,i6 n]) (caps:=[]) wU rfl rfl rfl rfl (fun w hc=>jB rule n hc rfl)) fun a hf=>qE hf rfl rfl rfl (Pu.ev (pM rfl)) fun a hf=>qE hf rfl rfl rfl (Pu.ev (pM rfl)) fun a hf=>qE hf rfl rfl rfl (Pu.ev (pIA Tryz.underlying22 cY rfl rfl bc)) fun a hf=>qE hf rfl rfl rfl (bP bB rfl (bK (j:=0) a3 rfl)) fun a hf=>?_
         refine qE hf rfl rfl rfl (Pu.ev (pM rfl)) fun a hf=>qE hf rfl rfl rfl (Pu.ev (pM rfl)) fun a hf=>qE hf rfl rfl rfl (eC (v:=i6 (aX rule m)) (vs:=[i6 rule,i6 m]) (caps:=[]) wU rfl rfl rfl rfl (fun w hc=>jB rule m hc rfl)) fun a hf=>qE hf rfl rfl rfl (eC (v:=.bool (bY V (aX rule n) X (aX rule m))) (vs:=[i6 V,i6 (aX rule n),i6 X,i6 (aX rule m)]) (caps:=[]) aJp rfl rfl rfl rfl (fun w hc=>rD V (aX rule n) X (aX rule m) hc rfl)) fun a hf=>qE hf rfl rfl rfl (Pu.ev (pA rfl)) fun a hf=>qE hf rfl rfl rfl (Pu.ev (pA rfl)) fun a hf=>?_
         intro w hc
         refine b7 _ _ ?_
         refine zS fun K h=>sp 2 hf rfl fun a hf=>cP 8 (fun a=>Has 113 a [(0,.slice H B.length D),(1,i6 days),(2,i6 rule),(9,.slice R I.length J),(10,i6 U),(11,i6 n),(12,i6 M),(13,i6 b),(14,i6 m),(15,.bool (bY d (aX rule m) p (aX rule n))),(16,.bool (bY V (aX rule n) X (aX rule m))),(89,.bool (bY d (aX rule m) p (aX rule n))),(90,.bool (bY d (aX rule m) p (aX rule n))),(98,.bool ((bY d (aX rule m) p (aX rule n)) || ((!(bY V (aX rule n) X (aX rule m))) && (decide (b < U)))))]) hc ?_ ?_
         ·cases hb:(bY d (aX rule m) p (aX rule n))
          ·rw [hb] at hf
           refine sp 3 hf rfl fun a hf=>cP 4 (fun a=>Has 113 a [(0,.slice H B.length D),(1,i6 days),(2,i6 rule),(9,.slice R I.length J),(10,i6 U),(11,i6 n),(12,i6 M),(13,i6 b),(14,i6 m),(15,.bool false),(16,.bool (bY V (aX rule n) X (aX rule m))),(89,.bool false),(90,.bool false),(91,.bool (bY V (aX rule n) X (aX rule m))),(92,.bool (!(bY V (aX rule n) X (aX rule m)))),(93,.bool (!(bY V (aX rule n) X (aX rule m)))),(97,.bool ((!(bY V (aX rule n) X (aX rule m))) && (decide (b < U))))]) hc ?_ ?_
           ·cases hb:(!(bY V (aX rule n) X (aX rule m)))
            ·rw [hb] at hf
             refine stS hf rfl rfl rfl fun a hf=>stS hf rfl rfl rfl fun a hf=>stS hf rfl rfl rfl fun a hf=>sp 1 hf rfl fun a hf=>aP ⟨hf.kp rfl,hc⟩
            ·rw [hb] at hf
             refine sp 4 hf rfl fun a hf=>aP ⟨hf.kp rfl,hc⟩
           intro a w ⟨hf,hc⟩
           refine sp 1 hf rfl fun a hf=>aP ⟨hf.kp rfl,hc⟩
          ·rw [hb] at hf
           refine stS hf rfl rfl rfl fun a hf=>stS hf rfl rfl rfl fun a hf=>stS hf rfl rfl rfl fun a hf=>stS hf rfl rfl rfl fun a hf=>stS hf rfl rfl rfl fun a hf=>stS hf rfl rfl rfl fun a hf=>stS hf rfl rfl rfl fun a hf=>sp 1 hf rfl fun a hf=>aP ⟨hf.kp rfl,hc⟩
         intro a w ⟨hf,hc⟩
         refine zT h ?_
         refine zI hf rfl hF ?_ ?_ <;> clear hF <;> intro hF
         ·refine bR ?_
          refine sp 3 hf rfl fun a hf=>aP ?_
          exact ap (W (M + 1)) _ _  (hf.kp rfl) hc hF
         ·refine wp_skip ?_
          exact ap M _ _  (hf.kp rfl) hc hF
        ·refine wp_exit ?_
         refine bE ?_
         refine bE ?_
         have he:=sj hF
         rw [← he] at t
         refine eX ?_
         exact bj _ _ _ t ⟨hf.kp rfl,hc⟩
       ·refine wp_exit ?_
        refine bE ?_
        refine bE ?_
        have he:=sj hF
        rw [← he] at ab
        refine eX ?_
        exact ax _ _ _ ab ⟨hf.kp rfl,hc⟩
      ·refine wp_exit ?_
       refine bE ?_
       refine bE ?_
       have he:=sj hF
       rw [← he] at aa
       refine eX ?_
       exact a1 _ _ _ aa ⟨R,J,hf.kp rfl,hc⟩
     ·refine wp_exit ?_
      refine bE ?_
      refine bE ?_
      have he:=sj hF
      rw [← he] at y
      refine eX ?_
      exact a0 _ _ _ y ⟨s,q,hf.kp rfl,hc⟩

def pI (N:Nat) (B:List Int) (D:Int):Option (bH (Int) (Int)) :=
 cond (decide (D < ((B.length:Nat):Int)))
 (Option.bind (aZ B D) fun H=>
 cond (aC H 0 366)
 (some (.ret 4))
 (some (.cont (W (D + 1)))))
 (some (.brk D))
def lV (N:Nat) (B:List Int) (D:List Int) (rule:Int):Option (Int) :=
 Option.bind (mG N B) fun r=>
 cond (r != 0)
 (some r)
 (cond (((D.length:Nat):Int) != ((B.length:Nat):Int))
 (some 2)
 (Option.bind (aT (fun H=>pI N D H) N 0) fun I=>
 exK I (fun H=>cond (aC rule 0 2)
 (some 2)
 (some 0)) some))
theorem qK {N:Nat} {G:bA} {Lf:List Ent} {w:World} (H:List Int) (I:List Int) (rule:Int) {O:Option Addr} {M:Nat} {B:Option Addr} {D:Nat} (U:Rd G 1 O M (H.map aD)) (R:Rd G 1 B D (I.map aD)) (hc:Ctx G (Lf) w) {V:Int} (hF:lV N H I rule=some V):Calls Tryz.prog 82 #[.slice O H.length M,.slice B I.length D,i6 rule] w (fun e w=>e=.returned (i6 V)∧Ctx G (Lf) w):=by
 unfold lV at hF
 refine cG Tryz.func82 rfl Tryz.ntmps82 rfl fun a hf=>zS fun K h=>sp 1 hf rfl fun a hf=>zT h ?_
 refine wp_seq_k fun K2 h2=>zS fun K h=>sp 1 hf rfl fun a hf=>?_
 obtain ⟨r,hr,hF⟩:=aA hF
 refine zQ (v:=i6 r) hf hc aLi rfl (fun w hc=>sR H U hc hr) fun a w hf hc=>sp 1 hf rfl fun a hf=>zT h ?_
 refine zS fun K h=>sp 2 hf rfl fun a hf=>zT h ?_
 refine zI hf rfl hF ?_ ?_ <;> clear hF <;> intro hF
 ·refine zS fun K h=>sp 2 hf rfl fun a hf=>zT h ?_
  refine wp_ret ?_
  refine aN ?_
  obtain rfl:=sj hF
  exact zO1 Tryz.results82 hf rfl ⟨rfl,hc⟩
 ·refine wp_skip ?_
  refine h2 _ _ ?_
  refine wp_seq_k fun K6 h6=>zS fun K h=>sp 1 hf rfl fun a hf=>zP hf rfl (bL Tryz.underlying22 rfl) fun a hf=>sp 1 hf rfl fun a hf=>zP hf rfl (bL Tryz.underlying22 rfl) fun a hf=>sp 1 hf rfl fun a hf=>zT h ?_
  refine zI hf rfl hF ?_ ?_ <;> clear hF <;> intro hF
  ·refine zS fun K h=>sp 1 hf rfl fun a hf=>zT h ?_
   refine wp_ret ?_
   refine aN ?_
   obtain rfl:=sj hF
   exact zO1 Tryz.results82 hf rfl ⟨rfl,hc⟩
  ·refine wp_skip ?_
   refine h6 _ _ ?_
   refine wp_seq_k fun K9 h9=>zS fun K h=>sp 1 hf rfl fun a hf=>zT h ?_
   refine wp_block ?_
   obtain ⟨X,g,hF⟩:=aA hF
   let S11:Int→Act→World→Prop:=(fun (zz:Int) a w=>Has 32 a [(1,.slice B I.length D),(2,i6 rule),(8,i6 zz)]∧Ctx G (Lf) w)
   have d:∀ (zz:Int) a w,X=.go zz→S11 zz a w→K9 a w:=by
    rintro Y a w rfl ⟨hf,hc⟩
    replace hF:=bQ hF
    refine h9 _ _ ?_
    refine wp_seq_k fun K12 m=>zS fun K h=>sp 1 hf rfl fun a hf=>zQ (v:=.bool (aC rule 0 2)) hf hc nM rfl (fun w hc=>bJ rule 0 2 hc rfl) fun a w hf hc=>zT h ?_
    refine zI hf rfl hF ?_ ?_ <;> clear hF <;> intro hF
    ·refine zS fun K h=>sp 1 hf rfl fun a hf=>zT h ?_
     refine wp_ret ?_
     refine aN ?_
     obtain rfl:=sj hF
     exact zO1 Tryz.results82 hf rfl ⟨rfl,hc⟩
    ·refine wp_skip ?_
     refine m _ _ ?_
     refine zS fun K h=>sp 1 hf rfl fun a hf=>zT h ?_
     refine wp_ret ?_
     obtain rfl:=sj hF
     exact zO1 Tryz.results82 hf rfl ⟨rfl,hc⟩
   have k:∀ r,X=.out r→r=V:=by
    rintro r rfl
    exact sj hF
   refine cX N (cV (S:=S11) (x:=X) ?_ N 0 _ _ ⟨hf.kp rfl,hc⟩ g)
   clear hF hf hc
   rintro Y q a w KB11 ⟨hf,hc⟩ hF J i
   unfold pI at hF
   refine wp_seq_k fun K16 n=>zS fun K h=>sp 2 hf rfl fun a hf=>zP hf rfl (bL Tryz.underlying22 rfl) fun a hf=>sp 1 hf rfl fun a hf=>zT h ?_
   refine zI hf rfl hF ?_ ?_ <;> clear hF <;> intro hF
   ·refine wp_skip ?_
    refine n _ _ ?_
    refine wp_seq_k fun K18 p=>wp_block ?_
    refine zS fun K h=>sp 2 hf rfl fun a hf=>?_
    obtain ⟨Z,b,hF⟩:=aA hF
    obtain ⟨s,o,qa,qp⟩:=R.atm b
    refine zP hf rfl (pIA Tryz.underlying22 cY rfl rfl qa) fun a hf=>zE hf hc rfl (bP bB rfl (bK (j:=0) qp rfl)) fun a w hf hc=>zQ (v:=.bool (aC Z 0 366)) hf hc nM rfl (fun w hc=>bJ Z 0 366 hc rfl) fun a w hf hc=>zT h ?_
    refine zI hf rfl hF ?_ ?_ <;> clear hF <;> intro hF
    ·refine zS fun K h=>sp 1 hf rfl fun a hf=>zT h ?_
     refine wp_ret ?_
     refine bI ?_
     refine aN ?_
     refine aN ?_
     have he:=sj hF
     rw [← he] at J
     replace hF:=k _ J
     refine bI ?_
     refine aN ?_
     obtain rfl:=hF
     exact zO1 Tryz.results82 hf rfl ⟨rfl,hc⟩
    ·refine wp_skip ?_
     refine p _ _ ?_
     refine bR ?_
     refine sp 3 hf rfl fun a hf=>aP ?_
     exact i (W (Y + 1)) _ _ (sj hF).symm ⟨hf.kp rfl,hc⟩
   ·refine wp_exit ?_
    refine bE ?_
    refine bE ?_
    have he:=sj hF
    rw [← he] at J
    refine eX ?_
    exact d _ _ _ J ⟨hf.kp rfl,hc⟩

def fS (N:Nat) (B:List Int) (H:List Int) (rule:Int) (I:Int) (D:Int):Option (bH (Int) (bH (Int) (Int × Int × Int))) :=
 cond (decide (D < ((B.length:Nat):Int)))
 (Option.bind (cond (I != D) (Option.bind (aZ H I) fun S=>
 some (decide (0 < S))) (some false)) fun M=>
 Option.bind (cond M (Option.bind (aZ B D) fun O=>
 Option.bind (aZ H D) fun U=>
 Option.bind (aZ B I) fun V=>
 Option.bind (aZ H I) fun R=>
 some (bY O (aX rule (W (U + 1))) V (aX rule R))) (some false)) fun J=>
 cond J
 (some (.ret (.ret (I,D,0))))
 (some (.cont (W (D + 1)))))
 (some (.brk D))
def iT (N:Nat) (B:List Int) (H:List Int) (rule:Int) (D:Int):Option (bH (Int) (Int × Int × Int)) :=
 cond (decide (D < ((B.length:Nat):Int)))
 (Option.bind (aT (fun I=>fS N B H rule D I) N 0) fun J=>
 exK J (fun I=>some (.cont (W (D + 1)))) some)
 (some (.brk D))
def oQ (N:Nat) (B:List Int) (D:List Int) (rule:Int):Option (Int × Int × Int) :=
 Option.bind (lV N B D rule) fun r=>
 cond (r != 0)
 (some (0,0,r))
 (Option.bind (aT (fun s8=>iT N B D rule s8) N 0) fun x8=>
 exK x8 (fun s8=>some (0,0,5)) some)
theorem zX {N:Nat} {G:bA} {Lf:List Ent} {w:World} (J:List Int) (M:List Int) (rule:Int) {I:Option Addr} {B:Nat} {D:Option Addr} {H:Nat} (V:Rd G 1 I B (J.map aD)) (O:Rd G 1 D H (M.map aD)) (hc:Ctx G (Lf) w) {d:Int × Int × Int} (hF:oQ N J M rule=some d):Calls Tryz.prog 46 #[.slice I J.length B,.slice D M.length H,i6 rule] w (fun e w=>e=.returned (.tuple #[i6 d.1,i6 d.2.1,i6 d.2.2])∧Ctx G (Lf) w):=by
 unfold oQ at hF
 refine cG Tryz.func46 rfl Tryz.ntmps46 rfl fun a hf=>zS fun K h=>sp 3 hf rfl fun a hf=>zT h ?_
 refine wp_seq_k fun K2 h2=>zS fun K h=>sp 3 hf rfl fun a hf=>?_
 obtain ⟨r,hr,hF⟩:=aA hF
 refine zQ (v:=i6 r) hf hc aIw rfl (fun w hc=>qK J M rule V O hc hr) fun a w hf hc=>sp 1 hf rfl fun a hf=>zT h ?_
 refine zS fun K h=>sp 2 hf rfl fun a hf=>zT h ?_
 refine zI hf rfl hF ?_ ?_ <;> clear hF <;> intro hF
 ·refine zS fun K h=>sp 4 hf rfl fun a hf=>zT h ?_
  refine wp_ret ?_
  refine aN ?_
  obtain rfl:=sj hF
  exact zO3 Tryz.results46 hf rfl rfl rfl ⟨rfl,hc⟩
 ·refine wp_skip ?_
  refine h2 _ _ ?_
  refine wp_seq_k fun K6 h6=>zS fun K h=>sp 1 hf rfl fun a hf=>zT h ?_
  refine wp_block ?_
  obtain ⟨x8,a0,hF⟩:=aA hF
  let S8:Int→Act→World→Prop:=(fun (zz:Int) a w=>Has 67 a [(0,.slice I J.length B),(1,.slice D M.length H),(2,i6 rule),(10,i6 zz)]∧Ctx G (Lf) w)
  have ax:∀ (zz:Int) a w,x8=.go zz→S8 zz a w→K6 a w:=by
   rintro R a w rfl ⟨hf,hc⟩
   replace hF:=bQ hF
   refine h6 _ _ ?_
   refine zS fun K h=>sp 3 hf rfl fun a hf=>zT h ?_
   refine wp_ret ?_
   obtain rfl:=sj hF
   exact zO3 Tryz.results46 hf rfl rfl rfl ⟨rfl,hc⟩
  have av:∀ r,x8=.out r→r=d:=by
   rintro r rfl
   exact sj hF
  refine cX N (cV (S:=S8) (x:=x8) ?_ N 0 _ _ ⟨hf.kp rfl,hc⟩ a0)
  clear hF hf hc
  rintro R az a w KB8 ⟨hf,hc⟩ hF Y a2
  unfold iT at hF
  refine wp_seq_k fun K10 ap=>zS fun K h=>sp 2 hf rfl fun a hf=>zP hf rfl (bL Tryz.underlying22 rfl) fun a hf=>sp 1 hf rfl fun a hf=>zT h ?_
  refine zI hf rfl hF ?_ ?_ <;> clear hF <;> intro hF
  ·refine wp_skip ?_
   refine ap _ _ ?_
   refine wp_seq_k fun K12 a1=>wp_block ?_
   refine zS fun K h=>sp 1 hf rfl fun a hf=>zT h ?_
   refine oV fun K14 aq=>wp_block ?_
   obtain ⟨k,ak,hF⟩:=aA hF
   let S15:Int→Act→World→Prop:=(fun (zz:Int) a w=>Has 67 a [(0,.slice I J.length B),(1,.slice D M.length H),(2,i6 rule),(10,i6 R),(11,i6 zz)]∧Ctx G (Lf) w)
   have aj:∀ (zz:Int) a w,k=.go zz→S15 zz a w→K14 a w:=by
    rintro U a w rfl ⟨hf,hc⟩
    replace hF:=bQ hF
    refine aq _ _ ?_
    refine a1 _ _ ?_
    refine bR ?_
    refine sp 3 hf rfl fun a hf=>aP ?_
    exact a2 (W (R + 1)) _ _ (sj hF).symm ⟨hf.kp rfl,hc⟩
   have ag:∀ r,k=.out r→r=az:=by
    rintro r rfl
    exact sj hF
   refine cX N (cV (S:=S15) (x:=k) ?_ N 0 _ _ ⟨hf.kp rfl,hc⟩ ak)
   clear hF hf hc
   rintro U a4 a w KB15 ⟨hf,hc⟩ hF X q
   unfold fS at hF
   refine wp_seq_k fun K16 ar=>zS fun K h=>sp 2 hf rfl fun a hf=>zP hf rfl (bL Tryz.underlying22 rfl) fun a hf=>sp 1 hf rfl fun a hf=>zT h ?_
   refine zI hf rfl hF ?_ ?_ <;> clear hF <;> intro hF
   ·refine wp_skip ?_
    refine ar _ _ ?_
    refine wp_seq_k fun K18 au=>wp_block ?_
    refine wp_seq_k fun K19 ay=>?_
    obtain ⟨g,n,hF⟩:=aA hF
    obtain ⟨a3,i,hF⟩:=aA hF
    refine cQ hc aY (by kernel_rfl) ?_
    refine qE hf rfl rfl rfl (Pu.ev (pM rfl)) fun a hf=>qE hf rfl rfl rfl (Pu.ev (pM rfl)) fun a hf=>qE hf rfl rfl rfl (Pu.ev (pNe rfl rfl)) fun a hf=>qE hf rfl rfl rfl (Pu.ev (pM rfl)) fun a hf=>aBd 6 (fun a=>Has 67 a [(0,.slice I J.length B),(1,.slice D M.length H),(2,i6 rule),(10,i6 R),(11,i6 U),(31,i6 R),(32,i6 U),(33,.bool (R != U)),(34,.bool (R != U)),(40,.bool g)]) ?_ ?_
    ·cases hb:(R != U)
     ·rw [hb] at hf
      have hF:=fN hb n
      obtain rfl:=sj hF
      refine qS hf rfl rfl rfl fun a hf=>qS hf rfl rfl rfl fun a hf=>qS hf rfl rfl rfl fun a hf=>qS hf rfl rfl rfl fun a hf=>qS hf rfl rfl rfl fun a hf=>qE hf rfl rfl rfl (Pu.ev (pPf rfl rfl)) fun a hf=>rU (hf.kp rfl)
     ·rw [hb] at hf
      have hF:=fO hb n
      obtain ⟨bb,ac,hF⟩:=aA hF
      obtain ⟨a6,o,qa,qp⟩:=O.atm ac
      refine qE hf rfl rfl rfl (Pu.ev (pM rfl)) fun a hf=>qE hf rfl rfl rfl (Pu.ev (pM rfl)) fun a hf=>qE hf rfl rfl rfl (Pu.ev (pIA Tryz.underlying22 cY rfl rfl qa)) fun a hf=>qE hf rfl rfl rfl (bP bB rfl (bK (j:=0) qp rfl)) fun a hf=>qE hf rfl rfl rfl (Pu.ev (pGt rfl rfl)) fun a hf=>qE hf rfl rfl rfl (Pu.ev (pPt rfl rfl)) fun a hf=>?_
      obtain rfl:=sj hF
      exact rU (hf.kp rfl)
    intro a hf
    refine qE hf rfl rfl rfl (Pu.ev (pM rfl)) fun a hf=>aBd 23 (fun a=>Has 67 a [(0,.slice I J.length B),(1,.slice D M.length H),(2,i6 rule),(10,i6 R),(11,i6 U),(31,i6 R),(32,i6 U),(33,.bool (R != U)),(34,.bool (R != U)),(40,.bool g),(41,.bool g),(64,.bool a3)]) ?_ ?_
    ·cases hb:g
     ·rw [hb] at hf
      have hF:=fN hb i
      obtain rfl:=sj hF
      refine qS hf rfl rfl rfl fun a hf=>qS hf rfl rfl rfl fun a hf=>qS hf rfl rfl rfl fun a hf=>qS hf rfl rfl rfl fun a hf=>qS hf rfl rfl rfl fun a hf=>qS hf rfl rfl rfl fun a hf=>qS hf rfl rfl rfl fun a hf=>qS hf rfl rfl rfl fun a hf=>qS hf rfl rfl rfl fun a hf=>qS hf rfl rfl rfl fun a hf=>qS hf rfl rfl rfl fun a hf=>qS hf rfl rfl rfl fun a hf=>qS hf rfl rfl rfl fun a hf=>?_
      refine qS hf rfl rfl rfl fun a hf=>qS hf rfl rfl rfl fun a hf=>qS hf rfl rfl rfl fun a hf=>qS hf rfl rfl rfl fun a hf=>qS hf rfl rfl rfl fun a hf=>qS hf rfl rfl rfl fun a hf=>qS hf rfl rfl rfl fun a hf=>qS hf rfl rfl rfl fun a hf=>qS hf rfl rfl rfl fun a hf=>qE hf rfl rfl rfl (Pu.ev (pPf rfl rfl)) fun a hf=>rU (hf.kp rfl)
     ·rw [hb] at hf
      have hF:=fO hb i
      obtain ⟨p,ad,hF⟩:=aA hF
      obtain ⟨a5,a7,af,s⟩:=V.atm ad
      obtain ⟨b,z,hF⟩:=aA hF
      obtain ⟨bd,a9,ai,an⟩:=O.atm z
      obtain ⟨m,aa,hF⟩:=aA hF
      obtain ⟨bf,a8,t,u⟩:=V.atm aa
      obtain ⟨Z,am,hF⟩:=aA hF
      obtain ⟨ba,bc,y,ab⟩:=O.atm am
      refine qE hf rfl rfl rfl (Pu.ev (pM rfl)) fun a hf=>qE hf rfl rfl rfl (Pu.ev (pM rfl)) fun a hf=>qE hf rfl rfl rfl (Pu.ev (pIA Tryz.underlying22 cY rfl rfl af)) fun a hf=>qE hf rfl rfl rfl (bP bB rfl (bK (j:=0) s rfl)) fun a hf=>qE hf rfl rfl rfl (Pu.ev (pM rfl)) fun a hf=>qE hf rfl rfl rfl (Pu.ev (pM rfl)) fun a hf=>qE hf rfl rfl rfl (Pu.ev (pM rfl)) fun a hf=>qE hf rfl rfl rfl (Pu.ev (pIA Tryz.underlying22 cY rfl rfl ai)) fun a hf=>qE hf rfl rfl rfl (bP bB rfl (bK (j:=0) an rfl)) fun a hf=>qE hf rfl rfl rfl (Pu.ev (wZ rfl rfl)) fun a hf=>qE hf rfl rfl rfl (eC (v:=i6 (aX rule (W (b + 1)))) (vs:=[i6 rule,i6 (W (b + 1))]) (caps:=[]) wU rfl rfl rfl rfl (fun w hc=>jB rule (W (b + 1)) hc rfl)) fun a hf=>qE hf rfl rfl rfl (Pu.ev (pM rfl)) fun a hf=>qE hf rfl rfl rfl (Pu.ev (pM rfl)) fun a hf=>?_
      refine qE hf rfl rfl rfl (Pu.ev (pIA Tryz.underlying22 cY rfl rfl t)) fun a hf=>qE hf rfl rfl rfl (bP bB rfl (bK (j:=0) u rfl)) fun a hf=>qE hf rfl rfl rfl (Pu.ev (pM rfl)) fun a hf=>qE hf rfl rfl rfl (Pu.ev (pM rfl)) fun a hf=>qE hf rfl rfl rfl (Pu.ev (pM rfl)) fun a hf=>qE hf rfl rfl rfl (Pu.ev (pIA Tryz.underlying22 cY rfl rfl y)) fun a hf=>qE hf rfl rfl rfl (bP bB rfl (bK (j:=0) ab rfl)) fun a hf=>qE hf rfl rfl rfl (eC (v:=i6 (aX rule Z)) (vs:=[i6 rule,i6 Z]) (caps:=[]) wU rfl rfl rfl rfl (fun w hc=>jB rule Z hc rfl)) fun a hf=>qE hf rfl rfl rfl (eC (v:=.bool (bY p (aX rule (W (b + 1))) m (aX rule Z))) (vs:=[i6 p,i6 (aX rule (W (b + 1))),i6 m,i6 (aX rule Z)]) (caps:=[]) aJp rfl rfl rfl rfl (fun w hc=>rD p (aX rule (W (b + 1))) m (aX rule Z) hc rfl)) fun a hf=>qE hf rfl rfl rfl (Pu.ev (pPt rfl rfl)) fun a hf=>?_
      obtain rfl:=sj hF
      exact rU (hf.kp rfl)
    intro a hf
    intro w hc
    refine ay _ _ ?_
    refine zI hf rfl hF ?_ ?_ <;> clear hF <;> intro hF
    ·refine zS fun K h=>sp 5 hf rfl fun a hf=>zT h ?_
     refine wp_ret ?_
     refine bI ?_
     refine aN ?_
     refine aN ?_
     have he:=sj hF
     rw [← he] at X
     replace hF:=ag _ X
     refine bI ?_
     refine aN ?_
     refine bI ?_
     refine aN ?_
     refine aN ?_
     have he:=hF
     rw [← he] at Y
     replace hF:=av _ Y
     refine bI ?_
     refine aN ?_
     obtain rfl:=hF
     exact zO3 Tryz.results46 hf rfl rfl rfl ⟨rfl,hc⟩
    ·refine wp_skip ?_
     refine au _ _ ?_
     refine bR ?_
     refine sp 3 hf rfl fun a hf=>aP ?_
     exact q (W (U + 1)) _ _ (sj hF).symm ⟨hf.kp rfl,hc⟩
   ·refine wp_exit ?_
    refine bE ?_
    refine bE ?_
    have he:=sj hF
    rw [← he] at X
    refine eX ?_
    exact aj _ _ _ X ⟨hf.kp rfl,hc⟩
  ·refine wp_exit ?_
   refine bE ?_
   refine bE ?_
   have he:=sj hF
   rw [← he] at Y
   refine eX ?_
   exact ax _ _ _ Y ⟨hf.kp rfl,hc⟩

def mA (N:Nat) (D:Int) (B:Int):Option (bH (Int × Int) (aM)) :=
 cond (decide (0 < B))
 (Option.bind (nz B) fun H=>
 some (.cont (B,D.tmod B)))
 (some (.brk (D,B)))
def nG (N:Nat) (n:Int) (d:Int):Option (aM) :=
 Option.bind (aT (fun s4=>mA N s4.1 s4.2) N (n,d)) fun x4=>
 exK x4 (fun s4=>Option.bind (nz s4.1) fun un=>
 Option.bind (nz s4.1) fun B=>
 some (⟨W (n.tdiv s4.1),W (d.tdiv s4.1)⟩:aM)) some
theorem zZ {N:Nat} {G:bA} {Lf:List Ent} {w:World} (n:Int) (d:Int)   (hc:Ctx G (Lf) w) {I:aM} (hF:nG N n d=some I):Calls Tryz.prog 85 #[i6 n,i6 d] w (fun e w=>e=.returned (.agg #[i6 I.N,i6 I.D])∧Ctx G (Lf) w):=by
 unfold nG at hF
 refine cG Tryz.func85 rfl Tryz.ntmps85 rfl fun a hf=>zS fun K h=>zA hf hc rA rfl fun H a w hf hc=>zT h ?_
 refine zS fun K h=>sp 4 hf rfl fun a hf=>zT h ?_
 refine wp_seq_k fun K3 h3=>wp_block ?_
 obtain ⟨x4,V,hF⟩:=aA hF
 let S4:(Int × Int)→Act→World→Prop:=(fun (zz:Int × Int) a w=>Has 22 a [(0,i6 n),(1,i6 d),(4,pq H),(5,i6 zz.1),(6,i6 zz.2)]∧Ctx G (.box H [i6 0,i6 0] 43::Lf) w)
 have Y:∀ (zz:Int × Int) a w,x4=.go zz→S4 zz a w→K3 a w:=by
  rintro ⟨B,M⟩ a w rfl ⟨hf,hc⟩
  replace hF:=bQ hF
  refine h3 _ _ ?_
  refine wp_seq_k fun K5 h5=>?_
  obtain ⟨un,Z,hF⟩:=aA hF
  obtain ⟨b,R,hF⟩:=aA hF
  refine dJ (fun θ=>[⟨none,none,0,i6 n⟩,⟨none,none,1,i6 d⟩,⟨none,none,4,pq H⟩,⟨none,none,5,i6 B⟩,⟨some 0,none,15,i6 n⟩,⟨some 1,none,16,i6 B⟩,⟨some 2,none,17,i6 (W (n.tdiv B))⟩,⟨some 3,none,18,i6 d⟩,⟨some 4,none,19,i6 B⟩,⟨some 5,none,20,i6 (W (d.tdiv B))⟩,⟨some 6,none,21,.agg #[i6 (W (n.tdiv B)),i6 (W (d.tdiv B))]⟩]) (fun E θ=>(bif E 7 then .box H [i6 (W (n.tdiv B)),i6 (W (d.tdiv B))] 43 else .box H [i6 0,i6 0] 43)::Lf) [] (fun a w=>Has 22 a [(4,pq H)]∧Ctx G (.box H [i6 (W (n.tdiv B)),i6 (W (d.tdiv B))] 43::Lf) w) aY (by kernel_rfl) (by kernel_rfl) (eY.of hf ⟨rfl,rfl,rfl,rfl,trivial,trivial,trivial,trivial,trivial,trivial,trivial,trivial⟩) hc ⟨?_,?_,?_,?_,?_,?_,?_,?_,trivial⟩ ?_ ?_
  ·intro E θ a w hD hi hp he hc
   have hf:=he.h0.mT he 0 rfl
   refine sp 1 hf rfl fun a hf=>zD θ he hi hf 4 rfl rfl rfl hc
  ·intro E θ a w hD hi hp he hc
   have hf:=he.h0.mT he 3 rfl
   refine sp 1 hf rfl fun a hf=>zD θ he hi hf 5 rfl rfl rfl hc
  ·intro E θ a w hD hi hp he hc
   have e0:=hp.o 0 rfl
   have e1:=hp.o 1 rfl
   have hf:=(he.h0.mP he 4 rfl e0).mP he 5 rfl e1
   refine zP hf rfl (nE rfl rfl (eZ Z)) fun a hf=>zD θ he hi hf 6 rfl rfl rfl hc
  ·intro E θ a w hD hi hp he hc
   have hf:=he.h0.mT he 1 rfl
   refine sp 1 hf rfl fun a hf=>zD θ he hi hf 7 rfl rfl rfl hc
  ·intro E θ a w hD hi hp he hc
   have hf:=he.h0.mT he 3 rfl
   refine sp 1 hf rfl fun a hf=>zD θ he hi hf 8 rfl rfl rfl hc
  ·intro E θ a w hD hi hp he hc
   have e3:=hp.o 3 rfl
   have e4:=hp.o 4 rfl
   have hf:=(he.h0.mP he 7 rfl e3).mP he 8 rfl e4
   refine zP hf rfl (nE rfl rfl (eZ R)) fun a hf=>zD θ he hi hf 9 rfl rfl rfl hc
  ·intro E θ a w hD hi hp he hc
   have e2:=hp.o 2 rfl
   have e5:=hp.o 5 rfl
   have hf:=(he.h0.mP he 6 rfl e2).mP he 9 rfl e5
   refine zP hf rfl (bG (cells:=[i6 (W (n.tdiv B)),i6 (W (d.tdiv B))]) qN rfl rfl) fun a hf=>zD θ he hi hf 10 rfl rfl rfl hc
  ·intro E θ a w hD hi hp he hc
   have e6:=hp.o 6 rfl
   try dsimp only at hc
   rw [hi] at hc
   have hf:=(he.h0.mT he 2 rfl).mP he 10 rfl e6
   refine zW hf hc jU u0 rfl fun w hc=>zG θ he hi hf rfl ?_
   try dsimp only
   rw [aU E 7]
   exact hc
  ·intro E θ a w U he hc
   have hf:=he.h0
   have e7:=U 7 rfl
   replace hf:=hf.more he 2 rfl (onT)
   try dsimp only at hc
   rw [e7] at hc
   exact ⟨hf.kp rfl,hc⟩
  rintro a w ⟨hf,hc⟩
  refine h5 _ _ ?_
  refine wp_ret ?_
  obtain rfl:=sj hF
  exact oO (by simp) rfl Tryz.results85 hf hc (dQ (vs:=[i6 (W (n.tdiv B)),i6 (W (d.tdiv B))]) jW rfl rfl (cA (n:=2) m0 rfl)) ⟨rfl,(hc.drop k0)⟩
 have i:∀ r,x4=.out r→r=I:=by
  rintro r rfl
  exact sj hF
 refine cX N (cV (S:=S4) (x:=x4) ?_ N (n,d) _ _ ⟨hf.kp rfl,hc⟩ V)
 clear hF hf hc
 rintro ⟨B,M⟩ j a w KB4 ⟨hf,hc⟩ hF J X
 unfold mA at hF
 refine wp_seq_k fun K6 h6=>zS fun K h=>sp 2 hf rfl fun a hf=>zT h ?_
 refine zI hf rfl hF ?_ ?_ <;> clear hF <;> intro hF
 ·refine wp_skip ?_
  refine h6 _ _ ?_
  refine oV fun K8 h8=>wp_block ?_
  obtain ⟨g,O,hF⟩:=aA hF
  refine cQ hc aY (by kernel_rfl) ?_
  refine qE hf rfl rfl rfl (Pu.ev (pM rfl)) fun a hf=>qE hf rfl rfl rfl (Pu.ev (pM rfl)) fun a hf=>qE hf rfl rfl rfl (Pu.ev (pM rfl)) fun a hf=>qE hf rfl rfl rfl (Pu.ev (lH rfl rfl (eZ O))) fun a hf=>qE hf rfl rfl rfl (Pu.ev (pA rfl)) fun a hf=>qE hf rfl rfl rfl (Pu.ev (pA rfl)) fun a hf=>?_
  intro w hc
  refine h8 _ _ ?_
  exact X (M,B.tmod M) _ _ (sj hF).symm ⟨hf.kp rfl,hc⟩
 ·refine wp_exit ?_
  refine bE ?_
  refine bE ?_
  have he:=sj hF
  rw [← he] at J
  refine eX ?_
  exact Y _ _ _ J ⟨hf.kp rfl,hc⟩

def gU (N:Nat) (B:List Int) (I:List Int) (rule:Int) (x:aM) (H:Int):Option (bH (Int) (Bool × Int)) :=
 cond (decide (H < ((B.length:Nat):Int)))
 (Option.bind (aZ I H) fun O=>
 Option.bind (aZ I H) fun M=>
 Option.bind (aZ B H) fun R=>
 Option.bind (cond (decide ((W ((W (2 * R)) * x.D)) < (W ((aX rule O) * x.N)))) (some true) (Option.bind (aZ B H) fun S=>
 some (decide ((W ((aX rule (W (M + 1))) * x.N)) < (W ((W (2 * S)) * x.D)))))) fun J=>
 cond J
 (some (.ret (false,0)))
 (some (.cont (W (H + 1)))))
 (some (.brk H))
def nC (N:Nat) (B:List Int) (H:List Int) (rule:Int) (x:aM):Option (Bool × Int) :=
 Option.bind (lV N B H rule) fun r=>
 cond (r != 0)
 (some (false,r))
 (cond (((aC x.N 1 1000000000) || (aC x.D 1 1000000000)) || (decide ((W (2000000 * x.D)) < x.N)))
 (some (false,4))
 (Option.bind (aT (fun I=>gU N B H rule x I) N 0) fun J=>
 exK J (fun I=>some (true,0)) some))
theorem uA {N:Nat} {G:bA} {Lf:List Ent} {w:World} (I:List Int) (O:List Int) (rule:Int) (x:aM) {H:Option Addr} {B:Nat} {M:Option Addr} {J:Nat} (R:Rd G 1 H B (I.map aD)) (U:Rd G 1 M J (O.map aD)) (hc:Ctx G (Lf) w) {d:Bool × Int} (hF:nC N I O rule x=some d):Calls Tryz.prog 50 #[.slice H I.length B,.slice M O.length J,i6 rule,.agg #[i6 x.N,i6 x.D]] w (fun e w=>e=.returned (.tuple #[.bool d.1,i6 d.2])∧Ctx G (Lf) w):=by
 unfold nC at hF
 refine cG Tryz.func50 rfl Tryz.ntmps50 rfl fun a hf=>zS fun K h=>zB hf hc rfl fun V a w hf hc=>sp 2 hf rfl fun a hf=>zT h ?_
 refine wp_seq_k fun K2 h2=>zS fun K h=>sp 3 hf rfl fun a hf=>?_
 obtain ⟨r,hr,hF⟩:=aA hF
 refine zQ (v:=i6 r) hf hc aIw rfl (fun w hc=>qK I O rule R U hc hr) fun a w hf hc=>sp 1 hf rfl fun a hf=>zT h ?_
 refine zS fun K h=>sp 2 hf rfl fun a hf=>zT h ?_
 refine zI hf rfl hF ?_ ?_ <;> clear hF <;> intro hF
 ·refine zS fun K h=>sp 3 hf rfl fun a hf=>zT h ?_
  refine wp_ret ?_
  refine aN ?_
  obtain rfl:=sj hF
  replace hc:=hc.drop k0
  exact zO2 Tryz.results50 hf rfl rfl ⟨rfl,hc⟩
 ·refine wp_skip ?_
  refine h2 _ _ ?_
  refine wp_seq_k fun K6 h6=>zS fun K h=>zP hf rfl (pFA nU rfl) fun a hf=>zL hf hc bB m0 rfl fun a w hf hc=>zQ (v:=.bool (aC x.N 1 1000000000)) hf hc nM rfl (fun w hc=>bJ x.N 1 1000000000 hc rfl) fun a w hf hc=>sp 1 hf rfl fun a hf=>cP 4 (fun a=>Has 84 a [(0,.slice H I.length B),(1,.slice M O.length J),(2,i6 rule),(7,pq V),(21,pq V),(22,i6 x.N),(23,.bool (aC x.N 1 1000000000)),(24,.bool (aC x.N 1 1000000000)),(28,.bool ((aC x.N 1 1000000000) || (aC x.D 1 1000000000)))]) hc ?_ ?_
  ·cases hb:(aC x.N 1 1000000000)
   ·rw [hb] at hf
    refine zP hf rfl (pFA lT rfl) fun a hf=>zL hf hc bB m0 rfl fun a w hf hc=>zQ (v:=.bool (aC x.D 1 1000000000)) hf hc nM rfl (fun w hc=>bJ x.D 1 1000000000 hc rfl) fun a w hf hc=>sp 1 hf rfl fun a hf=>aP ⟨hf.kp rfl,hc⟩
   ·rw [hb] at hf
    refine stS hf rfl rfl rfl fun a hf=>stS hf rfl rfl rfl fun a hf=>stS hf rfl rfl rfl fun a hf=>sp 1 hf rfl fun a hf=>aP ⟨hf.kp rfl,hc⟩
  intro a w ⟨hf,hc⟩
  refine sp 1 hf rfl fun a hf=>cP 7 (fun a=>Has 84 a [(0,.slice H I.length B),(1,.slice M O.length J),(2,i6 rule),(7,pq V),(21,pq V),(22,i6 x.N),(23,.bool (aC x.N 1 1000000000)),(24,.bool (aC x.N 1 1000000000)),(28,.bool ((aC x.N 1 1000000000) || (aC x.D 1 1000000000))),(29,.bool ((aC x.N 1 1000000000) || (aC x.D 1 1000000000))),(36,.bool (((aC x.N 1 1000000000) || (aC x.D 1 1000000000)) || (decide ((W (2000000 * x.D)) < x.N))))]) hc ?_ ?_
  ·cases hb:((aC x.N 1 1000000000) || (aC x.D 1 1000000000))
   ·rw [hb] at hf
    refine zP hf rfl (pFA nU rfl) fun a hf=>zL hf hc bB m0 rfl fun a w hf hc=>zP hf rfl (pFA lT rfl) fun a hf=>zL hf hc bB m0 rfl fun a w hf hc=>sp 3 hf rfl fun a hf=>aP ⟨hf.kp rfl,hc⟩
   ·rw [hb] at hf
    refine stS hf rfl rfl rfl fun a hf=>stS hf rfl rfl rfl fun a hf=>stS hf rfl rfl rfl fun a hf=>stS hf rfl rfl rfl fun a hf=>stS hf rfl rfl rfl fun a hf=>stS hf rfl rfl rfl fun a hf=>sp 1 hf rfl fun a hf=>aP ⟨hf.kp rfl,hc⟩
  intro a w ⟨hf,hc⟩
  refine zT h ?_
  refine zI hf rfl hF ?_ ?_ <;> clear hF <;> intro hF
  ·refine zS fun K h=>sp 2 hf rfl fun a hf=>zT h ?_
   refine wp_ret ?_
   refine aN ?_
   obtain rfl:=sj hF
   replace hc:=hc.drop k0
   exact zO2 Tryz.results50 hf rfl rfl ⟨rfl,hc⟩
  ·refine wp_skip ?_
   refine h6 _ _ ?_
   refine wp_seq_k fun K9 h9=>zS fun K h=>sp 1 hf rfl fun a hf=>zT h ?_
   refine wp_block ?_
   obtain ⟨i,u,hF⟩:=aA hF
   let S11:Int→Act→World→Prop:=(fun (zz:Int) a w=>Has 84 a [(0,.slice H I.length B),(1,.slice M O.length J),(2,i6 rule),(7,pq V),(11,i6 zz)]∧Ctx G (.box V [i6 x.N,i6 x.D] 43::Lf) w)
   have q:∀ (zz:Int) a w,i=.go zz→S11 zz a w→K9 a w:=by
    rintro g a w rfl ⟨hf,hc⟩
    replace hF:=bQ hF
    refine h9 _ _ ?_
    refine zS fun K h=>sp 2 hf rfl fun a hf=>zT h ?_
    refine wp_ret ?_
    obtain rfl:=sj hF
    replace hc:=hc.drop k0
    exact zO2 Tryz.results50 hf rfl rfl ⟨rfl,hc⟩
   have ad:∀ r,i=.out r→r=d:=by
    rintro r rfl
    exact sj hF
   refine cX N (cV (S:=S11) (x:=i) ?_ N 0 _ _ ⟨hf.kp rfl,hc⟩ u)
   clear hF hf hc
   rintro g aq a w KB11 ⟨hf,hc⟩ hF Y m
   unfold gU at hF
   refine wp_seq_k fun K13 ak=>zS fun K h=>sp 2 hf rfl fun a hf=>zP hf rfl (bL Tryz.underlying22 rfl) fun a hf=>sp 1 hf rfl fun a hf=>zT h ?_
   refine zI hf rfl hF ?_ ?_ <;> clear hF <;> intro hF
   ·refine wp_skip ?_
    refine ak _ _ ?_
    refine wp_seq_k fun K15 an=>wp_block ?_
    refine wp_seq_k fun K16 ag=>?_
    obtain ⟨X,ab,hF⟩:=aA hF
    obtain ⟨au,o,qa,qp⟩:=U.atm ab
    obtain ⟨b,s,hF⟩:=aA hF
    obtain ⟨ar,av,t,y⟩:=U.atm s
    refine cQ hc aY (by kernel_rfl) ?_
    refine qE hf rfl rfl rfl (Pu.ev (pM rfl)) fun a hf=>qE hf rfl rfl rfl (Pu.ev (pM rfl)) fun a hf=>qE hf rfl rfl rfl (Pu.ev (pM rfl)) fun a hf=>qE hf rfl rfl rfl (Pu.ev (pIA Tryz.underlying22 cY rfl rfl qa)) fun a hf=>qE hf rfl rfl rfl (bP bB rfl (bK (j:=0) qp rfl)) fun a hf=>qE hf rfl rfl rfl (eC (v:=i6 (aX rule X)) (vs:=[i6 rule,i6 X]) (caps:=[]) wU rfl rfl rfl rfl (fun w hc=>jB rule X hc rfl)) fun a hf=>qE hf rfl rfl rfl (Pu.ev (pM rfl)) fun a hf=>qE hf rfl rfl rfl (Pu.ev (pM rfl)) fun a hf=>qE hf rfl rfl rfl (Pu.ev (pM rfl)) fun a hf=>qE hf rfl rfl rfl (Pu.ev (pIA Tryz.underlying22 cY rfl rfl t)) fun a hf=>qE hf rfl rfl rfl (bP bB rfl (bK (j:=0) y rfl)) fun a hf=>qE hf rfl rfl rfl (Pu.ev (wZ rfl rfl)) fun a hf=>qE hf rfl rfl rfl (eC (v:=i6 (aX rule (W (b + 1)))) (vs:=[i6 rule,i6 (W (b + 1))]) (caps:=[]) wU rfl rfl rfl rfl (fun w hc=>jB rule (W (b + 1)) hc rfl)) fun a hf=>?_
    refine qE hf rfl rfl rfl (Pu.ev (pA rfl)) fun a hf=>qE hf rfl rfl rfl (Pu.ev (pA rfl)) fun a hf=>?_
    intro w hc
    refine ag _ _ ?_
    refine wp_seq_k fun K17 aj=>?_
    obtain ⟨Z,p,hF⟩:=aA hF
    obtain ⟨ap,ai,ac,af⟩:=R.atm p
    obtain ⟨am,k,hF⟩:=aA hF
    refine cQ hc aY (by kernel_rfl) ?_
    refine qE hf rfl rfl rfl (Pu.ev (pM rfl)) fun a hf=>qE hf rfl rfl rfl (Pu.ev (pM rfl)) fun a hf=>qE hf rfl rfl rfl (Pu.ev (pIA Tryz.underlying22 cY rfl rfl ac)) fun a hf=>qE hf rfl rfl rfl (bP bB rfl (bK (j:=0) af rfl)) fun a hf=>qE hf rfl rfl rfl (Pu.ev (yJ rfl rfl)) fun a hf=>qE hf rfl rfl rfl (Pu.ev (pFA lT rfl)) fun a hf=>qE hf rfl rfl rfl (bP bB rfl (bZ m0 rfl)) fun a hf=>qE hf rfl rfl rfl (Pu.ev (yJ rfl rfl)) fun a hf=>qE hf rfl rfl rfl (Pu.ev (pM rfl)) fun a hf=>qE hf rfl rfl rfl (Pu.ev (pFA nU rfl)) fun a hf=>qE hf rfl rfl rfl (bP bB rfl (bZ m0 rfl)) fun a hf=>qE hf rfl rfl rfl (Pu.ev (yJ rfl rfl)) fun a hf=>qE hf rfl rfl rfl (Pu.ev (pLt rfl rfl)) fun a hf=>?_
    refine qE hf rfl rfl rfl (Pu.ev (pM rfl)) fun a hf=>aBd 14 (fun a=>Has 84 a [(0,.slice H I.length B),(1,.slice M O.length J),(2,i6 rule),(7,pq V),(11,i6 g),(12,i6 (aX rule X)),(13,i6 (aX rule (W (b + 1)))),(56,.slice H I.length B),(57,i6 g),(58,.pointer (some ⟨ap,ai,none⟩)),(59,i6 Z),(60,i6 (W (2 * Z))),(61,.pointer (some ⟨V,1,none⟩)),(62,i6 x.D),(63,i6 (W ((W (2 * Z)) * x.D))),(64,i6 (aX rule X)),(65,pq V),(66,i6 x.N),(67,i6 (W ((aX rule X) * x.N))),(68,.bool (decide ((W ((W (2 * Z)) * x.D)) < (W ((aX rule X) * x.N))))),(69,.bool (decide ((W ((W (2 * Z)) * x.D)) < (W ((aX rule X) * x.N))))),(83,.bool am)]) ?_ ?_
    ·cases hb:(decide ((W ((W (2 * Z)) * x.D)) < (W ((aX rule X) * x.N))))
     ·rw [hb] at hf
      have hF:=fN hb k
      obtain ⟨ay,aa,hF⟩:=aA hF
      obtain ⟨az,ax,z,n⟩:=R.atm aa
      refine qE hf rfl rfl rfl (Pu.ev (pM rfl)) fun a hf=>qE hf rfl rfl rfl (Pu.ev (pM rfl)) fun a hf=>qE hf rfl rfl rfl (Pu.ev (pIA Tryz.underlying22 cY rfl rfl z)) fun a hf=>qE hf rfl rfl rfl (bP bB rfl (bK (j:=0) n rfl)) fun a hf=>qE hf rfl rfl rfl (Pu.ev (yJ rfl rfl)) fun a hf=>qE hf rfl rfl rfl (Pu.ev (pFA lT rfl)) fun a hf=>qE hf rfl rfl rfl (bP bB rfl (bZ m0 rfl)) fun a hf=>qE hf rfl rfl rfl (Pu.ev (yJ rfl rfl)) fun a hf=>qE hf rfl rfl rfl (Pu.ev (pM rfl)) fun a hf=>qE hf rfl rfl rfl (Pu.ev (pFA nU rfl)) fun a hf=>qE hf rfl rfl rfl (bP bB rfl (bZ m0 rfl)) fun a hf=>qE hf rfl rfl rfl (Pu.ev (yJ rfl rfl)) fun a hf=>qE hf rfl rfl rfl (Pu.ev (pGt rfl rfl)) fun a hf=>?_
      refine qE hf rfl rfl rfl (Pu.ev (pPf rfl rfl)) fun a hf=>?_
      obtain rfl:=sj hF
      exact rU (hf.kp rfl)
     ·rw [hb] at hf
      have hF:=fO hb k
      obtain rfl:=sj hF
      refine qS hf rfl rfl rfl fun a hf=>qS hf rfl rfl rfl fun a hf=>qS hf rfl rfl rfl fun a hf=>qS hf rfl rfl rfl fun a hf=>qS hf rfl rfl rfl fun a hf=>qS hf rfl rfl rfl fun a hf=>qS hf rfl rfl rfl fun a hf=>qS hf rfl rfl rfl fun a hf=>qS hf rfl rfl rfl fun a hf=>qS hf rfl rfl rfl fun a hf=>qS hf rfl rfl rfl fun a hf=>qS hf rfl rfl rfl fun a hf=>qS hf rfl rfl rfl fun a hf=>?_
      refine qE hf rfl rfl rfl (Pu.ev (pPt rfl rfl)) fun a hf=>rU (hf.kp rfl)
    intro a hf
    intro w hc
    refine aj _ _ ?_
    refine zI hf rfl hF ?_ ?_ <;> clear hF <;> intro hF
    ·refine zS fun K h=>sp 2 hf rfl fun a hf=>zT h ?_
     refine wp_ret ?_
     refine bI ?_
     refine aN ?_
     refine aN ?_
     have he:=sj hF
     rw [← he] at Y
     replace hF:=ad _ Y
     refine bI ?_
     refine aN ?_
     obtain rfl:=hF
     replace hc:=hc.drop k0
     exact zO2 Tryz.results50 hf rfl rfl ⟨rfl,hc⟩
    ·refine wp_skip ?_
     refine an _ _ ?_
     refine bR ?_
     refine sp 3 hf rfl fun a hf=>aP ?_
     exact m (W (g + 1)) _ _ (sj hF).symm ⟨hf.kp rfl,hc⟩
   ·refine wp_exit ?_
    refine bE ?_
    refine bE ?_
    have he:=sj hF
    rw [← he] at Y
    refine eX ?_
    exact q _ _ _ Y ⟨hf.kp rfl,hc⟩

def gX (N:Nat) (H:Int) (I:Int) (D:Int) (J:Int) (B:Int):Option (bH (Int × Int × Int × Int × Int) (aM × aM × Int)) :=
 some (.cont (W (H + 1),I,D,J,B))
def jK (N:Nat) (l:List aM) (B:Int) (O:Int) (H:Int) (I:Int) (J:Int):Option (bH (Int × Int × Int × Int × Int) (aM × aM × Int)) :=
 Option.bind (cond (H == 0) (some true) (Option.bind (aZ l B) fun S=>
 Option.bind (aZ l B) fun U=>
 some (decide ((W (O * U.D)) < (W (S.N * H)))))) fun R=>
 cond R
 (Option.bind (aZ l B) fun M=>
 gX N B I J M.N M.D)
 (gX N B I J O H)
def fP (N:Nat) (M:List Int) (O:List Int) (rule:Int) (l:List aM) (B:Int) (x:Int) (H:Int) (J:Int) (I:Int):Option (bH (Int × Int × Int × Int × Int) (aM × aM × Int)) :=
 cond (decide (B < ((l.length:Nat):Int)))
 (Option.bind (aZ l B) fun V=>
 Option.bind (nC N M O rule V) fun S=>
 cond ((S.2 != 0) || (!S.1))
 (gX N B x H J I)
 (Option.bind (cond (H == 0) (some true) (Option.bind (aZ l B) fun X=>
 Option.bind (aZ l B) fun Y=>
 some (decide ((W (X.N * H)) < (W (x * Y.D)))))) fun U=>
 cond U
 (Option.bind (aZ l B) fun R=>
 jK N l B J I R.N R.D)
 (jK N l B J I x H)))
 (some (.brk (B,x,H,J,I)))
def jS (N:Nat) (k:Int) (B:List aM):Option (bH ((List aM) × Int) (bH ((List aM) × Int) (aM × aM × Int))) :=
 some (.cont (B,W (k + 1)))
def eU (N:Nat) (D:List Int) (H:List Int) (rule:Int) (J:Int) (B:List aM) (k:Int):Option (bH ((List aM) × Int) (bH ((List aM) × Int) (aM × aM × Int))) :=
 cond (decide (k < 2))
 (Option.bind (aZ H J) fun M=>
 cond (decide (0 < (aX rule (W (M + k)))))
 (Option.bind (aZ D J) fun O=>
 Option.bind (nG N (W (2 * O)) (aX rule (W (M + k)))) fun I=>
 Option.bind (jE ((B++[I])).length) fun un=>
 jS N k (B++[I]))
 (jS N k B))
 (some (.brk (B,k)))
def gA (N:Nat) (B:List Int) (I:List Int) (rule:Int) (l:List aM) (H:Int):Option (bH ((List aM) × Int) (aM × aM × Int)) :=
 cond (decide (H < ((B.length:Nat):Int)))
 (Option.bind (aT (fun D=>eU N B I rule H D.1 D.2) N (l,0)) fun J=>
 exK J (fun D=>some (.cont (D.1,W (H + 1)))) some)
 (some (.brk (l,H)))
def mQ (N:Nat) (D:List Int) (H:List Int) (rule:Int):Option (aM × aM × Int) :=
 Option.bind (lV N D H rule) fun r=>
 cond (r != 0)
 (some ((⟨0,0⟩:aM),(⟨0,0⟩:aM),r))
 (Option.bind (aT (fun s9=>gA N D H rule s9.1 s9.2) N (([(⟨2000000,1⟩:aM)]:List aM),0)) fun x9=>
 exK x9 (fun s9=>Option.bind (aT (fun B=>fP N D H rule s9.1 B.1 B.2.1 B.2.2.1 B.2.2.2.1 B.2.2.2.2) N (0,0,0,0,0)) fun I=>
 exK I (fun B=>cond (B.2.2.1 == 0)
 (some ((⟨0,0⟩:aM),(⟨0,0⟩:aM),7))
 (some ((⟨B.2.1,B.2.2.1⟩:aM),(⟨B.2.2.2.1,B.2.2.2.2⟩:aM),0))) some) some)
theorem xQ {N:Nat} {G:bA} {Lf:List Ent} {w:World} (M:List Int) (O:List Int) (rule:Int) {I:Option Addr} {B:Nat} {J:Option Addr} {H:Nat} (q:Rd G 1 I B (M.map aD)) (s:Rd G 1 J H (O.map aD)) (hc:Ctx G (Lf) w) {t:aM × aM × Int} (hF:mQ N M O rule=some t):Calls Tryz.prog 48 #[.slice I M.length B,.slice J O.length H,i6 rule] w (fun e w=>e=.returned (.tuple #[.agg #[i6 t.1.N,i6 t.1.D],.agg #[i6 t.2.1.N,i6 t.2.1.D],i6 t.2.2])∧Ctx G (Lf) w):=by
 unfold mQ at hF
 refine cG Tryz.func48 rfl Tryz.ntmps48 rfl fun a hf=>zS fun K h=>zA hf hc rA rfl fun U a w hf hc=>zA hf hc rA rfl fun R a w hf hc=>sp 1 hf rfl fun a hf=>zT h ?_
 refine wp_seq_k fun K2 h2=>zS fun K h=>sp 3 hf rfl fun a hf=>?_
 obtain ⟨r,hr,hF⟩:=aA hF
 refine zQ (v:=i6 r) hf hc aIw rfl (fun w hc=>qK M O rule q s hc hr) fun a w hf hc=>sp 1 hf rfl fun a hf=>zT h ?_
 refine zS fun K h=>sp 2 hf rfl fun a hf=>zT h ?_
 refine zI hf rfl hF ?_ ?_ <;> clear hF <;> intro hF
 ·refine zS fun K h=>zP hf rfl (bG (cells:=[i6 0,i6 0]) qN rfl rfl) fun a hf=>zP hf rfl (bG (cells:=[i6 0,i6 0]) qN rfl rfl) fun a hf=>sp 1 hf rfl fun a hf=>zW hf hc jU u1 rfl fun w hc=>zW hf hc jU u0 rfl fun w hc=>sp 1 hf rfl fun a hf=>zT h ?_
  refine wp_ret ?_
  refine aN ?_
  obtain rfl:=sj hF
  replace hc:=(hc.pick k0).pick k1
  exact yE (by simp) rfl Tryz.results48 hf hc (dQ (vs:=[i6 0,i6 0]) jW rfl rfl (cA (n:=2) m0 rfl)) (dQ (vs:=[i6 0,i6 0]) jW rfl rfl (cA (n:=2) m1 rfl)) (show jV _ 8=_ from rfl) ⟨rfl,((hc.drop k1).drop k0)⟩
 ·refine wp_skip ?_
  refine h2 _ _ ?_
  refine zS fun K h=>zP hf rfl (bG (cells:=[i6 2000000,i6 1]) qN rfl rfl) fun a hf=>gV (rows:=([(⟨2000000,1⟩:aM)]:List aM).map eW) (vs:=[(0,.agg #[i6 2000000,i6 1])]) hf hc rfl rfl aFx rfl ⟨rfl,rfl,rfl,trivial⟩ rfl rfl fun ci a w hf hc=>sp 1 hf rfl fun a hf=>zT h ?_
  refine wp_seq_k fun K7 h7=>zS fun K h=>sp 1 hf rfl fun a hf=>zT h ?_
  refine wp_block ?_
  obtain ⟨x9,cv,hF⟩:=aA hF
  let S9:((List aM) × Int)→Act→World→Prop:=(fun (zz:(List aM) × Int) a w=>∃ (aa:Option Addr) (z:Nat),Has 142 a [(0,.slice I M.length B),(1,.slice J O.length H),(2,i6 rule),(6,pq U),(7,pq R),(10,.slice aa zz.1.length z),(11,i6 zz.2)]∧Ctx G (.row aa z (zz.1.map eW) 43 2::.box R [i6 0,i6 0] 43::.box U [i6 0,i6 0] 43::Lf) w)
  have cy:∀ (zz:(List aM) × Int) a w,x9=.go zz→S9 zz a w→K7 a w:=by
   rintro ⟨l,a1⟩ a w rfl ⟨aa,z,hf,hc⟩
   replace hF:=bQ hF
   refine h7 _ _ ?_
   refine zS fun K h=>zA hf hc rA rfl fun b a w hf hc=>zA hf hc rA rfl fun d a w hf hc=>zT h ?_
   refine wp_seq_k fun K11 cs=>zS fun K h=>sp 1 hf rfl fun a hf=>zT h ?_
   refine wp_block ?_
   obtain ⟨a5,bm,hF⟩:=aA hF
   let S13:(Int × Int × Int × Int × Int)→Act→World→Prop:=(fun (zz:Int × Int × Int × Int × Int) a w=>∃ (ac:Option Addr) (X:Nat),Has 142 a [(0,.slice I M.length B),(1,.slice J O.length H),(2,i6 rule),(6,pq U),(7,pq R),(10,.slice ac l.length X),(14,pq b),(15,pq d),(16,i6 zz.1)]∧Ctx G (.box d [i6 zz.2.2.2.1,i6 zz.2.2.2.2] 43::.box b [i6 zz.2.1,i6 zz.2.2.1] 43::.row ac X (l.map eW) 43 2::.box R [i6 0,i6 0] 43::.box U [i6 0,i6 0] 43::Lf) w)
   have bi:∀ (zz:Int × Int × Int × Int × Int) a w,a5=.go zz→S13 zz a w→K11 a w:=by
    rintro ⟨V,x,Z,m,Y⟩ a w rfl ⟨ac,X,hf,hc⟩
    replace hF:=bQ hF
    refine cs _ _ ?_
    refine wp_seq_k fun K14 cj=>zS fun K h=>zP hf rfl (pFA lT rfl) fun a hf=>zL hf hc bB m1 rfl fun a w hf hc=>sp 1 hf rfl fun a hf=>zT h ?_
    refine zI hf rfl hF ?_ ?_ <;> clear hF <;> intro hF
    ·refine zS fun K h=>zP hf rfl (bG (cells:=[i6 0,i6 0]) qN rfl rfl) fun a hf=>zP hf rfl (bG (cells:=[i6 0,i6 0]) qN rfl rfl) fun a hf=>zW hf hc jU u4 rfl fun w hc=>zW hf hc jU u3 rfl fun w hc=>sp 1 hf rfl fun a hf=>zT h ?_
     refine wp_ret ?_
     refine aN ?_
     obtain rfl:=sj hF
     replace hc:=((((hc.drop k2).drop k1).drop k0).pick k0).pick k1
     exact yE (by simp) rfl Tryz.results48 hf hc (dQ (vs:=[i6 0,i6 0]) jW rfl rfl (cA (n:=2) m0 rfl)) (dQ (vs:=[i6 0,i6 0]) jW rfl rfl (cA (n:=2) m1 rfl)) (show jV _ 8=_ from rfl) ⟨rfl,((hc.drop k1).drop k0)⟩
    ·refine wp_skip ?_
     refine cj _ _ ?_
     refine wp_seq_k fun K17 cu=>dJ (fun θ=>[⟨none,none,6,pq U⟩,⟨none,none,7,pq R⟩,⟨none,none,14,pq b⟩,⟨none,none,15,pq d⟩,⟨some 0,none,140,.agg #[i6 x,i6 Z]⟩,⟨some 1,none,141,.agg #[i6 m,i6 Y]⟩,⟨some 4,none,8,i6 0⟩]) (fun E θ=>.box d [i6 m,i6 Y] 43::.box b [i6 x,i6 Z] 43::.row ac X (l.map eW) 43 2::(bif E 3 then .box R [i6 m,i6 Y] 43 else .box R [i6 0,i6 0] 43)::(bif E 2 then .box U [i6 x,i6 Z] 43 else .box U [i6 0,i6 0] 43)::Lf) [] (fun a w=>Has 142 a [(6,pq U),(7,pq R),(8,i6 0)]∧Ctx G (.box d [i6 m,i6 Y] 43::.box b [i6 x,i6 Z] 43::.row ac X (l.map eW) 43 2::.box R [i6 m,i6 Y] 43::.box U [i6 x,i6 Z] 43::Lf) w) aY (by kernel_rfl) (by kernel_rfl) (eY.of hf ⟨rfl,rfl,rfl,rfl,trivial,trivial,trivial,trivial⟩) hc ⟨?_,?_,?_,?_,?_,trivial⟩ ?_ ?_
     ·intro E θ a w hD hi hp he hc
      have hf:=he.h0.mT he 2 rfl
      refine zN hf hc jW m1 rfl fun a w hf hc=>zD θ he hi hf 4 rfl rfl rfl hc
     ·intro E θ a w hD hi hp he hc
      have hf:=he.h0.mT he 3 rfl
      refine zN hf hc jW m0 rfl fun a w hf hc=>zD θ he hi hf 5 rfl rfl rfl hc
     ·intro E θ a w hD hi hp he hc
      have e0:=hp.o 0 rfl
      try dsimp only at hc
      rw [hi] at hc
      have hf:=(he.h0.mT he 0 rfl).mP he 4 rfl e0
      refine zW hf hc jU u4 rfl fun w hc=>zG θ he hi hf rfl ?_
      try dsimp only
      rw [aU E 2]
      exact hc
     ·intro E θ a w hD hi hp he hc
      have e1:=hp.o 1 rfl
      try dsimp only at hc
      rw [hi] at hc
      have hf:=(he.h0.mT he 1 rfl).mP he 5 rfl e1
      refine zW hf hc jU u3 rfl fun w hc=>zG θ he hi hf rfl ?_
      try dsimp only
      rw [aU E 3]
      exact hc
     ·intro E θ a w hD hi hp he hc
      have hf:=he.h0
      refine sp 1 hf rfl fun a hf=>zD θ he hi hf 6 rfl rfl rfl hc
     ·intro E θ a w an he hc
      have hf:=he.h0
      have e2:=an 2 rfl
      have e3:=an 3 rfl
      have e4:=an 4 rfl
      replace hf:=hf.more he 6 rfl (onP e4)
      replace hf:=hf.more he 1 rfl (onT)
      replace hf:=hf.more he 0 rfl (onT)
      try dsimp only at hc
      rw [e2,e3] at hc
      exact ⟨hf.kp rfl,hc⟩
     rintro a w ⟨hf,hc⟩
     refine cu _ _ ?_
     refine wp_ret ?_
     obtain rfl:=sj hF
     replace hc:=((((hc.drop k2).drop k1).drop k0).pick k0).pick k1
     exact yE (by simp) rfl Tryz.results48 hf hc (dQ (vs:=[i6 x,i6 Z]) jW rfl rfl (cA (n:=2) m0 rfl)) (dQ (vs:=[i6 m,i6 Y]) jW rfl rfl (cA (n:=2) m1 rfl)) (show jV _ 8=_ from rfl) ⟨rfl,((hc.drop k1).drop k0)⟩
   have db:∀ r,a5=.out r→r=t:=by
    rintro r rfl
    exact sj hF
   refine cX N (cV (S:=S13) (x:=a5) ?_ N (0,0,0,0,0) _ _ ⟨aa,z,hf.kp rfl,hc⟩ bm)
   clear hF hf hc
   rintro ⟨V,x,Z,m,Y⟩ bc a w KB13 ⟨ac,X,hf,hc⟩ hF ak bz
   unfold fP at hF
   refine wp_seq_k fun K18 c0=>zS fun K h=>sp 2 hf rfl fun a hf=>zP hf rfl (bL Tryz.underlying160 rfl) fun a hf=>sp 1 hf rfl fun a hf=>zT h ?_
   refine zI hf rfl hF ?_ ?_ <;> clear hF <;> intro hF
   ·refine wp_skip ?_
    refine c0 _ _ ?_
    refine wp_seq_k fun K20 ct=>?_
    have am:∀ (ay:Int) (av:Int) (au:Int) (aq:Int) (ar:Option Addr) (az:Nat) a w,Has 142 a [(0,.slice I M.length B),(1,.slice J O.length H),(2,i6 rule),(6,pq U),(7,pq R),(10,.slice ar l.length az),(14,pq b),(15,pq d),(16,i6 V)]→Ctx G (.box d [i6 au,i6 aq] 43::.box b [i6 ay,i6 av] 43::.row ar az (l.map eW) 43 2::.box R [i6 0,i6 0] 43::.box U [i6 0,i6 0] 43::Lf) w→gX N V ay av au aq=some bc→K20 a w:=by
     repeat (clear hF)
     repeat (clear hc)
     repeat (clear hf)
     intro ay av au aq ar az a w hf hc hF
     unfold gX at hF
     refine ct _ _ ?_
     refine bR ?_
     refine sp 3 hf rfl fun a hf=>aP ?_
     exact bz (W (V + 1),ay,av,au,aq) _ _ (sj hF).symm ⟨ar,az,hf.kp rfl,hc⟩
    refine wp_block ?_
    refine zS fun K h=>sp 5 hf rfl fun a hf=>?_
    obtain ⟨a9,b7,hF⟩:=aA hF
    obtain ⟨g,rfl,qa,qr⟩:=nT hc m2 b7
    refine zP hf rfl (pIA Tryz.underlying160 jU rfl rfl qa) fun a hf=>zE hf hc rfl (kG (vs:=[i6 a9.N,i6 a9.D]) jW rfl rfl (xO (sz:=2) (i:=V.toNat) m2 qr (n:=2) (o':=0) rfl)) fun a w hf hc=>?_
    obtain ⟨p,bf,hF⟩:=aA hF
    refine zQ (v:=.tuple #[.bool p.1,i6 p.2]) hf hc aKq rfl (fun w hc=>uA M O rule a9 q s hc bf) fun a w hf hc=>sp 5 hf rfl fun a hf=>zT h ?_
    refine wp_seq_k fun K22 cn=>zS fun K h=>sp 3 hf rfl fun a hf=>cP 3 (fun a=>Has 142 a [(0,.slice I M.length B),(1,.slice J O.length H),(2,i6 rule),(6,pq U),(7,pq R),(10,.slice (some ⟨g,0,none⟩) l.length X),(14,pq b),(15,pq d),(16,i6 V),(17,.bool p.1),(18,i6 p.2),(77,i6 p.2),(78,.bool (p.2 != 0)),(79,.bool (p.2 != 0)),(82,.bool ((p.2 != 0) || (!p.1)))]) hc ?_ ?_
    ·cases hb:(p.2 != 0)
     ·rw [hb] at hf
      refine sp 3 hf rfl fun a hf=>aP ⟨hf.kp rfl,hc⟩
     ·rw [hb] at hf
      refine stS hf rfl rfl rfl fun a hf=>stS hf rfl rfl rfl fun a hf=>sp 1 hf rfl fun a hf=>aP ⟨hf.kp rfl,hc⟩
    intro a w ⟨hf,hc⟩
    refine zT h ?_
    refine zI hf rfl hF ?_ ?_ <;> clear hF <;> intro hF
    ·refine wp_exit ?_
     refine bE ?_
     refine eX ?_
     exact am x Z m Y (some ⟨g,0,none⟩) X _ _  (hf.kp rfl) hc hF
    ·refine wp_skip ?_
     refine cn _ _ ?_
     refine wp_seq_k fun K24 c9=>?_
     have a6:∀ (af:Int) (aj:Int) a w,Has 142 a [(0,.slice I M.length B),(1,.slice J O.length H),(2,i6 rule),(6,pq U),(7,pq R),(10,.slice (some ⟨g,0,none⟩) l.length X),(14,pq b),(15,pq d),(16,i6 V)]→Ctx G (.box d [i6 m,i6 Y] 43::.box b [i6 af,i6 aj] 43::.row (some ⟨g,0,none⟩) X (l.map eW) 43 2::.box R [i6 0,i6 0] 43::.box U [i6 0,i6 0] 43::Lf) w→jK N l V m Y af aj=some bc→K24 a w:=by
      repeat (clear hF)
      repeat (clear hc)
      repeat (clear hf)
      intro af aj a w hf hc hF
      unfold jK at hF
      refine c9 _ _ ?_
      refine wp_seq_k fun K25 cx=>?_
      obtain ⟨c3,bb,hF⟩:=aA hF
      refine cQ hc aY (by kernel_rfl) ?_
      refine qE hf rfl rfl rfl (Pu.ev (pFA lT rfl)) fun a hf=>qE hf rfl rfl rfl (bP bB rfl (bZ m0 rfl)) fun a hf=>qE hf rfl rfl rfl (Pu.ev (pEq rfl rfl)) fun a hf=>qE hf rfl rfl rfl (Pu.ev (pM rfl)) fun a hf=>aBd 18 (fun a=>Has 142 a [(0,.slice I M.length B),(1,.slice J O.length H),(2,i6 rule),(6,pq U),(7,pq R),(10,.slice (some ⟨g,0,none⟩) l.length X),(14,pq b),(15,pq d),(16,i6 V),(109,.pointer (some ⟨d,1,none⟩)),(110,i6 Y),(111,.bool (Y == 0)),(112,.bool (Y == 0)),(130,.bool c3)]) ?_ ?_
      ·cases hb:(Y == 0)
       ·rw [hb] at hf
        have hF:=fN hb bb
        obtain ⟨di,br,hF⟩:=aA hF
        obtain ⟨bt,cg⟩:=cC hc m2 br
        obtain ⟨dn,bn,hF⟩:=aA hF
        obtain ⟨cb,b1⟩:=cC hc m2 bn
        refine qE hf rfl rfl rfl (Pu.ev (pM rfl)) fun a hf=>qE hf rfl rfl rfl (Pu.ev (pM rfl)) fun a hf=>qE hf rfl rfl rfl (Pu.ev (pIA Tryz.underlying160 jU rfl rfl bt)) fun a hf=>qE hf rfl rfl rfl (Pu.ev (pFA nU rfl)) fun a hf=>qE hf rfl rfl rfl (bP bB rfl (bX (sz:=2) (i:=V.toNat) (j:=0) m2 cg rfl)) fun a hf=>qE hf rfl rfl rfl (Pu.ev (pFA lT rfl)) fun a hf=>qE hf rfl rfl rfl (bP bB rfl (bZ m0 rfl)) fun a hf=>qE hf rfl rfl rfl (Pu.ev (yJ rfl rfl)) fun a hf=>qE hf rfl rfl rfl (Pu.ev (pFA nU rfl)) fun a hf=>qE hf rfl rfl rfl (bP bB rfl (bZ m0 rfl)) fun a hf=>qE hf rfl rfl rfl (Pu.ev (pM rfl)) fun a hf=>qE hf rfl rfl rfl (Pu.ev (pM rfl)) fun a hf=>qE hf rfl rfl rfl (Pu.ev (pIA Tryz.underlying160 jU rfl rfl cb)) fun a hf=>?_
        refine qE hf rfl rfl rfl (Pu.ev (pFA lT rfl)) fun a hf=>qE hf rfl rfl rfl (bP bB rfl (bX (sz:=2) (i:=V.toNat) (j:=1) m2 b1 rfl)) fun a hf=>qE hf rfl rfl rfl (Pu.ev (yJ rfl rfl)) fun a hf=>qE hf rfl rfl rfl (Pu.ev (pGt rfl rfl)) fun a hf=>qE hf rfl rfl rfl (Pu.ev (pPf rfl rfl)) fun a hf=>?_
        obtain rfl:=sj hF
        exact rU (hf.kp rfl)
       ·rw [hb] at hf
        have hF:=fO hb bb
        obtain rfl:=sj hF
        refine qS hf rfl rfl rfl fun a hf=>qS hf rfl rfl rfl fun a hf=>qS hf rfl rfl rfl fun a hf=>qS hf rfl rfl rfl fun a hf=>qS hf rfl rfl rfl fun a hf=>qS hf rfl rfl rfl fun a hf=>qS hf rfl rfl rfl fun a hf=>qS hf rfl rfl rfl fun a hf=>qS hf rfl rfl rfl fun a hf=>qS hf rfl rfl rfl fun a hf=>qS hf rfl rfl rfl fun a hf=>qS hf rfl rfl rfl fun a hf=>qS hf rfl rfl rfl fun a hf=>?_
        refine qS hf rfl rfl rfl fun a hf=>qS hf rfl rfl rfl fun a hf=>qS hf rfl rfl rfl fun a hf=>qS hf rfl rfl rfl fun a hf=>qE hf rfl rfl rfl (Pu.ev (pPt rfl rfl)) fun a hf=>rU (hf.kp rfl)
      intro a hf
      intro w hc
      refine cx _ _ ?_
      refine zI hf rfl hF ?_ ?_ <;> clear hF <;> intro hF
      ·refine bR ?_
       refine sp 2 hf rfl fun a hf=>?_
       obtain ⟨a0,b4,hF⟩:=aA hF
       obtain ⟨b0,ca⟩:=cC hc m2 b4
       refine zP hf rfl (pIA Tryz.underlying160 jU rfl rfl b0) fun a hf=>zE hf hc rfl (kG (vs:=[i6 a0.N,i6 a0.D]) jW rfl rfl (xO (sz:=2) (i:=V.toNat) m2 ca (n:=2) (o':=0) rfl)) fun a w hf hc=>zW hf hc jU u0 rfl fun w hc=>aP ?_
       exact am af aj a0.N a0.D (some ⟨g,0,none⟩) X _ _  (hf.kp rfl) hc hF
      ·refine wp_skip ?_
       exact am af aj m Y (some ⟨g,0,none⟩) X _ _  (hf.kp rfl) hc hF
     refine wp_seq_k fun K26 c8=>?_
     obtain ⟨c7,a7,hF⟩:=aA hF
     refine cQ hc aY (by kernel_rfl) ?_
     refine qE hf rfl rfl rfl (Pu.ev (pFA lT rfl)) fun a hf=>qE hf rfl rfl rfl (bP bB rfl (bZ m1 rfl)) fun a hf=>qE hf rfl rfl rfl (Pu.ev (pEq rfl rfl)) fun a hf=>qE hf rfl rfl rfl (Pu.ev (pM rfl)) fun a hf=>aBd 18 (fun a=>Has 142 a [(0,.slice I M.length B),(1,.slice J O.length H),(2,i6 rule),(6,pq U),(7,pq R),(10,.slice (some ⟨g,0,none⟩) l.length X),(14,pq b),(15,pq d),(16,i6 V),(83,.pointer (some ⟨b,1,none⟩)),(84,i6 Z),(85,.bool (Z == 0)),(86,.bool (Z == 0)),(104,.bool c7)]) ?_ ?_
     ·cases hb:(Z == 0)
      ·rw [hb] at hf
       have hF:=fN hb a7
       obtain ⟨dj,bu,hF⟩:=aA hF
       obtain ⟨bk,bd⟩:=cC hc m2 bu
       obtain ⟨dc,bs,hF⟩:=aA hF
       obtain ⟨b8,b2⟩:=cC hc m2 bs
       refine qE hf rfl rfl rfl (Pu.ev (pM rfl)) fun a hf=>qE hf rfl rfl rfl (Pu.ev (pM rfl)) fun a hf=>qE hf rfl rfl rfl (Pu.ev (pIA Tryz.underlying160 jU rfl rfl bk)) fun a hf=>qE hf rfl rfl rfl (Pu.ev (pFA nU rfl)) fun a hf=>qE hf rfl rfl rfl (bP bB rfl (bX (sz:=2) (i:=V.toNat) (j:=0) m2 bd rfl)) fun a hf=>qE hf rfl rfl rfl (Pu.ev (pFA lT rfl)) fun a hf=>qE hf rfl rfl rfl (bP bB rfl (bZ m1 rfl)) fun a hf=>qE hf rfl rfl rfl (Pu.ev (yJ rfl rfl)) fun a hf=>qE hf rfl rfl rfl (Pu.ev (pFA nU rfl)) fun a hf=>qE hf rfl rfl rfl (bP bB rfl (bZ m1 rfl)) fun a hf=>qE hf rfl rfl rfl (Pu.ev (pM rfl)) fun a hf=>qE hf rfl rfl rfl (Pu.ev (pM rfl)) fun a hf=>qE hf rfl rfl rfl (Pu.ev (pIA Tryz.underlying160 jU rfl rfl b8)) fun a hf=>?_
       refine qE hf rfl rfl rfl (Pu.ev (pFA lT rfl)) fun a hf=>qE hf rfl rfl rfl (bP bB rfl (bX (sz:=2) (i:=V.toNat) (j:=1) m2 b2 rfl)) fun a hf=>qE hf rfl rfl rfl (Pu.ev (yJ rfl rfl)) fun a hf=>qE hf rfl rfl rfl (Pu.ev (pLt rfl rfl)) fun a hf=>qE hf rfl rfl rfl (Pu.ev (pPf rfl rfl)) fun a hf=>?_
       obtain rfl:=sj hF
       exact rU (hf.kp rfl)
      ·rw [hb] at hf
       have hF:=fO hb a7
       obtain rfl:=sj hF
       refine qS hf rfl rfl rfl fun a hf=>qS hf rfl rfl rfl fun a hf=>qS hf rfl rfl rfl fun a hf=>qS hf rfl rfl rfl fun a hf=>qS hf rfl rfl rfl fun a hf=>qS hf rfl rfl rfl fun a hf=>qS hf rfl rfl rfl fun a hf=>qS hf rfl rfl rfl fun a hf=>qS hf rfl rfl rfl fun a hf=>qS hf rfl rfl rfl fun a hf=>qS hf rfl rfl rfl fun a hf=>qS hf rfl rfl rfl fun a hf=>qS hf rfl rfl rfl fun a hf=>?_
       refine qS hf rfl rfl rfl fun a hf=>qS hf rfl rfl rfl fun a hf=>qS hf rfl rfl rfl fun a hf=>qS hf rfl rfl rfl fun a hf=>qE hf rfl rfl rfl (Pu.ev (pPt rfl rfl)) fun a hf=>rU (hf.kp rfl)
     intro a hf
     intro w hc
     refine c8 _ _ ?_
     refine zI hf rfl hF ?_ ?_ <;> clear hF <;> intro hF
     ·refine bR ?_
      refine sp 2 hf rfl fun a hf=>?_
      obtain ⟨a3,b9,hF⟩:=aA hF
      obtain ⟨bj,cc⟩:=cC hc m2 b9
      refine zP hf rfl (pIA Tryz.underlying160 jU rfl rfl bj) fun a hf=>zE hf hc rfl (kG (vs:=[i6 a3.N,i6 a3.D]) jW rfl rfl (xO (sz:=2) (i:=V.toNat) m2 cc (n:=2) (o':=0) rfl)) fun a w hf hc=>zW hf hc jU u1 rfl fun w hc=>aP ?_
      exact a6 a3.N a3.D _ _  (hf.kp rfl) hc hF
     ·refine wp_skip ?_
      exact a6 x Z _ _  (hf.kp rfl) hc hF
   ·refine wp_exit ?_
    refine bE ?_
    refine bE ?_
    have he:=sj hF
    rw [← he] at ak
    refine eX ?_
    exact bi _ _ _ ak ⟨ac,X,hf.kp rfl,hc⟩
  have dg:∀ r,x9=.out r→r=t:=by
   rintro r rfl
   exact sj hF
  refine cX N (cV (S:=S9) (x:=x9) ?_ N (([(⟨2000000,1⟩:aM)]:List aM),0) _ _ ⟨(some ⟨ci,0,none⟩),1,hf.kp rfl,hc⟩ cv)
  clear hF hf hc
  rintro ⟨l,a1⟩ ck a w KB9 ⟨aa,z,hf,hc⟩ hF a2 c2
  unfold gA at hF
  refine wp_seq_k fun K27 c5=>zS fun K h=>sp 2 hf rfl fun a hf=>zP hf rfl (bL Tryz.underlying22 rfl) fun a hf=>sp 1 hf rfl fun a hf=>zT h ?_
  refine zI hf rfl hF ?_ ?_ <;> clear hF <;> intro hF
  ·refine wp_skip ?_
   refine c5 _ _ ?_
   refine wp_seq_k fun K29 c4=>wp_block ?_
   refine zS fun K h=>sp 1 hf rfl fun a hf=>zT h ?_
   refine oV fun K31 c1=>wp_block ?_
   obtain ⟨ba,b5,hF⟩:=aA hF
   let S32:((List aM) × Int)→Act→World→Prop:=(fun (zz:(List aM) × Int) a w=>∃ (y:Option Addr) (u:Nat),Has 142 a [(0,.slice I M.length B),(1,.slice J O.length H),(2,i6 rule),(6,pq U),(7,pq R),(10,.slice y zz.1.length u),(11,i6 a1),(12,i6 zz.2)]∧Ctx G (.row y u (zz.1.map eW) 43 2::.box R [i6 0,i6 0] 43::.box U [i6 0,i6 0] 43::Lf) w)
   have bg:∀ (zz:(List aM) × Int) a w,ba=.go zz→S32 zz a w→K31 a w:=by
    rintro ⟨ai,k⟩ a w rfl ⟨y,u,hf,hc⟩
    replace hF:=bQ hF
    refine c1 _ _ ?_
    refine c4 _ _ ?_
    refine bR ?_
    refine sp 3 hf rfl fun a hf=>aP ?_
    exact c2 (ai,W (a1 + 1)) _ _ (sj hF).symm ⟨y,u,hf.kp rfl,hc⟩
   have da:∀ r,ba=.out r→r=ck:=by
    rintro r rfl
    exact sj hF
   refine cX N (cV (S:=S32) (x:=ba) ?_ N (l,0) _ _ ⟨aa,z,hf.kp rfl,hc⟩ b5)
   clear hF hf hc
   rintro ⟨ai,k⟩ cf a w KB32 ⟨y,u,hf,hc⟩ hF ag b3
   unfold eU at hF
   refine wp_seq_k fun K33 cr=>zS fun K h=>sp 2 hf rfl fun a hf=>zT h ?_
   refine zI hf rfl hF ?_ ?_ <;> clear hF <;> intro hF
   ·refine wp_skip ?_
    refine cr _ _ ?_
    refine wp_seq_k fun K35 cp=>?_
    have a4:∀ (ad:List aM) (ax:Option Addr) (ap:Nat) a w,Has 142 a [(0,.slice I M.length B),(1,.slice J O.length H),(2,i6 rule),(6,pq U),(7,pq R),(10,.slice ax ad.length ap),(11,i6 a1),(12,i6 k)]→Ctx G (.row ax ap (ad.map eW) 43 2::.box R [i6 0,i6 0] 43::.box U [i6 0,i6 0] 43::Lf) w→jS N k ad=some cf→K35 a w:=by
     repeat (clear hF)
     repeat (clear hc)
     repeat (clear hf)
     intro ad ax ap a w hf hc hF
     unfold jS at hF
     refine cp _ _ ?_
     refine bR ?_
     refine sp 3 hf rfl fun a hf=>aP ?_
     exact b3 (ad,W (k + 1)) _ _ (sj hF).symm ⟨ax,ap,hf.kp rfl,hc⟩
    refine wp_block ?_
    refine zS fun K h=>sp 3 hf rfl fun a hf=>?_
    obtain ⟨a8,b6,hF⟩:=aA hF
    obtain ⟨dm,o,bq,qp⟩:=s.atm b6
    refine zP hf rfl (pIA Tryz.underlying22 cY rfl rfl bq) fun a hf=>zE hf hc rfl (bP bB rfl (bK (j:=0) qp rfl)) fun a w hf hc=>sp 2 hf rfl fun a hf=>zQ (v:=i6 (aX rule (W (a8 + k)))) hf hc wU rfl (fun w hc=>jB rule (W (a8 + k)) hc rfl) fun a w hf hc=>sp 1 hf rfl fun a hf=>zT h ?_
    refine zS fun K h=>sp 2 hf rfl fun a hf=>zT h ?_
    refine zI hf rfl hF ?_ ?_ <;> clear hF <;> intro hF
    ·refine bR ?_
     refine sp 3 hf rfl fun a hf=>?_
     obtain ⟨cm,bp,hF⟩:=aA hF
     obtain ⟨df,dd,bv,bx⟩:=q.atm bp
     refine zP hf rfl (pIA Tryz.underlying22 cY rfl rfl bv) fun a hf=>zE hf hc rfl (bP bB rfl (bK (j:=0) bx rfl)) fun a w hf hc=>sp 2 hf rfl fun a hf=>?_
     obtain ⟨ab,cd,hF⟩:=aA hF
     refine zQ (v:=.agg #[i6 ab.N,i6 ab.D]) hf hc en_85 rfl (fun w hc=>zZ (W (2 * cm)) (aX rule (W (a8 + k))) hc cd) fun a w hf hc=>gV (rows:=([ab]:List aM).map eW) (vs:=[(0,.agg #[i6 ab.N,i6 ab.D])]) hf hc rfl rfl aFx rfl ⟨rfl,rfl,rfl,trivial⟩ rfl rfl fun dk a w hf hc=>?_
     obtain ⟨un,cq,hF⟩:=aA hF
     refine iV (xs:=ai) (ys:=([ab]:List aM)) hf hc rfl rfl aFx rfl rfl rfl rfl rfl xE (fA hc m0) (fun _ _=>u1) (by simpa using cB cq) fun cz c6 a w hf hc=>sp 1 hf rfl fun a hf=>aP ?_
     replace hc:=hc.drop k0
     exact a4 (ai++[ab]) cz c6 _ _  (hf.kp rfl) hc hF
    ·refine wp_skip ?_
     exact a4 ai y u _ _  (hf.kp rfl) hc hF
   ·refine wp_exit ?_
    refine bE ?_
    refine bE ?_
    have he:=sj hF
    rw [← he] at ag
    refine eX ?_
    exact bg _ _ _ ag ⟨y,u,hf.kp rfl,hc⟩
  ·refine wp_exit ?_
   refine bE ?_
   refine bE ?_
   have he:=sj hF
   rw [← he] at a2
   refine eX ?_
   exact cy _ _ _ a2 ⟨aa,z,hf.kp rfl,hc⟩

def lO (N:Nat) (p_:pV) (B:Int) (n:Int):Option (Bool) :=
 Option.bind (dL N p_.rule B n) fun r=>
 Option.bind (dL N p_.rule B (W (n + 1))) fun D=>
 some (((decide (r.by_≤0)) || (!(aV p_.divisor r))) && (!(aV D p_.divisor)))
theorem uB {N:Nat} {G:bA} {Lf:List Ent} {w:World} (p_:pV) (B:Int) (n:Int)   (hc:Ctx G (Lf) w) {X:Bool} (hF:lO N p_ B n=some X):Calls Tryz.prog 86 #[.agg #[i6 p_.rule,i6 p_.divisor.claim,i6 p_.divisor.by_],i6 B,i6 n] w (fun e w=>e=.returned (.bool X)∧Ctx G (Lf) w):=by
 unfold lO at hF
 refine cG Tryz.func86 rfl Tryz.ntmps86 rfl fun a hf=>zS fun K h=>zB hf hc rfl fun H a w hf hc=>sp 1 hf rfl fun a hf=>zT h ?_
 refine wp_seq_k fun K2 h2=>?_
 obtain ⟨r,hr,hF⟩:=aA hF
 obtain ⟨D,Y,hF⟩:=aA hF
 replace hc:=hc.nilRow 0 0
 replace hc:=hc.nilRow 0 0
 refine dJ (fun θ=>[⟨none,none,1,i6 B⟩,⟨none,none,2,i6 n⟩,⟨none,none,3,pq H⟩,⟨some 0,none,9,pq H⟩,⟨some 1,none,10,i6 p_.rule⟩,⟨some 2,none,11,i6 B⟩,⟨some 3,none,12,i6 n⟩,⟨some 4,none,13,.agg #[i6 r.claim,i6 r.by_]⟩,⟨some 5,none,14,pq H⟩,⟨some 6,none,15,i6 p_.rule⟩,⟨some 7,none,16,i6 B⟩,⟨some 8,none,17,i6 n⟩,⟨some 9,none,18,i6 (W (n + 1))⟩,⟨some 10,none,19,.agg #[i6 D.claim,i6 D.by_]⟩,⟨some 11,none,7,.pointer (some ⟨(θ 88).b,0,none⟩)⟩,⟨some 12,none,8,.pointer (some ⟨(θ 96).b,0,none⟩)⟩]) (fun E θ=>(bif E 14 then .box (θ 96).b [i6 D.claim,i6 D.by_] 122 else bif E 12 then .box (θ 96).b [i6 0,i6 0] 122 else .row none 0 [] 0 0)::(bif E 13 then .box (θ 88).b [i6 r.claim,i6 r.by_] 122 else bif E 11 then .box (θ 88).b [i6 0,i6 0] 122 else .row none 0 [] 0 0)::.box H [i6 p_.rule,i6 p_.divisor.claim,i6 p_.divisor.by_] 164::Lf) [(13,11),(14,12)] (fun a w=>∃ (I:Nat) (R:Nat),Has 37 a [(3,pq H),(7,pq I),(8,pq R)]∧Ctx G (.box R [i6 D.claim,i6 D.by_] 122::.box I [i6 r.claim,i6 r.by_] 122::.box H [i6 p_.rule,i6 p_.divisor.claim,i6 p_.divisor.by_] 164::Lf) w) aY (by kernel_rfl) (by kernel_rfl) (eY.of hf ⟨rfl,rfl,rfl,trivial,trivial,trivial,trivial,trivial,trivial,trivial,trivial,trivial,trivial,trivial,trivial,trivial,trivial⟩) hc ⟨?_,?_,?_,?_,?_,?_,?_,?_,?_,?_,?_,?_,?_,?_,?_,trivial⟩ ?_ ?_
 ·intro E θ a w hD hi hp he hc
  have hf:=he.h0.mT he 2 rfl
  refine zP hf rfl (pFA aEf rfl) fun a hf=>zD θ he hi hf 3 rfl rfl rfl hc
 ·intro E θ a w hD hi hp he hc
  have e0:=hp.o 0 rfl
  have hf:=he.h0.mP he 3 rfl e0
  refine zL hf hc aKy m2 rfl fun a w hf hc=>zD θ he hi hf 4 rfl rfl rfl hc
 ·intro E θ a w hD hi hp he hc
  have hf:=he.h0.mT he 0 rfl
  refine sp 1 hf rfl fun a hf=>zD θ he hi hf 5 rfl rfl rfl hc
 ·intro E θ a w hD hi hp he hc
  have hf:=he.h0.mT he 1 rfl
  refine sp 1 hf rfl fun a hf=>zD θ he hi hf 6 rfl rfl rfl hc
 ·intro E θ a w hD hi hp he hc
  have e1:=hp.o 1 rfl
  have e2:=hp.o 2 rfl
  have e3:=hp.o 3 rfl
  have hf:=((he.h0.mP he 4 rfl e1).mP he 5 rfl e2).mP he 6 rfl e3
  refine zQ (v:=.agg #[i6 r.claim,i6 r.by_]) hf hc yX rfl (fun w hc=>fF p_.rule B n hc hr) fun a w hf hc=>zD θ he hi hf 7 rfl rfl rfl hc
 ·intro E θ a w hD hi hp he hc
  have hf:=he.h0.mT he 2 rfl
  refine zP hf rfl (pFA aEf rfl) fun a hf=>zD θ he hi hf 8 rfl rfl rfl hc
 ·intro E θ a w hD hi hp he hc
  have e5:=hp.o 5 rfl
  have hf:=he.h0.mP he 8 rfl e5
  refine zL hf hc aKy m2 rfl fun a w hf hc=>zD θ he hi hf 9 rfl rfl rfl hc
 ·intro E θ a w hD hi hp he hc
  have hf:=he.h0.mT he 0 rfl
  refine sp 1 hf rfl fun a hf=>zD θ he hi hf 10 rfl rfl rfl hc
 ·intro E θ a w hD hi hp he hc
  have hf:=he.h0.mT he 1 rfl
  refine sp 1 hf rfl fun a hf=>zD θ he hi hf 11 rfl rfl rfl hc
 ·intro E θ a w hD hi hp he hc
  have e8:=hp.o 8 rfl
  have hf:=he.h0.mP he 11 rfl e8
  refine sp 1 hf rfl fun a hf=>zD θ he hi hf 12 rfl rfl rfl hc
 ·intro E θ a w hD hi hp he hc
  have e6:=hp.o 6 rfl
  have e7:=hp.o 7 rfl
  have e9:=hp.o 9 rfl
  have hf:=((he.h0.mP he 9 rfl e6).mP he 10 rfl e7).mP he 12 rfl e9
  refine zQ (v:=.agg #[i6 D.claim,i6 D.by_]) hf hc yX rfl (fun w hc=>fF p_.rule B (W (n + 1)) hc Y) fun a w hf hc=>zD θ he hi hf 13 rfl rfl rfl hc
 ·intro E θ a w hD hi hp he hc
  have U:=hD.f 0 rfl hi
  try dsimp only at hc
  rw [hi,U] at hc
  have hf:=he.h0
  refine zA hf hc sM rfl fun d a w hf hc=>aP ?_
  refine bV ?_
  intro ds u V
  replace hc:=((hc.drop k2).pick k0).pick k1
  refine ⟨(fY θ 88 ⟨d,none,0,(fun _=>(none,0))⟩),he.put hi V hf rfl [] trivial ⟨qq,qq,qq,qq,qq,qq,qq,qq,qq,qq,qq,qq,qq,qq,qq,qq,trivial⟩,?_⟩
  try dsimp only
  rw [aU E 11,eO 11 U rfl]
  exact hc
 ·intro E θ a w hD hi hp he hc
  have S:=hD.f 1 rfl hi
  try dsimp only at hc
  rw [hi,S] at hc
  have hf:=he.h0
  refine zA hf hc sM rfl fun Z a w hf hc=>aP ?_
  refine bV ?_
  intro ds u V
  replace hc:=hc.drop k1
  refine ⟨(fY θ 96 ⟨Z,none,0,(fun _=>(none,0))⟩),he.put hi V hf rfl [] trivial ⟨qq,qq,qq,qq,qq,qq,qq,qq,qq,qq,qq,qq,qq,qq,qq,qq,trivial⟩,?_⟩
  try dsimp only
  rw [aU E 12,eO 12 S rfl]
  exact hc
 ·intro E θ a w hD hi hp he hc
  have e4:=hp.o 4 rfl
  have M:=hp.o 11 rfl
  try dsimp only at hc
  rw [M,hi] at hc
  have hf:=(he.h0.mP he 7 rfl e4).mP he 14 rfl M
  refine zW hf hc mJ u1 rfl fun w hc=>zG θ he hi hf rfl ?_
  try dsimp only
  rw [dH 13 M,aU E 13]
  exact hc
 ·intro E θ a w hD hi hp he hc
  have g:=hp.o 10 rfl
  have J:=hp.o 12 rfl
  try dsimp only at hc
  rw [J,hi] at hc
  have hf:=(he.h0.mP he 13 rfl g).mP he 15 rfl J
  refine zW hf hc mJ u0 rfl fun w hc=>zG θ he hi hf rfl ?_
  try dsimp only
  rw [dH 14 J,aU E 14]
  exact hc
 ·intro E θ a w O he hc
  have hf:=he.h0
  have M:=O 11 rfl
  have J:=O 12 rfl
  have U:=O 13 rfl
  have S:=O 14 rfl
  replace hf:=hf.more he 15 rfl (onP J)
  replace hf:=hf.more he 14 rfl (onP M)
  replace hf:=hf.more he 2 rfl (onT)
  try dsimp only at hc
  rw [M,J,U,S] at hc
  exact ⟨(θ 88).b,(θ 96).b,hf.kp rfl,hc⟩
 rintro a w ⟨I,R,hf,hc⟩
 refine h2 _ _ ?_
 refine zS fun K h=>zP hf rfl (pFA sT rfl) fun a hf=>zL hf hc bB m1 rfl fun a w hf hc=>sp 2 hf rfl fun a hf=>cP 6 (fun a=>Has 37 a [(3,pq H),(7,pq I),(8,pq R),(20,.pointer (some ⟨I,1,none⟩)),(21,i6 r.by_),(22,.bool (decide (r.by_≤0))),(23,.bool (decide (r.by_≤0))),(29,.bool ((decide (r.by_≤0)) || (!(aV p_.divisor r))))]) hc ?_ ?_
 ·cases hb:(decide (r.by_≤0))
  ·rw [hb] at hf
   refine zP hf rfl (pFA aEn rfl) fun a hf=>zN hf hc hO m2 rfl fun a w hf hc=>zN hf hc hO m1 rfl fun a w hf hc=>zQ (v:=.bool (aV p_.divisor r)) hf hc aBj rfl (fun w hc=>eG p_.divisor r hc rfl) fun a w hf hc=>sp 2 hf rfl fun a hf=>aP ⟨hf.kp rfl,hc⟩
  ·rw [hb] at hf
   refine stS hf rfl rfl rfl fun a hf=>stS hf rfl rfl rfl fun a hf=>stS hf rfl rfl rfl fun a hf=>stS hf rfl rfl rfl fun a hf=>stS hf rfl rfl rfl fun a hf=>sp 1 hf rfl fun a hf=>aP ⟨hf.kp rfl,hc⟩
 intro a w ⟨hf,hc⟩
 refine sp 1 hf rfl fun a hf=>cP 6 (fun a=>Has 37 a [(3,pq H),(7,pq I),(8,pq R),(20,.pointer (some ⟨I,1,none⟩)),(21,i6 r.by_),(22,.bool (decide (r.by_≤0))),(23,.bool (decide (r.by_≤0))),(29,.bool ((decide (r.by_≤0)) || (!(aV p_.divisor r)))),(30,.bool ((decide (r.by_≤0)) || (!(aV p_.divisor r)))),(36,.bool (((decide (r.by_≤0)) || (!(aV p_.divisor r))) && (!(aV D p_.divisor))))]) hc ?_ ?_
 ·cases hb:((decide (r.by_≤0)) || (!(aV p_.divisor r)))
  ·rw [hb] at hf
   refine stS hf rfl rfl rfl fun a hf=>stS hf rfl rfl rfl fun a hf=>stS hf rfl rfl rfl fun a hf=>stS hf rfl rfl rfl fun a hf=>stS hf rfl rfl rfl fun a hf=>sp 1 hf rfl fun a hf=>aP ⟨hf.kp rfl,hc⟩
  ·rw [hb] at hf
   refine zN hf hc hO m0 rfl fun a w hf hc=>zP hf rfl (pFA aEn rfl) fun a hf=>zN hf hc hO m2 rfl fun a w hf hc=>zQ (v:=.bool (aV D p_.divisor)) hf hc aBj rfl (fun w hc=>eG D p_.divisor hc rfl) fun a w hf hc=>sp 2 hf rfl fun a hf=>aP ⟨hf.kp rfl,hc⟩
 intro a w ⟨hf,hc⟩
 refine sp 1 hf rfl fun a hf=>zT h ?_
 refine wp_ret ?_
 obtain rfl:=sj hF
 replace hc:=((hc.drop k2).drop k1).drop k0
 exact zO1 Tryz.results86 hf rfl ⟨rfl,hc⟩

def gP (N:Nat) (I:List Int) (H:List Int) (rule:Int) (B:aM) (x:Int):Option (bH (Int) (Bool × Int)) :=
 cond (decide (x < ((H.length:Nat):Int)))
 (Option.bind (aZ H x) fun M=>
 Option.bind (aZ I x) fun J=>
 Option.bind (lO N (⟨rule,(⟨B.N,B.D⟩:aR)⟩:pV) J M) fun O=>
 cond (!O)
 (some (.ret (false,0)))
 (some (.cont (W (x + 1)))))
 (some (.brk x))
def oT (N:Nat) (H:List Int) (I:List Int) (rule:Int) (B:aM):Option (Bool × Int) :=
 Option.bind (lP N H I rule) fun r=>
 cond (r != 0)
 (some (false,r))
 (cond (((!(aQ B.N 1 1000000000)) || (!(aQ B.D 1 1000000000))) || (decide ((W (2000000 * B.D)) < B.N)))
 (some (false,4))
 (Option.bind (aT (fun J=>gP N H I rule B J) N 0) fun M=>
 exK M (fun J=>some (true,0)) some))
theorem zV {N:Nat} {G:bA} {Lf:List Ent} {w:World} (I:List Int) (H:List Int) (rule:Int) (B:aM) {R:Option Addr} {J:Nat} {M:Option Addr} {O:Nat} (X:Rd G 1 R J (I.map aD)) (V:Rd G 1 M O (H.map aD)) (hc:Ctx G (Lf) w) {Y:Bool × Int} (hF:oT N I H rule B=some Y):Calls Tryz.prog 49 #[.slice R I.length J,.slice M H.length O,i6 rule,.agg #[i6 B.N,i6 B.D]] w (fun e w=>e=.returned (.tuple #[.bool Y.1,i6 Y.2])∧Ctx G (Lf) w):=by
 unfold oT at hF
 refine cG Tryz.func49 rfl Tryz.ntmps49 rfl fun a hf=>zS fun K h=>zB hf hc rfl fun Z a w hf hc=>sp 2 hf rfl fun a hf=>zT h ?_
 refine zS fun K h=>sp 3 hf rfl fun a hf=>?_
 obtain ⟨r,hr,hF⟩:=aA hF
 refine zQ (v:=i6 r) hf hc aJd rfl (fun w hc=>qH I H rule X V hc hr) fun a w hf hc=>sp 1 hf rfl fun a hf=>zT h ?_
 refine wp_seq_k fun K3 h3=>wp_block ?_
 refine zS fun K h=>sp 3 hf rfl fun a hf=>zT h ?_
 refine zI hf rfl hF ?_ ?_ <;> clear hF <;> intro hF
 ·refine zS fun K h=>sp 3 hf rfl fun a hf=>zT h ?_
  refine wp_ret ?_
  refine bI ?_
  refine aN ?_
  obtain rfl:=sj hF
  replace hc:=hc.drop k0
  exact zO2 Tryz.results49 hf rfl rfl ⟨rfl,hc⟩
 ·refine zS fun K h=>zP hf rfl (pFA nU rfl) fun a hf=>zL hf hc bB m0 rfl fun a w hf hc=>zQ (v:=.bool (aQ B.N 1 1000000000)) hf hc pD rfl (fun w hc=>dO B.N 1 1000000000 hc rfl) fun a w hf hc=>sp 2 hf rfl fun a hf=>cP 5 (fun a=>Has 65 a [(0,.slice R I.length J),(1,.slice M H.length O),(2,i6 rule),(7,pq Z),(23,pq Z),(24,i6 B.N),(25,.bool (aQ B.N 1 1000000000)),(26,.bool (!(aQ B.N 1 1000000000))),(27,.bool (!(aQ B.N 1 1000000000))),(32,.bool ((!(aQ B.N 1 1000000000)) || (!(aQ B.D 1 1000000000))))]) hc ?_ ?_
  ·cases hb:(!(aQ B.N 1 1000000000))
   ·rw [hb] at hf
    refine zP hf rfl (pFA lT rfl) fun a hf=>zL hf hc bB m0 rfl fun a w hf hc=>zQ (v:=.bool (aQ B.D 1 1000000000)) hf hc pD rfl (fun w hc=>dO B.D 1 1000000000 hc rfl) fun a w hf hc=>sp 2 hf rfl fun a hf=>aP ⟨hf.kp rfl,hc⟩
   ·rw [hb] at hf
    refine stS hf rfl rfl rfl fun a hf=>stS hf rfl rfl rfl fun a hf=>stS hf rfl rfl rfl fun a hf=>stS hf rfl rfl rfl fun a hf=>sp 1 hf rfl fun a hf=>aP ⟨hf.kp rfl,hc⟩
  intro a w ⟨hf,hc⟩
  refine sp 1 hf rfl fun a hf=>cP 7 (fun a=>Has 65 a [(0,.slice R I.length J),(1,.slice M H.length O),(2,i6 rule),(7,pq Z),(23,pq Z),(24,i6 B.N),(25,.bool (aQ B.N 1 1000000000)),(26,.bool (!(aQ B.N 1 1000000000))),(27,.bool (!(aQ B.N 1 1000000000))),(32,.bool ((!(aQ B.N 1 1000000000)) || (!(aQ B.D 1 1000000000)))),(33,.bool ((!(aQ B.N 1 1000000000)) || (!(aQ B.D 1 1000000000)))),(40,.bool (((!(aQ B.N 1 1000000000)) || (!(aQ B.D 1 1000000000))) || (decide ((W (2000000 * B.D)) < B.N))))]) hc ?_ ?_
  ·cases hb:((!(aQ B.N 1 1000000000)) || (!(aQ B.D 1 1000000000)))
   ·rw [hb] at hf
    refine zP hf rfl (pFA nU rfl) fun a hf=>zL hf hc bB m0 rfl fun a w hf hc=>zP hf rfl (pFA lT rfl) fun a hf=>zL hf hc bB m0 rfl fun a w hf hc=>sp 3 hf rfl fun a hf=>aP ⟨hf.kp rfl,hc⟩
   ·rw [hb] at hf
    refine stS hf rfl rfl rfl fun a hf=>stS hf rfl rfl rfl fun a hf=>stS hf rfl rfl rfl fun a hf=>stS hf rfl rfl rfl fun a hf=>stS hf rfl rfl rfl fun a hf=>stS hf rfl rfl rfl fun a hf=>sp 1 hf rfl fun a hf=>aP ⟨hf.kp rfl,hc⟩
  intro a w ⟨hf,hc⟩
  refine sp 1 hf rfl fun a hf=>zT h ?_
  refine zI hf rfl hF ?_ ?_ <;> clear hF <;> intro hF
  ·refine zS fun K h=>sp 2 hf rfl fun a hf=>zT h ?_
   refine wp_ret ?_
   refine bI ?_
   refine aN ?_
   obtain rfl:=sj hF
   replace hc:=hc.drop k0
   exact zO2 Tryz.results49 hf rfl rfl ⟨rfl,hc⟩
  ·refine wp_skip ?_
   refine h3 _ _ ?_
   refine zS fun K h=>sp 1 hf rfl fun a hf=>zP hf rfl (pFA nU rfl) fun a hf=>zL hf hc bB m0 rfl fun a w hf hc=>zP hf rfl (pFA lT rfl) fun a hf=>zL hf hc bB m0 rfl fun a w hf hc=>zP hf rfl (bG (cells:=[i6 B.N,i6 B.D]) aA8 rfl rfl) fun a hf=>zP hf rfl (bG (cells:=[i6 rule,i6 B.N,i6 B.D]) aMi rfl rfl) fun a hf=>zP hf rfl (pMF (vs:=[.agg #[i6 rule,i6 B.N,i6 B.D]]) (us:=[]) rfl rfl) fun a hf=>sp 1 hf rfl fun a hf=>zT h ?_
   refine wp_seq_k fun K9 h9=>zS fun K h=>sp 1 hf rfl fun a hf=>zP hf rfl (bL Tryz.underlying22 rfl) fun a hf=>sp 1 hf rfl fun a hf=>zT h ?_
   refine wp_block ?_
   obtain ⟨b,m,hF⟩:=aA hF
   let S11:Int→Act→World→Prop:=(fun (zz:Int) a w=>Has 65 a [(0,.slice R I.length J),(11,.func (.func 86) #[.agg #[i6 rule,i6 B.N,i6 B.D]] #[]),(49,.slice M H.length O),(50,i6 ((H.length:Nat):Int)),(51,i6 zz)]∧Ctx G (Lf) w)
   have i:∀ (zz:Int) a w,b=.go zz→S11 zz a w→K9 a w:=by
    rintro x a w rfl ⟨hf,hc⟩
    replace hF:=bQ hF
    refine h9 _ _ ?_
    refine zS fun K h=>sp 2 hf rfl fun a hf=>zT h ?_
    refine wp_ret ?_
    obtain rfl:=sj hF
    exact zO2 Tryz.results49 hf rfl rfl ⟨rfl,hc⟩
   have s:∀ r,b=.out r→r=Y:=by
    rintro r rfl
    exact sj hF
   replace hc:=hc.drop k0
   refine cX N (cV (S:=S11) (x:=b) ?_ N 0 _ _ ⟨hf.kp rfl,hc⟩ m)
   clear hF hf hc
   rintro x ab a w KB11 ⟨hf,hc⟩ hF U n
   unfold gP at hF
   refine zS fun K h=>sp 1 hf rfl fun a hf=>zT h ?_
   refine wp_seq_k fun K14 t=>zI hf rfl hF ?_ ?_ <;> clear hF <;> intro hF
   ·refine wp_skip ?_
    refine t _ _ ?_
    refine wp_seq_k fun K15 y=>wp_block ?_
    refine zS fun K h=>sp 1 hf rfl fun a hf=>?_
    obtain ⟨z,g,hF⟩:=aA hF
    obtain ⟨ad,o,qa,qp⟩:=V.atm g
    refine zP hf rfl (pIA Tryz.underlying22 cY rfl rfl qa) fun a hf=>zE hf hc rfl (bP bB rfl (bK (j:=0) qp rfl)) fun a w hf hc=>sp 2 hf rfl fun a hf=>zT h ?_
    refine zS fun K h=>sp 3 hf rfl fun a hf=>?_
    obtain ⟨aa,k,hF⟩:=aA hF
    obtain ⟨ac,af,q,p⟩:=X.atm k
    refine zP hf rfl (pIA Tryz.underlying22 cY rfl rfl q) fun a hf=>zE hf hc rfl (bP bB rfl (bK (j:=0) p rfl)) fun a w hf hc=>sp 1 hf rfl fun a hf=>?_
    obtain ⟨u,d,hF⟩:=aA hF
    refine zQ (v:=.bool u) hf hc en_86 rfl (fun w hc=>uB (⟨rule,(⟨B.N,B.D⟩:aR)⟩:pV) aa z hc d) fun a w hf hc=>sp 1 hf rfl fun a hf=>zT h ?_
    refine zI hf rfl hF ?_ ?_ <;> clear hF <;> intro hF
    ·refine zS fun K h=>sp 2 hf rfl fun a hf=>zT h ?_
     refine wp_ret ?_
     refine bI ?_
     refine aN ?_
     refine aN ?_
     have he:=sj hF
     rw [← he] at U
     replace hF:=s _ U
     refine bI ?_
     refine aN ?_
     obtain rfl:=hF
     exact zO2 Tryz.results49 hf rfl rfl ⟨rfl,hc⟩
    ·refine wp_skip ?_
     refine y _ _ ?_
     refine bR ?_
     refine sp 2 hf rfl fun a hf=>aP ?_
     exact n (W (x + 1)) _ _ (sj hF).symm ⟨hf.kp rfl,hc⟩
   ·refine wp_exit ?_
    refine bE ?_
    refine bE ?_
    have he:=sj hF
    rw [← he] at U
    refine eX ?_
    exact i _ _ _ U ⟨hf.kp rfl,hc⟩

end Go.Nilo
