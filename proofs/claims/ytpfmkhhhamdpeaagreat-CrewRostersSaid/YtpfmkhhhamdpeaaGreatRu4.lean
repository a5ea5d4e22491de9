/-
 What functions of the Go text compute, as plain functions, and that they do, part 4 of 4. Conditions: what each theorem names.
-/
import Derived.Test.YtpfmkhhhamdpeaaGreatRu3
import Derived.Test.YtpfmkhhhamdpeaaGreatProg
set_option linter.unusedVariables false
set_option linter.unusedSimpArgs false
set_option maxRecDepth 100000
set_option maxHeartbeats 4000000
namespace Go.Nilo
open Go.Proofs


def iV (N:Nat) (r:bE) (B:List Int) (D:Int) (H:Int):Option (bK (Int) (bK (Int) (aP × Int))) :=
 Option.bind (aU r.People D) fun O=>
 cond (decide (H < ((O.length:Nat):Int)))
 (Option.bind (aU r.People D) fun M=>
 Option.bind (aU M H) fun I=>
 Option.bind (aU B D) fun S=>
 cond (I == S)
 (some (.brk H))
 (Option.bind (eF N r D I) fun R=>
 Option.bind (cond R (Option.bind (sA N r B D I) fun J=>
 some J) (some false)) fun U=>
 cond U
 (some (.ret (.ret ((⟨D,I⟩:aP),0))))
 (some (.cont (W (H + 1))))))
 (some (.brk H))
def gR (N:Nat) (r:bE) (B:List Int) (D:Int):Option (bK (Int) (aP × Int)) :=
 cond (decide (D < ((B.length:Nat):Int)))
 (Option.bind (aS (fun H=>iV N r B D H) N 0) fun I=>
 exK I (fun H=>some (.cont (W (D + 1)))) some)
 (some (.brk D))
def gQ (N:Nat) (r:bE) (B:List Int) (D:Int):Option (bK (Int) (aP × Int)) :=
 cond (decide (D < ((B.length:Nat):Int)))
 (Option.bind (aU B D) fun H=>
 Option.bind (cond (H != (-1)) (Option.bind (eF N r D H) fun M=>
 Option.bind (cond (!M) (some true) (Option.bind (oB N B H) fun O=>
 Option.bind (aU r.Stations H) fun I=>
 some (decide (I.Places < O)))) fun R=>
 some R) (some false)) fun J=>
 cond J
 (some (.ret ((⟨0,0⟩:aP),7)))
 (some (.cont (W (D + 1)))))
 (some (.brk D))
def fO (N:Nat) (r:bE) (B:List Int) (D:Int):Option (bK (Int) (aP × Int)) :=
 cond (decide (D < ((B.length:Nat):Int)))
 (Option.bind (aU B D) fun H=>
 cond (cB H (-1) (W (((r.Stations.length:Nat):Int) - 1)))
 (some (.ret ((⟨0,0⟩:aP),2)))
 (some (.cont (W (D + 1)))))
 (some (.brk D))
def jY (N:Nat) (r:bE) (B:List Int):Option (aP × Int) :=
 Option.bind (lF N r) fun H=>
 cond (H != 0)
 (some ((⟨0,0⟩:aP),H))
 (cond (((B.length:Nat):Int) != ((r.People.length:Nat):Int))
 (some ((⟨0,0⟩:aP),2))
 (Option.bind (aS (fun J=>fO N r B J) N 0) fun R=>
 exK R (fun J=>Option.bind (aS (fun I=>gQ N r B I) N 0) fun O=>
 exK O (fun I=>Option.bind (aS (fun D=>gR N r B D) N 0) fun M=>
 exK M (fun D=>some ((⟨0,0⟩:aP),5)) some) some) some))
theorem aB1 {N:Nat} {G:aQ} {Lf:List Ent} {w:World} (r:bE) (B:List Int) {M:Option Addr} {O:Nat} {D:Option Addr} {J:Nat} {H:Option Addr} {I:Nat} (V:RdT aM G 1 M O r.People) (U:RdT hL G 2 D J r.Stations) (R:Rd G 1 H I (B.map aD)) (hc:Ctx G (Lf) w) {m:aP × Int} (hF:jY N r B=some m):Calls Tryz.prog 58 #[.agg #[.slice M r.People.length O,.slice D r.Stations.length J],.slice H B.length I] w (fun e w=>e=.returned (.tuple #[.agg #[i6 m.1.Person,i6 m.1.Station],i6 m.2])∧Ctx G (Lf) w):=by
 unfold jY at hF
 refine bN Tryz.func58 rfl Tryz.ntmps58 rfl fun a hf=>zS fun K h=>zB hf hc rfl fun Z a w hf hc=>zA hf hc aJ2 rfl fun b a w hf hc=>sp 1 hf rfl fun a hf=>zT h ?_
 refine wp_seq_k fun K2 h2=>zS fun K h=>zN hf hc sI m1 rfl fun a w hf hc=>?_
 obtain ⟨b6,a2,hF⟩:=aA hF
 refine zQ (v:=i6 b6) hf hc aHg rfl (fun w hc=>pQ r V U hc a2) fun a w hf hc=>sp 1 hf rfl fun a hf=>zT h ?_
 refine zS fun K h=>sp 2 hf rfl fun a hf=>zT h ?_
 refine zI hf rfl hF ?_ ?_ <;> clear hF <;> intro hF
 ·refine zS fun K h=>zP hf rfl (cK (cells:=[i6 0,i6 0]) aA5 rfl rfl) fun a hf=>sp 1 hf rfl fun a hf=>zW hf hc rD u0 rfl fun w hc=>sp 1 hf rfl fun a hf=>zT h ?_
  refine wp_ret ?_
  refine aH ?_
  obtain rfl:=sj hF
  replace hc:=hc.drop k1
  exact vN (by simp) rfl Tryz.results58 hf hc (eG (vs:=[i6 0,i6 0]) zF rfl rfl (bM (n:=2) m0 rfl)) (show iX _ 5=_ from rfl) ⟨rfl,(hc.drop k0)⟩
 ·refine wp_skip ?_
  refine h2 _ _ ?_
  refine wp_seq_k fun K6 h6=>zS fun K h=>sp 1 hf rfl fun a hf=>zP hf rfl (aW Tryz.underlying25 rfl) fun a hf=>zP hf rfl (pFA gA rfl) fun a hf=>zL hf hc gB m1 rfl fun a w hf hc=>zP hf rfl (aW Tryz.underlying75 rfl) fun a hf=>sp 1 hf rfl fun a hf=>zT h ?_
  refine zI hf rfl hF ?_ ?_ <;> clear hF <;> intro hF
  ·refine zS fun K h=>zP hf rfl (cK (cells:=[i6 0,i6 0]) aA5 rfl rfl) fun a hf=>zW hf hc rD u0 rfl fun w hc=>sp 1 hf rfl fun a hf=>zT h ?_
   refine wp_ret ?_
   refine aH ?_
   obtain rfl:=sj hF
   replace hc:=hc.drop k1
   exact vN (by simp) rfl Tryz.results58 hf hc (eG (vs:=[i6 0,i6 0]) zF rfl rfl (bM (n:=2) m0 rfl)) (show iX _ 5=_ from rfl) ⟨rfl,(hc.drop k0)⟩
  ·refine wp_skip ?_
   refine h6 _ _ ?_
   refine wp_seq_k fun K9 h9=>zS fun K h=>sp 1 hf rfl fun a hf=>zT h ?_
   refine wp_block ?_
   obtain ⟨af,a1,hF⟩:=aA hF
   let S11:Int→Act→World→Prop:=(fun (zz:Int) a w=>Has 119 a [(1,.slice H B.length I),(2,pq Z),(4,pq b),(7,i6 zz)]∧Ctx G (.box b [i6 0,i6 0] 110::.box Z [.slice M r.People.length O,.slice D r.Stations.length J] 108::Lf) w)
   have bm:∀ (zz:Int) a w,af=.go zz→S11 zz a w→K9 a w:=by
    rintro aj a w rfl ⟨hf,hc⟩
    replace hF:=bH hF
    refine h9 _ _ ?_
    refine wp_seq_k fun K12 b4=>zS fun K h=>sp 1 hf rfl fun a hf=>zT h ?_
    refine wp_block ?_
    obtain ⟨aa,bn,hF⟩:=aA hF
    let S14:Int→Act→World→Prop:=(fun (zz:Int) a w=>Has 119 a [(1,.slice H B.length I),(2,pq Z),(4,pq b),(8,i6 zz)]∧Ctx G (.box b [i6 0,i6 0] 110::.box Z [.slice M r.People.length O,.slice D r.Stations.length J] 108::Lf) w)
    have bt:∀ (zz:Int) a w,aa=.go zz→S14 zz a w→K12 a w:=by
     rintro p a w rfl ⟨hf,hc⟩
     replace hF:=bH hF
     refine b4 _ _ ?_
     refine wp_seq_k fun K15 cf=>zS fun K h=>sp 1 hf rfl fun a hf=>zT h ?_
     refine wp_block ?_
     obtain ⟨ad,bf,hF⟩:=aA hF
     let S17:Int→Act→World→Prop:=(fun (zz:Int) a w=>Has 119 a [(1,.slice H B.length I),(2,pq Z),(4,pq b),(10,i6 zz)]∧Ctx G (.box b [i6 0,i6 0] 110::.box Z [.slice M r.People.length O,.slice D r.Stations.length J] 108::Lf) w)
     have ap:∀ (zz:Int) a w,ad=.go zz→S17 zz a w→K15 a w:=by
      rintro k a w rfl ⟨hf,hc⟩
      replace hF:=bH hF
      refine cf _ _ ?_
      refine zS fun K h=>zP hf rfl (cK (cells:=[i6 0,i6 0]) aA5 rfl rfl) fun a hf=>zW hf hc rD u0 rfl fun w hc=>sp 1 hf rfl fun a hf=>zT h ?_
      refine wp_ret ?_
      obtain rfl:=sj hF
      replace hc:=hc.drop k1
      exact vN (by simp) rfl Tryz.results58 hf hc (eG (vs:=[i6 0,i6 0]) zF rfl rfl (bM (n:=2) m0 rfl)) (show iX _ 5=_ from rfl) ⟨rfl,(hc.drop k0)⟩
     have ba:∀ r,ad=.out r→r=m:=by
      rintro r rfl
      exact sj hF
     refine bY N (bX (S:=S17) (x:=ad) ?_ N 0 _ _ ⟨hf.kp rfl,hc⟩ bf)
     clear hF hf hc
     rintro k bp a w KB17 ⟨hf,hc⟩ hF i au
     unfold gR at hF
     refine wp_seq_k fun K19 b3=>zS fun K h=>sp 2 hf rfl fun a hf=>zP hf rfl (aW Tryz.underlying25 rfl) fun a hf=>sp 1 hf rfl fun a hf=>zT h ?_
     refine zI hf rfl hF ?_ ?_ <;> clear hF <;> intro hF
     ·refine wp_skip ?_
      refine b3 _ _ ?_
      refine wp_seq_k fun K21 cj=>wp_block ?_
      refine zS fun K h=>sp 1 hf rfl fun a hf=>zT h ?_
      refine qB fun K23 cd=>wp_block ?_
      obtain ⟨ab,ak,hF⟩:=aA hF
      let S24:Int→Act→World→Prop:=(fun (zz:Int) a w=>Has 119 a [(1,.slice H B.length I),(2,pq Z),(4,pq b),(10,i6 k),(11,i6 zz)]∧Ctx G (.box b [i6 0,i6 0] 110::.box Z [.slice M r.People.length O,.slice D r.Stations.length J] 108::Lf) w)
      have z:∀ (zz:Int) a w,ab=.go zz→S24 zz a w→K23 a w:=by
       rintro u a w rfl ⟨hf,hc⟩
       replace hF:=bH hF
       refine cd _ _ ?_
       refine cj _ _ ?_
       refine bW ?_
       refine sp 3 hf rfl fun a hf=>aL ?_
       exact au (W (k + 1)) _ _ (sj hF).symm ⟨hf.kp rfl,hc⟩
      have a4:∀ r,ab=.out r→r=bp:=by
       rintro r rfl
       exact sj hF
      refine bY N (bX (S:=S24) (x:=ab) ?_ N 0 _ _ ⟨hf.kp rfl,hc⟩ ak)
      clear hF hf hc
      rintro u cp a w KB24 ⟨hf,hc⟩ hF X bc
      unfold iV at hF
      refine wp_seq_k fun K25 ci=>zS fun K h=>sp 1 hf rfl fun a hf=>zP hf rfl (pFA gA rfl) fun a hf=>zL hf hc gB m1 rfl fun a w hf hc=>sp 1 hf rfl fun a hf=>?_
      obtain ⟨c1,az,hF⟩:=aA hF
      obtain ⟨cx,o,hd,qa,qp,qr⟩:=V.atm az
      refine zP hf rfl (pIA Tryz.underlying75 kX rfl rfl qa) fun a hf=>zE hf hc rfl (bF fB rfl (aR (j:=0) qp rfl)) fun a w hf hc=>zP hf rfl (aW Tryz.underlying25 rfl) fun a hf=>sp 1 hf rfl fun a hf=>zT h ?_
      refine zI hf rfl hF ?_ ?_ <;> clear hF <;> intro hF
      ·refine wp_skip ?_
       refine ci _ _ ?_
       refine wp_seq_k fun K27 b1=>wp_block ?_
       refine zS fun K h=>zP hf rfl (pFA gA rfl) fun a hf=>zL hf hc gB m1 rfl fun a w hf hc=>sp 1 hf rfl fun a hf=>?_
       obtain ⟨c5,bv,hF⟩:=aA hF
       obtain ⟨c8,da,ct,a3,bg,aq⟩:=V.atm bv
       refine zP hf rfl (pIA Tryz.underlying75 kX rfl rfl a3) fun a hf=>zE hf hc rfl (bF fB rfl (aR (j:=0) bg rfl)) fun a w hf hc=>sp 1 hf rfl fun a hf=>?_
       obtain ⟨q,a8,hF⟩:=aA hF
       obtain ⟨db,c6,bi,am⟩:=aq.atm a8
       refine zP hf rfl (pIA Tryz.underlying25 eH rfl rfl bi) fun a hf=>zE hf hc rfl (bF bG rfl (aR (j:=0) am rfl)) fun a w hf hc=>sp 1 hf rfl fun a hf=>zT h ?_
       refine wp_seq_k fun K29 b8=>zS fun K h=>sp 3 hf rfl fun a hf=>?_
       obtain ⟨c3,bb,hF⟩:=aA hF
       obtain ⟨c9,c4,bj,bs⟩:=R.atm bb
       refine zP hf rfl (pIA Tryz.underlying25 eH rfl rfl bj) fun a hf=>zE hf hc rfl (bF bG rfl (aR (j:=0) bs rfl)) fun a w hf hc=>sp 1 hf rfl fun a hf=>zT h ?_
       refine zI hf rfl hF ?_ ?_ <;> clear hF <;> intro hF
       ·refine wp_exit ?_
        refine aN ?_
        refine aGh rfl ?_
        refine aN ?_
        refine aN ?_
        have he:=sj hF
        rw [← he] at X
        refine cT ?_
        exact z _ _ _ X ⟨hf.kp rfl,hc⟩
       ·refine wp_skip ?_
        refine b8 _ _ ?_
        refine zS fun K h=>zN hf hc sI m1 rfl fun a w hf hc=>sp 2 hf rfl fun a hf=>?_
        obtain ⟨t,ax,hF⟩:=aA hF
        refine zQ (v:=.bool t) hf hc aA2 rfl (fun w hc=>jL r k q V U hc ax) fun a w hf hc=>sp 1 hf rfl fun a hf=>?_
        obtain ⟨cb,ag,hF⟩:=aA hF
        refine fV 6 (fun a=>Has 119 a [(1,.slice H B.length I),(2,pq Z),(4,pq b),(10,i6 k),(11,i6 u),(12,i6 q),(104,.agg #[.slice M r.People.length O,.slice D r.Stations.length J]),(105,i6 k),(106,i6 q),(107,.bool t),(108,.bool t),(114,.bool cb)]) hc ?_ ?_
        ·cases hb:t
         ·rw [hb] at hf
          try rw [hb] at hc
          have hF:=gN hb ag
          obtain rfl:=sj hF
          refine stS hf rfl rfl rfl fun a hf=>stS hf rfl rfl rfl fun a hf=>stS hf rfl rfl rfl fun a hf=>stS hf rfl rfl rfl fun a hf=>stS hf rfl rfl rfl fun a hf=>sp 1 hf rfl fun a hf=>aL ⟨hf.kp rfl,hc⟩
         ·rw [hb] at hf
          try rw [hb] at hc
          have hF:=fU hb ag
          refine zN hf hc sI m1 rfl fun a w hf hc=>sp 3 hf rfl fun a hf=>?_
          obtain ⟨ck,ay,hF⟩:=aA hF
          refine zQ (v:=.bool ck) hf hc aOl rfl (fun w hc=>aCq r B k q V U R hc ay) fun a w hf hc=>sp 1 hf rfl fun a hf=>?_
          obtain rfl:=sj hF
          exact aL ⟨hf.kp rfl,hc⟩
        intro a w ⟨hf,hc⟩
        refine zT h ?_
        refine zI hf rfl hF ?_ ?_ <;> clear hF <;> intro hF
        ·refine zS fun K h=>sp 2 hf rfl fun a hf=>zP hf rfl (cK (cells:=[i6 k,i6 q]) aA5 rfl rfl) fun a hf=>zW hf hc rD u0 rfl fun w hc=>sp 1 hf rfl fun a hf=>zT h ?_
         refine wp_ret ?_
         refine bB ?_
         refine aH ?_
         refine aH ?_
         have he:=sj hF
         rw [← he] at X
         replace hF:=a4 _ X
         refine bB ?_
         refine aH ?_
         refine bB ?_
         refine aH ?_
         refine aH ?_
         have he:=hF
         rw [← he] at i
         replace hF:=ba _ i
         refine bB ?_
         refine aH ?_
         obtain rfl:=hF
         replace hc:=hc.drop k1
         exact vN (by simp) rfl Tryz.results58 hf hc (eG (vs:=[i6 k,i6 q]) zF rfl rfl (bM (n:=2) m0 rfl)) (show iX _ 5=_ from rfl) ⟨rfl,(hc.drop k0)⟩
        ·refine wp_skip ?_
         refine b1 _ _ ?_
         refine bW ?_
         refine sp 3 hf rfl fun a hf=>aL ?_
         exact bc (W (u + 1)) _ _ (sj hF).symm ⟨hf.kp rfl,hc⟩
      ·refine wp_exit ?_
       refine aN ?_
       refine aN ?_
       have he:=sj hF
       rw [← he] at X
       refine cT ?_
       exact z _ _ _ X ⟨hf.kp rfl,hc⟩
     ·refine wp_exit ?_
      refine aN ?_
      refine aN ?_
      have he:=sj hF
      rw [← he] at i
      refine cT ?_
      exact ap _ _ _ i ⟨hf.kp rfl,hc⟩
    have bx:∀ r,aa=.out r→r=m:=by
     rintro r rfl
     exact sj hF
    refine bY N (bX (S:=S14) (x:=aa) ?_ N 0 _ _ ⟨hf.kp rfl,hc⟩ bn)
    clear hF hf hc
    rintro p cq a w KB14 ⟨hf,hc⟩ hF g a5
    unfold gQ at hF
    refine wp_seq_k fun K33 cc=>zS fun K h=>sp 2 hf rfl fun a hf=>zP hf rfl (aW Tryz.underlying25 rfl) fun a hf=>sp 1 hf rfl fun a hf=>zT h ?_
    refine zI hf rfl hF ?_ ?_ <;> clear hF <;> intro hF
    ·refine wp_skip ?_
     refine cc _ _ ?_
     refine wp_seq_k fun K35 b7=>wp_block ?_
     refine zS fun K h=>sp 2 hf rfl fun a hf=>?_
     obtain ⟨Y,a6,hF⟩:=aA hF
     obtain ⟨c7,cy,bd,a7⟩:=R.atm a6
     refine zP hf rfl (pIA Tryz.underlying25 eH rfl rfl bd) fun a hf=>zE hf hc rfl (bF bG rfl (aR (j:=0) a7 rfl)) fun a w hf hc=>sp 1 hf rfl fun a hf=>zT h ?_
     refine wp_seq_k fun K37 cm=>?_
     obtain ⟨b2,ai,hF⟩:=aA hF
     refine cQ hc aT (by kernel_rfl) ?_
     refine qE hf rfl rfl rfl (Pu.ev (pM rfl)) fun a hf=>qE hf rfl rfl rfl (Pu.ev (pNe rfl rfl)) fun a hf=>qE hf rfl rfl rfl (Pu.ev (pM rfl)) fun a hf=>aBc 18 (fun a=>Has 119 a [(1,.slice H B.length I),(2,pq Z),(4,pq b),(8,i6 p),(9,i6 Y),(52,i6 Y),(53,.bool (Y != (-1))),(54,.bool (Y != (-1))),(72,.bool b2)]) ?_ ?_
     ·cases hb:(Y != (-1))
      ·rw [hb] at hf
       have hF:=gN hb ai
       obtain rfl:=sj hF
       refine qS hf rfl rfl rfl fun a hf=>qS hf rfl rfl rfl fun a hf=>qS hf rfl rfl rfl fun a hf=>qS hf rfl rfl rfl fun a hf=>qS hf rfl rfl rfl fun a hf=>qS hf rfl rfl rfl fun a hf=>qS hf rfl rfl rfl fun a hf=>qS hf rfl rfl rfl fun a hf=>qS hf rfl rfl rfl fun a hf=>qS hf rfl rfl rfl fun a hf=>qS hf rfl rfl rfl fun a hf=>qS hf rfl rfl rfl fun a hf=>qS hf rfl rfl rfl fun a hf=>?_
       refine qS hf rfl rfl rfl fun a hf=>qS hf rfl rfl rfl fun a hf=>qS hf rfl rfl rfl fun a hf=>qS hf rfl rfl rfl fun a hf=>qE hf rfl rfl rfl (Pu.ev (pPf rfl rfl)) fun a hf=>rV (hf.kp rfl)
      ·rw [hb] at hf
       have hF:=fU hb ai
       obtain ⟨s,a9,hF⟩:=aA hF
       obtain ⟨b5,y,hF⟩:=aA hF
       refine qE hf rfl rfl rfl (kG (vs:=[.slice M r.People.length O,.slice D r.Stations.length J]) sI rfl rfl (bM (n:=2) m1 rfl)) fun a hf=>qE hf rfl rfl rfl (Pu.ev (pM rfl)) fun a hf=>qE hf rfl rfl rfl (Pu.ev (pM rfl)) fun a hf=>qE hf rfl rfl rfl (eC (v:=.bool s) (vs:=[.agg #[.slice M r.People.length O,.slice D r.Stations.length J],i6 p,i6 Y]) (caps:=[]) aA2 rfl rfl rfl rfl (fun w hc=>jL r p Y V U hc a9)) fun a hf=>qE hf rfl rfl rfl (Pu.ev (aEy rfl)) fun a hf=>qE hf rfl rfl rfl (Pu.ev (pM rfl)) fun a hf=>aBc 11 (fun a=>Has 119 a [(1,.slice H B.length I),(2,pq Z),(4,pq b),(8,i6 p),(9,i6 Y),(52,i6 Y),(53,.bool true),(54,.bool true),(55,.agg #[.slice M r.People.length O,.slice D r.Stations.length J]),(56,i6 p),(57,i6 Y),(58,.bool s),(59,.bool (!s)),(60,.bool (!s)),(71,.bool b5)]) ?_ ?_
       ·cases hb:(!s)
        ·rw [hb] at hf
         have hF:=gN hb y
         obtain ⟨b0,bq,hF⟩:=aA hF
         obtain ⟨cz,bk,hF⟩:=aA hF
         obtain ⟨cu,cv,cn,av,ar,cs⟩:=U.atm bk
         refine qE hf rfl rfl rfl (Pu.ev (pM rfl)) fun a hf=>qE hf rfl rfl rfl (Pu.ev (pM rfl)) fun a hf=>qE hf rfl rfl rfl (eC (v:=i6 b0) (vs:=[.slice H B.length I,i6 Y]) (caps:=[]) aGk rfl rfl rfl rfl (fun w hc=>sY B Y R hc bq)) fun a hf=>qE hf rfl rfl rfl (Pu.ev (pFA gC rfl)) fun a hf=>qE hf rfl rfl rfl (bF mI rfl (bL m1 rfl)) fun a hf=>qE hf rfl rfl rfl (Pu.ev (pM rfl)) fun a hf=>qE hf rfl rfl rfl (Pu.ev (pIA Tryz.underlying106 rA rfl rfl av)) fun a hf=>qE hf rfl rfl rfl (Pu.ev (pFA wK rfl)) fun a hf=>qE hf rfl rfl rfl (bF bG rfl (aR (j:=0) ar rfl)) fun a hf=>qE hf rfl rfl rfl (Pu.ev (pGt rfl rfl)) fun a hf=>qE hf rfl rfl rfl (Pu.ev (pPf rfl rfl)) fun a hf=>?_
         obtain rfl:=sj hF
         exact rV (hf.kp rfl)
        ·rw [hb] at hf
         have hF:=fU hb y
         obtain rfl:=sj hF
         refine qS hf rfl rfl rfl fun a hf=>qS hf rfl rfl rfl fun a hf=>qS hf rfl rfl rfl fun a hf=>qS hf rfl rfl rfl fun a hf=>qS hf rfl rfl rfl fun a hf=>qS hf rfl rfl rfl fun a hf=>qS hf rfl rfl rfl fun a hf=>qS hf rfl rfl rfl fun a hf=>qS hf rfl rfl rfl fun a hf=>qS hf rfl rfl rfl fun a hf=>qE hf rfl rfl rfl (Pu.ev (pPt rfl rfl)) fun a hf=>rV (hf.kp rfl)
       intro a hf
       refine qE hf rfl rfl rfl (Pu.ev (pPt rfl rfl)) fun a hf=>?_
       obtain rfl:=sj hF
       exact rV (hf.kp rfl)
     intro a hf
     intro w hc
     refine cm _ _ ?_
     refine zI hf rfl hF ?_ ?_ <;> clear hF <;> intro hF
     ·refine zS fun K h=>zP hf rfl (cK (cells:=[i6 0,i6 0]) aA5 rfl rfl) fun a hf=>zW hf hc rD u0 rfl fun w hc=>sp 1 hf rfl fun a hf=>zT h ?_
      refine wp_ret ?_
      refine bB ?_
      refine aH ?_
      refine aH ?_
      have he:=sj hF
      rw [← he] at g
      replace hF:=bx _ g
      refine bB ?_
      refine aH ?_
      obtain rfl:=hF
      replace hc:=hc.drop k1
      exact vN (by simp) rfl Tryz.results58 hf hc (eG (vs:=[i6 0,i6 0]) zF rfl rfl (bM (n:=2) m0 rfl)) (show iX _ 5=_ from rfl) ⟨rfl,(hc.drop k0)⟩
     ·refine wp_skip ?_
      refine b7 _ _ ?_
      refine bW ?_
      refine sp 3 hf rfl fun a hf=>aL ?_
      exact a5 (W (p + 1)) _ _ (sj hF).symm ⟨hf.kp rfl,hc⟩
    ·refine wp_exit ?_
     refine aN ?_
     refine aN ?_
     have he:=sj hF
     rw [← he] at g
     refine cT ?_
     exact bt _ _ _ g ⟨hf.kp rfl,hc⟩
   have an:∀ r,af=.out r→r=m:=by
    rintro r rfl
    exact sj hF
   refine bY N (bX (S:=S11) (x:=af) ?_ N 0 _ _ ⟨hf.kp rfl,hc⟩ a1)
   clear hF hf hc
   rintro aj cr a w KB11 ⟨hf,hc⟩ hF d bz
   unfold fO at hF
   refine wp_seq_k fun K39 cg=>zS fun K h=>sp 2 hf rfl fun a hf=>zP hf rfl (aW Tryz.underlying25 rfl) fun a hf=>sp 1 hf rfl fun a hf=>zT h ?_
   refine zI hf rfl hF ?_ ?_ <;> clear hF <;> intro hF
   ·refine wp_skip ?_
    refine cg _ _ ?_
    refine wp_seq_k fun K41 b9=>wp_block ?_
    refine wp_seq_k fun K42 ca=>?_
    obtain ⟨ac,a0,hF⟩:=aA hF
    obtain ⟨c2,c0,br,bu⟩:=R.atm a0
    refine cQ hc aT (by kernel_rfl) ?_
    refine qE hf rfl rfl rfl (Pu.ev (pM rfl)) fun a hf=>qE hf rfl rfl rfl (Pu.ev (pM rfl)) fun a hf=>qE hf rfl rfl rfl (Pu.ev (pIA Tryz.underlying25 eH rfl rfl br)) fun a hf=>qE hf rfl rfl rfl (bF bG rfl (aR (j:=0) bu rfl)) fun a hf=>qE hf rfl rfl rfl (Pu.ev (pFA gC rfl)) fun a hf=>qE hf rfl rfl rfl (bF mI rfl (bL m1 rfl)) fun a hf=>qE hf rfl rfl rfl (Pu.ev (aW Tryz.underlying106 rfl)) fun a hf=>qE hf rfl rfl rfl (Pu.ev (aKl rfl rfl)) fun a hf=>qE hf rfl rfl rfl (eC (v:=.bool (cB ac (-1) (W (((r.Stations.length:Nat):Int) - 1)))) (vs:=[i6 ac,i6 (-1),i6 (W (((r.Stations.length:Nat):Int) - 1))]) (caps:=[]) aFf rfl rfl rfl rfl (fun w hc=>mJ ac (-1) (W (((r.Stations.length:Nat):Int) - 1)) hc rfl)) fun a hf=>?_
    intro w hc
    refine ca _ _ ?_
    refine zI hf rfl hF ?_ ?_ <;> clear hF <;> intro hF
    ·refine zS fun K h=>zP hf rfl (cK (cells:=[i6 0,i6 0]) aA5 rfl rfl) fun a hf=>zW hf hc rD u0 rfl fun w hc=>sp 1 hf rfl fun a hf=>zT h ?_
     refine wp_ret ?_
     refine bB ?_
     refine aH ?_
     refine aH ?_
     have he:=sj hF
     rw [← he] at d
     replace hF:=an _ d
     refine bB ?_
     refine aH ?_
     obtain rfl:=hF
     replace hc:=hc.drop k1
     exact vN (by simp) rfl Tryz.results58 hf hc (eG (vs:=[i6 0,i6 0]) zF rfl rfl (bM (n:=2) m0 rfl)) (show iX _ 5=_ from rfl) ⟨rfl,(hc.drop k0)⟩
    ·refine wp_skip ?_
     refine b9 _ _ ?_
     refine bW ?_
     refine sp 3 hf rfl fun a hf=>aL ?_
     exact bz (W (aj + 1)) _ _ (sj hF).symm ⟨hf.kp rfl,hc⟩
   ·refine wp_exit ?_
    refine aN ?_
    refine aN ?_
    have he:=sj hF
    rw [← he] at d
    refine cT ?_
    exact bm _ _ _ d ⟨hf.kp rfl,hc⟩

def fT (N:Nat) (l:List aC) (out:List aP) (x:Int):Option (bK ((List aP) × Int) ((List aP))) :=
 cond (decide (x < ((l.length:Nat):Int)))
 (Option.bind (aU l x) fun B=>
 Option.bind (room ((out++[(⟨B.Person,B.Station⟩:aP)])).length) fun un=>
 some (.cont ((out++[(⟨B.Person,B.Station⟩:aP)]),W (x + 1))))
 (some (.brk (out,x)))
def kK (N:Nat) (l:List aC):Option ((List aP)) :=
 Option.bind (aS (fun s5=>fT N l s5.1 s5.2) N (([]:List aP),0)) fun x5=>
 exK x5 (fun s5=>some s5.1) some
theorem tU {N:Nat} {G:aQ} {Lf:List Ent} {w:World} (l:List aC) {O:Option Addr} {M:Nat} (g:Rd G 2 O M (l.map aF)) (hc:Ctx G (Lf) w) {J:(List aP)} (hF:kK N l=some J):Calls Tryz.prog 61 #[.slice O l.length M] w (fun e w=>∃ (R:Option Addr) (U:Nat),e=.returned (.slice R J.length U)∧Ctx G (.row R U (J.map jK) 110 2::Lf) w):=by
 unfold kK at hF
 refine bN Tryz.func61 rfl Tryz.ntmps61 rfl fun a hf=>zS fun K h=>sp 1 hf rfl fun a hf=>zT h ?_
 refine zS fun K h=>sp 1 hf rfl fun a hf=>zT h ?_
 refine wp_seq_k fun K3 h3=>zS fun K h=>sp 1 hf rfl fun a hf=>zP hf rfl (aW Tryz.underlying99 rfl) fun a hf=>sp 1 hf rfl fun a hf=>zT h ?_
 refine wp_block ?_
 obtain ⟨x5,X,hF⟩:=aA hF
 let S5:((List aP) × Int)→Act→World→Prop:=(fun (zz:(List aP) × Int) a w=>∃ (H:Option Addr) (D:Nat),Has 18 a [(3,.slice H zz.1.length D),(6,.slice O l.length M),(7,i6 ((l.length:Nat):Int)),(8,i6 zz.2)]∧Ctx G (.row H D (zz.1.map jK) 110 2::Lf) w)
 have i:∀ (zz:(List aP) × Int) a w,x5=.go zz→S5 zz a w→K3 a w:=by
  rintro ⟨out,x⟩ a w rfl ⟨H,D,hf,hc⟩
  replace hF:=bH hF
  refine h3 _ _ ?_
  refine zS fun K h=>sp 2 hf rfl fun a hf=>zT h ?_
  refine wp_ret ?_
  obtain rfl:=sj hF
  exact zO1 Tryz.results61 hf rfl ⟨H,D,rfl,hc⟩
 have q:∀ r,x5=.out r→r=J:=by
  rintro r rfl
  exact sj hF
 replace hc:=hc.nilRow 110 2
 refine bY N (bX (S:=S5) (x:=x5) ?_ N (([]:List aP),0) _ _ ⟨none,0,hf.kp rfl,hc⟩ X)
 clear hF hf hc
 rintro ⟨out,x⟩ p a w KB5 ⟨H,D,hf,hc⟩ hF I b
 unfold fT at hF
 refine zS fun K h=>sp 1 hf rfl fun a hf=>zT h ?_
 refine wp_seq_k fun K8 h8=>zI hf rfl hF ?_ ?_ <;> clear hF <;> intro hF
 ·refine wp_skip ?_
  refine h8 _ _ ?_
  refine wp_seq_k fun K9 h9=>wp_block ?_
  refine zS fun K h=>?_
  obtain ⟨B,V,hF⟩:=aA hF
  obtain ⟨m,o,qa,qp⟩:=g.atm V
  refine zP hf rfl (pIA Tryz.underlying99 lJ rfl rfl qa) fun a hf=>zE hf hc rfl (kG (vs:=[i6 B.Person,i6 B.Station]) lM rfl rfl (dF qp (n:=2) (o':=0) rfl)) fun a w hf hc=>zA hf hc yL rfl fun j a w hf hc=>zW hf hc lJ u0 rfl fun w hc=>zT h ?_
  refine bW ?_
  refine sp 1 hf rfl fun a hf=>zN hf hc lM m0 rfl fun a w hf hc=>nU (rows:=([(⟨B.Person,B.Station⟩:aP)]:List aP).map jK) (vs:=[(0,.agg #[i6 B.Person,i6 B.Station])]) hf hc rfl rfl aJ1 rfl ⟨rfl,rfl,rfl,trivial⟩ rfl rfl fun k a w hf hc=>?_
  obtain ⟨un,d,hF⟩:=aA hF
  refine pG (xs:=out) (ys:=([(⟨B.Person,B.Station⟩:aP)]:List aP)) hf hc rfl rfl aJ1 rfl rfl rfl rfl rfl wE (lL hc m0) (fun _ _=>u2) (by simpa using fA d) fun Z Y a w hf hc=>sp 1 hf rfl fun a hf=>aL ?_
  refine h9 _ _ ?_
  refine bW ?_
  refine sp 2 hf rfl fun a hf=>aL ?_
  replace hc:=(hc.drop k1).drop k0
  exact b ((out++[(⟨B.Person,B.Station⟩:aP)]),W (x + 1)) _ _ (sj hF).symm ⟨Z,Y,hf.kp rfl,hc⟩
 ·refine wp_exit ?_
  refine aN ?_
  refine aN ?_
  have he:=sj hF
  rw [← he] at I
  refine cT ?_
  exact i _ _ _ I ⟨H,D,hf.kp rfl,hc⟩

def nH (N:Nat) (B:Int):Option (bK (Int) (Bool × Int)) :=
 some (.cont (W (B + 1)))
def lC (N:Nat) (q:Int) (B:Int):Option (bK (Int × Int) (bK (Int) (Bool × Int))) :=
 some (.cont (B,W (q + 1)))
def nF (N:Nat) (k:Int) (B:Int):Option (bK (Int × Int) (bK (Int × Int) (bK (Int) (Bool × Int)))) :=
 some (.cont (B,W (k + 1)))
def iB (N:Nat) (r:bE) (l:List aP) (R:Int) (q:Int) (k:Int) (D:Bool) (B:Int):Option (bK (Bool × Int) (bK (Int × Int) (bK (Int × Int) (bK (Int) (Bool × Int))))) :=
 cond (decide (B < R))
 (Option.bind (cond D (some true) (Option.bind (aU l B) fun S=>
 Option.bind (cond (S.Person == q) (Option.bind (aU l B) fun I=>
 Option.bind (aU r.People q) fun J=>
 Option.bind (aU J k) fun H=>
 some (I.Station == H)) (some false)) fun O=>
 some O)) fun M=>
 some (.cont (M,W (B + 1))))
 (some (.brk (D,B)))
def iF (N:Nat) (r:bE) (l:List aP) (R:Int) (J:aP) (q:Int) (B:Int) (k:Int):Option (bK (Int × Int) (bK (Int × Int) (bK (Int) (Bool × Int)))) :=
 Option.bind (aU r.People q) fun I=>
 Option.bind (dB N I J.Station) fun H=>
 cond (decide (k < H))
 (Option.bind (aU r.People q) fun M=>
 Option.bind (aU M k) fun U=>
 Option.bind (eF N r q U) fun O=>
 Option.bind (aS (fun D=>iB N r l R q k D.1 D.2) N ((!O),0)) fun S=>
 exK S (fun D=>cond (!D.1)
 (nF N k (W (B + 1)))
 (nF N k B)) some)
 (some (.brk (B,k)))
def iC (N:Nat) (r:bE) (l:List aP) (M:Int) (S:aP) (H:aP) (B:Int) (q:Int):Option (bK (Int × Int) (bK (Int) (Bool × Int))) :=
 cond (decide (q < ((r.People.length:Nat):Int)))
 (Option.bind (eF N r q H.Station) fun I=>
 Option.bind (cond (!I) (some true) (Option.bind (aU r.Stations H.Station) fun V=>
 Option.bind (dB N V.Order q) fun J=>
 Option.bind (aU r.Stations H.Station) fun X=>
 Option.bind (dB N X.Order S.Person) fun R=>
 some (decide (R≤J)))) fun O=>
 cond O
 (lC N q B)
 (Option.bind (aS (fun D=>iF N r l M H q D.1 D.2) N (0,0)) fun U=>
 exK U (fun D=>cond (D.1 == 0)
 (lC N q (W (B + 1)))
 (lC N q B)) some))
 (some (.brk (B,q)))
def fH (N:Nat) (r:bE) (l:List aP) (B:Int):Option (bK (Int) (Bool × Int)) :=
 cond (decide (B < ((l.length:Nat):Int)))
 (Option.bind (aU l B) fun I=>
 Option.bind (aU l B) fun H=>
 Option.bind (eF N r I.Person H.Station) fun O=>
 cond (!O)
 (nH N B)
 (Option.bind (aS (fun D=>iC N r l B I H D.1 D.2) N (0,0)) fun M=>
 exK M (fun D=>Option.bind (aU r.Stations H.Station) fun J=>
 cond (decide (D.1 < J.Places))
 (some (.ret (false,0)))
 (nH N B)) some))
 (some (.brk B))
def iH (N:Nat) (r:bE) (l:List aP) (B:Int):Option (bK (Int) (Bool × Int)) :=
 cond (decide (B < ((l.length:Nat):Int)))
 (Option.bind (aU l B) fun D=>
 Option.bind (cond (cB D.Person 0 (W (((r.People.length:Nat):Int) - 1))) (some true) (Option.bind (aU l B) fun H=>
 some (cB H.Station 0 (W (((r.Stations.length:Nat):Int) - 1))))) fun I=>
 cond I
 (some (.ret (false,2)))
 (some (.cont (W (B + 1)))))
 (some (.brk B))
def lG (N:Nat) (r:bE) (l:List aP):Option (Bool × Int) :=
 Option.bind (lF N r) fun B=>
 cond (B != 0)
 (some (false,B))
 (cond (decide (144 < ((l.length:Nat):Int)))
 (some (false,3))
 (Option.bind (aS (fun H=>iH N r l H) N 0) fun J=>
 exK J (fun H=>Option.bind (aS (fun D=>fH N r l D) N 0) fun I=>
 exK I (fun D=>some (true,0)) some) some))
theorem wR {N:Nat} {G:aQ} {Lf:List Ent} {w:World} (r:bE) (l:List aP) {H:Option Addr} {I:Nat} {B:Option Addr} {D:Nat} {R:Option Addr} {U:Nat} (M:RdT aM G 1 H I r.People) (J:RdT hL G 2 B D r.Stations) (s:Rd G 2 R U (l.map jK)) (hc:Ctx G (Lf) w) {y:Bool × Int} (hF:lG N r l=some y):Calls Tryz.prog 60 #[.agg #[.slice H r.People.length I,.slice B r.Stations.length D],.slice R l.length U] w (fun e w=>e=.returned (.tuple #[.bool y.1,i6 y.2])∧Ctx G (Lf) w):=by
 unfold lG at hF
 refine bN Tryz.func60 rfl Tryz.ntmps60 rfl fun a hf=>zS fun K h=>zB hf hc rfl fun O a w hf hc=>sp 2 hf rfl fun a hf=>zT h ?_
 refine wp_seq_k fun K2 h2=>zS fun K h=>zN hf hc sI m0 rfl fun a w hf hc=>?_
 obtain ⟨d2,cg,hF⟩:=aA hF
 refine zQ (v:=i6 d2) hf hc aHg rfl (fun w hc=>pQ r M J hc cg) fun a w hf hc=>sp 1 hf rfl fun a hf=>zT h ?_
 refine zS fun K h=>sp 2 hf rfl fun a hf=>zT h ?_
 refine zI hf rfl hF ?_ ?_ <;> clear hF <;> intro hF
 ·refine zS fun K h=>sp 3 hf rfl fun a hf=>zT h ?_
  refine wp_ret ?_
  refine aH ?_
  obtain rfl:=sj hF
  replace hc:=hc.drop k0
  exact zO2 Tryz.results60 hf rfl rfl ⟨rfl,hc⟩
 ·refine wp_skip ?_
  refine h2 _ _ ?_
  refine wp_seq_k fun K6 h6=>zS fun K h=>sp 1 hf rfl fun a hf=>zP hf rfl (aW Tryz.underlying116 rfl) fun a hf=>sp 1 hf rfl fun a hf=>zT h ?_
  refine zI hf rfl hF ?_ ?_ <;> clear hF <;> intro hF
  ·refine zS fun K h=>sp 2 hf rfl fun a hf=>zT h ?_
   refine wp_ret ?_
   refine aH ?_
   obtain rfl:=sj hF
   replace hc:=hc.drop k0
   exact zO2 Tryz.results60 hf rfl rfl ⟨rfl,hc⟩
  ·refine wp_skip ?_
   refine h6 _ _ ?_
   refine wp_seq_k fun K9 h9=>zS fun K h=>sp 1 hf rfl fun a hf=>zT h ?_
   refine wp_block ?_
   obtain ⟨a1,cf,hF⟩:=aA hF
   let S11:Int→Act→World→Prop:=(fun (zz:Int) a w=>Has 175 a [(1,.slice R l.length U),(2,pq O),(7,i6 zz)]∧Ctx G (.box O [.slice H r.People.length I,.slice B r.Stations.length D] 108::Lf) w)
   have c0:∀ (zz:Int) a w,a1=.go zz→S11 zz a w→K9 a w:=by
    rintro ag a w rfl ⟨hf,hc⟩
    replace hF:=bH hF
    refine h9 _ _ ?_
    refine wp_seq_k fun K12 dv=>zS fun K h=>sp 1 hf rfl fun a hf=>zT h ?_
    refine wp_block ?_
    obtain ⟨av,c2,hF⟩:=aA hF
    let S14:Int→Act→World→Prop:=(fun (zz:Int) a w=>Has 175 a [(1,.slice R l.length U),(2,pq O),(8,i6 zz)]∧Ctx G (.box O [.slice H r.People.length I,.slice B r.Stations.length D] 108::Lf) w)
    have dc:∀ (zz:Int) a w,av=.go zz→S14 zz a w→K12 a w:=by
     rintro Y a w rfl ⟨hf,hc⟩
     replace hF:=bH hF
     refine dv _ _ ?_
     refine zS fun K h=>sp 2 hf rfl fun a hf=>zT h ?_
     refine wp_ret ?_
     obtain rfl:=sj hF
     replace hc:=hc.drop k0
     exact zO2 Tryz.results60 hf rfl rfl ⟨rfl,hc⟩
    have dk:∀ r,av=.out r→r=y:=by
     rintro r rfl
     exact sj hF
    refine bY N (bX (S:=S14) (x:=av) ?_ N 0 _ _ ⟨hf.kp rfl,hc⟩ c2)
    clear hF hf hc
    rintro Y a0 a w KB14 ⟨hf,hc⟩ hF p ck
    unfold fH at hF
    refine wp_seq_k fun K16 gk=>zS fun K h=>sp 2 hf rfl fun a hf=>zP hf rfl (aW Tryz.underlying116 rfl) fun a hf=>sp 1 hf rfl fun a hf=>zT h ?_
    refine zI hf rfl hF ?_ ?_ <;> clear hF <;> intro hF
    ·refine wp_skip ?_
     refine gk _ _ ?_
     refine wp_seq_k fun K18 d4=>?_
     have aq:∀ a w,Has 175 a [(1,.slice R l.length U),(2,pq O),(8,i6 Y)]→Ctx G (.box O [.slice H r.People.length I,.slice B r.Stations.length D] 108::Lf) w→nH N Y=some a0→K18 a w:=by
      repeat (clear hF)
      repeat (clear hc)
      repeat (clear hf)
      intro a w hf hc hF
      unfold nH at hF
      refine d4 _ _ ?_
      refine bW ?_
      refine sp 3 hf rfl fun a hf=>aL ?_
      exact ck (W (Y + 1)) _ _ (sj hF).symm ⟨hf.kp rfl,hc⟩
     refine wp_block ?_
     refine wp_seq_k fun K19 du=>?_
     obtain ⟨Z,b7,hF⟩:=aA hF
     obtain ⟨iq,o,qa,qp⟩:=s.atm b7
     obtain ⟨X,di,hF⟩:=aA hF
     obtain ⟨ic,iy,ci,cv⟩:=s.atm di
     refine cQ hc aT (by kernel_rfl) ?_
     refine qE hf rfl rfl rfl (Pu.ev (pM rfl)) fun a hf=>qE hf rfl rfl rfl (Pu.ev (pM rfl)) fun a hf=>qE hf rfl rfl rfl (Pu.ev (pIA Tryz.underlying116 rD rfl rfl qa)) fun a hf=>qE hf rfl rfl rfl (Pu.ev (pFA aDc rfl)) fun a hf=>qE hf rfl rfl rfl (bF bG rfl (aR (j:=0) qp rfl)) fun a hf=>qE hf rfl rfl rfl (Pu.ev (pM rfl)) fun a hf=>qE hf rfl rfl rfl (Pu.ev (pM rfl)) fun a hf=>qE hf rfl rfl rfl (Pu.ev (pIA Tryz.underlying116 rD rfl rfl ci)) fun a hf=>qE hf rfl rfl rfl (Pu.ev (pFA aCu rfl)) fun a hf=>qE hf rfl rfl rfl (bF bG rfl (aR (j:=1) cv rfl)) fun a hf=>qE hf rfl rfl rfl (Pu.ev (pA rfl)) fun a hf=>qE hf rfl rfl rfl (Pu.ev (pA rfl)) fun a hf=>?_
     intro w hc
     refine du _ _ ?_
     refine wp_seq_k fun K20 gd=>zS fun K h=>zN hf hc sI m0 rfl fun a w hf hc=>sp 2 hf rfl fun a hf=>?_
     obtain ⟨dx,b4,hF⟩:=aA hF
     refine zQ (v:=.bool dx) hf hc aA2 rfl (fun w hc=>jL r Z.Person X.Station M J hc b4) fun a w hf hc=>sp 1 hf rfl fun a hf=>zT h ?_
     refine zI hf rfl hF ?_ ?_ <;> clear hF <;> intro hF
     ·refine wp_exit ?_
      refine aN ?_
      refine cT ?_
      exact aq  _ _  (hf.kp rfl) hc hF
     ·refine wp_skip ?_
      refine gd _ _ ?_
      refine zS fun K h=>sp 1 hf rfl fun a hf=>zT h ?_
      refine wp_seq_k fun K23 d9=>zS fun K h=>sp 1 hf rfl fun a hf=>zT h ?_
      refine wp_block ?_
      obtain ⟨ar,dd,hF⟩:=aA hF
      let S25:(Int × Int)→Act→World→Prop:=(fun (zz:Int × Int) a w=>Has 175 a [(1,.slice R l.length U),(2,pq O),(8,i6 Y),(9,i6 Z.Person),(10,i6 X.Station),(11,i6 zz.1),(12,i6 zz.2)]∧Ctx G (.box O [.slice H r.People.length I,.slice B r.Stations.length D] 108::Lf) w)
      have c7:∀ (zz:Int × Int) a w,ar=.go zz→S25 zz a w→K23 a w:=by
       rintro ⟨V,q⟩ a w rfl ⟨hf,hc⟩
       replace hF:=bH hF
       refine d9 _ _ ?_
       refine zS fun K h=>sp 1 hf rfl fun a hf=>zP hf rfl (pFA gC rfl) fun a hf=>zL hf hc mI m0 rfl fun a w hf hc=>sp 1 hf rfl fun a hf=>?_
       obtain ⟨ij,cq,hF⟩:=aA hF
       obtain ⟨iu,ir,hd,cx,bu,qr⟩:=J.atm cq
       refine zP hf rfl (pIA Tryz.underlying106 rA rfl rfl cx) fun a hf=>zP hf rfl (pFA wK rfl) fun a hf=>zE hf hc rfl (bF bG rfl (aR (j:=0) bu rfl)) fun a w hf hc=>sp 1 hf rfl fun a hf=>zT h ?_
       refine zI hf rfl hF ?_ ?_ <;> clear hF <;> intro hF
       ·refine zS fun K h=>sp 2 hf rfl fun a hf=>zT h ?_
        refine wp_ret ?_
        refine bB ?_
        refine aH ?_
        refine aH ?_
        have he:=sj hF
        rw [← he] at p
        replace hF:=dk _ p
        refine bB ?_
        refine aH ?_
        obtain rfl:=hF
        replace hc:=hc.drop k0
        exact zO2 Tryz.results60 hf rfl rfl ⟨rfl,hc⟩
       ·refine wp_skip ?_
        exact aq  _ _  (hf.kp rfl) hc hF
      have gp:∀ r,ar=.out r→r=a0:=by
       rintro r rfl
       exact sj hF
      refine bY N (bX (S:=S25) (x:=ar) ?_ N (0,0) _ _ ⟨hf.kp rfl,hc⟩ dd)
      clear hF hf hc
      rintro ⟨V,q⟩ a6 a w KB25 ⟨hf,hc⟩ hF t c5
      unfold iC at hF
      refine wp_seq_k fun K28 d0=>zS fun K h=>sp 1 hf rfl fun a hf=>zP hf rfl (pFA gA rfl) fun a hf=>zL hf hc gB m0 rfl fun a w hf hc=>zP hf rfl (aW Tryz.underlying75 rfl) fun a hf=>sp 1 hf rfl fun a hf=>zT h ?_
      refine zI hf rfl hF ?_ ?_ <;> clear hF <;> intro hF
      ·refine wp_skip ?_
       refine d0 _ _ ?_
       refine wp_seq_k fun K30 dr=>?_
       have ad:∀ (m:Int) a w,Has 175 a [(1,.slice R l.length U),(2,pq O),(8,i6 Y),(9,i6 Z.Person),(10,i6 X.Station),(11,i6 m),(12,i6 q)]→Ctx G (.box O [.slice H r.People.length I,.slice B r.Stations.length D] 108::Lf) w→lC N q m=some a6→K30 a w:=by
        repeat (clear hF)
        repeat (clear hc)
        repeat (clear hf)
        intro m a w hf hc hF
        unfold lC at hF
        refine dr _ _ ?_
        refine bW ?_
        refine sp 3 hf rfl fun a hf=>aL ?_
        exact c5 (m,W (q + 1)) _ _ (sj hF).symm ⟨hf.kp rfl,hc⟩
       refine wp_block ?_
       refine wp_seq_k fun K31 d7=>wp_seq_k fun K32 gf=>?_
       obtain ⟨ac,b6,hF⟩:=aA hF
       obtain ⟨d8,a2,hF⟩:=aA hF
       refine cQ hc aT (by kernel_rfl) ?_
       refine qE hf rfl rfl rfl (kG (vs:=[.slice H r.People.length I,.slice B r.Stations.length D]) sI rfl rfl (bM (n:=2) m0 rfl)) fun a hf=>qE hf rfl rfl rfl (Pu.ev (pM rfl)) fun a hf=>qE hf rfl rfl rfl (Pu.ev (pM rfl)) fun a hf=>qE hf rfl rfl rfl (eC (v:=.bool ac) (vs:=[.agg #[.slice H r.People.length I,.slice B r.Stations.length D],i6 q,i6 X.Station]) (caps:=[]) aA2 rfl rfl rfl rfl (fun w hc=>jL r q X.Station M J hc b6)) fun a hf=>qE hf rfl rfl rfl (Pu.ev (aEy rfl)) fun a hf=>qE hf rfl rfl rfl (Pu.ev (pM rfl)) fun a hf=>aBc 18 (fun a=>Has 175 a [(1,.slice R l.length U),(2,pq O),(8,i6 Y),(9,i6 Z.Person),(10,i6 X.Station),(11,i6 V),(12,i6 q),(81,.agg #[.slice H r.People.length I,.slice B r.Stations.length D]),(82,i6 q),(83,i6 X.Station),(84,.bool ac),(85,.bool (!ac)),(86,.bool (!ac)),(104,.bool d8)]) ?_ ?_
       ·cases hb:(!ac)
        ·rw [hb] at hf
         have hF:=gN hb a2
         obtain ⟨br,cs,hF⟩:=aA hF
         obtain ⟨iz,ip,a3,cz,db,bx⟩:=J.atm cs
         obtain ⟨gj,cr,hF⟩:=aA hF
         obtain ⟨bn,cm,hF⟩:=aA hF
         obtain ⟨ix,ig,aj,cu,cp,da⟩:=J.atm cm
         obtain ⟨dq,c6,hF⟩:=aA hF
         refine qE hf rfl rfl rfl (Pu.ev (pFA gC rfl)) fun a hf=>qE hf rfl rfl rfl (bF mI rfl (bL m0 rfl)) fun a hf=>qE hf rfl rfl rfl (Pu.ev (pM rfl)) fun a hf=>qE hf rfl rfl rfl (Pu.ev (pIA Tryz.underlying106 rA rfl rfl cz)) fun a hf=>qE hf rfl rfl rfl (Pu.ev (pFA rZ rfl)) fun a hf=>qE hf rfl rfl rfl (bF fB rfl (aR (j:=1) db rfl)) fun a hf=>qE hf rfl rfl rfl (Pu.ev (pM rfl)) fun a hf=>qE hf rfl rfl rfl (eC (v:=i6 gj) (vs:=[.slice a3.1 br.Order.length a3.2,i6 q]) (caps:=[]) uN rfl rfl rfl rfl (fun w hc=>gD br.Order q bx hc cr)) fun a hf=>qE hf rfl rfl rfl (Pu.ev (pFA gC rfl)) fun a hf=>qE hf rfl rfl rfl (bF mI rfl (bL m0 rfl)) fun a hf=>qE hf rfl rfl rfl (Pu.ev (pM rfl)) fun a hf=>qE hf rfl rfl rfl (Pu.ev (pIA Tryz.underlying106 rA rfl rfl cu)) fun a hf=>qE hf rfl rfl rfl (Pu.ev (pFA rZ rfl)) fun a hf=>?_
         refine qE hf rfl rfl rfl (bF fB rfl (aR (j:=1) cp rfl)) fun a hf=>qE hf rfl rfl rfl (Pu.ev (pM rfl)) fun a hf=>qE hf rfl rfl rfl (eC (v:=i6 dq) (vs:=[.slice aj.1 bn.Order.length aj.2,i6 Z.Person]) (caps:=[]) uN rfl rfl rfl rfl (fun w hc=>gD bn.Order Z.Person da hc c6)) fun a hf=>qE hf rfl rfl rfl (Pu.ev (pGe rfl rfl)) fun a hf=>qE hf rfl rfl rfl (Pu.ev (pPf rfl rfl)) fun a hf=>?_
         obtain rfl:=sj hF
         exact rV (hf.kp rfl)
        ·rw [hb] at hf
         have hF:=fU hb a2
         obtain rfl:=sj hF
         refine qS hf rfl rfl rfl fun a hf=>qS hf rfl rfl rfl fun a hf=>qS hf rfl rfl rfl fun a hf=>qS hf rfl rfl rfl fun a hf=>qS hf rfl rfl rfl fun a hf=>qS hf rfl rfl rfl fun a hf=>qS hf rfl rfl rfl fun a hf=>qS hf rfl rfl rfl fun a hf=>qS hf rfl rfl rfl fun a hf=>qS hf rfl rfl rfl fun a hf=>qS hf rfl rfl rfl fun a hf=>qS hf rfl rfl rfl fun a hf=>qS hf rfl rfl rfl fun a hf=>?_
         refine qS hf rfl rfl rfl fun a hf=>qS hf rfl rfl rfl fun a hf=>qS hf rfl rfl rfl fun a hf=>qS hf rfl rfl rfl fun a hf=>qE hf rfl rfl rfl (Pu.ev (pPt rfl rfl)) fun a hf=>rV (hf.kp rfl)
       intro a hf
       intro w hc
       refine gf _ _ ?_
       refine zI hf rfl hF ?_ ?_ <;> clear hF <;> intro hF
       ·refine wp_exit ?_
        refine aN ?_
        refine cT ?_
        exact ad V _ _  (hf.kp rfl) hc hF
       ·refine wp_skip ?_
        refine d7 _ _ ?_
        refine zS fun K h=>sp 1 hf rfl fun a hf=>zT h ?_
        refine wp_seq_k fun K34 gg=>zS fun K h=>sp 1 hf rfl fun a hf=>zT h ?_
        refine wp_block ?_
        obtain ⟨au,cd,hF⟩:=aA hF
        let S36:(Int × Int)→Act→World→Prop:=(fun (zz:Int × Int) a w=>Has 175 a [(1,.slice R l.length U),(2,pq O),(8,i6 Y),(9,i6 Z.Person),(10,i6 X.Station),(11,i6 V),(12,i6 q),(13,i6 zz.1),(14,i6 zz.2)]∧Ctx G (.box O [.slice H r.People.length I,.slice B r.Stations.length D] 108::Lf) w)
        have b8:∀ (zz:Int × Int) a w,au=.go zz→S36 zz a w→K34 a w:=by
         rintro ⟨d,k⟩ a w rfl ⟨hf,hc⟩
         replace hF:=bH hF
         refine gg _ _ ?_
         refine zS fun K h=>sp 2 hf rfl fun a hf=>zT h ?_
         refine zI hf rfl hF ?_ ?_ <;> clear hF <;> intro hF
         ·refine bW ?_
          refine sp 3 hf rfl fun a hf=>aL ?_
          exact ad (W (V + 1)) _ _  (hf.kp rfl) hc hF
         ·refine wp_skip ?_
          exact ad V _ _  (hf.kp rfl) hc hF
        have gn:∀ r,au=.out r→r=a6:=by
         rintro r rfl
         exact sj hF
        refine bY N (bX (S:=S36) (x:=au) ?_ N (0,0) _ _ ⟨hf.kp rfl,hc⟩ cd)
        clear hF hf hc
        rintro ⟨d,k⟩ az a w KB36 ⟨hf,hc⟩ hF ab cn
        unfold iF at hF
        refine wp_seq_k fun K38 dt=>zS fun K h=>sp 1 hf rfl fun a hf=>zP hf rfl (pFA gA rfl) fun a hf=>zL hf hc gB m0 rfl fun a w hf hc=>sp 1 hf rfl fun a hf=>?_
        obtain ⟨dz,cy,hF⟩:=aA hF
        obtain ⟨it,ia,g2,b2,bz,cc⟩:=M.atm cy
        refine zP hf rfl (pIA Tryz.underlying75 kX rfl rfl b2) fun a hf=>zE hf hc rfl (bF fB rfl (aR (j:=0) bz rfl)) fun a w hf hc=>sp 1 hf rfl fun a hf=>?_
        obtain ⟨dy,b5,hF⟩:=aA hF
        refine zQ (v:=i6 dy) hf hc uN rfl (fun w hc=>gD dz X.Station cc hc b5) fun a w hf hc=>sp 1 hf rfl fun a hf=>zT h ?_
        refine zI hf rfl hF ?_ ?_ <;> clear hF <;> intro hF
        ·refine wp_skip ?_
         refine dt _ _ ?_
         refine wp_seq_k fun K40 gi=>?_
         have am:∀ (b:Int) a w,Has 175 a [(1,.slice R l.length U),(2,pq O),(8,i6 Y),(9,i6 Z.Person),(10,i6 X.Station),(11,i6 V),(12,i6 q),(13,i6 b),(14,i6 k)]→Ctx G (.box O [.slice H r.People.length I,.slice B r.Stations.length D] 108::Lf) w→nF N k b=some az→K40 a w:=by
          repeat (clear hF)
          repeat (clear hc)
          repeat (clear hf)
          intro b a w hf hc hF
          unfold nF at hF
          refine gi _ _ ?_
          refine bW ?_
          refine sp 3 hf rfl fun a hf=>aL ?_
          exact cn (b,W (k + 1)) _ _ (sj hF).symm ⟨hf.kp rfl,hc⟩
         refine wp_block ?_
         refine wp_seq_k fun K41 d5=>?_
         obtain ⟨iv,b9,hF⟩:=aA hF
         obtain ⟨g8,ii,gz,c8,dg,b3⟩:=M.atm b9
         obtain ⟨bq,df,hF⟩:=aA hF
         obtain ⟨ik,ib,c4,cb⟩:=b3.atm df
         obtain ⟨bs,dm,hF⟩:=aA hF
         refine cQ hc aT (by kernel_rfl) ?_
         refine qE hf rfl rfl rfl (kG (vs:=[.slice H r.People.length I,.slice B r.Stations.length D]) sI rfl rfl (bM (n:=2) m0 rfl)) fun a hf=>qE hf rfl rfl rfl (Pu.ev (pM rfl)) fun a hf=>qE hf rfl rfl rfl (Pu.ev (pFA gA rfl)) fun a hf=>qE hf rfl rfl rfl (bF gB rfl (bL m0 rfl)) fun a hf=>qE hf rfl rfl rfl (Pu.ev (pM rfl)) fun a hf=>qE hf rfl rfl rfl (Pu.ev (pIA Tryz.underlying75 kX rfl rfl c8)) fun a hf=>qE hf rfl rfl rfl (bF fB rfl (aR (j:=0) dg rfl)) fun a hf=>qE hf rfl rfl rfl (Pu.ev (pM rfl)) fun a hf=>qE hf rfl rfl rfl (Pu.ev (pIA Tryz.underlying25 eH rfl rfl c4)) fun a hf=>qE hf rfl rfl rfl (bF bG rfl (aR (j:=0) cb rfl)) fun a hf=>qE hf rfl rfl rfl (eC (v:=.bool bs) (vs:=[.agg #[.slice H r.People.length I,.slice B r.Stations.length D],i6 q,i6 bq]) (caps:=[]) aA2 rfl rfl rfl rfl (fun w hc=>jL r q bq M J hc dm)) fun a hf=>qE hf rfl rfl rfl (Pu.ev (aEy rfl)) fun a hf=>qE hf rfl rfl rfl (Pu.ev (pA rfl)) fun a hf=>?_
         intro w hc
         refine d5 _ _ ?_
         refine wp_seq_k fun K42 d6=>zS fun K h=>sp 1 hf rfl fun a hf=>zT h ?_
         refine wp_block ?_
         obtain ⟨ak,c9,hF⟩:=aA hF
         let S44:(Bool × Int)→Act→World→Prop:=(fun (zz:Bool × Int) a w=>Has 175 a [(1,.slice R l.length U),(2,pq O),(8,i6 Y),(9,i6 Z.Person),(10,i6 X.Station),(11,i6 V),(12,i6 q),(13,i6 d),(14,i6 k),(15,.bool zz.1),(16,i6 zz.2)]∧Ctx G (.box O [.slice H r.People.length I,.slice B r.Stations.length D] 108::Lf) w)
         have c3:∀ (zz:Bool × Int) a w,ak=.go zz→S44 zz a w→K42 a w:=by
          rintro ⟨z,aa⟩ a w rfl ⟨hf,hc⟩
          replace hF:=bH hF
          refine d6 _ _ ?_
          refine zS fun K h=>sp 2 hf rfl fun a hf=>zT h ?_
          refine zI hf rfl hF ?_ ?_ <;> clear hF <;> intro hF
          ·refine bW ?_
           refine sp 3 hf rfl fun a hf=>aL ?_
           exact am (W (d + 1)) _ _  (hf.kp rfl) hc hF
          ·refine wp_skip ?_
           exact am d _ _  (hf.kp rfl) hc hF
         have gy:∀ r,ak=.out r→r=az:=by
          rintro r rfl
          exact sj hF
         refine bY N (bX (S:=S44) (x:=ak) ?_ N ((!bs),0) _ _ ⟨hf.kp rfl,hc⟩ c9)
         clear hF hf hc
         rintro ⟨z,aa⟩ gv a w KB44 ⟨hf,hc⟩ hF u dj
         unfold iB at hF
         refine wp_seq_k fun K46 dp=>zS fun K h=>sp 3 hf rfl fun a hf=>zT h ?_
         refine zI hf rfl hF ?_ ?_ <;> clear hF <;> intro hF
         ·refine wp_skip ?_
          refine dp _ _ ?_
          refine wp_seq_k fun K48 d3=>wp_block ?_
          obtain ⟨bp,a4,hF⟩:=aA hF
          refine cQ hc aT (by kernel_rfl) ?_
          refine qE hf rfl rfl rfl (Pu.ev (pM rfl)) fun a hf=>qE hf rfl rfl rfl (Pu.ev (pM rfl)) fun a hf=>aBc 24 (fun a=>Has 175 a [(1,.slice R l.length U),(2,pq O),(8,i6 Y),(9,i6 Z.Person),(10,i6 X.Station),(11,i6 V),(12,i6 q),(13,i6 d),(14,i6 k),(15,.bool z),(16,i6 aa),(133,.bool z),(134,.bool z),(158,.bool bp)]) ?_ ?_
          ·cases hb:z
           ·rw [hb] at hf
            have hF:=gN hb a4
            obtain ⟨ai,b0,hF⟩:=aA hF
            obtain ⟨ay,bt,ct,b1⟩:=s.atm b0
            obtain ⟨d1,ap,hF⟩:=aA hF
            refine qE hf rfl rfl rfl (Pu.ev (pM rfl)) fun a hf=>qE hf rfl rfl rfl (Pu.ev (pM rfl)) fun a hf=>qE hf rfl rfl rfl (Pu.ev (pIA Tryz.underlying116 rD rfl rfl ct)) fun a hf=>qE hf rfl rfl rfl (Pu.ev (pFA aDc rfl)) fun a hf=>qE hf rfl rfl rfl (bF bG rfl (aR (j:=0) b1 rfl)) fun a hf=>qE hf rfl rfl rfl (Pu.ev (pM rfl)) fun a hf=>qE hf rfl rfl rfl (Pu.ev (pEq rfl rfl)) fun a hf=>qE hf rfl rfl rfl (Pu.ev (pM rfl)) fun a hf=>aBc 15 (fun a=>Has 175 a [(1,.slice R l.length U),(2,pq O),(8,i6 Y),(9,i6 Z.Person),(10,i6 X.Station),(11,i6 V),(12,i6 q),(13,i6 d),(14,i6 k),(15,.bool false),(16,i6 aa),(133,.bool false),(134,.bool false),(135,.slice R l.length U),(136,i6 aa),(137,.pointer (some ⟨ay,bt,none⟩)),(138,.pointer (some ⟨ay,bt + 0,none⟩)),(139,i6 ai.Person),(140,i6 q),(141,.bool (ai.Person == q)),(142,.bool (ai.Person == q)),(157,.bool d1)]) ?_ ?_
            ·cases hb:(ai.Person == q)
             ·rw [hb] at hf
              have hF:=gN hb ap
              obtain rfl:=sj hF
              refine qS hf rfl rfl rfl fun a hf=>qS hf rfl rfl rfl fun a hf=>qS hf rfl rfl rfl fun a hf=>qS hf rfl rfl rfl fun a hf=>qS hf rfl rfl rfl fun a hf=>qS hf rfl rfl rfl fun a hf=>qS hf rfl rfl rfl fun a hf=>qS hf rfl rfl rfl fun a hf=>qS hf rfl rfl rfl fun a hf=>qS hf rfl rfl rfl fun a hf=>qS hf rfl rfl rfl fun a hf=>qS hf rfl rfl rfl fun a hf=>qS hf rfl rfl rfl fun a hf=>?_
              refine qS hf rfl rfl rfl fun a hf=>qE hf rfl rfl rfl (Pu.ev (pPf rfl rfl)) fun a hf=>rV (hf.kp rfl)
             ·rw [hb] at hf
              have hF:=fU hb ap
              obtain ⟨gs,a7,hF⟩:=aA hF
              obtain ⟨gr,g9,c1,ca⟩:=s.atm a7
              obtain ⟨g6,ba,hF⟩:=aA hF
              obtain ⟨gq,gu,g0,bd,bm,cj⟩:=M.atm ba
              obtain ⟨g7,a9,hF⟩:=aA hF
              obtain ⟨g3,g5,bf,bk⟩:=cj.atm a9
              refine qE hf rfl rfl rfl (Pu.ev (pM rfl)) fun a hf=>qE hf rfl rfl rfl (Pu.ev (pM rfl)) fun a hf=>qE hf rfl rfl rfl (Pu.ev (pIA Tryz.underlying116 rD rfl rfl c1)) fun a hf=>qE hf rfl rfl rfl (Pu.ev (pFA aCu rfl)) fun a hf=>qE hf rfl rfl rfl (bF bG rfl (aR (j:=1) ca rfl)) fun a hf=>qE hf rfl rfl rfl (Pu.ev (pFA gA rfl)) fun a hf=>qE hf rfl rfl rfl (bF gB rfl (bL m0 rfl)) fun a hf=>qE hf rfl rfl rfl (Pu.ev (pM rfl)) fun a hf=>qE hf rfl rfl rfl (Pu.ev (pIA Tryz.underlying75 kX rfl rfl bd)) fun a hf=>qE hf rfl rfl rfl (bF fB rfl (aR (j:=0) bm rfl)) fun a hf=>qE hf rfl rfl rfl (Pu.ev (pM rfl)) fun a hf=>qE hf rfl rfl rfl (Pu.ev (pIA Tryz.underlying25 eH rfl rfl bf)) fun a hf=>qE hf rfl rfl rfl (bF bG rfl (aR (j:=0) bk rfl)) fun a hf=>?_
              refine qE hf rfl rfl rfl (Pu.ev (pEq rfl rfl)) fun a hf=>qE hf rfl rfl rfl (Pu.ev (pPt rfl rfl)) fun a hf=>?_
              obtain rfl:=sj hF
              exact rV (hf.kp rfl)
            intro a hf
            refine qE hf rfl rfl rfl (Pu.ev (pPf rfl rfl)) fun a hf=>?_
            obtain rfl:=sj hF
            exact rV (hf.kp rfl)
           ·rw [hb] at hf
            have hF:=fU hb a4
            obtain rfl:=sj hF
            refine qS hf rfl rfl rfl fun a hf=>qS hf rfl rfl rfl fun a hf=>qS hf rfl rfl rfl fun a hf=>qS hf rfl rfl rfl fun a hf=>qS hf rfl rfl rfl fun a hf=>qS hf rfl rfl rfl fun a hf=>qS hf rfl rfl rfl fun a hf=>qS hf rfl rfl rfl fun a hf=>qS hf rfl rfl rfl fun a hf=>qS hf rfl rfl rfl fun a hf=>qS hf rfl rfl rfl fun a hf=>qS hf rfl rfl rfl fun a hf=>qS hf rfl rfl rfl fun a hf=>?_
            refine qS hf rfl rfl rfl fun a hf=>qS hf rfl rfl rfl fun a hf=>qS hf rfl rfl rfl fun a hf=>qS hf rfl rfl rfl fun a hf=>qS hf rfl rfl rfl fun a hf=>qS hf rfl rfl rfl fun a hf=>qS hf rfl rfl rfl fun a hf=>qS hf rfl rfl rfl fun a hf=>qS hf rfl rfl rfl fun a hf=>qS hf rfl rfl rfl fun a hf=>qE hf rfl rfl rfl (Pu.ev (pPt rfl rfl)) fun a hf=>rV (hf.kp rfl)
          intro a hf
          refine qE hf rfl rfl rfl (Pu.ev (pA rfl)) fun a hf=>?_
          intro w hc
          refine d3 _ _ ?_
          refine bW ?_
          refine sp 3 hf rfl fun a hf=>aL ?_
          exact dj (bp,W (aa + 1)) _ _ (sj hF).symm ⟨hf.kp rfl,hc⟩
         ·refine wp_exit ?_
          refine aN ?_
          refine aN ?_
          have he:=sj hF
          rw [← he] at u
          refine cT ?_
          exact c3 _ _ _ u ⟨hf.kp rfl,hc⟩
        ·refine wp_exit ?_
         refine aN ?_
         refine aN ?_
         have he:=sj hF
         rw [← he] at ab
         refine cT ?_
         exact b8 _ _ _ ab ⟨hf.kp rfl,hc⟩
      ·refine wp_exit ?_
       refine aN ?_
       refine aN ?_
       have he:=sj hF
       rw [← he] at t
       refine cT ?_
       exact c7 _ _ _ t ⟨hf.kp rfl,hc⟩
    ·refine wp_exit ?_
     refine aN ?_
     refine aN ?_
     have he:=sj hF
     rw [← he] at p
     refine cT ?_
     exact dc _ _ _ p ⟨hf.kp rfl,hc⟩
   have bv:∀ r,a1=.out r→r=y:=by
    rintro r rfl
    exact sj hF
   refine bY N (bX (S:=S11) (x:=a1) ?_ N 0 _ _ ⟨hf.kp rfl,hc⟩ cf)
   clear hF hf hc
   rintro ag g1 a w KB11 ⟨hf,hc⟩ hF i dn
   unfold iH at hF
   refine wp_seq_k fun K49 gb=>zS fun K h=>sp 2 hf rfl fun a hf=>zP hf rfl (aW Tryz.underlying116 rfl) fun a hf=>sp 1 hf rfl fun a hf=>zT h ?_
   refine zI hf rfl hF ?_ ?_ <;> clear hF <;> intro hF
   ·refine wp_skip ?_
    refine gb _ _ ?_
    refine wp_seq_k fun K51 ga=>wp_block ?_
    refine wp_seq_k fun K52 gc=>?_
    obtain ⟨g,bb,hF⟩:=aA hF
    obtain ⟨a5,an,bi,bc⟩:=s.atm bb
    obtain ⟨ds,ax,hF⟩:=aA hF
    refine cQ hc aT (by kernel_rfl) ?_
    refine qE hf rfl rfl rfl (Pu.ev (pM rfl)) fun a hf=>qE hf rfl rfl rfl (Pu.ev (pM rfl)) fun a hf=>qE hf rfl rfl rfl (Pu.ev (pIA Tryz.underlying116 rD rfl rfl bi)) fun a hf=>qE hf rfl rfl rfl (Pu.ev (pFA aDc rfl)) fun a hf=>qE hf rfl rfl rfl (bF bG rfl (aR (j:=0) bc rfl)) fun a hf=>qE hf rfl rfl rfl (Pu.ev (pFA gA rfl)) fun a hf=>qE hf rfl rfl rfl (bF gB rfl (bL m0 rfl)) fun a hf=>qE hf rfl rfl rfl (Pu.ev (aW Tryz.underlying75 rfl)) fun a hf=>qE hf rfl rfl rfl (Pu.ev (aKl rfl rfl)) fun a hf=>qE hf rfl rfl rfl (eC (v:=.bool (cB g.Person 0 (W (((r.People.length:Nat):Int) - 1)))) (vs:=[i6 g.Person,i6 0,i6 (W (((r.People.length:Nat):Int) - 1))]) (caps:=[]) aFf rfl rfl rfl rfl (fun w hc=>mJ g.Person 0 (W (((r.People.length:Nat):Int) - 1)) hc rfl)) fun a hf=>qE hf rfl rfl rfl (Pu.ev (pM rfl)) fun a hf=>aBc 11 (fun a=>Has 175 a [(1,.slice R l.length U),(2,pq O),(7,i6 ag),(31,.slice R l.length U),(32,i6 ag),(33,.pointer (some ⟨a5,an,none⟩)),(34,.pointer (some ⟨a5,an + 0,none⟩)),(35,i6 g.Person),(36,pq O),(37,.slice H r.People.length I),(38,i6 ((r.People.length:Nat):Int)),(39,i6 (W (((r.People.length:Nat):Int) - 1))),(40,.bool (cB g.Person 0 (W (((r.People.length:Nat):Int) - 1)))),(41,.bool (cB g.Person 0 (W (((r.People.length:Nat):Int) - 1)))),(52,.bool ds)]) ?_ ?_
    ·cases hb:(cB g.Person 0 (W (((r.People.length:Nat):Int) - 1)))
     ·rw [hb] at hf
      have hF:=gN hb ax
      obtain ⟨af,bj,hF⟩:=aA hF
      obtain ⟨gx,g4,bg,a8⟩:=s.atm bj
      refine qE hf rfl rfl rfl (Pu.ev (pM rfl)) fun a hf=>qE hf rfl rfl rfl (Pu.ev (pM rfl)) fun a hf=>qE hf rfl rfl rfl (Pu.ev (pIA Tryz.underlying116 rD rfl rfl bg)) fun a hf=>qE hf rfl rfl rfl (Pu.ev (pFA aCu rfl)) fun a hf=>qE hf rfl rfl rfl (bF bG rfl (aR (j:=1) a8 rfl)) fun a hf=>qE hf rfl rfl rfl (Pu.ev (pFA gC rfl)) fun a hf=>qE hf rfl rfl rfl (bF mI rfl (bL m0 rfl)) fun a hf=>qE hf rfl rfl rfl (Pu.ev (aW Tryz.underlying106 rfl)) fun a hf=>qE hf rfl rfl rfl (Pu.ev (aKl rfl rfl)) fun a hf=>qE hf rfl rfl rfl (eC (v:=.bool (cB af.Station 0 (W (((r.Stations.length:Nat):Int) - 1)))) (vs:=[i6 af.Station,i6 0,i6 (W (((r.Stations.length:Nat):Int) - 1))]) (caps:=[]) aFf rfl rfl rfl rfl (fun w hc=>mJ af.Station 0 (W (((r.Stations.length:Nat):Int) - 1)) hc rfl)) fun a hf=>qE hf rfl rfl rfl (Pu.ev (pPf rfl rfl)) fun a hf=>?_
      obtain rfl:=sj hF
      exact rV (hf.kp rfl)
     ·rw [hb] at hf
      have hF:=fU hb ax
      obtain rfl:=sj hF
      refine qS hf rfl rfl rfl fun a hf=>qS hf rfl rfl rfl fun a hf=>qS hf rfl rfl rfl fun a hf=>qS hf rfl rfl rfl fun a hf=>qS hf rfl rfl rfl fun a hf=>qS hf rfl rfl rfl fun a hf=>qS hf rfl rfl rfl fun a hf=>qS hf rfl rfl rfl fun a hf=>qS hf rfl rfl rfl fun a hf=>qS hf rfl rfl rfl fun a hf=>qE hf rfl rfl rfl (Pu.ev (pPt rfl rfl)) fun a hf=>rV (hf.kp rfl)
    intro a hf
    intro w hc
    refine gc _ _ ?_
    refine zI hf rfl hF ?_ ?_ <;> clear hF <;> intro hF
    ·refine zS fun K h=>sp 2 hf rfl fun a hf=>zT h ?_
     refine wp_ret ?_
     refine bB ?_
     refine aH ?_
     refine aH ?_
     have he:=sj hF
     rw [← he] at i
     replace hF:=bv _ i
     refine bB ?_
     refine aH ?_
     obtain rfl:=hF
     replace hc:=hc.drop k0
     exact zO2 Tryz.results60 hf rfl rfl ⟨rfl,hc⟩
    ·refine wp_skip ?_
     refine ga _ _ ?_
     refine bW ?_
     refine sp 3 hf rfl fun a hf=>aL ?_
     exact dn (W (ag + 1)) _ _ (sj hF).symm ⟨hf.kp rfl,hc⟩
   ·refine wp_exit ?_
    refine aN ?_
    refine aN ?_
    have he:=sj hF
    rw [← he] at i
    refine cT ?_
    exact c0 _ _ _ i ⟨hf.kp rfl,hc⟩

def iS (N:Nat) (I:Int) (B:List Int) (H:List Int) (D:Bool):Option (bK ((List Int) × (List Int) × Bool × Int) (bK ((List Int) × (List Int) × Bool) ((List Int) × Int))) :=
 some (.cont (B,H,D,W (I + 1)))
def mH (N:Nat) (q:Int) (B:Int):Option (bK (Int × Int) (bK ((List Int) × (List Int) × Bool × Int) (bK ((List Int) × (List Int) × Bool) ((List Int) × Int)))) :=
 some (.cont (B,W (q + 1)))
def iR (N:Nat) (r:bE) (B:List Int) (R:Int) (H:Int) (D:Int) (q:Int):Option (bK (Int × Int) (bK ((List Int) × (List Int) × Bool × Int) (bK ((List Int) × (List Int) × Bool) ((List Int) × Int)))) :=
 cond (decide (q < ((r.People.length:Nat):Int)))
 (Option.bind (aU (B.set R.toNat H) q) fun M=>
 Option.bind (cond (M == H) (Option.bind (aU r.Stations H) fun I=>
 Option.bind (dB N I.Order q) fun O=>
 Option.bind (aU r.Stations H) fun J=>
 Option.bind (dB N J.Order D) fun S=>
 some (decide (S < O))) (some false)) fun U=>
 cond U
 (mH N q q)
 (mH N q D))
 (some (.brk (D,q)))
def eM (N:Nat) (r:bE) (B:List Int) (H:List Int) (J:Bool) (D:Int):Option (bK ((List Int) × (List Int) × Bool × Int) (bK ((List Int) × (List Int) × Bool) ((List Int) × Int))) :=
 cond (decide (D < ((r.People.length:Nat):Int)))
 (Option.bind (aU B D) fun U=>
 Option.bind (cond (U != (-1)) (some true) (Option.bind (aU H D) fun d=>
 Option.bind (aU r.People D) fun Z=>
 some (d == ((Z.length:Nat):Int)))) fun V=>
 cond V
 (iS N D B H J)
 (Option.bind (aU r.People D) fun g=>
 Option.bind (aU H D) fun Y=>
 Option.bind (aU g Y) fun I=>
 Option.bind (aU H D) fun O=>
 Option.bind (aU H D) fun j=>
 Option.bind (eF N r D I) fun X=>
 cond (!X)
 (iS N D B (H.set D.toNat (W (O + 1))) true)
 (Option.bind (aU B D) fun k=>
 Option.bind (oB N (B.set D.toNat I) I) fun b=>
 Option.bind (aU r.Stations I) fun R=>
 cond (decide (b≤R.Places))
 (iS N D (B.set D.toNat I) (H.set D.toNat (W (O + 1))) true)
 (Option.bind (aS (fun M=>iR N r B D I M.1 M.2) N (D,0)) fun S=>
 exK S (fun M=>Option.bind (aU (B.set D.toNat I) M.1) fun i=>
 iS N D ((B.set D.toNat I).set M.1.toNat (-1)) (H.set D.toNat (W (O + 1))) true) some))))
 (some (.brk (B,H,J,D)))
def gP (N:Nat) (r:bE) (B:List Int) (H:List Int) (I:Bool):Option (bK ((List Int) × (List Int) × Bool) ((List Int) × Int)) :=
 cond I
 (Option.bind (aS (fun D=>eM N r D.1 D.2.1 D.2.2.1 D.2.2.2) N (B,H,false,0)) fun J=>
 exK J (fun D=>some (.cont (D.1,D.2.1,D.2.2.1))) some)
 (some (.brk (B,H,I)))
def gV (N:Nat) (r:bE) (B:List Int) (D:Int):Option (bK ((List Int) × Int) ((List Int) × Int)) :=
 cond (decide (D < ((r.People.length:Nat):Int)))
 (Option.bind (aU B D) fun H=>
 some (.cont ((B.set D.toNat (-1)),W (D + 1))))
 (some (.brk (B,D)))
def lP (N:Nat) (r:bE):Option ((List Int) × Int) :=
 Option.bind (lF N r) fun H=>
 cond (H != 0)
 (some (([]:List Int),H))
 (Option.bind (inM ((r.People.length:Nat):Int)) fun un=>
 Option.bind (inM ((r.People.length:Nat):Int)) fun M=>
 Option.bind (aS (fun D=>gV N r D.1 D.2) N ((List.replicate ((r.People.length:Nat):Int).toNat (0:Int)),0)) fun I=>
 exK I (fun D=>Option.bind (aS (fun B=>gP N r B.1 B.2.1 B.2.2) N (D.1,(List.replicate ((r.People.length:Nat):Int).toNat (0:Int)),true)) fun J=>
 exK J (fun B=>some (B.1,0)) some) some)
theorem aB2 {N:Nat} {G:aQ} {Lf:List Ent} {w:World} (r:bE) {M:Option Addr} {O:Nat} {H:Option Addr} {I:Nat} (b:RdT aM G 1 M O r.People) (V:RdT hL G 2 H I r.Stations) (hc:Ctx G (Lf) w) {ak:(List Int) × Int} (hF:lP N r=some ak):Calls Tryz.prog 62 #[.agg #[.slice M r.People.length O,.slice H r.Stations.length I]] w (fun e w=>∃ (b7:Option Addr) (b8:Nat),e=.returned (.tuple #[.slice b7 ak.1.length b8,i6 ak.2])∧Ctx G (.row b7 b8 (ak.1.map aD) 3 1::Lf) w):=by
 unfold lP at hF
 refine bN Tryz.func62 rfl Tryz.ntmps62 rfl fun a hf=>zS fun K h=>zB hf hc rfl fun d a w hf hc=>sp 2 hf rfl fun a hf=>zT h ?_
 refine wp_seq_k fun K2 h2=>zS fun K h=>zN hf hc sI m0 rfl fun a w hf hc=>?_
 obtain ⟨d0,cu,hF⟩:=aA hF
 refine zQ (v:=i6 d0) hf hc aHg rfl (fun w hc=>pQ r b V hc cu) fun a w hf hc=>sp 1 hf rfl fun a hf=>zT h ?_
 refine zS fun K h=>sp 2 hf rfl fun a hf=>zT h ?_
 refine zI hf rfl hF ?_ ?_ <;> clear hF <;> intro hF
 ·refine zS fun K h=>sp 3 hf rfl fun a hf=>zT h ?_
  refine wp_ret ?_
  refine aH ?_
  obtain rfl:=sj hF
  replace hc:=hc.nilRow 3 1
  replace hc:=hc.drop k1
  exact zO2 Tryz.results62 hf rfl rfl ⟨none,0,rfl,hc⟩
 ·refine wp_skip ?_
  refine h2 _ _ ?_
  refine zS fun K h=>zP hf rfl (pFA gA rfl) fun a hf=>zL hf hc gB m0 rfl fun a w hf hc=>zP hf rfl (aW Tryz.underlying75 rfl) fun a hf=>?_
  obtain ⟨un,dv,hF⟩:=aA hF
  refine stMk (m:=(List.replicate ((r.People.length:Nat):Int).toNat (0:Int)).length) (rows:=(List.replicate ((r.People.length:Nat):Int).toNat (0:Int)).map aD) hf hc rfl rfl jO rfl rfl (aAh dv) rfl rfl (by simp [List.map_replicate,Value.cells]) (by simp) fun d8 a w hf hc=>sp 1 hf rfl fun a hf=>zT h ?_
  refine zS fun K h=>zP hf rfl (pFA gA rfl) fun a hf=>zL hf hc gB m1 rfl fun a w hf hc=>zP hf rfl (aW Tryz.underlying75 rfl) fun a hf=>?_
  obtain ⟨gs,b4,hF⟩:=aA hF
  refine stMk (m:=(List.replicate ((r.People.length:Nat):Int).toNat (0:Int)).length) (rows:=(List.replicate ((r.People.length:Nat):Int).toNat (0:Int)).map aD) hf hc rfl rfl jO rfl rfl (aAh b4) rfl rfl (by simp [List.map_replicate,Value.cells]) (by simp) fun a8 a w hf hc=>sp 1 hf rfl fun a hf=>zT h ?_
  refine wp_seq_k fun K8 h8=>zS fun K h=>sp 1 hf rfl fun a hf=>zT h ?_
  refine wp_block ?_
  obtain ⟨a7,cd,hF⟩:=aA hF
  let S10:((List Int) × Int)→Act→World→Prop:=(fun (zz:(List Int) × Int) a w=>∃ (an:Option Addr) (ac:Nat),Has 138 a [(1,pq d),(5,.slice an zz.1.length ac),(6,.slice (some ⟨a8,0,none⟩) ((List.replicate ((r.People.length:Nat):Int).toNat (0:Int)).length) (((r.People.length:Nat):Int).toNat)),(7,i6 zz.2)]∧Ctx G (.row (some ⟨a8,0,none⟩) (((r.People.length:Nat):Int).toNat) ((List.replicate ((r.People.length:Nat):Int).toNat (0:Int)).map aD) 3 1::.row an ac (zz.1.map aD) 3 1::.box d [.slice M r.People.length O,.slice H r.Stations.length I] 108::Lf) w)
  have cr:∀ (zz:(List Int) × Int) a w,a7=.go zz→S10 zz a w→K8 a w:=by
   rintro ⟨Z,a2⟩ a w rfl ⟨an,ac,hf,hc⟩
   replace hF:=bH hF
   refine h8 _ _ ?_
   refine wp_seq_k fun K11 gn=>zS fun K h=>sp 1 hf rfl fun a hf=>zT h ?_
   refine wp_block ?_
   obtain ⟨bi,c7,hF⟩:=aA hF
   let S13:((List Int) × (List Int) × Bool)→Act→World→Prop:=(fun (zz:(List Int) × (List Int) × Bool) a w=>∃ (ag:Option Addr) (af:Nat) (aj:Option Addr) (ai:Nat),Has 138 a [(1,pq d),(5,.slice ag zz.1.length af),(6,.slice aj zz.2.1.length ai),(8,.bool zz.2.2)]∧Ctx G (.row aj ai (zz.2.1.map aD) 3 1::.row ag af (zz.1.map aD) 3 1::.box d [.slice M r.People.length O,.slice H r.Stations.length I] 108::Lf) w)
   have dd:∀ (zz:(List Int) × (List Int) × Bool) a w,bi=.go zz→S13 zz a w→K11 a w:=by
    rintro ⟨t,az,b3⟩ a w rfl ⟨ag,af,aj,ai,hf,hc⟩
    replace hF:=bH hF
    refine gn _ _ ?_
    refine zS fun K h=>sp 3 hf rfl fun a hf=>zT h ?_
    refine wp_ret ?_
    obtain rfl:=sj hF
    replace hc:=(hc.drop k2).drop k0
    exact zO2 Tryz.results62 hf rfl rfl ⟨ag,af,rfl,hc⟩
   have gz:∀ r,bi=.out r→r=ak:=by
    rintro r rfl
    exact sj hF
   refine bY N (bX (S:=S13) (x:=bi) ?_ N (Z,(List.replicate ((r.People.length:Nat):Int).toNat (0:Int)),true) _ _ ⟨an,ac,(some ⟨a8,0,none⟩),((r.People.length:Nat):Int).toNat,hf.kp rfl,hc⟩ c7)
   clear hF hf hc
   rintro ⟨t,az,b3⟩ dr a w KB13 ⟨ag,af,aj,ai,hf,hc⟩ hF au cn
   unfold gP at hF
   refine wp_seq_k fun K15 d9=>zS fun K h=>sp 1 hf rfl fun a hf=>zT h ?_
   refine zI hf rfl hF ?_ ?_ <;> clear hF <;> intro hF
   ·refine wp_skip ?_
    refine d9 _ _ ?_
    refine qB fun K17 d6=>wp_block ?_
    refine zS fun K h=>sp 1 hf rfl fun a hf=>zT h ?_
    refine zS fun K h=>sp 1 hf rfl fun a hf=>zT h ?_
    refine qB fun K20 gc=>wp_block ?_
    obtain ⟨bb,c4,hF⟩:=aA hF
    let S21:((List Int) × (List Int) × Bool × Int)→Act→World→Prop:=(fun (zz:(List Int) × (List Int) × Bool × Int) a w=>∃ (am:Option Addr) (U:Nat) (ad:Option Addr) (X:Nat),Has 138 a [(1,pq d),(5,.slice am zz.1.length U),(6,.slice ad zz.2.1.length X),(8,.bool zz.2.2.1),(9,i6 zz.2.2.2)]∧Ctx G (.row ad X (zz.2.1.map aD) 3 1::.row am U (zz.1.map aD) 3 1::.box d [.slice M r.People.length O,.slice H r.Stations.length I] 108::Lf) w)
    have dp:∀ (zz:(List Int) × (List Int) × Bool × Int) a w,bb=.go zz→S21 zz a w→K20 a w:=by
     rintro ⟨B,D,y,J⟩ a w rfl ⟨am,U,ad,X,hf,hc⟩
     replace hF:=bH hF
     refine gc _ _ ?_
     refine d6 _ _ ?_
     exact cn (B,D,y) _ _ (sj hF).symm ⟨am,U,ad,X,hf.kp rfl,hc⟩
    have gy:∀ r,bb=.out r→r=dr:=by
     rintro r rfl
     exact sj hF
    refine bY N (bX (S:=S21) (x:=bb) ?_ N (t,az,false,0) _ _ ⟨ag,af,aj,ai,hf.kp rfl,hc⟩ c4)
    clear hF hf hc
    rintro ⟨B,D,y,J⟩ bf a w KB21 ⟨am,U,ad,X,hf,hc⟩ hF ax b9
    unfold eM at hF
    refine wp_seq_k fun K22 d2=>zS fun K h=>sp 1 hf rfl fun a hf=>zP hf rfl (pFA gA rfl) fun a hf=>zL hf hc gB m2 rfl fun a w hf hc=>zP hf rfl (aW Tryz.underlying75 rfl) fun a hf=>sp 1 hf rfl fun a hf=>zT h ?_
    refine zI hf rfl hF ?_ ?_ <;> clear hF <;> intro hF
    ·refine wp_skip ?_
     refine d2 _ _ ?_
     refine wp_seq_k fun K24 ds=>?_
     have ap:∀ (R:List Int) (p:List Int) (aa:Bool) (a6:Option Addr) (a4:Nat) (ay:Option Addr) (a3:Nat) a w,Has 138 a [(1,pq d),(5,.slice a6 R.length a4),(6,.slice ay p.length a3),(8,.bool aa),(9,i6 J)]→Ctx G (.row ay a3 (p.map aD) 3 1::.row a6 a4 (R.map aD) 3 1::.box d [.slice M r.People.length O,.slice H r.Stations.length I] 108::Lf) w→iS N J R p aa=some bf→K24 a w:=by
      repeat (clear hF)
      repeat (clear hc)
      repeat (clear hf)
      intro R p aa a6 a4 ay a3 a w hf hc hF
      unfold iS at hF
      refine ds _ _ ?_
      refine bW ?_
      refine sp 3 hf rfl fun a hf=>aL ?_
      exact b9 (R,p,aa,W (J + 1)) _ _ (sj hF).symm ⟨a6,a4,ay,a3,hf.kp rfl,hc⟩
     refine wp_block ?_
     refine wp_seq_k fun K25 gb=>wp_seq_k fun K26 d1=>?_
     obtain ⟨a0,cm,hF⟩:=aA hF
     obtain ⟨g,rfl,qa,qr⟩:=nQ hc m1 cm
     obtain ⟨d5,bp,hF⟩:=aA hF
     refine cQ hc aT (by kernel_rfl) ?_
     refine qE hf rfl rfl rfl (Pu.ev (pM rfl)) fun a hf=>qE hf rfl rfl rfl (Pu.ev (pM rfl)) fun a hf=>qE hf rfl rfl rfl (Pu.ev (pIA Tryz.underlying25 eH rfl rfl qa)) fun a hf=>qE hf rfl rfl rfl (bF bG rfl (jA (sz:=1) (i:=J.toNat) (j:=0) m1 qr rfl)) fun a hf=>qE hf rfl rfl rfl (Pu.ev (pNe rfl rfl)) fun a hf=>qE hf rfl rfl rfl (Pu.ev (pM rfl)) fun a hf=>aBc 12 (fun a=>Has 138 a [(1,pq d),(5,.slice (some ⟨g,0,none⟩) B.length U),(6,.slice ad D.length X),(8,.bool y),(9,i6 J),(44,.slice (some ⟨g,0,none⟩) B.length U),(45,i6 J),(46,.pointer (some ⟨g,J.toNat * 1,none⟩)),(47,i6 a0),(48,.bool (a0 != (-1))),(49,.bool (a0 != (-1))),(61,.bool d5)]) ?_ ?_
     ·cases hb:(a0 != (-1))
      ·rw [hb] at hf
       have hF:=gN hb bp
       obtain ⟨it,dq,hF⟩:=aA hF
       obtain ⟨ic,rfl,cv,cb⟩:=nQ hc m0 dq
       obtain ⟨ik,c1,hF⟩:=aA hF
       obtain ⟨ix,o,hd,da,qp,g4⟩:=b.atm c1
       refine qE hf rfl rfl rfl (Pu.ev (pM rfl)) fun a hf=>qE hf rfl rfl rfl (Pu.ev (pM rfl)) fun a hf=>qE hf rfl rfl rfl (Pu.ev (pIA Tryz.underlying25 eH rfl rfl cv)) fun a hf=>qE hf rfl rfl rfl (bF bG rfl (jA (sz:=1) (i:=J.toNat) (j:=0) m0 cb rfl)) fun a hf=>qE hf rfl rfl rfl (Pu.ev (pFA gA rfl)) fun a hf=>qE hf rfl rfl rfl (bF gB rfl (bL m2 rfl)) fun a hf=>qE hf rfl rfl rfl (Pu.ev (pM rfl)) fun a hf=>qE hf rfl rfl rfl (Pu.ev (pIA Tryz.underlying75 kX rfl rfl da)) fun a hf=>qE hf rfl rfl rfl (bF fB rfl (aR (j:=0) qp rfl)) fun a hf=>qE hf rfl rfl rfl (Pu.ev (aW Tryz.underlying25 rfl)) fun a hf=>qE hf rfl rfl rfl (Pu.ev (pEq rfl rfl)) fun a hf=>qE hf rfl rfl rfl (Pu.ev (pPf rfl rfl)) fun a hf=>?_
       obtain rfl:=sj hF
       exact rV (hf.kp rfl)
      ·rw [hb] at hf
       have hF:=fU hb bp
       obtain rfl:=sj hF
       refine qS hf rfl rfl rfl fun a hf=>qS hf rfl rfl rfl fun a hf=>qS hf rfl rfl rfl fun a hf=>qS hf rfl rfl rfl fun a hf=>qS hf rfl rfl rfl fun a hf=>qS hf rfl rfl rfl fun a hf=>qS hf rfl rfl rfl fun a hf=>qS hf rfl rfl rfl fun a hf=>qS hf rfl rfl rfl fun a hf=>qS hf rfl rfl rfl fun a hf=>qS hf rfl rfl rfl fun a hf=>qE hf rfl rfl rfl (Pu.ev (pPt rfl rfl)) fun a hf=>rV (hf.kp rfl)
     intro a hf
     intro w hc
     refine d1 _ _ ?_
     refine zI hf rfl hF ?_ ?_ <;> clear hF <;> intro hF
     ·refine wp_exit ?_
      refine aN ?_
      refine cT ?_
      exact ap B D y (some ⟨g,0,none⟩) U ad X _ _  (hf.kp rfl) hc hF
     ·refine wp_skip ?_
      refine gb _ _ ?_
      refine zS fun K h=>sp 1 hf rfl fun a hf=>zT h ?_
      refine wp_seq_k fun K28 dy=>?_
      obtain ⟨iq,c3,hF⟩:=aA hF
      obtain ⟨i0,iz,g8,dc,c9,cs⟩:=b.atm c3
      obtain ⟨ib,cx,hF⟩:=aA hF
      obtain ⟨n,rfl,c8,cf⟩:=nQ hc m0 cx
      obtain ⟨Y,db,hF⟩:=aA hF
      obtain ⟨iy,iu,cg,ca⟩:=cs.atm db
      refine cQ hc aT (by kernel_rfl) ?_
      refine qE hf rfl rfl rfl (Pu.ev (pFA gA rfl)) fun a hf=>qE hf rfl rfl rfl (bF gB rfl (bL m2 rfl)) fun a hf=>qE hf rfl rfl rfl (Pu.ev (pM rfl)) fun a hf=>qE hf rfl rfl rfl (Pu.ev (pIA Tryz.underlying75 kX rfl rfl dc)) fun a hf=>qE hf rfl rfl rfl (bF fB rfl (aR (j:=0) c9 rfl)) fun a hf=>qE hf rfl rfl rfl (Pu.ev (pM rfl)) fun a hf=>qE hf rfl rfl rfl (Pu.ev (pM rfl)) fun a hf=>qE hf rfl rfl rfl (Pu.ev (pIA Tryz.underlying25 eH rfl rfl c8)) fun a hf=>qE hf rfl rfl rfl (bF bG rfl (jA (sz:=1) (i:=J.toNat) (j:=0) m0 cf rfl)) fun a hf=>qE hf rfl rfl rfl (Pu.ev (pIA Tryz.underlying25 eH rfl rfl cg)) fun a hf=>qE hf rfl rfl rfl (bF bG rfl (aR (j:=0) ca rfl)) fun a hf=>qE hf rfl rfl rfl (Pu.ev (pA rfl)) fun a hf=>?_
      intro w hc
      refine dy _ _ ?_
      refine zS fun K h=>sp 4 hf rfl fun a hf=>?_
      obtain ⟨ab,cp,hF⟩:=aA hF
      obtain ⟨dm,ct⟩:=nA hc m0 cp
      refine zP hf rfl (pIA Tryz.underlying25 eH rfl rfl dm) fun a hf=>zE hf hc rfl (bF bG rfl (jA (sz:=1) (i:=J.toNat) (j:=0) m0 ct rfl)) fun a w hf hc=>sp 1 hf rfl fun a hf=>?_
      obtain ⟨ii,bm,hF⟩:=aA hF
      obtain ⟨di,g2⟩:=nA hc m0 bm
      refine zP hf rfl (pIA Tryz.underlying25 eH rfl rfl di) fun a hf=>aDu (vs:=[i6 (W (ab + 1))]) (o':=0) (z:=W (ab + 1)) (xs:=D) hf hc rfl rfl rfl rfl eH rfl (fun x=>(bP x).1) (rH bm) (fun _ _=>rfl) rfl u0 fun w hc=>zT h ?_
      refine wp_seq_k fun K30 du=>zS fun K h=>zN hf hc sI m2 rfl fun a w hf hc=>sp 2 hf rfl fun a hf=>?_
      obtain ⟨dx,ci,hF⟩:=aA hF
      refine zQ (v:=.bool dx) hf hc aA2 rfl (fun w hc=>jL r J Y b V hc ci) fun a w hf hc=>sp 1 hf rfl fun a hf=>zT h ?_
      refine zI hf rfl hF ?_ ?_ <;> clear hF <;> intro hF
      ·refine wp_exit ?_
       refine aN ?_
       refine cT ?_
       replace hf:=hf.castAt 6 (v':=.slice (some ⟨n,0,none⟩) ((D.set J.toNat (W (ab + 1))).length) X) rfl (congrArg (fun k=>Value.slice (some ⟨n,0,none⟩) k X) (by simp))
       exact ap B (D.set J.toNat (W (ab + 1))) true (some ⟨g,0,none⟩) U (some ⟨n,0,none⟩) X _ _  (hf.kp rfl) hc hF
      ·refine wp_skip ?_
       refine du _ _ ?_
       refine zS fun K h=>sp 3 hf rfl fun a hf=>?_
       obtain ⟨ij,a9,hF⟩:=aA hF
       obtain ⟨c6,g5⟩:=nA hc m1 a9
       refine zP hf rfl (pIA Tryz.underlying25 eH rfl rfl c6) fun a hf=>aDu (vs:=[i6 Y]) (o':=0) (z:=Y) (xs:=B) hf hc rfl rfl rfl rfl eH rfl (fun x=>(bP x).1) (rH a9) (fun _ _=>rfl) rfl u1 fun w hc=>zT h ?_
       refine wp_seq_k fun K33 d7=>wp_seq_k fun K34 gd=>?_
       obtain ⟨gk,ck,hF⟩:=aA hF
       obtain ⟨gv,br,hF⟩:=aA hF
       obtain ⟨iv,ir,gr,df,dn,g6⟩:=V.atm br
       refine cQ hc aT (by kernel_rfl) ?_
       refine qE hf rfl rfl rfl (Pu.ev (pM rfl)) fun a hf=>qE hf rfl rfl rfl (Pu.ev (pM rfl)) fun a hf=>qE hf rfl rfl rfl (eC (v:=i6 gk) (vs:=[.slice (some ⟨g,0,none⟩) B.length U,i6 Y]) (caps:=[]) aGk rfl rfl rfl rfl (fun w hc=>by obtain ⟨G1,g3,cj,hc,c5⟩:=lend hc k1; have hq:=sY (B.set J.toNat Y) Y cj hc ck; simp only [List.length_set] at hq; exact (hq).mono fun e w h=>⟨h.1,((c5 _ _ h.2).unpick k1)⟩)) fun a hf=>qE hf rfl rfl rfl (Pu.ev (pFA gC rfl)) fun a hf=>qE hf rfl rfl rfl (bF mI rfl (bL m2 rfl)) fun a hf=>qE hf rfl rfl rfl (Pu.ev (pM rfl)) fun a hf=>qE hf rfl rfl rfl (Pu.ev (pIA Tryz.underlying106 rA rfl rfl df)) fun a hf=>qE hf rfl rfl rfl (Pu.ev (pFA wK rfl)) fun a hf=>qE hf rfl rfl rfl (bF bG rfl (aR (j:=0) dn rfl)) fun a hf=>qE hf rfl rfl rfl (Pu.ev (pLe rfl rfl)) fun a hf=>?_
       intro w hc
       refine gd _ _ ?_
       refine zI hf rfl hF ?_ ?_ <;> clear hF <;> intro hF
       ·refine wp_exit ?_
        refine aN ?_
        refine cT ?_
        replace hf:=hf.castAt 5 (v':=.slice (some ⟨g,0,none⟩) ((B.set J.toNat Y).length) U) rfl (congrArg (fun k=>Value.slice (some ⟨g,0,none⟩) k U) (by simp))
        replace hf:=hf.castAt 6 (v':=.slice (some ⟨n,0,none⟩) ((D.set J.toNat (W (ab + 1))).length) X) rfl (congrArg (fun k=>Value.slice (some ⟨n,0,none⟩) k X) (by simp))
        exact ap (B.set J.toNat Y) (D.set J.toNat (W (ab + 1))) true (some ⟨g,0,none⟩) U (some ⟨n,0,none⟩) X _ _  (hf.kp rfl) hc hF
       ·refine wp_skip ?_
        refine d7 _ _ ?_
        refine zS fun K h=>sp 2 hf rfl fun a hf=>zT h ?_
        refine wp_seq_k fun K36 gf=>zS fun K h=>sp 1 hf rfl fun a hf=>zT h ?_
        refine wp_block ?_
        obtain ⟨bc,cq,hF⟩:=aA hF
        let S38:(Int × Int)→Act→World→Prop:=(fun (zz:Int × Int) a w=>Has 138 a [(1,pq d),(5,.slice (some ⟨g,0,none⟩) B.length U),(6,.slice (some ⟨n,0,none⟩) D.length X),(8,.bool true),(9,i6 J),(10,i6 Y),(11,i6 zz.1),(12,i6 zz.2)]∧Ctx G (.row (some ⟨n,0,none⟩) X ((D.set J.toNat (W (ab + 1))).map aD) 3 1::.row (some ⟨g,0,none⟩) U ((B.set J.toNat Y).map aD) 3 1::.box d [.slice M r.People.length O,.slice H r.Stations.length I] 108::Lf) w)
        have dj:∀ (zz:Int × Int) a w,bc=.go zz→S38 zz a w→K36 a w:=by
         rintro ⟨s,q⟩ a w rfl ⟨hf,hc⟩
         replace hF:=bH hF
         refine gf _ _ ?_
         refine bW ?_
         refine sp 2 hf rfl fun a hf=>?_
         obtain ⟨g7,a1,hF⟩:=aA hF
         obtain ⟨bu,gq⟩:=nA hc m1 a1
         refine zP hf rfl (pIA Tryz.underlying25 eH rfl rfl (At.len bu (by simp only [List.length_set]))) fun a hf=>aDu (vs:=[i6 (-1)]) (o':=0) (z:=(-1)) (xs:=(B.set J.toNat Y)) hf hc rfl rfl rfl rfl eH rfl (fun x=>(bP x).1) (rH a1) (fun _ _=>rfl) rfl u1 fun w hc=>aL ?_
         replace hf:=hf.castAt 5 (v':=.slice (some ⟨g,0,none⟩) (((B.set J.toNat Y).set s.toNat (-1)).length) U) rfl (congrArg (fun k=>Value.slice (some ⟨g,0,none⟩) k U) (by simp))
         replace hf:=hf.castAt 6 (v':=.slice (some ⟨n,0,none⟩) ((D.set J.toNat (W (ab + 1))).length) X) rfl (congrArg (fun k=>Value.slice (some ⟨n,0,none⟩) k X) (by simp))
         exact ap ((B.set J.toNat Y).set s.toNat (-1)) (D.set J.toNat (W (ab + 1))) true (some ⟨g,0,none⟩) U (some ⟨n,0,none⟩) X _ _  (hf.kp rfl) hc hF
        have g1:∀ r,bc=.out r→r=bf:=by
         rintro r rfl
         exact sj hF
        refine bY N (bX (S:=S38) (x:=bc) ?_ N (J,0) _ _ ⟨hf.kp rfl,hc⟩ cq)
        clear hF hf hc
        rintro ⟨s,q⟩ dg a w KB38 ⟨hf,hc⟩ hF av cz
        unfold iR at hF
        refine wp_seq_k fun K39 ga=>zS fun K h=>sp 1 hf rfl fun a hf=>zP hf rfl (pFA gA rfl) fun a hf=>zL hf hc gB m2 rfl fun a w hf hc=>zP hf rfl (aW Tryz.underlying75 rfl) fun a hf=>sp 1 hf rfl fun a hf=>zT h ?_
        refine zI hf rfl hF ?_ ?_ <;> clear hF <;> intro hF
        ·refine wp_skip ?_
         refine ga _ _ ?_
         refine wp_seq_k fun K41 d3=>?_
         have bq:∀ (u:Int) a w,Has 138 a [(1,pq d),(5,.slice (some ⟨g,0,none⟩) B.length U),(6,.slice (some ⟨n,0,none⟩) D.length X),(8,.bool true),(9,i6 J),(10,i6 Y),(11,i6 u),(12,i6 q)]→Ctx G (.row (some ⟨n,0,none⟩) X ((D.set J.toNat (W (ab + 1))).map aD) 3 1::.row (some ⟨g,0,none⟩) U ((B.set J.toNat Y).map aD) 3 1::.box d [.slice M r.People.length O,.slice H r.Stations.length I] 108::Lf) w→mH N q u=some dg→K41 a w:=by
          repeat (clear hF)
          repeat (clear hc)
          repeat (clear hf)
          intro u a w hf hc hF
          unfold mH at hF
          refine d3 _ _ ?_
          refine bW ?_
          refine sp 3 hf rfl fun a hf=>aL ?_
          exact cz (u,W (q + 1)) _ _ (sj hF).symm ⟨hf.kp rfl,hc⟩
         refine wp_block ?_
         refine wp_seq_k fun K42 d4=>?_
         obtain ⟨aq,b6,hF⟩:=aA hF
         obtain ⟨bv,b5⟩:=nA hc m1 b6
         obtain ⟨dz,bd,hF⟩:=aA hF
         refine cQ hc aT (by kernel_rfl) ?_
         refine qE hf rfl rfl rfl (Pu.ev (pM rfl)) fun a hf=>qE hf rfl rfl rfl (Pu.ev (pM rfl)) fun a hf=>qE hf rfl rfl rfl (Pu.ev (pIA Tryz.underlying25 eH rfl rfl (At.len bv (by simp only [List.length_set])))) fun a hf=>qE hf rfl rfl rfl (bF bG rfl (jA (sz:=1) (i:=q.toNat) (j:=0) m1 b5 rfl)) fun a hf=>qE hf rfl rfl rfl (Pu.ev (pM rfl)) fun a hf=>qE hf rfl rfl rfl (Pu.ev (pEq rfl rfl)) fun a hf=>qE hf rfl rfl rfl (Pu.ev (pM rfl)) fun a hf=>aBc 18 (fun a=>Has 138 a [(1,pq d),(5,.slice (some ⟨g,0,none⟩) B.length U),(6,.slice (some ⟨n,0,none⟩) D.length X),(8,.bool true),(9,i6 J),(10,i6 Y),(11,i6 s),(12,i6 q),(108,.slice (some ⟨g,0,none⟩) B.length U),(109,i6 q),(110,.pointer (some ⟨g,q.toNat * 1,none⟩)),(111,i6 aq),(112,i6 Y),(113,.bool (aq == Y)),(114,.bool (aq == Y)),(132,.bool dz)]) ?_ ?_
         ·cases hb:(aq == Y)
          ·rw [hb] at hf
           have hF:=gN hb bd
           obtain rfl:=sj hF
           refine qS hf rfl rfl rfl fun a hf=>qS hf rfl rfl rfl fun a hf=>qS hf rfl rfl rfl fun a hf=>qS hf rfl rfl rfl fun a hf=>qS hf rfl rfl rfl fun a hf=>qS hf rfl rfl rfl fun a hf=>qS hf rfl rfl rfl fun a hf=>qS hf rfl rfl rfl fun a hf=>qS hf rfl rfl rfl fun a hf=>qS hf rfl rfl rfl fun a hf=>qS hf rfl rfl rfl fun a hf=>qS hf rfl rfl rfl fun a hf=>qS hf rfl rfl rfl fun a hf=>?_
           refine qS hf rfl rfl rfl fun a hf=>qS hf rfl rfl rfl fun a hf=>qS hf rfl rfl rfl fun a hf=>qS hf rfl rfl rfl fun a hf=>qE hf rfl rfl rfl (Pu.ev (pPf rfl rfl)) fun a hf=>rV (hf.kp rfl)
          ·rw [hb] at hf
           have hF:=fU hb bd
           obtain ⟨bg,bs,hF⟩:=aA hF
           obtain ⟨g9,ig,bk,b1,c0,b0⟩:=V.atm bs
           obtain ⟨gg,c2,hF⟩:=aA hF
           obtain ⟨bn,b2,hF⟩:=aA hF
           obtain ⟨ip,ia,bj,bx,cc,bz⟩:=V.atm b2
           obtain ⟨dt,dk,hF⟩:=aA hF
           refine qE hf rfl rfl rfl (Pu.ev (pFA gC rfl)) fun a hf=>qE hf rfl rfl rfl (bF mI rfl (bL m2 rfl)) fun a hf=>qE hf rfl rfl rfl (Pu.ev (pM rfl)) fun a hf=>qE hf rfl rfl rfl (Pu.ev (pIA Tryz.underlying106 rA rfl rfl b1)) fun a hf=>qE hf rfl rfl rfl (Pu.ev (pFA rZ rfl)) fun a hf=>qE hf rfl rfl rfl (bF fB rfl (aR (j:=1) c0 rfl)) fun a hf=>qE hf rfl rfl rfl (Pu.ev (pM rfl)) fun a hf=>qE hf rfl rfl rfl (eC (v:=i6 gg) (vs:=[.slice bk.1 bg.Order.length bk.2,i6 q]) (caps:=[]) uN rfl rfl rfl rfl (fun w hc=>gD bg.Order q b0 hc c2)) fun a hf=>qE hf rfl rfl rfl (Pu.ev (pFA gC rfl)) fun a hf=>qE hf rfl rfl rfl (bF mI rfl (bL m2 rfl)) fun a hf=>qE hf rfl rfl rfl (Pu.ev (pM rfl)) fun a hf=>qE hf rfl rfl rfl (Pu.ev (pIA Tryz.underlying106 rA rfl rfl bx)) fun a hf=>qE hf rfl rfl rfl (Pu.ev (pFA rZ rfl)) fun a hf=>?_
           refine qE hf rfl rfl rfl (bF fB rfl (aR (j:=1) cc rfl)) fun a hf=>qE hf rfl rfl rfl (Pu.ev (pM rfl)) fun a hf=>qE hf rfl rfl rfl (eC (v:=i6 dt) (vs:=[.slice bj.1 bn.Order.length bj.2,i6 s]) (caps:=[]) uN rfl rfl rfl rfl (fun w hc=>gD bn.Order s bz hc dk)) fun a hf=>qE hf rfl rfl rfl (Pu.ev (pGt rfl rfl)) fun a hf=>qE hf rfl rfl rfl (Pu.ev (pPt rfl rfl)) fun a hf=>?_
           obtain rfl:=sj hF
           exact rV (hf.kp rfl)
         intro a hf
         intro w hc
         refine d4 _ _ ?_
         refine zI hf rfl hF ?_ ?_ <;> clear hF <;> intro hF
         ·refine bW ?_
          refine sp 2 hf rfl fun a hf=>aL ?_
          exact bq q _ _  (hf.kp rfl) hc hF
         ·refine wp_skip ?_
          exact bq s _ _  (hf.kp rfl) hc hF
        ·refine wp_exit ?_
         refine aN ?_
         refine aN ?_
         have he:=sj hF
         rw [← he] at av
         refine cT ?_
         exact dj _ _ _ av ⟨hf.kp rfl,hc⟩
    ·refine wp_exit ?_
     refine aN ?_
     refine aN ?_
     have he:=sj hF
     rw [← he] at ax
     refine cT ?_
     exact dp _ _ _ ax ⟨am,U,ad,X,hf.kp rfl,hc⟩
   ·refine wp_exit ?_
    refine aN ?_
    refine aN ?_
    have he:=sj hF
    rw [← he] at au
    refine cT ?_
    exact dd _ _ _ au ⟨ag,af,aj,ai,hf.kp rfl,hc⟩
  have gu:∀ r,a7=.out r→r=ak:=by
   rintro r rfl
   exact sj hF
  refine bY N (bX (S:=S10) (x:=a7) ?_ N ((List.replicate ((r.People.length:Nat):Int).toNat (0:Int)),0) _ _ ⟨(some ⟨d8,0,none⟩),((r.People.length:Nat):Int).toNat,hf.kp rfl,hc⟩ cd)
  clear hF hf hc
  rintro ⟨Z,a2⟩ g0 a w KB10 ⟨an,ac,hf,hc⟩ hF ar cy
  unfold gV at hF
  refine wp_seq_k fun K43 gj=>zS fun K h=>sp 1 hf rfl fun a hf=>zP hf rfl (pFA gA rfl) fun a hf=>zL hf hc gB m2 rfl fun a w hf hc=>zP hf rfl (aW Tryz.underlying75 rfl) fun a hf=>sp 1 hf rfl fun a hf=>zT h ?_
  refine zI hf rfl hF ?_ ?_ <;> clear hF <;> intro hF
  ·refine wp_skip ?_
   refine gj _ _ ?_
   refine wp_seq_k fun K45 gi=>wp_block ?_
   refine bW ?_
   refine sp 2 hf rfl fun a hf=>?_
   obtain ⟨gx,a5,hF⟩:=aA hF
   obtain ⟨ba,rfl,bt,gp⟩:=nQ hc m1 a5
   refine zP hf rfl (pIA Tryz.underlying25 eH rfl rfl bt) fun a hf=>aDu (vs:=[i6 (-1)]) (o':=0) (z:=(-1)) (xs:=Z) hf hc rfl rfl rfl rfl eH rfl (fun x=>(bP x).1) (rH a5) (fun _ _=>rfl) rfl u1 fun w hc=>aL ?_
   refine gi _ _ ?_
   refine bW ?_
   refine sp 3 hf rfl fun a hf=>aL ?_
   replace hf:=hf.castAt 5 (v':=.slice (some ⟨ba,0,none⟩) ((Z.set a2.toNat (-1)).length) ac) rfl (congrArg (fun k=>Value.slice (some ⟨ba,0,none⟩) k ac) (by simp))
   exact cy ((Z.set a2.toNat (-1)),W (a2 + 1)) _ _ (sj hF).symm ⟨(some ⟨ba,0,none⟩),ac,hf.kp rfl,hc⟩
  ·refine wp_exit ?_
   refine aN ?_
   refine aN ?_
   have he:=sj hF
   rw [← he] at ar
   refine cT ?_
   exact cr _ _ _ ar ⟨an,ac,hf.kp rfl,hc⟩

def kC (N:Nat) (r:aB):Option ((List aC) × Int) :=
 Option.bind (kB N r) (aB0 (fun D=>cond (D != 0)
 (some (([]:List aC),D))
 (none))
 (fun B=>cond (B.2 != 0)
 (some (([]:List aC),B.2))
 (Option.bind (kH N (⟨r,B.1⟩:aV)) fun H=>
 some (H.2,0))))
theorem aBo {N:Nat} {G:aQ} {Lf:List Ent} {w:World} (r:aB) {J:Option Addr} {O:Nat} {I:Option Addr} {H:Nat} (D:RdT aM G 1 J O r.People) (B:RdT bA G 2 I H r.Stations) (hc:Ctx G (Lf) w) {S:(List aC) × Int} (hF:kC N r=some S):Calls Tryz.prog 63 #[.agg #[.slice J r.People.length O,.slice I r.Stations.length H]] w (fun e w=>∃ (V:Option Addr) (Y:Nat),e=.returned (.tuple #[.slice V S.1.length Y,i6 S.2])∧Ctx G (.row V Y (S.1.map aF) 86 2::Lf) w):=by
 unfold kC at hF
 refine bN Tryz.func63 rfl Tryz.ntmps63 rfl fun a hf=>zS fun K h=>zB hf hc rfl fun m a w hf hc=>sp 2 hf rfl fun a hf=>zT h ?_
 refine wp_seq_k fun K2 h2=>bW ?_
 refine zN hf hc nY m0 rfl fun a w hf hc=>?_
 obtain ⟨X,U,hF⟩:=aA hF
 cases X with
 | inl X=>
  replace hF:=aG9 hF
  refine zC hf wY rfl (iY r D B hc U) ?_
  rintro _ w ⟨rfl,hc⟩
  refine ⟨_,rfl,fun a hf=>?_⟩
  refine sp 5 hf rfl fun a hf=>aL ?_
  refine h2 _ _ ?_
  refine wp_seq_k fun K3 h3=>zS fun K h=>sp 2 hf rfl fun a hf=>zT h ?_
  refine zI hf rfl hF ?_ ?_ <;> clear hF <;> intro hF
  ·refine zS fun K h=>sp 3 hf rfl fun a hf=>zT h ?_
   refine wp_ret ?_
   refine aH ?_
   obtain rfl:=sj hF
   replace hc:=hc.nilRow 86 2
   replace hc:=hc.drop k1
   exact zO2 Tryz.results63 hf rfl rfl ⟨none,0,rfl,hc⟩
  ·refine wp_skip ?_
   refine h3 _ _ ?_
   refine wp_seq_k fun K6 h6=>aBs hF
 | inr i=>
  replace hF:=aHk hF
  have Z:=U
  refine zC hf wY rfl (iY r D B hc Z) ?_
  rintro _ w ⟨j,rfl,hc⟩
  refine ⟨_,rfl,fun a hf=>?_⟩
  refine sp 5 hf rfl fun a hf=>aL ?_
  obtain ⟨G,M,R,hc,-⟩:=aHz hc k0
  replace R:=aIh R
  refine h2 _ _ ?_
  refine wp_seq_k fun K7 h7=>zS fun K h=>sp 2 hf rfl fun a hf=>zT h ?_
  refine zI hf rfl hF ?_ ?_ <;> clear hF <;> intro hF
  ·refine zS fun K h=>sp 3 hf rfl fun a hf=>zT h ?_
   refine wp_ret ?_
   refine aH ?_
   obtain rfl:=sj hF
   replace hc:=hc.down M
   replace hc:=hc.nilRow 86 2
   replace hc:=hc.drop k1
   exact zO2 Tryz.results63 hf rfl rfl ⟨none,0,rfl,hc⟩
  ·refine wp_skip ?_
   refine h7 _ _ ?_
   refine zS fun K h=>sp 1 hf rfl fun a hf=>?_
   obtain ⟨o,b,hF⟩:=aA hF
   refine zC hf aLm rfl (sM (⟨r,i.1⟩:aV) (D.mono M) (B.mono M) R hc b) ?_
   rintro _ w ⟨n,k,g,d,rfl,hc⟩
   refine ⟨_,rfl,fun a hf=>?_⟩
   refine sp 5 hf rfl fun a hf=>zT h ?_
   refine zS fun K h=>sp 3 hf rfl fun a hf=>zT h ?_
   refine wp_ret ?_
   obtain rfl:=sj hF
   replace hc:=hc.down M
   replace hc:=(hc.drop k2).drop k0
   exact zO2 Tryz.results63 hf rfl rfl ⟨g,d,rfl,hc⟩

def hP (N:Nat) (l:List aC) (I:Int) (J:Int) (B:Bool) (D:Int):Option (bK (Bool × Int) (bK (Int) (bK (Int) (Bool)))) :=
 cond (decide (D < ((l.length:Nat):Int)))
 (Option.bind (aU l D) fun H=>
 some (.cont ((B || ((H.Person == I) && (H.Station == J))),W (D + 1))))
 (some (.brk (B,D)))
def jB (N:Nat) (J:Int) (H:aG) (D:Bool) (B:Int):Option (bK (Bool × Int) (bK (Int) (bK (Int) (Bool)))) :=
 cond (decide (B < ((H.Order.length:Nat):Int)))
 (Option.bind (aU H.Order B) fun I=>
 some (.cont ((D || (I == J)),W (B + 1))))
 (some (.brk (D,B)))
def jF (N:Nat) (r:aB) (B:List Int) (l:List aC) (J:Int) (O:List Int) (D:Int):Option (bK (Int) (bK (Int) (Bool))) :=
 cond (decide (D < ((O.length:Nat):Int)))
 (Option.bind (aU O D) fun M=>
 Option.bind (aU B J) fun R=>
 cond (M == R)
 (some (.brk D))
 (Option.bind (aU r.Stations M) fun V=>
 Option.bind (aS (fun I=>jB N J V I.1 I.2) N (false,0)) fun S=>
 exK S (fun I=>Option.bind (aS (fun H=>hP N l J M H.1 H.2) N ((!I.1),0)) fun U=>
 exK U (fun H=>cond (!H.1)
 (some (.ret (.ret false)))
 (some (.cont (W (D + 1))))) some) some))
 (some (.brk D))
def jE (N:Nat) (r:aB) (B:List Int) (l:List aC) (D:Int):Option (bK (Int) (Bool)) :=
 cond (decide (D < ((r.People.length:Nat):Int)))
 (Option.bind (aU r.People D) fun J=>
 Option.bind (aS (fun H=>jF N r B l D J H) N 0) fun I=>
 exK I (fun H=>some (.cont (W (D + 1)))) some)
 (some (.brk D))
def jC (N:Nat) (l:List aC) (x:Int) (D:aC) (B:Int):Option (bK (Int) (bK (Int) (Bool))) :=
 cond (decide (B < x))
 (Option.bind (aU l B) fun H=>
 cond (H.Person == D.Person && H.Station == D.Station)
 (some (.ret (.ret false)))
 (some (.cont (W (B + 1)))))
 (some (.brk B))
def kE (N:Nat) (l:List aC) (x:Int):Option (bK (Int) (Bool)) :=
 cond (decide (x < ((l.length:Nat):Int)))
 (Option.bind (aU l x) fun H=>
 Option.bind (aS (fun B=>jC N l x H B) N 0) fun D=>
 exK D (fun B=>some (.cont (W (x + 1)))) some)
 (some (.brk x))
def nW (N:Nat) (r:aB) (B:List Int) (l:List aC):Option (Bool) :=
 Option.bind (fM N r) fun I=>
 Option.bind (kK N l) fun J=>
 Option.bind (lG N I J) fun D=>
 cond (((D.2 != 0) || (!D.1)) || (((B.length:Nat):Int) != ((r.People.length:Nat):Int)))
 (some false)
 (Option.bind (aS (fun s8=>kE N l s8) N 0) fun x8=>
 exK x8 (fun s8=>Option.bind (aS (fun H=>jE N r B l H) N 0) fun M=>
 exK M (fun H=>some true) some) some)
theorem aDz {N:Nat} {G:aQ} {Lf:List Ent} {w:World} (r:aB) (H:List Int) (l:List aC) {I:Option Addr} {J:Nat} {M:Option Addr} {O:Nat} {B:Option Addr} {D:Nat} {V:Option Addr} {X:Nat} (p:RdT aM G 1 I J r.People) (i:RdT bA G 2 M O r.Stations) (y:Rd G 1 B D (H.map aD)) (ag:Rd G 2 V X (l.map aF)) (hc:Ctx G (Lf) w) {af:Bool} (hF:nW N r H l=some af):Calls Tryz.prog 64 #[.agg #[.slice I r.People.length J,.slice M r.Stations.length O],.slice B H.length D,.slice V l.length X] w (fun e w=>e=.returned (.bool af)∧Ctx G (Lf) w):=by
 unfold nW at hF
 refine bN Tryz.func64 rfl Tryz.ntmps64 rfl fun a hf=>zS fun K h=>zB hf hc rfl fun Y a w hf hc=>sp 1 hf rfl fun a hf=>zT h ?_
 refine wp_seq_k fun K2 h2=>zS fun K h=>zN hf hc nY m0 rfl fun a w hf hc=>?_
 obtain ⟨cy,bk,hF⟩:=aA hF
 refine zC hf aGa rfl (nJ r p i hc bk) ?_
 rintro _ w ⟨gb,du,d6,dj,rfl,hc⟩
 refine ⟨_,rfl,fun a hf=>?_⟩
 refine sp 1 hf rfl fun a hf=>?_
 obtain ⟨cv,ba,hF⟩:=aA hF
 refine zC hf aM5 rfl (tU l ag hc ba) ?_
 rintro _ w ⟨gc,d1,rfl,hc⟩
 refine ⟨_,rfl,fun a hf=>?_⟩
 obtain ⟨U,bc,hF⟩:=aA hF
 refine zQ (v:=.tuple #[.bool U.1,i6 U.2]) hf hc aM6 rfl (fun w hc=>by obtain ⟨G1,dq,bb,hc,bv⟩:=lV oC hc k1 k1; obtain ⟨G2,bz,cj,hc,a2⟩:=lV aAo hc k1 k1; obtain ⟨G3,an,bd,hc,bp⟩:=lend hc k0; exact (wR cy cv ((bb.mono bz).mono an) (cj.mono an) bd hc bc).mono fun e w h=>⟨h.1,(jM (bv _ _ (jM (a2 _ _ ((bp _ _ h.2).unpick k0)) k1 k1)) k1 k1)⟩) fun a w hf hc=>sp 5 hf rfl fun a hf=>zT h ?_
 refine zS fun K h=>sp 3 hf rfl fun a hf=>fV 3 (fun a=>Has 127 a [(1,.slice B H.length D),(2,.slice V l.length X),(3,pq Y),(7,.bool U.1),(8,i6 U.2),(30,i6 U.2),(31,.bool (U.2 != 0)),(32,.bool (U.2 != 0)),(35,.bool ((U.2 != 0) || (!U.1)))]) hc ?_ ?_
 ·cases hb:(U.2 != 0)
  ·rw [hb] at hf
   refine sp 3 hf rfl fun a hf=>aL ⟨hf.kp rfl,hc⟩
  ·rw [hb] at hf
   refine stS hf rfl rfl rfl fun a hf=>stS hf rfl rfl rfl fun a hf=>sp 1 hf rfl fun a hf=>aL ⟨hf.kp rfl,hc⟩
 intro a w ⟨hf,hc⟩
 refine sp 1 hf rfl fun a hf=>fV 7 (fun a=>Has 127 a [(1,.slice B H.length D),(2,.slice V l.length X),(3,pq Y),(7,.bool U.1),(8,i6 U.2),(30,i6 U.2),(31,.bool (U.2 != 0)),(32,.bool (U.2 != 0)),(35,.bool ((U.2 != 0) || (!U.1))),(36,.bool ((U.2 != 0) || (!U.1))),(43,.bool (((U.2 != 0) || (!U.1)) || (((H.length:Nat):Int) != ((r.People.length:Nat):Int))))]) hc ?_ ?_
 ·cases hb:((U.2 != 0) || (!U.1))
  ·rw [hb] at hf
   refine sp 1 hf rfl fun a hf=>zP hf rfl (aW Tryz.underlying25 rfl) fun a hf=>zP hf rfl (pFA iK rfl) fun a hf=>zL hf hc gB m5 rfl fun a w hf hc=>zP hf rfl (aW Tryz.underlying75 rfl) fun a hf=>sp 2 hf rfl fun a hf=>aL ⟨hf.kp rfl,hc⟩
  ·rw [hb] at hf
   refine stS hf rfl rfl rfl fun a hf=>stS hf rfl rfl rfl fun a hf=>stS hf rfl rfl rfl fun a hf=>stS hf rfl rfl rfl fun a hf=>stS hf rfl rfl rfl fun a hf=>stS hf rfl rfl rfl fun a hf=>sp 1 hf rfl fun a hf=>aL ⟨hf.kp rfl,hc⟩
 intro a w ⟨hf,hc⟩
 refine zT h ?_
 refine zI hf rfl hF ?_ ?_ <;> clear hF <;> intro hF
 ·refine zS fun K h=>sp 1 hf rfl fun a hf=>zT h ?_
  refine wp_ret ?_
  refine aH ?_
  obtain rfl:=sj hF
  replace hc:=(((((hc.drop k5).drop k4).drop k3).drop k2).drop k1).drop k0
  exact zO1 Tryz.results64 hf rfl ⟨rfl,hc⟩
 ·refine wp_skip ?_
  refine h2 _ _ ?_
  refine wp_seq_k fun K6 h6=>zS fun K h=>sp 1 hf rfl fun a hf=>zP hf rfl (aW Tryz.underlying99 rfl) fun a hf=>sp 1 hf rfl fun a hf=>zT h ?_
  refine wp_block ?_
  obtain ⟨x8,dg,hF⟩:=aA hF
  let S8:Int→Act→World→Prop:=(fun (zz:Int) a w=>Has 127 a [(1,.slice B H.length D),(2,.slice V l.length X),(3,pq Y),(44,.slice V l.length X),(45,i6 ((l.length:Nat):Int)),(46,i6 zz)]∧Ctx G (.box Y [.slice I r.People.length J,.slice M r.Stations.length O] 78::Lf) w)
  have cx:∀ (zz:Int) a w,x8=.go zz→S8 zz a w→K6 a w:=by
   rintro x a w rfl ⟨hf,hc⟩
   replace hF:=bH hF
   refine h6 _ _ ?_
   refine wp_seq_k fun K9 h9=>zS fun K h=>zP hf rfl (pFA iK rfl) fun a hf=>zL hf hc gB m0 rfl fun a w hf hc=>zP hf rfl (aW Tryz.underlying75 rfl) fun a hf=>sp 1 hf rfl fun a hf=>zT h ?_
   refine wp_block ?_
   obtain ⟨ax,bj,hF⟩:=aA hF
   let S11:Int→Act→World→Prop:=(fun (zz:Int) a w=>Has 127 a [(1,.slice B H.length D),(2,.slice V l.length X),(3,pq Y),(64,.slice I r.People.length J),(65,i6 ((r.People.length:Nat):Int)),(66,i6 zz)]∧Ctx G (.box Y [.slice I r.People.length J,.slice M r.Stations.length O] 78::Lf) w)
   have b7:∀ (zz:Int) a w,ax=.go zz→S11 zz a w→K9 a w:=by
    rintro R a w rfl ⟨hf,hc⟩
    replace hF:=bH hF
    refine h9 _ _ ?_
    refine zS fun K h=>sp 1 hf rfl fun a hf=>zT h ?_
    refine wp_ret ?_
    obtain rfl:=sj hF
    replace hc:=hc.drop k0
    exact zO1 Tryz.results64 hf rfl ⟨rfl,hc⟩
   have a4:∀ r,ax=.out r→r=af:=by
    rintro r rfl
    exact sj hF
   refine bY N (bX (S:=S11) (x:=ax) ?_ N 0 _ _ ⟨hf.kp rfl,hc⟩ bj)
   clear hF hf hc
   rintro R cg a w KB11 ⟨hf,hc⟩ hF k cq
   unfold jE at hF
   refine zS fun K h=>sp 1 hf rfl fun a hf=>zT h ?_
   refine wp_seq_k fun K14 db=>zI hf rfl hF ?_ ?_ <;> clear hF <;> intro hF
   ·refine wp_skip ?_
    refine db _ _ ?_
    refine wp_seq_k fun K15 c6=>wp_block ?_
    refine zS fun K h=>sp 1 hf rfl fun a hf=>?_
    obtain ⟨g,bf,hF⟩:=aA hF
    obtain ⟨d5,o,hd,qa,qp,qr⟩:=p.atm bf
    refine zP hf rfl (pIA Tryz.underlying75 kX rfl rfl qa) fun a hf=>zE hf hc rfl (bF fB rfl (aR (j:=0) qp rfl)) fun a w hf hc=>sp 2 hf rfl fun a hf=>zT h ?_
    refine zS fun K h=>sp 1 hf rfl fun a hf=>zP hf rfl (aW Tryz.underlying25 rfl) fun a hf=>sp 1 hf rfl fun a hf=>zT h ?_
    refine qB fun K18 cz=>wp_block ?_
    obtain ⟨az,b2,hF⟩:=aA hF
    let S19:Int→Act→World→Prop:=(fun (zz:Int) a w=>Has 127 a [(1,.slice B H.length D),(2,.slice V l.length X),(3,pq Y),(12,i6 R),(64,.slice I r.People.length J),(65,i6 ((r.People.length:Nat):Int)),(66,i6 R),(71,.slice hd.1 g.length hd.2),(72,i6 ((g.length:Nat):Int)),(73,i6 zz)]∧Ctx G (.box Y [.slice I r.People.length J,.slice M r.Stations.length O] 78::Lf) w)
    have ak:∀ (zz:Int) a w,az=.go zz→S19 zz a w→K18 a w:=by
     rintro u a w rfl ⟨hf,hc⟩
     replace hF:=bH hF
     refine cz _ _ ?_
     refine c6 _ _ ?_
     refine bW ?_
     refine sp 2 hf rfl fun a hf=>aL ?_
     exact cq (W (R + 1)) _ _ (sj hF).symm ⟨hf.kp rfl,hc⟩
    have a8:∀ r,az=.out r→r=cg:=by
     rintro r rfl
     exact sj hF
    refine bY N (bX (S:=S19) (x:=az) ?_ N 0 _ _ ⟨hf.kp rfl,hc⟩ b2)
    clear hF hf hc
    rintro u aq a w KB19 ⟨hf,hc⟩ hF Z cp
    unfold jF at hF
    refine zS fun K h=>sp 1 hf rfl fun a hf=>zT h ?_
    refine wp_seq_k fun K21 dc=>zI hf rfl hF ?_ ?_ <;> clear hF <;> intro hF
    ·refine wp_skip ?_
     refine dc _ _ ?_
     refine wp_seq_k fun K22 c0=>wp_block ?_
     refine zS fun K h=>?_
     obtain ⟨s,cn,hF⟩:=aA hF
     obtain ⟨dy,ga,bm,b3⟩:=qr.atm cn
     refine zP hf rfl (pIA Tryz.underlying25 eH rfl rfl bm) fun a hf=>zE hf hc rfl (bF bG rfl (aR (j:=0) b3 rfl)) fun a w hf hc=>sp 1 hf rfl fun a hf=>zT h ?_
     refine wp_seq_k fun K24 cs=>zS fun K h=>sp 3 hf rfl fun a hf=>?_
     obtain ⟨d2,bs,hF⟩:=aA hF
     obtain ⟨d8,d7,b5,a3⟩:=y.atm bs
     refine zP hf rfl (pIA Tryz.underlying25 eH rfl rfl b5) fun a hf=>zE hf hc rfl (bF bG rfl (aR (j:=0) a3 rfl)) fun a w hf hc=>sp 1 hf rfl fun a hf=>zT h ?_
     refine zI hf rfl hF ?_ ?_ <;> clear hF <;> intro hF
     ·refine wp_exit ?_
      refine aN ?_
      refine aGh rfl ?_
      refine aN ?_
      refine aN ?_
      have he:=sj hF
      rw [← he] at Z
      refine cT ?_
      exact ak _ _ _ Z ⟨hf.kp rfl,hc⟩
     ·refine wp_skip ?_
      refine cs _ _ ?_
      refine zS fun K h=>sp 1 hf rfl fun a hf=>zT h ?_
      refine wp_seq_k fun K27 ct=>zS fun K h=>zP hf rfl (pFA fJ rfl) fun a hf=>zL hf hc mR m0 rfl fun a w hf hc=>sp 1 hf rfl fun a hf=>?_
      obtain ⟨ai,bu,hF⟩:=aA hF
      obtain ⟨gd,d4,aa,b8,ci,a6⟩:=i.atm bu
      refine zP hf rfl (pIA Tryz.underlying76 mK rfl rfl b8) fun a hf=>zP hf rfl (pFA pR rfl) fun a hf=>zE hf hc rfl (bF fB rfl (aR (j:=1) ci rfl)) fun a w hf hc=>zP hf rfl (aW Tryz.underlying25 rfl) fun a hf=>sp 1 hf rfl fun a hf=>zT h ?_
      refine wp_block ?_
      obtain ⟨ap,bt,hF⟩:=aA hF
      let S29:(Bool × Int)→Act→World→Prop:=(fun (zz:Bool × Int) a w=>Has 127 a [(1,.slice B H.length D),(2,.slice V l.length X),(3,pq Y),(12,i6 R),(15,i6 s),(16,.bool zz.1),(64,.slice I r.People.length J),(65,i6 ((r.People.length:Nat):Int)),(66,i6 R),(71,.slice hd.1 g.length hd.2),(72,i6 ((g.length:Nat):Int)),(73,i6 u),(88,.slice aa.1 ai.Order.length aa.2),(89,i6 ((ai.Order.length:Nat):Int)),(90,i6 zz.2)]∧Ctx G (.box Y [.slice I r.People.length J,.slice M r.Stations.length O] 78::Lf) w)
      have bx:∀ (zz:Bool × Int) a w,ap=.go zz→S29 zz a w→K27 a w:=by
       rintro ⟨q,aj⟩ a w rfl ⟨hf,hc⟩
       replace hF:=bH hF
       refine ct _ _ ?_
       refine zS fun K h=>sp 3 hf rfl fun a hf=>zT h ?_
       refine wp_seq_k fun K31 c4=>zS fun K h=>sp 1 hf rfl fun a hf=>zP hf rfl (aW Tryz.underlying99 rfl) fun a hf=>sp 1 hf rfl fun a hf=>zT h ?_
       refine wp_block ?_
       obtain ⟨ar,cf,hF⟩:=aA hF
       let S33:(Bool × Int)→Act→World→Prop:=(fun (zz:Bool × Int) a w=>Has 127 a [(1,.slice B H.length D),(2,.slice V l.length X),(3,pq Y),(12,i6 R),(15,i6 s),(19,.bool zz.1),(64,.slice I r.People.length J),(65,i6 ((r.People.length:Nat):Int)),(66,i6 R),(71,.slice hd.1 g.length hd.2),(72,i6 ((g.length:Nat):Int)),(73,i6 u),(103,.slice V l.length X),(104,i6 ((l.length:Nat):Int)),(105,i6 zz.2)]∧Ctx G (.box Y [.slice I r.People.length J,.slice M r.Stations.length O] 78::Lf) w)
       have b4:∀ (zz:Bool × Int) a w,ar=.go zz→S33 zz a w→K31 a w:=by
        rintro ⟨b,ad⟩ a w rfl ⟨hf,hc⟩
        replace hF:=bH hF
        refine c4 _ _ ?_
        refine zS fun K h=>sp 2 hf rfl fun a hf=>zT h ?_
        refine zI hf rfl hF ?_ ?_ <;> clear hF <;> intro hF
        ·refine zS fun K h=>sp 1 hf rfl fun a hf=>zT h ?_
         refine wp_ret ?_
         refine bB ?_
         refine aH ?_
         refine aH ?_
         have he:=sj hF
         rw [← he] at Z
         replace hF:=a8 _ Z
         refine bB ?_
         refine aH ?_
         refine bB ?_
         refine aH ?_
         refine aH ?_
         have he:=hF
         rw [← he] at k
         replace hF:=a4 _ k
         refine bB ?_
         refine aH ?_
         obtain rfl:=hF
         replace hc:=hc.drop k0
         exact zO1 Tryz.results64 hf rfl ⟨rfl,hc⟩
        ·refine wp_skip ?_
         refine c0 _ _ ?_
         refine bW ?_
         refine sp 2 hf rfl fun a hf=>aL ?_
         exact cp (W (u + 1)) _ _ (sj hF).symm ⟨hf.kp rfl,hc⟩
       have dn:∀ r,ar=.out r→r=aq:=by
        rintro r rfl
        exact sj hF
       refine bY N (bX (S:=S33) (x:=ar) ?_ N ((!q),0) _ _ ⟨hf.kp rfl,hc⟩ cf)
       clear hF hf hc
       rintro ⟨b,ad⟩ ds a w KB33 ⟨hf,hc⟩ hF ab bq
       unfold hP at hF
       refine zS fun K h=>sp 1 hf rfl fun a hf=>zT h ?_
       refine wp_seq_k fun K37 di=>zI hf rfl hF ?_ ?_ <;> clear hF <;> intro hF
       ·refine wp_skip ?_
        refine di _ _ ?_
        refine wp_seq_k fun K38 cu=>wp_block ?_
        refine zS fun K h=>?_
        obtain ⟨d,bn,hF⟩:=aA hF
        obtain ⟨d9,dz,b1,br⟩:=ag.atm bn
        refine zP hf rfl (pIA Tryz.underlying99 lJ rfl rfl b1) fun a hf=>zE hf hc rfl (kG (vs:=[i6 d.Person,i6 d.Station]) lM rfl rfl (dF br (n:=2) (o':=0) rfl)) fun a w hf hc=>zA hf hc yL rfl fun av a w hf hc=>zW hf hc lJ u0 rfl fun w hc=>zT h ?_
        refine bW ?_
        refine sp 2 hf rfl fun a hf=>fV 11 (fun a=>Has 127 a [(1,.slice B H.length D),(2,.slice V l.length X),(3,pq Y),(12,i6 R),(15,i6 s),(19,.bool b),(64,.slice I r.People.length J),(65,i6 ((r.People.length:Nat):Int)),(66,i6 R),(71,.slice hd.1 g.length hd.2),(72,i6 ((g.length:Nat):Int)),(73,i6 u),(103,.slice V l.length X),(104,i6 ((l.length:Nat):Int)),(105,i6 ad),(21,pq av),(109,.bool b),(110,.bool b),(121,.bool (b || ((d.Person == R) && (d.Station == s))))]) hc ?_ ?_
        ·cases hb:b
         ·rw [hb] at hf
          try rw [hb] at hc
          refine zP hf rfl (pFA aCe rfl) fun a hf=>zL hf hc bG m0 rfl fun a w hf hc=>sp 3 hf rfl fun a hf=>fV 5 (fun a=>Has 127 a [(1,.slice B H.length D),(2,.slice V l.length X),(3,pq Y),(12,i6 R),(15,i6 s),(19,.bool false),(64,.slice I r.People.length J),(65,i6 ((r.People.length:Nat):Int)),(66,i6 R),(71,.slice hd.1 g.length hd.2),(72,i6 ((g.length:Nat):Int)),(73,i6 u),(103,.slice V l.length X),(104,i6 ((l.length:Nat):Int)),(105,i6 ad),(21,pq av),(109,.bool false),(110,.bool false),(111,pq av),(112,i6 d.Person),(113,i6 R),(114,.bool (d.Person == R)),(115,.bool (d.Person == R)),(120,.bool ((d.Person == R) && (d.Station == s)))]) hc ?_ ?_
          ·cases hb:(d.Person == R)
           ·rw [hb] at hf
            refine stS hf rfl rfl rfl fun a hf=>stS hf rfl rfl rfl fun a hf=>stS hf rfl rfl rfl fun a hf=>stS hf rfl rfl rfl fun a hf=>sp 1 hf rfl fun a hf=>aL ⟨hf.kp rfl,hc⟩
           ·rw [hb] at hf
            refine zP hf rfl (pFA tZ rfl) fun a hf=>zL hf hc bG m0 rfl fun a w hf hc=>sp 3 hf rfl fun a hf=>aL ⟨hf.kp rfl,hc⟩
          intro a w ⟨hf,hc⟩
          refine sp 1 hf rfl fun a hf=>aL ⟨hf.kp rfl,hc⟩
         ·rw [hb] at hf
          try rw [hb] at hc
          refine stS hf rfl rfl rfl fun a hf=>stS hf rfl rfl rfl fun a hf=>stS hf rfl rfl rfl fun a hf=>stS hf rfl rfl rfl fun a hf=>stS hf rfl rfl rfl fun a hf=>stS hf rfl rfl rfl fun a hf=>stS hf rfl rfl rfl fun a hf=>stS hf rfl rfl rfl fun a hf=>stS hf rfl rfl rfl fun a hf=>stS hf rfl rfl rfl fun a hf=>sp 1 hf rfl fun a hf=>aL ⟨hf.kp rfl,hc⟩
        intro a w ⟨hf,hc⟩
        refine sp 1 hf rfl fun a hf=>aL ?_
        refine cu _ _ ?_
        refine bW ?_
        refine sp 2 hf rfl fun a hf=>aL ?_
        replace hc:=hc.drop k0
        exact bq ((b || ((d.Person == R) && (d.Station == s))),W (ad + 1)) _ _ (sj hF).symm ⟨hf.kp rfl,hc⟩
       ·refine wp_exit ?_
        refine aN ?_
        refine aN ?_
        have he:=sj hF
        rw [← he] at ab
        refine cT ?_
        exact b4 _ _ _ ab ⟨hf.kp rfl,hc⟩
      have dk:∀ r,ap=.out r→r=aq:=by
       rintro r rfl
       exact sj hF
      refine bY N (bX (S:=S29) (x:=ap) ?_ N (false,0) _ _ ⟨hf.kp rfl,hc⟩ bt)
      clear hF hf hc
      rintro ⟨q,aj⟩ dr a w KB29 ⟨hf,hc⟩ hF ac b9
      unfold jB at hF
      refine zS fun K h=>sp 1 hf rfl fun a hf=>zT h ?_
      refine wp_seq_k fun K41 c1=>zI hf rfl hF ?_ ?_ <;> clear hF <;> intro hF
      ·refine wp_skip ?_
       refine c1 _ _ ?_
       refine wp_seq_k fun K42 c3=>wp_block ?_
       refine zS fun K h=>?_
       obtain ⟨am,b6,hF⟩:=aA hF
       obtain ⟨dt,dv,a9,a7⟩:=a6.atm b6
       refine zP hf rfl (pIA Tryz.underlying25 eH rfl rfl a9) fun a hf=>zE hf hc rfl (bF bG rfl (aR (j:=0) a7 rfl)) fun a w hf hc=>sp 1 hf rfl fun a hf=>zT h ?_
       refine bW ?_
       refine sp 2 hf rfl fun a hf=>fV 4 (fun a=>Has 127 a [(1,.slice B H.length D),(2,.slice V l.length X),(3,pq Y),(12,i6 R),(15,i6 s),(16,.bool q),(64,.slice I r.People.length J),(65,i6 ((r.People.length:Nat):Int)),(66,i6 R),(71,.slice hd.1 g.length hd.2),(72,i6 ((g.length:Nat):Int)),(73,i6 u),(88,.slice aa.1 ai.Order.length aa.2),(89,i6 ((ai.Order.length:Nat):Int)),(90,i6 aj),(18,i6 am),(94,.bool q),(95,.bool q),(99,.bool (q || (am == R)))]) hc ?_ ?_
       ·cases hb:q
        ·rw [hb] at hf
         try rw [hb] at hc
         refine sp 4 hf rfl fun a hf=>aL ⟨hf.kp rfl,hc⟩
        ·rw [hb] at hf
         try rw [hb] at hc
         refine stS hf rfl rfl rfl fun a hf=>stS hf rfl rfl rfl fun a hf=>stS hf rfl rfl rfl fun a hf=>sp 1 hf rfl fun a hf=>aL ⟨hf.kp rfl,hc⟩
       intro a w ⟨hf,hc⟩
       refine sp 1 hf rfl fun a hf=>aL ?_
       refine c3 _ _ ?_
       refine bW ?_
       refine sp 2 hf rfl fun a hf=>aL ?_
       exact b9 ((q || (am == R)),W (aj + 1)) _ _ (sj hF).symm ⟨hf.kp rfl,hc⟩
      ·refine wp_exit ?_
       refine aN ?_
       refine aN ?_
       have he:=sj hF
       rw [← he] at ac
       refine cT ?_
       exact bx _ _ _ ac ⟨hf.kp rfl,hc⟩
    ·refine wp_exit ?_
     refine aN ?_
     refine aN ?_
     have he:=sj hF
     rw [← he] at Z
     refine cT ?_
     exact ak _ _ _ Z ⟨hf.kp rfl,hc⟩
   ·refine wp_exit ?_
    refine aN ?_
    refine aN ?_
    have he:=sj hF
    rw [← he] at k
    refine cT ?_
    exact b7 _ _ _ k ⟨hf.kp rfl,hc⟩
  have c2:∀ r,x8=.out r→r=af:=by
   rintro r rfl
   exact sj hF
  replace hc:=((((hc.drop k4).drop k3).drop k2).drop k1).drop k0
  refine bY N (bX (S:=S8) (x:=x8) ?_ N 0 _ _ ⟨hf.kp rfl,hc⟩ dg)
  clear hF hf hc
  rintro x da a w KB8 ⟨hf,hc⟩ hF t c7
  unfold kE at hF
  refine zS fun K h=>sp 1 hf rfl fun a hf=>zT h ?_
  refine wp_seq_k fun K45 df=>zI hf rfl hF ?_ ?_ <;> clear hF <;> intro hF
  ·refine wp_skip ?_
   refine df _ _ ?_
   refine wp_seq_k fun K46 cr=>wp_block ?_
   refine zS fun K h=>sp 1 hf rfl fun a hf=>?_
   obtain ⟨z,bg,hF⟩:=aA hF
   obtain ⟨d3,d0,cd,cm⟩:=ag.atm bg
   refine zP hf rfl (pIA Tryz.underlying99 lJ rfl rfl cd) fun a hf=>zE hf hc rfl (kG (vs:=[i6 z.Person,i6 z.Station]) lM rfl rfl (dF cm (n:=2) (o':=0) rfl)) fun a w hf hc=>zA hf hc yL rfl fun au a w hf hc=>sp 1 hf rfl fun a hf=>zW hf hc lJ u0 rfl fun w hc=>zT h ?_
   refine zS fun K h=>sp 2 hf rfl fun a hf=>zT h ?_
   refine qB fun K49 c8=>wp_block ?_
   obtain ⟨ay,b0,hF⟩:=aA hF
   let S50:Int→Act→World→Prop:=(fun (zz:Int) a w=>Has 127 a [(1,.slice B H.length D),(2,.slice V l.length X),(3,pq Y),(10,pq au),(44,.slice V l.length X),(45,i6 ((l.length:Nat):Int)),(46,i6 x),(51,i6 x),(52,i6 zz)]∧Ctx G (.box au [i6 z.Person,i6 z.Station] 86::.box Y [.slice I r.People.length J,.slice M r.Stations.length O] 78::Lf) w)
   have a5:∀ (zz:Int) a w,ay=.go zz→S50 zz a w→K49 a w:=by
    rintro a1 a w rfl ⟨hf,hc⟩
    replace hF:=bH hF
    refine c8 _ _ ?_
    refine cr _ _ ?_
    refine bW ?_
    refine sp 2 hf rfl fun a hf=>aL ?_
    replace hc:=hc.drop k0
    exact c7 (W (x + 1)) _ _ (sj hF).symm ⟨hf.kp rfl,hc⟩
   have cc:∀ r,ay=.out r→r=da:=by
    rintro r rfl
    exact sj hF
   refine bY N (bX (S:=S50) (x:=ay) ?_ N 0 _ _ ⟨hf.kp rfl,hc⟩ b0)
   clear hF hf hc
   rintro a1 dp a w KB50 ⟨hf,hc⟩ hF m ca
   unfold jC at hF
   refine zS fun K h=>sp 1 hf rfl fun a hf=>zT h ?_
   refine wp_seq_k fun K52 c9=>zI hf rfl hF ?_ ?_ <;> clear hF <;> intro hF
   ·refine wp_skip ?_
    refine c9 _ _ ?_
    refine wp_seq_k fun K53 dd=>wp_block ?_
    refine zS fun K h=>sp 2 hf rfl fun a hf=>zT h ?_
    refine wp_seq_k fun K55 c5=>?_
    obtain ⟨a0,ck,hF⟩:=aA hF
    obtain ⟨dm,dx,cb,bi⟩:=ag.atm ck
    refine cQ hc aT (by kernel_rfl) ?_
    refine qE hf rfl rfl rfl (Pu.ev (pM rfl)) fun a hf=>qE hf rfl rfl rfl (Pu.ev (pM rfl)) fun a hf=>qE hf rfl rfl rfl (Pu.ev (pIA Tryz.underlying99 lJ rfl rfl cb)) fun a hf=>qE hf rfl rfl rfl (kG (vs:=[i6 a0.Person,i6 a0.Station]) lM rfl rfl (dF bi (n:=2) (o':=0) rfl)) fun a hf=>qE hf rfl rfl rfl (kG (vs:=[i6 z.Person,i6 z.Station]) lM rfl rfl (bM (n:=2) m0 rfl)) fun a hf=>qE hf rfl rfl rfl (Pu.ev (pEqA aFm rfl rfl (aCz _ _ _ _))) fun a hf=>?_
    intro w hc
    refine c5 _ _ ?_
    refine zI hf rfl hF ?_ ?_ <;> clear hF <;> intro hF
    ·refine zS fun K h=>sp 1 hf rfl fun a hf=>zT h ?_
     refine wp_ret ?_
     refine bB ?_
     refine aH ?_
     refine aH ?_
     have he:=sj hF
     rw [← he] at m
     replace hF:=cc _ m
     refine bB ?_
     refine aH ?_
     refine bB ?_
     refine aH ?_
     refine aH ?_
     have he:=hF
     rw [← he] at t
     replace hF:=c2 _ t
     refine bB ?_
     refine aH ?_
     obtain rfl:=hF
     replace hc:=(hc.drop k1).drop k0
     exact zO1 Tryz.results64 hf rfl ⟨rfl,hc⟩
    ·refine wp_skip ?_
     refine dd _ _ ?_
     refine bW ?_
     refine sp 2 hf rfl fun a hf=>aL ?_
     exact ca (W (a1 + 1)) _ _ (sj hF).symm ⟨hf.kp rfl,hc⟩
   ·refine wp_exit ?_
    refine aN ?_
    refine aN ?_
    have he:=sj hF
    rw [← he] at m
    refine cT ?_
    exact a5 _ _ _ m ⟨hf.kp rfl,hc⟩
  ·refine wp_exit ?_
   refine aN ?_
   refine aN ?_
   have he:=sj hF
   rw [← he] at t
   refine cT ?_
   exact cx _ _ _ t ⟨hf.kp rfl,hc⟩

def jD (N:Nat) (a_:List (List Int)) (b_:List (List Int)) (B:Int):Option (bK (Int) (Bool)) :=
 cond (decide (B < ((a_.length:Nat):Int)))
 (Option.bind (aU a_ B) fun D=>
 Option.bind (aU b_ B) fun H=>
 Option.bind (gG N D H) fun r=>
 cond (!r)
 (some (.ret false))
 (some (.cont (W (B + 1)))))
 (some (.brk B))
def lO (N:Nat) (a_:List (List Int)) (b_:List (List Int)):Option (Bool) :=
 cond (((a_.length:Nat):Int) != ((b_.length:Nat):Int))
 (some false)
 (Option.bind (aS (fun s7=>jD N a_ b_ s7) N 0) fun x7=>
 exK x7 (fun s7=>some true) some)
theorem wQ {N:Nat} {G:aQ} {Lf:List Ent} {w:World} (a_:List (List Int)) (b_:List (List Int)) {I:Option Addr} {J:Nat} {D:Option Addr} {H:Nat} (i:RdT aM G 1 I J a_) (Y:RdT aM G 1 D H b_) (hc:Ctx G (Lf) w) {M:Bool} (hF:lO N a_ b_=some M):Calls Tryz.prog 132 #[.slice I a_.length J,.slice D b_.length H] w (fun e w=>e=.returned (.bool M)∧Ctx G (Lf) w):=by
 unfold lO at hF
 refine bN Tryz.func132 rfl Tryz.ntmps132 rfl fun a hf=>zS fun K h=>sp 1 hf rfl fun a hf=>zT h ?_
 refine wp_seq_k fun K2 h2=>zS fun K h=>sp 1 hf rfl fun a hf=>zP hf rfl (aW Tryz.underlying75 rfl) fun a hf=>sp 1 hf rfl fun a hf=>zP hf rfl (aW Tryz.underlying75 rfl) fun a hf=>sp 1 hf rfl fun a hf=>zT h ?_
 refine zI hf rfl hF ?_ ?_ <;> clear hF <;> intro hF
 ·refine zS fun K h=>sp 1 hf rfl fun a hf=>zT h ?_
  refine wp_ret ?_
  refine aH ?_
  obtain rfl:=sj hF
  exact zO1 Tryz.results132 hf rfl ⟨rfl,hc⟩
 ·refine wp_skip ?_
  refine h2 _ _ ?_
  refine wp_seq_k fun K5 h5=>zS fun K h=>sp 1 hf rfl fun a hf=>zT h ?_
  refine wp_block ?_
  obtain ⟨x7,p,hF⟩:=aA hF
  let S7:Int→Act→World→Prop:=(fun (zz:Int) a w=>Has 27 a [(0,.slice I a_.length J),(1,.slice D b_.length H),(5,i6 zz)]∧Ctx G (Lf) w)
  have k:∀ (zz:Int) a w,x7=.go zz→S7 zz a w→K5 a w:=by
   rintro V a w rfl ⟨hf,hc⟩
   replace hF:=bH hF
   refine h5 _ _ ?_
   refine zS fun K h=>sp 1 hf rfl fun a hf=>zT h ?_
   refine wp_ret ?_
   obtain rfl:=sj hF
   exact zO1 Tryz.results132 hf rfl ⟨rfl,hc⟩
  have q:∀ r,x7=.out r→r=M:=by
   rintro r rfl
   exact sj hF
  refine bY N (bX (S:=S7) (x:=x7) ?_ N 0 _ _ ⟨hf.kp rfl,hc⟩ p)
  clear hF hf hc
  rintro V u a w KB7 ⟨hf,hc⟩ hF B m
  unfold jD at hF
  refine wp_seq_k fun K9 h9=>zS fun K h=>sp 2 hf rfl fun a hf=>zP hf rfl (aW Tryz.underlying75 rfl) fun a hf=>sp 1 hf rfl fun a hf=>zT h ?_
  refine zI hf rfl hF ?_ ?_ <;> clear hF <;> intro hF
  ·refine wp_skip ?_
   refine h9 _ _ ?_
   refine wp_seq_k fun K11 s=>wp_block ?_
   refine wp_seq_k fun K12 n=>?_
   obtain ⟨R,d,hF⟩:=aA hF
   obtain ⟨y,o,hd,qa,qp,qr⟩:=i.atm d
   obtain ⟨U,g,hF⟩:=aA hF
   obtain ⟨t,z,O,X,Z,b⟩:=Y.atm g
   obtain ⟨r,hr,hF⟩:=aA hF
   refine cQ hc aT (by kernel_rfl) ?_
   refine qE hf rfl rfl rfl (Pu.ev (pM rfl)) fun a hf=>qE hf rfl rfl rfl (Pu.ev (pM rfl)) fun a hf=>qE hf rfl rfl rfl (Pu.ev (pIA Tryz.underlying75 kX rfl rfl qa)) fun a hf=>qE hf rfl rfl rfl (bF fB rfl (aR (j:=0) qp rfl)) fun a hf=>qE hf rfl rfl rfl (Pu.ev (pM rfl)) fun a hf=>qE hf rfl rfl rfl (Pu.ev (pM rfl)) fun a hf=>qE hf rfl rfl rfl (Pu.ev (pIA Tryz.underlying75 kX rfl rfl X)) fun a hf=>qE hf rfl rfl rfl (bF fB rfl (aR (j:=0) Z rfl)) fun a hf=>qE hf rfl rfl rfl (eC (v:=.bool r) (vs:=[.slice hd.1 R.length hd.2,.slice O.1 U.length O.2]) (caps:=[]) aD2 rfl rfl rfl rfl (fun w hc=>lB R U qr b hc hr)) fun a hf=>qE hf rfl rfl rfl (Pu.ev (aEy rfl)) fun a hf=>?_
   intro w hc
   refine n _ _ ?_
   refine zI hf rfl hF ?_ ?_ <;> clear hF <;> intro hF
   ·refine zS fun K h=>sp 1 hf rfl fun a hf=>zT h ?_
    refine wp_ret ?_
    refine bB ?_
    refine aH ?_
    refine aH ?_
    have he:=sj hF
    rw [← he] at B
    replace hF:=q _ B
    refine bB ?_
    refine aH ?_
    obtain rfl:=hF
    exact zO1 Tryz.results132 hf rfl ⟨rfl,hc⟩
   ·refine wp_skip ?_
    refine s _ _ ?_
    refine bW ?_
    refine sp 3 hf rfl fun a hf=>aL ?_
    exact m (W (V + 1)) _ _ (sj hF).symm ⟨hf.kp rfl,hc⟩
  ·refine wp_exit ?_
   refine aN ?_
   refine aN ?_
   have he:=sj hF
   rw [← he] at B
   refine cT ?_
   exact k _ _ _ B ⟨hf.kp rfl,hc⟩

def oS (N:Nat) (a_:aB) (b_:aB) (x:Int):Option (bK (Int) (Bool)) :=
 cond (decide (x < ((a_.Stations.length:Nat):Int)))
 (Option.bind (aU a_.Stations x) fun H=>
 Option.bind (aU b_.Stations x) fun D=>
 Option.bind (cond (H.Places != D.Places) (some true) (Option.bind (aU a_.Stations x) fun B=>
 Option.bind (aU b_.Stations x) fun J=>
 Option.bind (gG N B.Order J.Order) fun I=>
 some (!I))) fun M=>
 cond M
 (some (.ret false))
 (some (.cont (W (x + 1)))))
 (some (.brk x))
def rC (N:Nat) (a_:aB) (b_:aB):Option (Bool) :=
 Option.bind (lO N a_.People b_.People) fun r=>
 cond ((!r) || (((a_.Stations.length:Nat):Int) != ((b_.Stations.length:Nat):Int)))
 (some false)
 (Option.bind (aS (fun s7=>oS N a_ b_ s7) N 0) fun x7=>
 exK x7 (fun s7=>some true) some)
theorem aDt {N:Nat} {G:aQ} {Lf:List Ent} {w:World} (a_:aB) (b_:aB) {O:Option Addr} {J:Nat} {H:Option Addr} {I:Nat} {M:Option Addr} {R:Nat} {D:Option Addr} {B:Nat} (Z:RdT aM G 1 O J a_.People) (U:RdT bA G 2 H I a_.Stations) (Y:RdT aM G 1 M R b_.People) (V:RdT bA G 2 D B b_.Stations) (hc:Ctx G (Lf) w) {n:Bool} (hF:rC N a_ b_=some n):Calls Tryz.prog 65 #[.agg #[.slice O a_.People.length J,.slice H a_.Stations.length I],.agg #[.slice M b_.People.length R,.slice D b_.Stations.length B]] w (fun e w=>e=.returned (.bool n)∧Ctx G (Lf) w):=by
 unfold rC at hF
 refine bN Tryz.func65 rfl Tryz.ntmps65 rfl fun a hf=>zS fun K h=>zB hf hc rfl fun d a w hf hc=>zB hf hc rfl fun b a w hf hc=>sp 1 hf rfl fun a hf=>zT h ?_
 refine wp_seq_k fun K2 h2=>zS fun K h=>zP hf rfl (pFA iK rfl) fun a hf=>zL hf hc gB m1 rfl fun a w hf hc=>zP hf rfl (pFA iK rfl) fun a hf=>zL hf hc gB m0 rfl fun a w hf hc=>?_
 obtain ⟨r,hr,hF⟩:=aA hF
 refine zQ (v:=.bool r) hf hc aOo rfl (fun w hc=>wQ a_.People b_.People Z Y hc hr) fun a w hf hc=>sp 2 hf rfl fun a hf=>fV 8 (fun a=>Has 57 a [(2,pq d),(3,pq b),(6,pq d),(7,.slice O a_.People.length J),(8,pq b),(9,.slice M b_.People.length R),(10,.bool r),(11,.bool (!r)),(12,.bool (!r)),(20,.bool ((!r) || (((a_.Stations.length:Nat):Int) != ((b_.Stations.length:Nat):Int))))]) hc ?_ ?_
 ·cases hb:(!r)
  ·rw [hb] at hf
   refine zP hf rfl (pFA fJ rfl) fun a hf=>zL hf hc mR m1 rfl fun a w hf hc=>zP hf rfl (aW Tryz.underlying76 rfl) fun a hf=>zP hf rfl (pFA fJ rfl) fun a hf=>zL hf hc mR m0 rfl fun a w hf hc=>zP hf rfl (aW Tryz.underlying76 rfl) fun a hf=>sp 2 hf rfl fun a hf=>aL ⟨hf.kp rfl,hc⟩
  ·rw [hb] at hf
   refine stS hf rfl rfl rfl fun a hf=>stS hf rfl rfl rfl fun a hf=>stS hf rfl rfl rfl fun a hf=>stS hf rfl rfl rfl fun a hf=>stS hf rfl rfl rfl fun a hf=>stS hf rfl rfl rfl fun a hf=>stS hf rfl rfl rfl fun a hf=>sp 1 hf rfl fun a hf=>aL ⟨hf.kp rfl,hc⟩
 intro a w ⟨hf,hc⟩
 refine zT h ?_
 refine zI hf rfl hF ?_ ?_ <;> clear hF <;> intro hF
 ·refine zS fun K h=>sp 1 hf rfl fun a hf=>zT h ?_
  refine wp_ret ?_
  refine aH ?_
  obtain rfl:=sj hF
  replace hc:=(hc.drop k1).drop k0
  exact zO1 Tryz.results65 hf rfl ⟨rfl,hc⟩
 ·refine wp_skip ?_
  refine h2 _ _ ?_
  refine wp_seq_k fun K5 h5=>zS fun K h=>zP hf rfl (pFA fJ rfl) fun a hf=>zL hf hc mR m1 rfl fun a w hf hc=>zP hf rfl (aW Tryz.underlying76 rfl) fun a hf=>sp 1 hf rfl fun a hf=>zT h ?_
  refine wp_block ?_
  obtain ⟨x7,ar,hF⟩:=aA hF
  let S7:Int→Act→World→Prop:=(fun (zz:Int) a w=>Has 57 a [(2,pq d),(3,pq b),(23,i6 ((a_.Stations.length:Nat):Int)),(24,i6 zz)]∧Ctx G (.box b [.slice M b_.People.length R,.slice D b_.Stations.length B] 78::.box d [.slice O a_.People.length J,.slice H a_.Stations.length I] 78::Lf) w)
  have aq:∀ (zz:Int) a w,x7=.go zz→S7 zz a w→K5 a w:=by
   rintro x a w rfl ⟨hf,hc⟩
   replace hF:=bH hF
   refine h5 _ _ ?_
   refine zS fun K h=>sp 1 hf rfl fun a hf=>zT h ?_
   refine wp_ret ?_
   obtain rfl:=sj hF
   replace hc:=(hc.drop k1).drop k0
   exact zO1 Tryz.results65 hf rfl ⟨rfl,hc⟩
  have a0:∀ r,x7=.out r→r=n:=by
   rintro r rfl
   exact sj hF
  refine bY N (bX (S:=S7) (x:=x7) ?_ N 0 _ _ ⟨hf.kp rfl,hc⟩ ar)
  clear hF hf hc
  rintro x a7 a w KB7 ⟨hf,hc⟩ hF X ay
  unfold oS at hF
  refine zS fun K h=>sp 1 hf rfl fun a hf=>zT h ?_
  refine wp_seq_k fun K10 ax=>zI hf rfl hF ?_ ?_ <;> clear hF <;> intro hF
  ·refine wp_skip ?_
   refine ax _ _ ?_
   refine wp_seq_k fun K11 a1=>wp_block ?_
   refine zS fun K h=>sp 2 hf rfl fun a hf=>zT h ?_
   refine wp_seq_k fun K13 av=>?_
   obtain ⟨i,af,hF⟩:=aA hF
   obtain ⟨q,o,hd,qa,qp,qr⟩:=U.atm af
   obtain ⟨g,ap,hF⟩:=aA hF
   obtain ⟨s,u,a3,ai,aa,a2⟩:=V.atm ap
   obtain ⟨az,p,hF⟩:=aA hF
   refine cQ hc aT (by kernel_rfl) ?_
   refine qE hf rfl rfl rfl (Pu.ev (pFA fJ rfl)) fun a hf=>qE hf rfl rfl rfl (bF mR rfl (bL m1 rfl)) fun a hf=>qE hf rfl rfl rfl (Pu.ev (pM rfl)) fun a hf=>qE hf rfl rfl rfl (Pu.ev (pIA Tryz.underlying76 mK rfl rfl qa)) fun a hf=>qE hf rfl rfl rfl (Pu.ev (pFA oU rfl)) fun a hf=>qE hf rfl rfl rfl (bF bG rfl (aR (j:=0) qp rfl)) fun a hf=>qE hf rfl rfl rfl (Pu.ev (pFA fJ rfl)) fun a hf=>qE hf rfl rfl rfl (bF mR rfl (bL m0 rfl)) fun a hf=>qE hf rfl rfl rfl (Pu.ev (pM rfl)) fun a hf=>qE hf rfl rfl rfl (Pu.ev (pIA Tryz.underlying76 mK rfl rfl ai)) fun a hf=>qE hf rfl rfl rfl (Pu.ev (pFA oU rfl)) fun a hf=>qE hf rfl rfl rfl (bF bG rfl (aR (j:=0) aa rfl)) fun a hf=>qE hf rfl rfl rfl (Pu.ev (pNe rfl rfl)) fun a hf=>?_
   refine qE hf rfl rfl rfl (Pu.ev (pM rfl)) fun a hf=>aBc 15 (fun a=>Has 57 a [(2,pq d),(3,pq b),(23,i6 ((a_.Stations.length:Nat):Int)),(24,i6 x),(5,i6 x),(27,.pointer (some ⟨d,1,none⟩)),(28,.slice H a_.Stations.length I),(29,i6 x),(30,.pointer (some ⟨q,o,none⟩)),(31,.pointer (some ⟨q,o + 0,none⟩)),(32,i6 i.Places),(33,.pointer (some ⟨b,1,none⟩)),(34,.slice D b_.Stations.length B),(35,i6 x),(36,.pointer (some ⟨s,u,none⟩)),(37,.pointer (some ⟨s,u + 0,none⟩)),(38,i6 g.Places),(39,.bool (i.Places != g.Places)),(40,.bool (i.Places != g.Places)),(55,.bool az)]) ?_ ?_
   ·cases hb:(i.Places != g.Places)
    ·rw [hb] at hf
     have hF:=gN hb p
     obtain ⟨t,am,hF⟩:=aA hF
     obtain ⟨a8,a5,k,ab,z,aj⟩:=U.atm am
     obtain ⟨y,an,hF⟩:=aA hF
     obtain ⟨a6,a4,m,ac,ak,ag⟩:=V.atm an
     obtain ⟨au,ad,hF⟩:=aA hF
     refine qE hf rfl rfl rfl (Pu.ev (pFA fJ rfl)) fun a hf=>qE hf rfl rfl rfl (bF mR rfl (bL m1 rfl)) fun a hf=>qE hf rfl rfl rfl (Pu.ev (pM rfl)) fun a hf=>qE hf rfl rfl rfl (Pu.ev (pIA Tryz.underlying76 mK rfl rfl ab)) fun a hf=>qE hf rfl rfl rfl (Pu.ev (pFA pR rfl)) fun a hf=>qE hf rfl rfl rfl (bF fB rfl (aR (j:=1) z rfl)) fun a hf=>qE hf rfl rfl rfl (Pu.ev (pFA fJ rfl)) fun a hf=>qE hf rfl rfl rfl (bF mR rfl (bL m0 rfl)) fun a hf=>qE hf rfl rfl rfl (Pu.ev (pM rfl)) fun a hf=>qE hf rfl rfl rfl (Pu.ev (pIA Tryz.underlying76 mK rfl rfl ac)) fun a hf=>qE hf rfl rfl rfl (Pu.ev (pFA pR rfl)) fun a hf=>qE hf rfl rfl rfl (bF fB rfl (aR (j:=1) ak rfl)) fun a hf=>qE hf rfl rfl rfl (eC (v:=.bool au) (vs:=[.slice k.1 t.Order.length k.2,.slice m.1 y.Order.length m.2]) (caps:=[]) aD2 rfl rfl rfl rfl (fun w hc=>lB t.Order y.Order aj ag hc ad)) fun a hf=>?_
     refine qE hf rfl rfl rfl (Pu.ev (aEy rfl)) fun a hf=>qE hf rfl rfl rfl (Pu.ev (pPf rfl rfl)) fun a hf=>?_
     obtain rfl:=sj hF
     exact rV (hf.kp rfl)
    ·rw [hb] at hf
     have hF:=fU hb p
     obtain rfl:=sj hF
     refine qS hf rfl rfl rfl fun a hf=>qS hf rfl rfl rfl fun a hf=>qS hf rfl rfl rfl fun a hf=>qS hf rfl rfl rfl fun a hf=>qS hf rfl rfl rfl fun a hf=>qS hf rfl rfl rfl fun a hf=>qS hf rfl rfl rfl fun a hf=>qS hf rfl rfl rfl fun a hf=>qS hf rfl rfl rfl fun a hf=>qS hf rfl rfl rfl fun a hf=>qS hf rfl rfl rfl fun a hf=>qS hf rfl rfl rfl fun a hf=>qS hf rfl rfl rfl fun a hf=>?_
     refine qS hf rfl rfl rfl fun a hf=>qE hf rfl rfl rfl (Pu.ev (pPt rfl rfl)) fun a hf=>rV (hf.kp rfl)
   intro a hf
   intro w hc
   refine av _ _ ?_
   refine zI hf rfl hF ?_ ?_ <;> clear hF <;> intro hF
   ·refine zS fun K h=>sp 1 hf rfl fun a hf=>zT h ?_
    refine wp_ret ?_
    refine bB ?_
    refine aH ?_
    refine aH ?_
    have he:=sj hF
    rw [← he] at X
    replace hF:=a0 _ X
    refine bB ?_
    refine aH ?_
    obtain rfl:=hF
    replace hc:=(hc.drop k1).drop k0
    exact zO1 Tryz.results65 hf rfl ⟨rfl,hc⟩
   ·refine wp_skip ?_
    refine a1 _ _ ?_
    refine bW ?_
    refine sp 2 hf rfl fun a hf=>aL ?_
    exact ay (W (x + 1)) _ _ (sj hF).symm ⟨hf.kp rfl,hc⟩
  ·refine wp_exit ?_
   refine aN ?_
   refine aN ?_
   have he:=sj hF
   rw [← he] at X
   refine cT ?_
   exact aq _ _ _ X ⟨hf.kp rfl,hc⟩

def gF (N:Nat) (a_:List aC) (b_:List aC) (B:Int):Option (bK (Int) (Bool)) :=
 cond (decide (B < ((a_.length:Nat):Int)))
 (Option.bind (aU a_ B) fun D=>
 Option.bind (aU b_ B) fun H=>
 cond (!(D.Person == H.Person && D.Station == H.Station))
 (some (.ret false))
 (some (.cont (W (B + 1)))))
 (some (.brk B))
def fZ (N:Nat) (a_:List aC) (b_:List aC):Option (Bool) :=
 cond (((a_.length:Nat):Int) != ((b_.length:Nat):Int))
 (some false)
 (Option.bind (aS (fun s7=>gF N a_ b_ s7) N 0) fun x7=>
 exK x7 (fun s7=>some true) some)
theorem uF {N:Nat} {G:aQ} {Lf:List Ent} {w:World} (a_:List aC) (b_:List aC) {I:Option Addr} {J:Nat} {D:Option Addr} {H:Nat} (d:Rd G 2 I J (a_.map aF)) (X:Rd G 2 D H (b_.map aF)) (hc:Ctx G (Lf) w) {M:Bool} (hF:fZ N a_ b_=some M):Calls Tryz.prog 66 #[.slice I a_.length J,.slice D b_.length H] w (fun e w=>e=.returned (.bool M)∧Ctx G (Lf) w):=by
 unfold fZ at hF
 refine bN Tryz.func66 rfl Tryz.ntmps66 rfl fun a hf=>zS fun K h=>sp 1 hf rfl fun a hf=>zT h ?_
 refine wp_seq_k fun K2 h2=>zS fun K h=>sp 1 hf rfl fun a hf=>zP hf rfl (aW Tryz.underlying99 rfl) fun a hf=>sp 1 hf rfl fun a hf=>zP hf rfl (aW Tryz.underlying99 rfl) fun a hf=>sp 1 hf rfl fun a hf=>zT h ?_
 refine zI hf rfl hF ?_ ?_ <;> clear hF <;> intro hF
 ·refine zS fun K h=>sp 1 hf rfl fun a hf=>zT h ?_
  refine wp_ret ?_
  refine aH ?_
  obtain rfl:=sj hF
  exact zO1 Tryz.results66 hf rfl ⟨rfl,hc⟩
 ·refine wp_skip ?_
  refine h2 _ _ ?_
  refine wp_seq_k fun K5 h5=>zS fun K h=>sp 1 hf rfl fun a hf=>zT h ?_
  refine wp_block ?_
  obtain ⟨x7,k,hF⟩:=aA hF
  let S7:Int→Act→World→Prop:=(fun (zz:Int) a w=>Has 26 a [(0,.slice I a_.length J),(1,.slice D b_.length H),(5,i6 zz)]∧Ctx G (Lf) w)
  have g:∀ (zz:Int) a w,x7=.go zz→S7 zz a w→K5 a w:=by
   rintro U a w rfl ⟨hf,hc⟩
   replace hF:=bH hF
   refine h5 _ _ ?_
   refine zS fun K h=>sp 1 hf rfl fun a hf=>zT h ?_
   refine wp_ret ?_
   obtain rfl:=sj hF
   exact zO1 Tryz.results66 hf rfl ⟨rfl,hc⟩
  have m:∀ r,x7=.out r→r=M:=by
   rintro r rfl
   exact sj hF
  refine bY N (bX (S:=S7) (x:=x7) ?_ N 0 _ _ ⟨hf.kp rfl,hc⟩ k)
  clear hF hf hc
  rintro U s a w KB7 ⟨hf,hc⟩ hF B i
  unfold gF at hF
  refine wp_seq_k fun K9 h9=>zS fun K h=>sp 2 hf rfl fun a hf=>zP hf rfl (aW Tryz.underlying99 rfl) fun a hf=>sp 1 hf rfl fun a hf=>zT h ?_
  refine zI hf rfl hF ?_ ?_ <;> clear hF <;> intro hF
  ·refine wp_skip ?_
   refine h9 _ _ ?_
   refine wp_seq_k fun K11 p=>wp_block ?_
   refine wp_seq_k fun K12 j=>?_
   obtain ⟨O,Z,hF⟩:=aA hF
   obtain ⟨t,o,qa,qp⟩:=d.atm Z
   obtain ⟨R,b,hF⟩:=aA hF
   obtain ⟨q,u,V,Y⟩:=X.atm b
   refine cQ hc aT (by kernel_rfl) ?_
   refine qE hf rfl rfl rfl (Pu.ev (pM rfl)) fun a hf=>qE hf rfl rfl rfl (Pu.ev (pM rfl)) fun a hf=>qE hf rfl rfl rfl (Pu.ev (pIA Tryz.underlying99 lJ rfl rfl qa)) fun a hf=>qE hf rfl rfl rfl (kG (vs:=[i6 O.Person,i6 O.Station]) lM rfl rfl (dF qp (n:=2) (o':=0) rfl)) fun a hf=>qE hf rfl rfl rfl (Pu.ev (pM rfl)) fun a hf=>qE hf rfl rfl rfl (Pu.ev (pM rfl)) fun a hf=>qE hf rfl rfl rfl (Pu.ev (pIA Tryz.underlying99 lJ rfl rfl V)) fun a hf=>qE hf rfl rfl rfl (kG (vs:=[i6 R.Person,i6 R.Station]) lM rfl rfl (dF Y (n:=2) (o':=0) rfl)) fun a hf=>qE hf rfl rfl rfl (Pu.ev (pNeA aFm rfl rfl (aCz _ _ _ _))) fun a hf=>?_
   intro w hc
   refine j _ _ ?_
   refine zI hf rfl hF ?_ ?_ <;> clear hF <;> intro hF
   ·refine zS fun K h=>sp 1 hf rfl fun a hf=>zT h ?_
    refine wp_ret ?_
    refine bB ?_
    refine aH ?_
    refine aH ?_
    have he:=sj hF
    rw [← he] at B
    replace hF:=m _ B
    refine bB ?_
    refine aH ?_
    obtain rfl:=hF
    exact zO1 Tryz.results66 hf rfl ⟨rfl,hc⟩
   ·refine wp_skip ?_
    refine p _ _ ?_
    refine bW ?_
    refine sp 3 hf rfl fun a hf=>aL ?_
    exact i (W (U + 1)) _ _ (sj hF).symm ⟨hf.kp rfl,hc⟩
  ·refine wp_exit ?_
   refine aN ?_
   refine aN ?_
   have he:=sj hF
   rw [← he] at B
   refine cT ?_
   exact g _ _ _ B ⟨hf.kp rfl,hc⟩

def dJ (N:Nat) (r:aB) (B:Int):Option (bK (Int) (Bool)) :=
 cond (decide (B < ((r.Stations.length:Nat):Int)))
 (Option.bind (aU r.Stations B) fun H=>
 cond (decide (15 < ((H.Order.length:Nat):Int)))
 (Option.bind (lK N) fun D=>
 some (.ret D))
 (some (.cont (W (B + 1)))))
 (some (.brk B))
def dV (N:Nat) (r:aB) (x:Int):Option (bK (Int) (Bool)) :=
 cond (decide (x < ((r.People.length:Nat):Int)))
 (Option.bind (aU r.People x) fun D=>
 cond (decide (15 < ((D.length:Nat):Int)))
 (Option.bind (lK N) fun B=>
 some (.ret B))
 (some (.cont (W (x + 1)))))
 (some (.brk x))
def nP (N:Nat) (r:aB) (B:List Int) (l:List aC):Option (Bool) :=
 cond ((((decide (15 < ((r.People.length:Nat):Int))) || (decide (15 < ((r.Stations.length:Nat):Int)))) || (decide (20 < ((B.length:Nat):Int)))) || (decide (150 < ((l.length:Nat):Int))))
 (Option.bind (lK N) fun o=>
 some o)
 (Option.bind (aS (fun s7=>dV N r s7) N 0) fun x7=>
 exK x7 (fun s7=>Option.bind (aS (fun X=>dJ N r X) N 0) fun q=>
 exK q (fun X=>Option.bind (kI N r) fun H=>
 Option.bind (hZ N B) fun U=>
 Option.bind (iN N l) fun V=>
 Option.bind (nD N H) fun t=>
 Option.bind (fM N r) fun x=>
 Option.bind (lF N x) fun u=>
 cond (t != u)
 (some false)
 (Option.bind (kD N H U) fun M=>
 Option.bind (fM N r) fun n=>
 Option.bind (jY N n B) fun R=>
 cond ((!(M.1.Person == R.1.Person && M.1.Station == R.1.Station)) || (M.2 != R.2))
 (some false)
 (Option.bind (mS N H V) fun J=>
 Option.bind (fM N r) fun d=>
 Option.bind (kK N l) fun b=>
 Option.bind (lG N d b) fun S=>
 cond ((J.1 != S.1) || (J.2 != S.2))
 (some false)
 (Option.bind (lI N H) fun O=>
 Option.bind (fM N r) fun g=>
 Option.bind (lP N g) fun I=>
 Option.bind (gG N O.1 I.1) fun Z=>
 cond ((!Z) || (O.2 != I.2))
 (some false)
 (Option.bind (kC N H) fun D=>
 Option.bind (cond ((D.2 != I.2) || ((D.2 != 0) && (decide (0 < ((D.1.length:Nat):Int))))) (some true) (Option.bind (cond (D.2 == 0) (Option.bind (nW N r I.1 D.1) fun m=>
 some (!m)) (some false)) fun v=>
 some v)) fun z=>
 cond z
 (some false)
 (Option.bind (rC N H r) fun k=>
 Option.bind (cond k (Option.bind (gG N U B) fun Y=>
 some Y) (some false)) fun p=>
 Option.bind (cond p (Option.bind (fZ N V l) fun j=>
 some j) (some false)) fun y=>
 Option.bind (cond y (Option.bind (lK N) fun i=>
 some i) (some false)) fun s=>
 some s)))))) some) some)
theorem wT {N:Nat} {G:aQ} {Lf:List Ent} {w:World} (r:aB) (B:List Int) (l:List aC) {J:Option Addr} {M:Nat} {O:Option Addr} {R:Nat} {D:Option Addr} {H:Nat} {s:Option Addr} {t:Nat} (g:RdT aM G 1 J M r.People) (Z:RdT bA G 2 O R r.Stations) (ac:Rd G 1 D H (B.map aD)) (bn:Rd G 2 s t (l.map aF)) (hc:Ctx G (Lf) w) {bc:Bool} (hF:nP N r B l=some bc):Calls Tryz.prog 9 #[.agg #[.slice J r.People.length M,.slice O r.Stations.length R],.slice D B.length H,.slice s l.length t] w (fun e w=>e=.returned (.bool bc)∧Ctx G (Lf) w):=by
 unfold nP at hF
 refine bN Tryz.func9 rfl Tryz.ntmps9 rfl fun a hf=>zS fun K h=>zB hf hc rfl fun m a w hf hc=>sp 1 hf rfl fun a hf=>zT h ?_
 refine wp_seq_k fun K2 h2=>zS fun K h=>zP hf rfl (pFA iK rfl) fun a hf=>zL hf hc gB m0 rfl fun a w hf hc=>zP hf rfl (aW Tryz.underlying75 rfl) fun a hf=>sp 2 hf rfl fun a hf=>fV 5 (fun a=>Has 188 a [(1,.slice D B.length H),(2,.slice s l.length t),(3,pq m),(23,pq m),(24,.slice J r.People.length M),(25,i6 ((r.People.length:Nat):Int)),(26,.bool (decide (15 < ((r.People.length:Nat):Int)))),(27,.bool (decide (15 < ((r.People.length:Nat):Int)))),(32,.bool ((decide (15 < ((r.People.length:Nat):Int))) || (decide (15 < ((r.Stations.length:Nat):Int)))))]) hc ?_ ?_
 ·cases hb:(decide (15 < ((r.People.length:Nat):Int)))
  ·rw [hb] at hf
   refine zP hf rfl (pFA fJ rfl) fun a hf=>zL hf hc mR m0 rfl fun a w hf hc=>zP hf rfl (aW Tryz.underlying76 rfl) fun a hf=>sp 2 hf rfl fun a hf=>aL ⟨hf.kp rfl,hc⟩
  ·rw [hb] at hf
   refine stS hf rfl rfl rfl fun a hf=>stS hf rfl rfl rfl fun a hf=>stS hf rfl rfl rfl fun a hf=>stS hf rfl rfl rfl fun a hf=>sp 1 hf rfl fun a hf=>aL ⟨hf.kp rfl,hc⟩
 intro a w ⟨hf,hc⟩
 refine sp 1 hf rfl fun a hf=>fV 4 (fun a=>Has 188 a [(1,.slice D B.length H),(2,.slice s l.length t),(3,pq m),(23,pq m),(24,.slice J r.People.length M),(25,i6 ((r.People.length:Nat):Int)),(26,.bool (decide (15 < ((r.People.length:Nat):Int)))),(27,.bool (decide (15 < ((r.People.length:Nat):Int)))),(32,.bool ((decide (15 < ((r.People.length:Nat):Int))) || (decide (15 < ((r.Stations.length:Nat):Int))))),(33,.bool ((decide (15 < ((r.People.length:Nat):Int))) || (decide (15 < ((r.Stations.length:Nat):Int))))),(37,.bool (((decide (15 < ((r.People.length:Nat):Int))) || (decide (15 < ((r.Stations.length:Nat):Int)))) || (decide (20 < ((B.length:Nat):Int)))))]) hc ?_ ?_
 ·cases hb:((decide (15 < ((r.People.length:Nat):Int))) || (decide (15 < ((r.Stations.length:Nat):Int))))
  ·rw [hb] at hf
   refine sp 1 hf rfl fun a hf=>zP hf rfl (aW Tryz.underlying25 rfl) fun a hf=>sp 2 hf rfl fun a hf=>aL ⟨hf.kp rfl,hc⟩
  ·rw [hb] at hf
   refine stS hf rfl rfl rfl fun a hf=>stS hf rfl rfl rfl fun a hf=>stS hf rfl rfl rfl fun a hf=>sp 1 hf rfl fun a hf=>aL ⟨hf.kp rfl,hc⟩
 intro a w ⟨hf,hc⟩
 refine sp 1 hf rfl fun a hf=>fV 4 (fun a=>Has 188 a [(1,.slice D B.length H),(2,.slice s l.length t),(3,pq m),(23,pq m),(24,.slice J r.People.length M),(25,i6 ((r.People.length:Nat):Int)),(26,.bool (decide (15 < ((r.People.length:Nat):Int)))),(27,.bool (decide (15 < ((r.People.length:Nat):Int)))),(32,.bool ((decide (15 < ((r.People.length:Nat):Int))) || (decide (15 < ((r.Stations.length:Nat):Int))))),(33,.bool ((decide (15 < ((r.People.length:Nat):Int))) || (decide (15 < ((r.Stations.length:Nat):Int))))),(37,.bool (((decide (15 < ((r.People.length:Nat):Int))) || (decide (15 < ((r.Stations.length:Nat):Int)))) || (decide (20 < ((B.length:Nat):Int))))),(38,.bool (((decide (15 < ((r.People.length:Nat):Int))) || (decide (15 < ((r.Stations.length:Nat):Int)))) || (decide (20 < ((B.length:Nat):Int))))),(42,.bool ((((decide (15 < ((r.People.length:Nat):Int))) || (decide (15 < ((r.Stations.length:Nat):Int)))) || (decide (20 < ((B.length:Nat):Int)))) || (decide (150 < ((l.length:Nat):Int)))))]) hc ?_ ?_
 ·cases hb:(((decide (15 < ((r.People.length:Nat):Int))) || (decide (15 < ((r.Stations.length:Nat):Int)))) || (decide (20 < ((B.length:Nat):Int))))
  ·rw [hb] at hf
   refine sp 1 hf rfl fun a hf=>zP hf rfl (aW Tryz.underlying99 rfl) fun a hf=>sp 2 hf rfl fun a hf=>aL ⟨hf.kp rfl,hc⟩
  ·rw [hb] at hf
   refine stS hf rfl rfl rfl fun a hf=>stS hf rfl rfl rfl fun a hf=>stS hf rfl rfl rfl fun a hf=>sp 1 hf rfl fun a hf=>aL ⟨hf.kp rfl,hc⟩
 intro a w ⟨hf,hc⟩
 refine zT h ?_
 refine zI hf rfl hF ?_ ?_ <;> clear hF <;> intro hF
 ·refine zS fun K h=>?_
  obtain ⟨dq,c1,hF⟩:=aA hF
  refine zQ (v:=.bool dq) hf hc aId rfl (fun w hc=>qF hc c1) fun a w hf hc=>sp 1 hf rfl fun a hf=>zT h ?_
  refine wp_ret ?_
  refine aH ?_
  obtain rfl:=sj hF
  replace hc:=hc.drop k0
  exact zO1 Tryz.results9 hf rfl ⟨rfl,hc⟩
 ·refine wp_skip ?_
  refine h2 _ _ ?_
  refine wp_seq_k fun K5 h5=>zS fun K h=>zP hf rfl (pFA iK rfl) fun a hf=>zL hf hc gB m0 rfl fun a w hf hc=>zP hf rfl (aW Tryz.underlying75 rfl) fun a hf=>sp 1 hf rfl fun a hf=>zT h ?_
  refine wp_block ?_
  obtain ⟨x7,dm,hF⟩:=aA hF
  let S7:Int→Act→World→Prop:=(fun (zz:Int) a w=>Has 188 a [(1,.slice D B.length H),(2,.slice s l.length t),(3,pq m),(45,.slice J r.People.length M),(46,i6 ((r.People.length:Nat):Int)),(47,i6 zz)]∧Ctx G (.box m [.slice J r.People.length M,.slice O r.Stations.length R] 78::Lf) w)
  have di:∀ (zz:Int) a w,x7=.go zz→S7 zz a w→K5 a w:=by
   rintro x a w rfl ⟨hf,hc⟩
   replace hF:=bH hF
   refine h5 _ _ ?_
   refine wp_seq_k fun K8 h8=>zS fun K h=>zP hf rfl (pFA fJ rfl) fun a hf=>zL hf hc mR m0 rfl fun a w hf hc=>zP hf rfl (aW Tryz.underlying76 rfl) fun a hf=>sp 1 hf rfl fun a hf=>zT h ?_
   refine wp_block ?_
   obtain ⟨bg,cm,hF⟩:=aA hF
   let S10:Int→Act→World→Prop:=(fun (zz:Int) a w=>Has 188 a [(1,.slice D B.length H),(2,.slice s l.length t),(3,pq m),(57,.slice O r.Stations.length R),(58,i6 ((r.Stations.length:Nat):Int)),(59,i6 zz)]∧Ctx G (.box m [.slice J r.People.length M,.slice O r.Stations.length R] 78::Lf) w)
   have cz:∀ (zz:Int) a w,bg=.go zz→S10 zz a w→K8 a w:=by
    rintro cf a w rfl ⟨hf,hc⟩
    replace hF:=bH hF
    refine h8 _ _ ?_
    refine zS fun K h=>zN hf hc nY m0 rfl fun a w hf hc=>?_
    obtain ⟨k,cp,hF⟩:=aA hF
    refine zC hf en_53 rfl (yA r g Z hc cp) ?_
    rintro _ w ⟨az,an,ay,q,rfl,hc⟩
    refine ⟨_,rfl,fun a hf=>?_⟩
    refine sp 1 hf rfl fun a hf=>?_
    obtain ⟨z,cs,hF⟩:=aA hF
    refine zC hf aHl rfl (oW B ac hc cs) ?_
    rintro _ w ⟨aj,af,rfl,hc⟩
    refine ⟨_,rfl,fun a hf=>?_⟩
    refine sp 1 hf rfl fun a hf=>?_
    obtain ⟨y,c4,hF⟩:=aA hF
    refine zC hf en_54 rfl (uH l bn hc c4) ?_
    rintro _ w ⟨ad,ai,rfl,hc⟩
    refine ⟨_,rfl,fun a hf=>?_⟩
    refine zA hf hc aHq rfl fun ag a w hf hc=>zW hf hc aHy u0 rfl fun w hc=>sp 2 hf rfl fun a hf=>zT h ?_
    refine wp_seq_k fun K12 dk=>wp_seq_k fun K13 ga=>?_
    obtain ⟨a9,c8,hF⟩:=aA hF
    obtain ⟨aq,cq,hF⟩:=aA hF
    obtain ⟨bd,dd,hF⟩:=aA hF
    replace hc:=hc.nilRow 0 0
    replace hc:=hc.nilRow 0 0
    replace hc:=hc.nilRow 0 0
    replace hc:=hc.nilRow 0 0
    refine mB (fun θ=>[⟨none,none,1,.slice D B.length H⟩,⟨none,none,2,.slice s l.length t⟩,⟨none,none,3,pq m⟩,⟨none,none,11,pq ag⟩,⟨none,none,12,.slice aj z.length af⟩,⟨none,none,13,.slice ad y.length ai⟩,⟨some 0,none,75,.agg #[.slice az k.People.length an.1,.slice ay k.Stations.length q.1]⟩,⟨some 1,none,76,i6 a9⟩,⟨some 2,none,77,.agg #[.slice J r.People.length M,.slice O r.Stations.length R]⟩,⟨some 3,none,78,.agg #[.slice ((θ 24).p) aq.People.length ((θ 24).c),.slice ((θ 25).p) aq.Stations.length ((θ 25).c)]⟩,⟨some 4,none,79,i6 bd⟩,⟨some 5,none,80,.bool (a9 != bd)⟩]) (fun E θ=>(bif E 3 then bZ hL (aK (θ 25).h aq.Stations) else .row none 0 [] 0 0)::(bif E 3 then .row ((θ 25).p) ((θ 25).c) ((aK (θ 25).h aq.Stations).map (Kd.v hL)) 188 2 else .row none 0 [] 0 0)::(bif E 3 then bZ aM (aK (θ 24).h aq.People) else .row none 0 [] 0 0)::(bif E 3 then .row ((θ 24).p) ((θ 24).c) ((aK (θ 24).h aq.People).map (Kd.v aM)) 25 1 else .row none 0 [] 0 0)::.box ag [.slice az k.People.length an.1,.slice ay k.Stations.length q.1] 78::.row ad ai (y.map aF) 86 2::.row aj af (z.map aD) 3 1::.row az an.1 ((aK an.2 k.People).map (Kd.v aM)) 25 1::bZ aM (aK an.2 k.People)::.row ay q.1 ((aK q.2 k.Stations).map (Kd.v bA)) 101 2::bZ bA (aK q.2 k.Stations)::.box m [.slice J r.People.length M,.slice O r.Stations.length R] 78::Lf) [] (fun a w=>∃ (bk:Hds) (cc:Option Addr) (cb:Nat) (a7:Hds) (cj:Option Addr) (cg:Nat),Has 188 a [(1,.slice D B.length H),(2,.slice s l.length t),(3,pq m),(11,pq ag),(12,.slice aj z.length af),(13,.slice ad y.length ai),(80,.bool (a9 != bd))]∧Ctx G (bZ hL (aK bk aq.Stations)::.row cc cb ((aK bk aq.Stations).map (Kd.v hL)) 188 2::bZ aM (aK a7 aq.People)::.row cj cg ((aK a7 aq.People).map (Kd.v aM)) 25 1::.box ag [.slice az k.People.length an.1,.slice ay k.Stations.length q.1] 78::.row ad ai (y.map aF) 86 2::.row aj af (z.map aD) 3 1::.row az an.1 ((aK an.2 k.People).map (Kd.v aM)) 25 1::bZ aM (aK an.2 k.People)::.row ay q.1 ((aK q.2 k.Stations).map (Kd.v bA)) 101 2::bZ bA (aK q.2 k.Stations)::.box m [.slice J r.People.length M,.slice O r.Stations.length R] 78::Lf) w) aT (by kernel_rfl) (by kernel_rfl) (iT.of hf ⟨rfl,rfl,rfl,rfl,rfl,rfl,trivial,trivial,trivial,trivial,trivial,trivial,trivial⟩) hc ⟨?_,?_,?_,?_,?_,?_,trivial⟩ ?_ ?_
    ·intro E θ a w hD hi hp he hc
     have hf:=he.h0.mT he 3 rfl
     refine zN hf hc nY m4 rfl fun a w hf hc=>zD θ he hi hf 6 rfl rfl rfl hc
    ·intro E θ a w hD hi hp he hc
     have e0:=hp.o 0 rfl
     have hf:=he.h0.mP he 6 rfl e0
     refine zQ (v:=i6 a9) hf hc aNf rfl (fun w hc=>by obtain ⟨G1,i,X,hc,Y⟩:=lV oC hc k7 k7; obtain ⟨G2,V,d,hc,b⟩:=lV rJ hc k7 k7; exact (yK k (X.mono V) d hc c8).mono fun e w h=>⟨h.1,(jM (Y _ _ (jM (b _ _ h.2) k7 k7)) k7 k7)⟩) fun a w hf hc=>zD θ he hi hf 7 rfl rfl rfl hc
    ·intro E θ a w hD hi hp he hc
     have hf:=he.h0.mT he 2 rfl
     refine zN hf hc nY m11 rfl fun a w hf hc=>zD θ he hi hf 8 rfl rfl rfl hc
    ·intro E θ a w hD hi hp he hc
     have e2:=hp.o 2 rfl
     try dsimp only at hc
     rw [hi] at hc
     have hf:=he.h0.mP he 8 rfl e2
     refine zC hf aGa rfl (nJ r g Z hc cq) ?_
     rintro _ w ⟨dt,bb,d5,bf,rfl,hc⟩
     refine ⟨_,rfl,fun a hf=>?_⟩
     refine aL ?_
     refine jV ?_
     intro ds u d6
     replace hc:=(((((((hc.drop k7).drop k6).drop k5).drop k4).pick k0).pick k1).pick k2).pick k3
     refine ⟨(uQ (uQ θ 24 ⟨0,dt,bb.1,bb.2⟩) 25 ⟨0,d5,bf.1,bf.2⟩),he.put hi d6 hf rfl [] trivial ⟨qq,qq,qq,qq,qq,qq,qq,qq,qq,qq,qq,qq,trivial⟩,?_⟩
     try dsimp only
     rw [bV E 3]
     exact hc
    ·intro E θ a w hD hi hp he hc
     have e3:=hp.o 3 rfl
     try dsimp only at hc
     rw [e3] at hc
     have hf:=he.h0.mP he 9 rfl e3
     refine zQ (v:=i6 bd) hf hc aHg rfl (fun w hc=>by obtain ⟨G1,i,X,hc,Y⟩:=lV oC hc k3 k2; obtain ⟨G2,V,d,hc,b⟩:=lV aAo hc k1 k0; exact (pQ aq (X.mono V) d hc dd).mono fun e w h=>⟨h.1,(jM (Y _ _ (jM (b _ _ h.2) k1 k0)) k3 k2)⟩) fun a w hf hc=>zD θ he hi hf 10 rfl rfl rfl ?_
     try dsimp only
     rw [mG 4 e3]
     exact hc
    ·intro E θ a w hD hi hp he hc
     have e1:=hp.o 1 rfl
     have e4:=hp.o 4 rfl
     have hf:=(he.h0.mP he 7 rfl e1).mP he 10 rfl e4
     refine sp 1 hf rfl fun a hf=>zD θ he hi hf 11 rfl rfl rfl hc
    ·intro E θ a w bj he hc
     have hf:=he.h0
     have e3:=bj 3 rfl
     have e5:=bj 5 rfl
     replace hf:=hf.more he 11 rfl (onP e5)
     replace hf:=hf.more he 5 rfl (onT)
     replace hf:=hf.more he 4 rfl (onT)
     replace hf:=hf.more he 3 rfl (onT)
     replace hf:=hf.more he 2 rfl (onT)
     replace hf:=hf.more he 1 rfl (onT)
     replace hf:=hf.more he 0 rfl (onT)
     try dsimp only at hc
     rw [e3] at hc
     exact ⟨(θ 25).h,(θ 25).p,(θ 25).c,(θ 24).h,(θ 24).p,(θ 24).c,hf.kp rfl,hc⟩
    rintro a w ⟨bk,cc,cb,a7,cj,cg,hf,hc⟩
    replace hc:=(((hc.drop k3).drop k2).drop k1).drop k0
    refine ga _ _ ?_
    refine zI hf rfl hF ?_ ?_ <;> clear hF <;> intro hF
    ·refine zS fun K h=>sp 1 hf rfl fun a hf=>zT h ?_
     refine wp_ret ?_
     refine aH ?_
     obtain rfl:=sj hF
     replace hc:=(((((((hc.drop k7).drop k6).drop k5).drop k4).drop k3).drop k2).drop k1).drop k0
     exact zO1 Tryz.results9 hf rfl ⟨rfl,hc⟩
    ·refine wp_skip ?_
     refine dk _ _ ?_
     refine zS fun K h=>zN hf hc nY m0 rfl fun a w hf hc=>sp 1 hf rfl fun a hf=>?_
     obtain ⟨ab,cn,hF⟩:=aA hF
     refine zQ (v:=.tuple #[.agg #[i6 ab.1.Person,i6 ab.1.Station],i6 ab.2]) hf hc aMs rfl (fun w hc=>by obtain ⟨G1,i,X,hc,Y⟩:=lV oC hc k3 k3; obtain ⟨G2,V,d,hc,b⟩:=lV rJ hc k3 k3; obtain ⟨G3,ar,a2,hc,a3⟩:=lend hc k2; exact (xH k z ((X.mono V).mono ar) (d.mono ar) a2 hc cn).mono fun e w h=>⟨h.1,(jM (Y _ _ (jM (b _ _ ((a3 _ _ h.2).unpick k2)) k3 k3)) k3 k3)⟩) fun a w hf hc=>sp 3 hf rfl fun a hf=>zA hf hc yL rfl fun dj a w hf hc=>zW hf hc lJ u0 rfl fun w hc=>sp 1 hf rfl fun a hf=>zT h ?_
     refine wp_seq_k fun K16 gc=>bW ?_
     refine zN hf hc nY m8 rfl fun a w hf hc=>?_
     obtain ⟨df,c9,hF⟩:=aA hF
     refine zC hf aGa rfl (nJ r g Z hc c9) ?_
     rintro _ w ⟨g2,gp,gx,gj,rfl,hc⟩
     refine ⟨_,rfl,fun a hf=>?_⟩
     refine sp 1 hf rfl fun a hf=>?_
     obtain ⟨aa,c0,hF⟩:=aA hF
     refine zQ (v:=.tuple #[.agg #[i6 aa.1.Person,i6 aa.1.Station],i6 aa.2]) hf hc en_58 rfl (fun w hc=>by obtain ⟨G1,i,X,hc,Y⟩:=lV oC hc k0 k0; obtain ⟨G2,V,d,hc,b⟩:=lV aAo hc k0 k0; exact (aB1 df B (X.mono V) d ((ac.mono i).mono V) hc c0).mono fun e w h=>⟨h.1,(jM (Y _ _ (jM (b _ _ h.2) k0 k0)) k0 k0)⟩) fun a w hf hc=>sp 3 hf rfl fun a hf=>zA hf hc aJ2 rfl fun d8 a w hf hc=>zW hf hc rD u0 rfl fun w hc=>sp 1 hf rfl fun a hf=>aL ?_
     replace hc:=(((hc.drop k4).drop k3).drop k2).drop k1
     refine gc _ _ ?_
     refine wp_seq_k fun K17 d3=>wp_seq_k fun K18 du=>bW ?_
     refine zN hf hc lM m1 rfl fun a w hf hc=>zN hf hc zF m0 rfl fun a w hf hc=>zP hf rfl (pNeA aNz rfl rfl (aL2 _ _ _ _)) fun a hf=>sp 1 hf rfl fun a hf=>fV 4 (fun a=>Has 188 a [(1,.slice D B.length H),(2,.slice s l.length t),(3,pq m),(11,pq ag),(12,.slice aj z.length af),(13,.slice ad y.length ai),(14,pq dj),(15,i6 ab.2),(16,pq d8),(17,i6 aa.2),(94,.agg #[i6 ab.1.Person,i6 ab.1.Station]),(95,.agg #[i6 aa.1.Person,i6 aa.1.Station]),(96,.bool (!(ab.1.Person == aa.1.Person && ab.1.Station == aa.1.Station))),(97,.bool (!(ab.1.Person == aa.1.Person && ab.1.Station == aa.1.Station))),(101,.bool ((!(ab.1.Person == aa.1.Person && ab.1.Station == aa.1.Station)) || (ab.2 != aa.2)))]) hc ?_ ?_
     ·cases hb:(!(ab.1.Person == aa.1.Person && ab.1.Station == aa.1.Station))
      ·rw [hb] at hf
       refine sp 4 hf rfl fun a hf=>aL ⟨hf.kp rfl,hc⟩
      ·rw [hb] at hf
       refine stS hf rfl rfl rfl fun a hf=>stS hf rfl rfl rfl fun a hf=>stS hf rfl rfl rfl fun a hf=>sp 1 hf rfl fun a hf=>aL ⟨hf.kp rfl,hc⟩
     intro a w ⟨hf,hc⟩
     refine aL ?_
     replace hc:=(hc.drop k1).drop k0
     refine du _ _ ?_
     refine zI hf rfl hF ?_ ?_ <;> clear hF <;> intro hF
     ·refine zS fun K h=>sp 1 hf rfl fun a hf=>zT h ?_
      refine wp_ret ?_
      refine aH ?_
      obtain rfl:=sj hF
      replace hc:=(((((((hc.drop k7).drop k6).drop k5).drop k4).drop k3).drop k2).drop k1).drop k0
      exact zO1 Tryz.results9 hf rfl ⟨rfl,hc⟩
     ·refine wp_skip ?_
      refine d3 _ _ ?_
      refine zS fun K h=>zN hf hc nY m0 rfl fun a w hf hc=>sp 1 hf rfl fun a hf=>?_
      obtain ⟨am,bz,hF⟩:=aA hF
      refine zQ (v:=.tuple #[.bool am.1,i6 am.2]) hf hc aMw rfl (fun w hc=>by obtain ⟨G1,i,X,hc,Y⟩:=lV oC hc k3 k3; obtain ⟨G2,V,d,hc,b⟩:=lV rJ hc k3 k3; obtain ⟨G3,ar,a2,hc,a3⟩:=lend hc k1; exact (yI k y ((X.mono V).mono ar) (d.mono ar) a2 hc bz).mono fun e w h=>⟨h.1,(jM (Y _ _ (jM (b _ _ ((a3 _ _ h.2).unpick k1)) k3 k3)) k3 k3)⟩) fun a w hf hc=>sp 5 hf rfl fun a hf=>zT h ?_
      refine wp_seq_k fun K21 gb=>bW ?_
      refine zN hf hc nY m7 rfl fun a w hf hc=>?_
      obtain ⟨da,b6,hF⟩:=aA hF
      refine zC hf aGa rfl (nJ r g Z hc b6) ?_
      rintro _ w ⟨gs,gn,gr,gg,rfl,hc⟩
      refine ⟨_,rfl,fun a hf=>?_⟩
      refine sp 1 hf rfl fun a hf=>?_
      obtain ⟨db,bv,hF⟩:=aA hF
      refine zC hf aM5 rfl (tU l bn hc bv) ?_
      rintro _ w ⟨g0,g1,rfl,hc⟩
      refine ⟨_,rfl,fun a hf=>?_⟩
      obtain ⟨ak,bt,hF⟩:=aA hF
      refine zQ (v:=.tuple #[.bool ak.1,i6 ak.2]) hf hc aM6 rfl (fun w hc=>by obtain ⟨G1,i,X,hc,Y⟩:=lV oC hc k1 k1; obtain ⟨G2,V,d,hc,b⟩:=lV aAo hc k1 k1; obtain ⟨G3,ar,a2,hc,a3⟩:=lend hc k0; exact (wR da db ((X.mono V).mono ar) (d.mono ar) a2 hc bt).mono fun e w h=>⟨h.1,(jM (Y _ _ (jM (b _ _ ((a3 _ _ h.2).unpick k0)) k1 k1)) k1 k1)⟩) fun a w hf hc=>sp 5 hf rfl fun a hf=>aL ?_
      replace hc:=((((hc.drop k4).drop k3).drop k2).drop k1).drop k0
      refine gb _ _ ?_
      refine wp_seq_k fun K22 dv=>zS fun K h=>sp 2 hf rfl fun a hf=>zP hf rfl (pNeB Tryz.underlying4 rfl rfl) fun a hf=>sp 1 hf rfl fun a hf=>fV 4 (fun a=>Has 188 a [(1,.slice D B.length H),(2,.slice s l.length t),(3,pq m),(11,pq ag),(12,.slice aj z.length af),(13,.slice ad y.length ai),(15,i6 am.2),(17,i6 ak.2),(18,.bool am.1),(19,.bool ak.1),(116,.bool am.1),(117,.bool ak.1),(118,.bool (am.1 != ak.1)),(119,.bool (am.1 != ak.1)),(123,.bool ((am.1 != ak.1) || (am.2 != ak.2)))]) hc ?_ ?_
      ·cases hb:(am.1 != ak.1)
       ·rw [hb] at hf
        refine sp 4 hf rfl fun a hf=>aL ⟨hf.kp rfl,hc⟩
       ·rw [hb] at hf
        refine stS hf rfl rfl rfl fun a hf=>stS hf rfl rfl rfl fun a hf=>stS hf rfl rfl rfl fun a hf=>sp 1 hf rfl fun a hf=>aL ⟨hf.kp rfl,hc⟩
      intro a w ⟨hf,hc⟩
      refine zT h ?_
      refine zI hf rfl hF ?_ ?_ <;> clear hF <;> intro hF
      ·refine zS fun K h=>sp 1 hf rfl fun a hf=>zT h ?_
       refine wp_ret ?_
       refine aH ?_
       obtain rfl:=sj hF
       replace hc:=(((((((hc.drop k7).drop k6).drop k5).drop k4).drop k3).drop k2).drop k1).drop k0
       exact zO1 Tryz.results9 hf rfl ⟨rfl,hc⟩
      ·refine wp_skip ?_
       refine dv _ _ ?_
       refine zS fun K h=>zN hf hc nY m0 rfl fun a w hf hc=>?_
       obtain ⟨a1,b1,hF⟩:=aA hF
       obtain ⟨G1,i,X,hc,Y⟩:=lV oC hc k3 k3
       obtain ⟨G2,V,d,hc,b⟩:=lV rJ hc k3 k3
       refine zC hf aM2 rfl (wL k (X.mono V) d hc b1) ?_
       rintro _ w ⟨bq,ci,rfl,hc⟩
       refine ⟨_,rfl,fun a hf=>?_⟩
       replace hc:=b _ _ hc
       replace hc:=Y _ _ hc
       refine sp 5 hf rfl fun a hf=>zT h ?_
       refine wp_seq_k fun K26 dr=>bW ?_
       refine zN hf hc nY m8 rfl fun a w hf hc=>?_
       obtain ⟨cu,b4,hF⟩:=aA hF
       refine zC hf aGa rfl (nJ r g Z hc b4) ?_
       rintro _ w ⟨gv,gi,gu,gk,rfl,hc⟩
       refine ⟨_,rfl,fun a hf=>?_⟩
       obtain ⟨U,b2,hF⟩:=aA hF
       obtain ⟨G1,i,X,hc,Y⟩:=lV oC hc k0 k0
       obtain ⟨G2,V,d,hc,b⟩:=lV aAo hc k0 k0
       refine zC hf en_62 rfl (aB2 cu (X.mono V) d hc b2) ?_
       rintro _ w ⟨av,a5,rfl,hc⟩
       refine ⟨_,rfl,fun a hf=>?_⟩
       replace hc:=b _ _ hc
       replace hc:=Y _ _ hc
       refine sp 5 hf rfl fun a hf=>aL ?_
       replace hc:=(((hc.drop k3).drop k2).drop k1).drop k0
       refine dr _ _ ?_
       refine wp_seq_k fun K27 dg=>wp_seq_k fun K28 dn=>bW ?_
       refine sp 2 hf rfl fun a hf=>?_
       obtain ⟨ax,b3,hF⟩:=aA hF
       refine zQ (v:=.bool ax) hf hc aD2 rfl (fun w hc=>by obtain ⟨G1,i,X,hc,Y⟩:=lend hc k5; obtain ⟨G2,V,d,hc,b⟩:=lend hc k0; exact (lB a1.1 U.1 (X.mono V) d hc b3).mono fun e w h=>⟨h.1,((Y _ _ ((b _ _ h.2).unpick k0)).unpick k5)⟩) fun a w hf hc=>sp 2 hf rfl fun a hf=>fV 4 (fun a=>Has 188 a [(1,.slice D B.length H),(2,.slice s l.length t),(3,pq m),(11,pq ag),(12,.slice aj z.length af),(13,.slice ad y.length ai),(15,i6 a1.2),(17,i6 U.2),(20,.slice bq a1.1.length ci),(21,.slice av U.1.length a5),(135,.slice bq a1.1.length ci),(136,.slice av U.1.length a5),(137,.bool ax),(138,.bool (!ax)),(139,.bool (!ax)),(143,.bool ((!ax) || (a1.2 != U.2)))]) hc ?_ ?_
       ·cases hb:(!ax)
        ·rw [hb] at hf
         refine sp 4 hf rfl fun a hf=>aL ⟨hf.kp rfl,hc⟩
        ·rw [hb] at hf
         refine stS hf rfl rfl rfl fun a hf=>stS hf rfl rfl rfl fun a hf=>stS hf rfl rfl rfl fun a hf=>sp 1 hf rfl fun a hf=>aL ⟨hf.kp rfl,hc⟩
       intro a w ⟨hf,hc⟩
       refine aL ?_
       replace hc:=hc.drop k5
       refine dn _ _ ?_
       refine zI hf rfl hF ?_ ?_ <;> clear hF <;> intro hF
       ·refine wp_seq_k fun K29 dx=>bW ?_
        refine sp 1 hf rfl fun a hf=>aL ?_
        replace hc:=((((((((hc.drop k8).drop k7).drop k6).drop k5).drop k4).drop k3).drop k2).drop k1).drop k0
        refine dx _ _ ?_
        refine wp_ret ?_
        refine aH ?_
        obtain rfl:=sj hF
        exact zO1 Tryz.results9 hf rfl ⟨rfl,hc⟩
       ·refine wp_skip ?_
        refine dg _ _ ?_
        refine zS fun K h=>zN hf hc nY m5 rfl fun a w hf hc=>?_
        obtain ⟨I,b8,hF⟩:=aA hF
        obtain ⟨G1,i,X,hc,Y⟩:=lV oC hc k1 k1
        obtain ⟨G2,V,d,hc,b⟩:=lV rJ hc k1 k1
        refine zC hf en_63 rfl (aBo k (X.mono V) d hc b8) ?_
        rintro _ w ⟨a6,a8,rfl,hc⟩
        refine ⟨_,rfl,fun a hf=>?_⟩
        replace hc:=b _ _ hc
        replace hc:=Y _ _ hc
        refine sp 5 hf rfl fun a hf=>zT h ?_
        refine wp_seq_k fun K31 d0=>wp_seq_k fun K32 d7=>bW ?_
        refine sp 4 hf rfl fun a hf=>fV 8 (fun a=>Has 188 a [(1,.slice D B.length H),(2,.slice s l.length t),(3,pq m),(11,pq ag),(12,.slice aj z.length af),(13,.slice ad y.length ai),(15,i6 I.2),(17,i6 U.2),(21,.slice av U.1.length a5),(22,.slice a6 I.1.length a8),(149,i6 I.2),(150,i6 U.2),(151,.bool (I.2 != U.2)),(152,.bool (I.2 != U.2)),(160,.bool ((I.2 != U.2) || ((I.2 != 0) && (decide (0 < ((I.1.length:Nat):Int))))))]) hc ?_ ?_
        ·cases hb:(I.2 != U.2)
         ·rw [hb] at hf
          refine sp 3 hf rfl fun a hf=>fV 4 (fun a=>Has 188 a [(1,.slice D B.length H),(2,.slice s l.length t),(3,pq m),(11,pq ag),(12,.slice aj z.length af),(13,.slice ad y.length ai),(15,i6 I.2),(17,i6 U.2),(21,.slice av U.1.length a5),(22,.slice a6 I.1.length a8),(149,i6 I.2),(150,i6 U.2),(151,.bool false),(152,.bool false),(153,i6 I.2),(154,.bool (I.2 != 0)),(155,.bool (I.2 != 0)),(159,.bool ((I.2 != 0) && (decide (0 < ((I.1.length:Nat):Int)))))]) hc ?_ ?_
          ·cases hb:(I.2 != 0)
           ·rw [hb] at hf
            refine stS hf rfl rfl rfl fun a hf=>stS hf rfl rfl rfl fun a hf=>stS hf rfl rfl rfl fun a hf=>sp 1 hf rfl fun a hf=>aL ⟨hf.kp rfl,hc⟩
           ·rw [hb] at hf
            refine sp 1 hf rfl fun a hf=>zP hf rfl (aW Tryz.underlying99 rfl) fun a hf=>sp 2 hf rfl fun a hf=>aL ⟨hf.kp rfl,hc⟩
          intro a w ⟨hf,hc⟩
          refine sp 1 hf rfl fun a hf=>aL ⟨hf.kp rfl,hc⟩
         ·rw [hb] at hf
          refine stS hf rfl rfl rfl fun a hf=>stS hf rfl rfl rfl fun a hf=>stS hf rfl rfl rfl fun a hf=>stS hf rfl rfl rfl fun a hf=>stS hf rfl rfl rfl fun a hf=>stS hf rfl rfl rfl fun a hf=>stS hf rfl rfl rfl fun a hf=>sp 1 hf rfl fun a hf=>aL ⟨hf.kp rfl,hc⟩
        intro a w ⟨hf,hc⟩
        refine sp 1 hf rfl fun a hf=>?_
        obtain ⟨dp,bm,hF⟩:=aA hF
        refine fV 10 (fun a=>Has 188 a [(1,.slice D B.length H),(2,.slice s l.length t),(3,pq m),(11,pq ag),(12,.slice aj z.length af),(13,.slice ad y.length ai),(15,i6 I.2),(17,i6 U.2),(21,.slice av U.1.length a5),(22,.slice a6 I.1.length a8),(149,i6 I.2),(150,i6 U.2),(151,.bool (I.2 != U.2)),(152,.bool (I.2 != U.2)),(160,.bool ((I.2 != U.2) || ((I.2 != 0) && (decide (0 < ((I.1.length:Nat):Int)))))),(161,.bool ((I.2 != U.2) || ((I.2 != 0) && (decide (0 < ((I.1.length:Nat):Int)))))),(171,.bool dp)]) hc ?_ ?_
        ·cases hb:((I.2 != U.2) || ((I.2 != 0) && (decide (0 < ((I.1.length:Nat):Int)))))
         ·rw [hb] at hf
          have hF:=gN hb bm
          refine sp 3 hf rfl fun a hf=>?_
          obtain ⟨d2,br,hF⟩:=aA hF
          refine fV 6 (fun a=>Has 188 a [(1,.slice D B.length H),(2,.slice s l.length t),(3,pq m),(11,pq ag),(12,.slice aj z.length af),(13,.slice ad y.length ai),(15,i6 I.2),(17,i6 U.2),(21,.slice av U.1.length a5),(22,.slice a6 I.1.length a8),(149,i6 I.2),(150,i6 U.2),(151,.bool (I.2 != U.2)),(152,.bool (I.2 != U.2)),(160,.bool false),(161,.bool false),(162,i6 I.2),(163,.bool (I.2 == 0)),(164,.bool (I.2 == 0)),(170,.bool d2)]) hc ?_ ?_
          ·cases hb:(I.2 == 0)
           ·rw [hb] at hf
            have hF:=gN hb br
            obtain rfl:=sj hF
            refine stS hf rfl rfl rfl fun a hf=>stS hf rfl rfl rfl fun a hf=>stS hf rfl rfl rfl fun a hf=>stS hf rfl rfl rfl fun a hf=>stS hf rfl rfl rfl fun a hf=>sp 1 hf rfl fun a hf=>aL ⟨hf.kp rfl,hc⟩
           ·rw [hb] at hf
            have hF:=fU hb br
            refine zN hf hc nY m9 rfl fun a w hf hc=>sp 2 hf rfl fun a hf=>?_
            obtain ⟨cr,bx,hF⟩:=aA hF
            refine zQ (v:=.bool cr) hf hc en_64 rfl (fun w hc=>by obtain ⟨G1,i,X,hc,Y⟩:=lend hc k5; obtain ⟨G2,V,d,hc,b⟩:=lend hc k4; exact (aDz r U.1 I.1 ((g.mono i).mono V) ((Z.mono i).mono V) (X.mono V) d hc bx).mono fun e w h=>⟨h.1,((Y _ _ ((b _ _ h.2).unpick k4)).unpick k5)⟩) fun a w hf hc=>sp 2 hf rfl fun a hf=>?_
            obtain rfl:=sj hF
            exact aL ⟨hf.kp rfl,hc⟩
          intro a w ⟨hf,hc⟩
          refine sp 1 hf rfl fun a hf=>?_
          obtain rfl:=sj hF
          exact aL ⟨hf.kp rfl,hc⟩
         ·rw [hb] at hf
          have hF:=fU hb bm
          obtain rfl:=sj hF
          refine stS hf rfl rfl rfl fun a hf=>stS hf rfl rfl rfl fun a hf=>stS hf rfl rfl rfl fun a hf=>stS hf rfl rfl rfl fun a hf=>stS hf rfl rfl rfl fun a hf=>stS hf rfl rfl rfl fun a hf=>stS hf rfl rfl rfl fun a hf=>stS hf rfl rfl rfl fun a hf=>stS hf rfl rfl rfl fun a hf=>sp 1 hf rfl fun a hf=>aL ⟨hf.kp rfl,hc⟩
        intro a w ⟨hf,hc⟩
        refine aL ?_
        replace hc:=(hc.drop k5).drop k4
        refine d7 _ _ ?_
        refine zI hf rfl hF ?_ ?_ <;> clear hF <;> intro hF
        ·refine zS fun K h=>sp 1 hf rfl fun a hf=>zT h ?_
         refine wp_ret ?_
         refine aH ?_
         obtain rfl:=sj hF
         replace hc:=(((((((hc.drop k7).drop k6).drop k5).drop k4).drop k3).drop k2).drop k1).drop k0
         exact zO1 Tryz.results9 hf rfl ⟨rfl,hc⟩
        ·refine wp_skip ?_
         refine d0 _ _ ?_
         refine zS fun K h=>zN hf hc nY m4 rfl fun a w hf hc=>zN hf hc nY m7 rfl fun a w hf hc=>?_
         obtain ⟨ap,b5,hF⟩:=aA hF
         refine zQ (v:=.bool ap) hf hc en_65 rfl (fun w hc=>by obtain ⟨G1,i,X,hc,Y⟩:=lV oC hc k0 k0; obtain ⟨G2,V,d,hc,b⟩:=lV rJ hc k0 k0; exact (aDt k r (X.mono V) d ((g.mono i).mono V) ((Z.mono i).mono V) hc b5).mono fun e w h=>⟨h.1,(jM (Y _ _ (jM (b _ _ h.2) k0 k0)) k0 k0)⟩) fun a w hf hc=>sp 1 hf rfl fun a hf=>?_
         obtain ⟨a4,bs,hF⟩:=aA hF
         refine fV 4 (fun a=>Has 188 a [(1,.slice D B.length H),(2,.slice s l.length t),(3,pq m),(11,pq ag),(12,.slice aj z.length af),(13,.slice ad y.length ai),(172,.agg #[.slice az k.People.length an.1,.slice ay k.Stations.length q.1]),(173,.agg #[.slice J r.People.length M,.slice O r.Stations.length R]),(174,.bool ap),(175,.bool ap),(179,.bool a4)]) hc ?_ ?_
         ·cases hb:ap
          ·rw [hb] at hf
           try rw [hb] at hc
           have hF:=gN hb bs
           obtain rfl:=sj hF
           refine stS hf rfl rfl rfl fun a hf=>stS hf rfl rfl rfl fun a hf=>stS hf rfl rfl rfl fun a hf=>sp 1 hf rfl fun a hf=>aL ⟨hf.kp rfl,hc⟩
          ·rw [hb] at hf
           try rw [hb] at hc
           have hF:=fU hb bs
           refine sp 2 hf rfl fun a hf=>?_
           obtain ⟨c7,bu,hF⟩:=aA hF
           refine zQ (v:=.bool c7) hf hc aD2 rfl (fun w hc=>by obtain ⟨G1,i,X,hc,Y⟩:=lend hc k6; exact (lB z B X (ac.mono i) hc bu).mono fun e w h=>⟨h.1,((Y _ _ h.2).unpick k6)⟩) fun a w hf hc=>sp 1 hf rfl fun a hf=>?_
           obtain rfl:=sj hF
           exact aL ⟨hf.kp rfl,hc⟩
         intro a w ⟨hf,hc⟩
         refine sp 1 hf rfl fun a hf=>?_
         obtain ⟨ba,bp,hF⟩:=aA hF
         refine fV 4 (fun a=>Has 188 a [(1,.slice D B.length H),(2,.slice s l.length t),(3,pq m),(11,pq ag),(12,.slice aj z.length af),(13,.slice ad y.length ai),(172,.agg #[.slice az k.People.length an.1,.slice ay k.Stations.length q.1]),(173,.agg #[.slice J r.People.length M,.slice O r.Stations.length R]),(174,.bool ap),(175,.bool ap),(179,.bool a4),(180,.bool a4),(184,.bool ba)]) hc ?_ ?_
         ·cases hb:a4
          ·rw [hb] at hf
           try rw [hb] at hc
           have hF:=gN hb bp
           obtain rfl:=sj hF
           refine stS hf rfl rfl rfl fun a hf=>stS hf rfl rfl rfl fun a hf=>stS hf rfl rfl rfl fun a hf=>sp 1 hf rfl fun a hf=>aL ⟨hf.kp rfl,hc⟩
          ·rw [hb] at hf
           try rw [hb] at hc
           have hF:=fU hb bp
           refine sp 2 hf rfl fun a hf=>?_
           obtain ⟨cy,b9,hF⟩:=aA hF
           refine zQ (v:=.bool cy) hf hc en_66 rfl (fun w hc=>by obtain ⟨G1,i,X,hc,Y⟩:=lend hc k5; exact (uF y l X (bn.mono i) hc b9).mono fun e w h=>⟨h.1,((Y _ _ h.2).unpick k5)⟩) fun a w hf hc=>sp 1 hf rfl fun a hf=>?_
           obtain rfl:=sj hF
           exact aL ⟨hf.kp rfl,hc⟩
         intro a w ⟨hf,hc⟩
         refine sp 1 hf rfl fun a hf=>?_
         obtain ⟨d1,bi,hF⟩:=aA hF
         refine fV 2 (fun a=>Has 188 a [(1,.slice D B.length H),(2,.slice s l.length t),(3,pq m),(11,pq ag),(12,.slice aj z.length af),(13,.slice ad y.length ai),(172,.agg #[.slice az k.People.length an.1,.slice ay k.Stations.length q.1]),(173,.agg #[.slice J r.People.length M,.slice O r.Stations.length R]),(174,.bool ap),(175,.bool ap),(179,.bool a4),(180,.bool a4),(184,.bool ba),(185,.bool ba),(187,.bool d1)]) hc ?_ ?_
         ·cases hb:ba
          ·rw [hb] at hf
           try rw [hb] at hc
           have hF:=gN hb bi
           obtain rfl:=sj hF
           refine stS hf rfl rfl rfl fun a hf=>sp 1 hf rfl fun a hf=>aL ⟨hf.kp rfl,hc⟩
          ·rw [hb] at hf
           try rw [hb] at hc
           have hF:=fU hb bi
           obtain ⟨cx,ca,hF⟩:=aA hF
           refine zQ (v:=.bool cx) hf hc aId rfl (fun w hc=>qF hc ca) fun a w hf hc=>sp 1 hf rfl fun a hf=>?_
           obtain rfl:=sj hF
           exact aL ⟨hf.kp rfl,hc⟩
         intro a w ⟨hf,hc⟩
         refine sp 1 hf rfl fun a hf=>zT h ?_
         refine wp_ret ?_
         obtain rfl:=sj hF
         replace hc:=(((((((hc.drop k7).drop k6).drop k5).drop k4).drop k3).drop k2).drop k1).drop k0
         exact zO1 Tryz.results9 hf rfl ⟨rfl,hc⟩
   have cv:∀ r,bg=.out r→r=bc:=by
    rintro r rfl
    exact sj hF
   refine bY N (bX (S:=S10) (x:=bg) ?_ N 0 _ _ ⟨hf.kp rfl,hc⟩ cm)
   clear hF hf hc
   rintro cf gz a w KB10 ⟨hf,hc⟩ hF au c3
   unfold dJ at hF
   refine zS fun K h=>sp 1 hf rfl fun a hf=>zT h ?_
   refine wp_seq_k fun K36 d9=>zI hf rfl hF ?_ ?_ <;> clear hF <;> intro hF
   ·refine wp_skip ?_
    refine d9 _ _ ?_
    refine wp_seq_k fun K37 gf=>wp_block ?_
    refine zS fun K h=>?_
    obtain ⟨cd,ct,hF⟩:=aA hF
    obtain ⟨g8,o,hd,qa,qp,qr⟩:=Z.atm ct
    refine zP hf rfl (pIA Tryz.underlying76 mK rfl rfl qa) fun a hf=>zE hf hc rfl (kG (vs:=[i6 cd.Places,.slice hd.1 cd.Order.length hd.2]) xI rfl rfl (dF qp (n:=2) (o':=0) rfl)) fun a w hf hc=>zA hf hc aEv rfl fun g5 a w hf hc=>zW hf hc mK u0 rfl fun w hc=>zT h ?_
    refine zS fun K h=>zP hf rfl (pFA pR rfl) fun a hf=>zL hf hc fB m0 rfl fun a w hf hc=>zP hf rfl (aW Tryz.underlying25 rfl) fun a hf=>sp 1 hf rfl fun a hf=>zT h ?_
    refine zI hf rfl hF ?_ ?_ <;> clear hF <;> intro hF
    ·refine zS fun K h=>?_
     obtain ⟨c5,b7,hF⟩:=aA hF
     refine zQ (v:=.bool c5) hf hc aId rfl (fun w hc=>qF hc b7) fun a w hf hc=>sp 1 hf rfl fun a hf=>zT h ?_
     refine wp_ret ?_
     refine bB ?_
     refine aH ?_
     refine aH ?_
     have he:=sj hF
     rw [← he] at au
     replace hF:=cv _ au
     refine bB ?_
     refine aH ?_
     obtain rfl:=hF
     replace hc:=(hc.drop k1).drop k0
     exact zO1 Tryz.results9 hf rfl ⟨rfl,hc⟩
    ·refine wp_skip ?_
     refine gf _ _ ?_
     refine bW ?_
     refine sp 2 hf rfl fun a hf=>aL ?_
     replace hc:=hc.drop k0
     exact c3 (W (cf + 1)) _ _ (sj hF).symm ⟨hf.kp rfl,hc⟩
   ·refine wp_exit ?_
    refine aN ?_
    refine aN ?_
    have he:=sj hF
    rw [← he] at au
    refine cT ?_
    exact cz _ _ _ au ⟨hf.kp rfl,hc⟩
  have d4:∀ r,x7=.out r→r=bc:=by
   rintro r rfl
   exact sj hF
  refine bY N (bX (S:=S7) (x:=x7) ?_ N 0 _ _ ⟨hf.kp rfl,hc⟩ dm)
  clear hF hf hc
  rintro x g6 a w KB7 ⟨hf,hc⟩ hF a0 dy
  unfold dV at hF
  refine zS fun K h=>sp 1 hf rfl fun a hf=>zT h ?_
  refine wp_seq_k fun K42 dz=>zI hf rfl hF ?_ ?_ <;> clear hF <;> intro hF
  ·refine wp_skip ?_
   refine dz _ _ ?_
   refine wp_seq_k fun K43 gd=>wp_block ?_
   refine zS fun K h=>?_
   obtain ⟨g3,dc,hF⟩:=aA hF
   obtain ⟨g4,g7,gy,c2,c6,gq⟩:=g.atm dc
   refine zP hf rfl (pIA Tryz.underlying75 kX rfl rfl c2) fun a hf=>zE hf hc rfl (bF fB rfl (aR (j:=0) c6 rfl)) fun a w hf hc=>sp 1 hf rfl fun a hf=>zT h ?_
   refine zS fun K h=>sp 1 hf rfl fun a hf=>zP hf rfl (aW Tryz.underlying25 rfl) fun a hf=>sp 1 hf rfl fun a hf=>zT h ?_
   refine zI hf rfl hF ?_ ?_ <;> clear hF <;> intro hF
   ·refine zS fun K h=>?_
    obtain ⟨ck,b0,hF⟩:=aA hF
    refine zQ (v:=.bool ck) hf hc aId rfl (fun w hc=>qF hc b0) fun a w hf hc=>sp 1 hf rfl fun a hf=>zT h ?_
    refine wp_ret ?_
    refine bB ?_
    refine aH ?_
    refine aH ?_
    have he:=sj hF
    rw [← he] at a0
    replace hF:=d4 _ a0
    refine bB ?_
    refine aH ?_
    obtain rfl:=hF
    replace hc:=hc.drop k0
    exact zO1 Tryz.results9 hf rfl ⟨rfl,hc⟩
   ·refine wp_skip ?_
    refine gd _ _ ?_
    refine bW ?_
    refine sp 2 hf rfl fun a hf=>aL ?_
    exact dy (W (x + 1)) _ _ (sj hF).symm ⟨hf.kp rfl,hc⟩
  ·refine wp_exit ?_
   refine aN ?_
   refine aN ?_
   have he:=sj hF
   rw [← he] at a0
   refine cT ?_
   exact di _ _ _ a0 ⟨hf.kp rfl,hc⟩

end Go.Nilo
