/-
 What functions of the Go text compute, as plain functions, and that they do, part 5 of 5. Conditions: what each theorem names.
-/
import Derived.Test.YtbkcdekgmilmcaaGreatTw4
import Derived.Test.YtbkcdekgmilmcaaGreatProg
set_option linter.unusedVariables false
set_option linter.unusedSimpArgs false
set_option maxRecDepth 100000
set_option maxHeartbeats 4000000
namespace Go.Nilo
open Go.Proofs


def xE (N:Nat) (B:List Int) (x:Int) (D:Nat→Bool):Option (bY (Int × (Nat→Bool)) (((Nat→Bool) × Int) ⊕ (Int × Int × (Int × Int→Option (List Int)) × (Nat→Bool) × Int))) :=
 cond (decide (x < ((B.length:Nat):Int)))
 (Option.bind (bE B x) fun H=>
 Option.bind (inR H 12) fun un=>
 some (.cont (W (x + 1),(rT D H.toNat true))))
 (some (.brk (x,D)))
def rA (N:Nat) (D:List Int) (H:Int):Option (((Nat→Bool) × Int) ⊕ (Int × Int × (Int × Int→Option (List Int)) × (Nat→Bool) × Int)) :=
 cond (H != 0)
 (some (.inl ((fun _=>false),H)))
 (Option.bind (aX (fun B=>xE N D B.1 B.2) N (0,(fun _=>false))) fun I=>
 exK I (fun B=>some (.inl (B.2,0))) some)
def kU (N:Nat) (B:List Int) (D:Int) (H:Nat→Bool):Option (bY (Int × (Nat→Bool)) (((Nat→Bool) × Int) ⊕ (Int × Int × (Int × Int→Option (List Int)) × (Nat→Bool) × Int))) :=
 cond (decide (D < ((B.length:Nat):Int)))
 (Option.bind (bE B D) fun I=>
 Option.bind (inR I 12) fun J=>
 some (.cont (W (D + 1),(rT H I.toNat true))))
 (some (.brk (D,H)))
def lZ (N:Nat) (D:List Int) (H:Int × Int × (Int × Int→Option (List Int)) × Int) (I:Int):Option (((Nat→Bool) × Int) ⊕ (Int × Int × (Int × Int→Option (List Int)) × (Nat→Bool) × Int)) :=
 cond (I != 0)
 (some (.inl ((fun _=>false),I)))
 (Option.bind (aX (fun B=>kU N D B.1 B.2) N (0,(fun _=>false))) fun J=>
 exK J (fun B=>some (.inr (H.1,H.2.1,H.2.2.1,B.2,0))) some)
def sN (N:Nat) (r:aH) (B:List Int):Option (((Nat→Bool) × Int) ⊕ (Int × Int × (Int × Int→Option (List Int)) × (Nat→Bool) × Int)) :=
 Option.bind (nR N r) (aAg (fun H=>Option.bind (cond (H == 0) (Option.bind (mS N B ((r.Down.length:Nat):Int)) fun I=>
 some (!I)) (some false)) fun M=>
 cond M
 (rA N B 2)
 (rA N B H))
 (fun D=>Option.bind (cond (D.2.2.2 == 0) (Option.bind (mS N B ((r.Down.length:Nat):Int)) fun O=>
 some (!O)) (some false)) fun J=>
 cond J
 (lZ N B D 2)
 (lZ N B D D.2.2.2)))
theorem xU {N:Nat} {G:aT} {Lf:List Ent} {w:World} (r:aH) (B:List Int) {Z:Option Addr} {b:Nat} {O:Option Addr} {J:Nat} {D:Option Addr} {H:Nat} {R:Option Addr} {U:Nat} {I:Option Addr} {M:Nat} {Y:Option Addr} {X:Nat} (ad:Rd G 1 Z b (r.Down.map aB)) (u:Rd G 2 O J (r.Travel.map aI)) (s:Rd G 1 D H (r.Springs.map aB)) (ab:Rd G 3 R U (r.Towns.map aG)) (y:RdT cH G 2 I M r.Floods) (k:Rd G 1 Y X (B.map aB)) (hc:Ctx G (Lf) w) {ai:((Nat→Bool) × Int) ⊕ (Int × Int × (Int × Int→Option (List Int)) × (Nat→Bool) × Int)} (hF:sN N r B=some ai):Calls Tryz.prog 32 #[.agg #[.slice Z r.Down.length b,.slice O r.Travel.length J,.slice D r.Springs.length H,.slice R r.Towns.length U,i6 r.Delay.Lo,i6 r.Delay.Hi,.slice I r.Floods.length M],.slice Y B.length X] w (fun e w=>aAg (fun rr=>e=.returned (.tuple #[.pointer none,.agg (bR [] 12 cG rr.1 []).toArray,i6 rr.2])∧Ctx G (Lf) w) (fun rr=>∃ (a1:Nat) (a3:Nat) (ay:Hds),e=.returned (.tuple #[pq a1,.agg (bR [] 12 cG rr.2.2.2.1 []).toArray,i6 rr.2.2.2.2])∧Ctx G (bI a3 aW rr.2.2.1 3 ay::.box a1 [.slice Z r.Down.length b,.slice O r.Travel.length J,.slice D r.Springs.length H,.slice R r.Towns.length U,i6 rr.1,i6 rr.2.1,.slice I r.Floods.length M,.map (some a3)] 102::Lf) w) ai):=by
 unfold sN at hF
 refine bL Tryz.func32 rfl Tryz.ntmps32 rfl fun a hf=>zS fun K h=>zB hf hc rfl fun a0 a w hf hc=>sp 1 hf rfl fun a hf=>aFg (cs:=(bR [] 12 cG (fun _=>false) [])) hf hc rfl rfl aIi rfl fun V a w hf hc=>sp 1 hf rfl fun a hf=>zT h ?_
 refine zS fun K h=>aFg (cs:=(bR [] 12 cG (fun _=>false) [])) hf hc rfl rfl aIi rfl fun g a w hf hc=>zT h ?_
 refine zS fun K h=>zN hf hc oK m2 rfl fun a w hf hc=>?_
 obtain ⟨aa,av,hF⟩:=aA hF
 cases aa with
 | inl aa=>
  replace hF:=aC4 hF
  refine zC hf aDf rfl (kG r ad u s ab y hc av) ?_
  rintro _ w ⟨rfl,hc⟩
  refine ⟨_,rfl,fun a hf=>?_⟩
  refine sp 5 hf rfl fun a hf=>zT h ?_
  refine wp_seq_k fun K4 h4=>?_
  have az:∀ (ag:Int) a w,Has 42 a [(1,.slice Y B.length X),(5,pq V),(7,pq g),(8,.pointer none),(9,i6 ag)]→Ctx G (.box g (bR [] 12 cG (fun _=>false) []) 90::.box V (bR [] 12 cG (fun _=>false) []) 90::Lf) w→rA N B ag=some ai→K4 a w:=by
   repeat (clear hF)
   repeat (clear hc)
   repeat (clear hf)
   intro ag a w hf hc hF
   unfold rA at hF
   refine h4 _ _ ?_
   refine wp_seq_k fun K5 h5=>zS fun K h=>sp 2 hf rfl fun a hf=>zT h ?_
   refine zI hf rfl hF ?_ ?_ <;> clear hF <;> intro hF
   ·refine wp_seq_k fun K7 h7=>eL (fun θ=>[⟨none,none,5,pq V⟩,⟨none,none,7,pq g⟩,⟨none,none,9,i6 ag⟩,⟨some 0,none,29,.agg (bR [] 12 cG (fun _=>false) []).toArray⟩,⟨some 1,none,30,i6 ag⟩,⟨some 2,none,4,.pointer none⟩,⟨some 4,none,6,i6 ag⟩]) (fun E θ=>.box g (bR [] 12 cG (fun _=>false) []) 90::.box V (bR [] 12 cG (fun _=>false) []) 90::Lf) [] (fun a w=>Has 42 a [(5,pq V),(4,.pointer none),(6,i6 ag)]∧Ctx G (.box g (bR [] 12 cG (fun _=>false) []) 90::.box V (bR [] 12 cG (fun _=>false) []) 90::Lf) w) bA (by kernel_rfl) (by kernel_rfl) (fN.of hf ⟨rfl,rfl,rfl,trivial,trivial,trivial,trivial,trivial⟩) hc ⟨?_,?_,?_,?_,?_,trivial⟩ ?_ ?_
    ·intro E θ a w hD hi hp he hc
     have hf:=he.h0.mT he 1 rfl
     refine zE hf hc rfl (lK (vs:=(bR [] 12 cG (fun _=>false) [])) aDc rfl (eF _).1 (dN (n:=12) m0 (tF (eF _).1))) fun a w hf hc=>zD θ he hi hf 3 rfl rfl rfl hc
    ·intro E θ a w hD hi hp he hc
     have hf:=he.h0.mT he 2 rfl
     refine sp 1 hf rfl fun a hf=>zD θ he hi hf 4 rfl rfl rfl hc
    ·intro E θ a w hD hi hp he hc
     have hf:=he.h0
     refine sp 1 hf rfl fun a hf=>zD θ he hi hf 5 rfl rfl rfl hc
    ·intro E θ a w hD hi hp he hc
     have e0:=hp.o 0 rfl
     have hf:=(he.h0.mT he 0 rfl).mP he 3 rfl e0
     refine xI (enc:=vE) (f:=(fun _=>false)) (z:=(fun _=>false)) hf hc rfl rfl rfl eF aF2 u1 fun w hc=>zG θ he hi hf rfl hc
    ·intro E θ a w hD hi hp he hc
     have e1:=hp.o 1 rfl
     have hf:=he.h0.mP he 4 rfl e1
     refine sp 1 hf rfl fun a hf=>zD θ he hi hf 6 rfl rfl rfl hc
    ·intro E θ a w i he hc
     have hf:=he.h0
     have e2:=i 2 rfl
     have e4:=i 4 rfl
     replace hf:=hf.more he 6 rfl (onP e4)
     replace hf:=hf.more he 5 rfl (onP e2)
     replace hf:=hf.more he 0 rfl (onT)
     exact ⟨hf.kp rfl,hc⟩
    rintro a w ⟨hf,hc⟩
    refine h7 _ _ ?_
    refine wp_ret ?_
    refine aL ?_
    obtain rfl:=sj hF
    replace hc:=hc.drop k0
    exact aG9 (by simp) rfl Tryz.results32 hf hc (show gR _ 4=_ from rfl) (jH (vs:=(bR [] 12 cG (fun _=>false) [])) aDc rfl (eF _).1 (dN (n:=12) m0 (tF (eF _).1))) (show gR _ 6=_ from rfl) ⟨rfl,(hc.drop k0)⟩
   ·refine wp_skip ?_
    refine h5 _ _ ?_
    refine wp_seq_k fun K8 h8=>zS fun K h=>sp 1 hf rfl fun a hf=>zP hf rfl (bG Tryz.underlying23 rfl) fun a hf=>sp 1 hf rfl fun a hf=>zT h ?_
    refine wp_block ?_
    obtain ⟨an,bd,hF⟩:=aA hF
    let S10:(Int × (Nat→Bool))→Act→World→Prop:=(fun (zz:Int × (Nat→Bool)) a w=>Has 42 a [(5,pq V),(7,pq g),(8,.pointer none),(31,.slice Y B.length X),(32,i6 ((B.length:Nat):Int)),(33,i6 zz.1)]∧Ctx G (.box g (bR [] 12 cG zz.2 []) 90::.box V (bR [] 12 cG (fun _=>false) []) 90::Lf) w)
    have bc:∀ (zz:Int × (Nat→Bool)) a w,an=.go zz→S10 zz a w→K8 a w:=by
     rintro ⟨x,q⟩ a w rfl ⟨hf,hc⟩
     replace hF:=bK hF
     refine h8 _ _ ?_
     refine wp_seq_k fun K11 bm=>eL (fun θ=>[⟨none,none,5,pq V⟩,⟨none,none,7,pq g⟩,⟨none,none,8,.pointer none⟩,⟨some 0,none,40,.pointer none⟩,⟨some 1,none,41,.agg (bR [] 12 cG q []).toArray⟩,⟨some 2,none,4,.pointer none⟩,⟨some 4,none,6,i6 0⟩]) (fun E θ=>.box g (bR [] 12 cG q []) 90::(bif E 3 then .box V (bR [] 12 cG q []) 90 else .box V (bR [] 12 cG (fun _=>false) []) 90)::Lf) [] (fun a w=>Has 42 a [(5,pq V),(4,.pointer none),(6,i6 0)]∧Ctx G (.box g (bR [] 12 cG q []) 90::.box V (bR [] 12 cG q []) 90::Lf) w) bA (by kernel_rfl) (by kernel_rfl) (fN.of hf ⟨rfl,rfl,rfl,trivial,trivial,trivial,trivial,trivial⟩) hc ⟨?_,?_,?_,?_,?_,trivial⟩ ?_ ?_
     ·intro E θ a w hD hi hp he hc
      have hf:=he.h0.mT he 2 rfl
      refine sp 1 hf rfl fun a hf=>zD θ he hi hf 3 rfl rfl rfl hc
     ·intro E θ a w hD hi hp he hc
      have hf:=he.h0.mT he 1 rfl
      refine zE hf hc rfl (lK (vs:=(bR [] 12 cG q [])) aDc rfl (eF _).1 (dN (n:=12) m0 (tF (eF _).1))) fun a w hf hc=>zD θ he hi hf 4 rfl rfl rfl hc
     ·intro E θ a w hD hi hp he hc
      have e0:=hp.o 0 rfl
      have hf:=he.h0.mP he 3 rfl e0
      refine sp 1 hf rfl fun a hf=>zD θ he hi hf 5 rfl rfl rfl hc
     ·intro E θ a w hD hi hp he hc
      have e1:=hp.o 1 rfl
      try dsimp only at hc
      rw [hi] at hc
      have hf:=(he.h0.mT he 0 rfl).mP he 4 rfl e1
      refine xI (enc:=vE) (f:=(fun _=>false)) (z:=q) hf hc rfl rfl rfl eF aF2 u1 fun w hc=>zG θ he hi hf rfl ?_
      try dsimp only
      rw [aS E 3]
      exact hc
     ·intro E θ a w hD hi hp he hc
      have hf:=he.h0
      refine sp 1 hf rfl fun a hf=>zD θ he hi hf 6 rfl rfl rfl hc
     ·intro E θ a w i he hc
      have hf:=he.h0
      have e2:=i 2 rfl
      have e3:=i 3 rfl
      have e4:=i 4 rfl
      replace hf:=hf.more he 6 rfl (onP e4)
      replace hf:=hf.more he 5 rfl (onP e2)
      replace hf:=hf.more he 0 rfl (onT)
      try dsimp only at hc
      rw [e3] at hc
      exact ⟨hf.kp rfl,hc⟩
     rintro a w ⟨hf,hc⟩
     refine bm _ _ ?_
     refine wp_ret ?_
     obtain rfl:=sj hF
     replace hc:=hc.drop k0
     exact aG9 (by simp) rfl Tryz.results32 hf hc (show gR _ 4=_ from rfl) (jH (vs:=(bR [] 12 cG q [])) aDc rfl (eF _).1 (dN (n:=12) m0 (tF (eF _).1))) (show gR _ 6=_ from rfl) ⟨rfl,(hc.drop k0)⟩
    have b4:∀ r,an=.out r→r=ai:=by
     rintro r rfl
     exact sj hF
    refine cZ N (cW (S:=S10) (x:=an) ?_ N (0,(fun _=>false)) _ _ ⟨hf.kp rfl,hc⟩ bd)
    clear hF hf hc
    rintro ⟨x,q⟩ b5 a w KB10 ⟨hf,hc⟩ hF am a9
    unfold xE at hF
    refine zS fun K h=>sp 1 hf rfl fun a hf=>zT h ?_
    refine wp_seq_k fun K13 bk=>zI hf rfl hF ?_ ?_ <;> clear hF <;> intro hF
    ·refine wp_skip ?_
     refine bk _ _ ?_
     refine wp_seq_k fun K14 bt=>wp_block ?_
     refine zS fun K h=>?_
     obtain ⟨br,ba,hF⟩:=aA hF
     obtain ⟨ca,o,qa,qp⟩:=k.atm ba
     refine zP hf rfl (pIA Tryz.underlying23 fO rfl rfl qa) fun a hf=>zE hf hc rfl (eP cR rfl (dI (j:=0) qp rfl)) fun a w hf hc=>sp 1 hf rfl fun a hf=>zT h ?_
     refine bV ?_
     refine sp 1 hf rfl fun a hf=>?_
     obtain ⟨un,ar,hF⟩:=aA hF
     refine zP hf rfl (xL Tryz.underlying90 yC rfl rfl (cF ar).1 (cF ar).2) fun a hf=>aK7 (vs:=[.bool true]) (o':=0) (z:=true) hf hc rfl rfl rfl rfl yC rfl (fun x=>(mD x).1) rfl ar rfl rfl u0 fun w hc=>aP ?_
     refine bt _ _ ?_
     refine bV ?_
     refine sp 2 hf rfl fun a hf=>aP ?_
     exact a9 (W (x + 1),(rT q br.toNat true)) _ _ (sj hF).symm ⟨hf.kp rfl,hc⟩
    ·refine wp_exit ?_
     refine aY ?_
     refine aY ?_
     have he:=sj hF
     rw [← he] at am
     refine fJ ?_
     exact bc _ _ _ am ⟨hf.kp rfl,hc⟩
  refine zS fun K h=>sp 3 hf rfl fun a hf=>?_
  obtain ⟨bs,ax,hF⟩:=aA hF
  refine jX 7 (fun a=>Has 42 a [(1,.slice Y B.length X),(2,pq a0),(5,pq V),(7,pq g),(8,.pointer none),(9,i6 aa),(17,i6 aa),(18,.bool (aa == 0)),(19,.bool (aa == 0)),(26,.bool bs)]) hc ?_ ?_
  ·cases hb:(aa == 0)
   ·rw [hb] at hf
    have hF:=kI hb ax
    obtain rfl:=sj hF
    refine stS hf rfl rfl rfl fun a hf=>stS hf rfl rfl rfl fun a hf=>stS hf rfl rfl rfl fun a hf=>stS hf rfl rfl rfl fun a hf=>stS hf rfl rfl rfl fun a hf=>stS hf rfl rfl rfl fun a hf=>sp 1 hf rfl fun a hf=>aP ⟨hf.kp rfl,hc⟩
   ·rw [hb] at hf
    have hF:=fP hb ax
    refine sp 1 hf rfl fun a hf=>zP hf rfl (pFA sI rfl) fun a hf=>zL hf hc hY m2 rfl fun a w hf hc=>zP hf rfl (bG Tryz.underlying23 rfl) fun a hf=>?_
    obtain ⟨bz,bb,hF⟩:=aA hF
    refine zQ (v:=.bool bz) hf hc aL4 rfl (fun w hc=>uQ B ((r.Down.length:Nat):Int) k hc bb) fun a w hf hc=>sp 2 hf rfl fun a hf=>?_
    obtain rfl:=sj hF
    exact aP ⟨hf.kp rfl,hc⟩
  intro a w ⟨hf,hc⟩
  refine zT h ?_
  refine zI hf rfl hF ?_ ?_ <;> clear hF <;> intro hF
  ·refine bV ?_
   refine sp 1 hf rfl fun a hf=>aP ?_
   replace hc:=hc.drop k2
   exact az 2 _ _  (hf.kp rfl) hc hF
  ·refine wp_skip ?_
   replace hc:=hc.drop k2
   exact az aa _ _  (hf.kp rfl) hc hF
 | inr d=>
  replace hF:=aC7 hF
  have bg:=av
  refine zC hf aDf rfl (kG r ad u s ab y hc bg) ?_
  rintro _ w ⟨m,p,ac,rfl,hc⟩
  refine ⟨_,rfl,fun a hf=>?_⟩
  refine sp 5 hf rfl fun a hf=>zT h ?_
  refine wp_seq_k fun K17 bj=>?_
  have ap:∀ (af:Int) a w,Has 42 a [(1,.slice Y B.length X),(5,pq V),(7,pq g),(8,pq m),(9,i6 af)]→Ctx G (bI p aW d.2.2.1 3 ac::.box m [.slice Z r.Down.length b,.slice O r.Travel.length J,.slice D r.Springs.length H,.slice R r.Towns.length U,i6 d.1,i6 d.2.1,.slice I r.Floods.length M,.map (some p)] 102::.box g (bR [] 12 cG (fun _=>false) []) 90::.box V (bR [] 12 cG (fun _=>false) []) 90::Lf) w→lZ N B d af=some ai→K17 a w:=by
   repeat (clear hF)
   repeat (clear hc)
   repeat (clear hf)
   intro af a w hf hc hF
   unfold lZ at hF
   refine bj _ _ ?_
   refine wp_seq_k fun K18 bq=>zS fun K h=>sp 2 hf rfl fun a hf=>zT h ?_
   refine zI hf rfl hF ?_ ?_ <;> clear hF <;> intro hF
   ·refine wp_seq_k fun K20 bx=>eL (fun θ=>[⟨none,none,5,pq V⟩,⟨none,none,7,pq g⟩,⟨none,none,9,i6 af⟩,⟨some 0,none,29,.agg (bR [] 12 cG (fun _=>false) []).toArray⟩,⟨some 1,none,30,i6 af⟩,⟨some 2,none,4,.pointer none⟩,⟨some 4,none,6,i6 af⟩]) (fun E θ=>bI p aW d.2.2.1 3 ac::.box m [.slice Z r.Down.length b,.slice O r.Travel.length J,.slice D r.Springs.length H,.slice R r.Towns.length U,i6 d.1,i6 d.2.1,.slice I r.Floods.length M,.map (some p)] 102::.box g (bR [] 12 cG (fun _=>false) []) 90::.box V (bR [] 12 cG (fun _=>false) []) 90::Lf) [] (fun a w=>Has 42 a [(5,pq V),(4,.pointer none),(6,i6 af)]∧Ctx G (bI p aW d.2.2.1 3 ac::.box m [.slice Z r.Down.length b,.slice O r.Travel.length J,.slice D r.Springs.length H,.slice R r.Towns.length U,i6 d.1,i6 d.2.1,.slice I r.Floods.length M,.map (some p)] 102::.box g (bR [] 12 cG (fun _=>false) []) 90::.box V (bR [] 12 cG (fun _=>false) []) 90::Lf) w) bA (by kernel_rfl) (by kernel_rfl) (fN.of hf ⟨rfl,rfl,rfl,trivial,trivial,trivial,trivial,trivial⟩) hc ⟨?_,?_,?_,?_,?_,trivial⟩ ?_ ?_
    ·intro E θ a w hD hi hp he hc
     have hf:=he.h0.mT he 1 rfl
     refine zE hf hc rfl (lK (vs:=(bR [] 12 cG (fun _=>false) [])) aDc rfl (eF _).1 (dN (n:=12) m2 (tF (eF _).1))) fun a w hf hc=>zD θ he hi hf 3 rfl rfl rfl hc
    ·intro E θ a w hD hi hp he hc
     have hf:=he.h0.mT he 2 rfl
     refine sp 1 hf rfl fun a hf=>zD θ he hi hf 4 rfl rfl rfl hc
    ·intro E θ a w hD hi hp he hc
     have hf:=he.h0
     refine sp 1 hf rfl fun a hf=>zD θ he hi hf 5 rfl rfl rfl hc
    ·intro E θ a w hD hi hp he hc
     have e0:=hp.o 0 rfl
     have hf:=(he.h0.mT he 0 rfl).mP he 3 rfl e0
     refine xI (enc:=vE) (f:=(fun _=>false)) (z:=(fun _=>false)) hf hc rfl rfl rfl eF aF2 u3 fun w hc=>zG θ he hi hf rfl hc
    ·intro E θ a w hD hi hp he hc
     have e1:=hp.o 1 rfl
     have hf:=he.h0.mP he 4 rfl e1
     refine sp 1 hf rfl fun a hf=>zD θ he hi hf 6 rfl rfl rfl hc
    ·intro E θ a w i he hc
     have hf:=he.h0
     have e2:=i 2 rfl
     have e4:=i 4 rfl
     replace hf:=hf.more he 6 rfl (onP e4)
     replace hf:=hf.more he 5 rfl (onP e2)
     replace hf:=hf.more he 0 rfl (onT)
     exact ⟨hf.kp rfl,hc⟩
    rintro a w ⟨hf,hc⟩
    refine bx _ _ ?_
    refine wp_ret ?_
    refine aL ?_
    obtain rfl:=sj hF
    replace hc:=((hc.drop k2).drop k1).drop k0
    exact aG9 (by simp) rfl Tryz.results32 hf hc (show gR _ 4=_ from rfl) (jH (vs:=(bR [] 12 cG (fun _=>false) [])) aDc rfl (eF _).1 (dN (n:=12) m0 (tF (eF _).1))) (show gR _ 6=_ from rfl) ⟨rfl,(hc.drop k0)⟩
   ·refine wp_skip ?_
    refine bq _ _ ?_
    refine wp_seq_k fun K21 bv=>zS fun K h=>sp 1 hf rfl fun a hf=>zP hf rfl (bG Tryz.underlying23 rfl) fun a hf=>sp 1 hf rfl fun a hf=>zT h ?_
    refine wp_block ?_
    obtain ⟨aq,a4,hF⟩:=aA hF
    let S23:(Int × (Nat→Bool))→Act→World→Prop:=(fun (zz:Int × (Nat→Bool)) a w=>Has 42 a [(5,pq V),(7,pq g),(8,pq m),(31,.slice Y B.length X),(32,i6 ((B.length:Nat):Int)),(33,i6 zz.1)]∧Ctx G (bI p aW d.2.2.1 3 ac::.box m [.slice Z r.Down.length b,.slice O r.Travel.length J,.slice D r.Springs.length H,.slice R r.Towns.length U,i6 d.1,i6 d.2.1,.slice I r.Floods.length M,.map (some p)] 102::.box g (bR [] 12 cG zz.2 []) 90::.box V (bR [] 12 cG (fun _=>false) []) 90::Lf) w)
    have a7:∀ (zz:Int × (Nat→Bool)) a w,aq=.go zz→S23 zz a w→K21 a w:=by
     rintro ⟨a2,t⟩ a w rfl ⟨hf,hc⟩
     replace hF:=bK hF
     refine bv _ _ ?_
     refine wp_seq_k fun K24 bp=>eL (fun θ=>[⟨none,none,5,pq V⟩,⟨none,none,7,pq g⟩,⟨none,none,8,pq m⟩,⟨some 0,none,40,pq m⟩,⟨some 1,none,41,.agg (bR [] 12 cG t []).toArray⟩,⟨some 2,none,4,pq m⟩,⟨some 4,none,6,i6 0⟩]) (fun E θ=>bI p aW d.2.2.1 3 ac::.box m [.slice Z r.Down.length b,.slice O r.Travel.length J,.slice D r.Springs.length H,.slice R r.Towns.length U,i6 d.1,i6 d.2.1,.slice I r.Floods.length M,.map (some p)] 102::.box g (bR [] 12 cG t []) 90::(bif E 3 then .box V (bR [] 12 cG t []) 90 else .box V (bR [] 12 cG (fun _=>false) []) 90)::Lf) [] (fun a w=>Has 42 a [(5,pq V),(4,pq m),(6,i6 0)]∧Ctx G (bI p aW d.2.2.1 3 ac::.box m [.slice Z r.Down.length b,.slice O r.Travel.length J,.slice D r.Springs.length H,.slice R r.Towns.length U,i6 d.1,i6 d.2.1,.slice I r.Floods.length M,.map (some p)] 102::.box g (bR [] 12 cG t []) 90::.box V (bR [] 12 cG t []) 90::Lf) w) bA (by kernel_rfl) (by kernel_rfl) (fN.of hf ⟨rfl,rfl,rfl,trivial,trivial,trivial,trivial,trivial⟩) hc ⟨?_,?_,?_,?_,?_,trivial⟩ ?_ ?_
     ·intro E θ a w hD hi hp he hc
      have hf:=he.h0.mT he 2 rfl
      refine sp 1 hf rfl fun a hf=>zD θ he hi hf 3 rfl rfl rfl hc
     ·intro E θ a w hD hi hp he hc
      have hf:=he.h0.mT he 1 rfl
      refine zE hf hc rfl (lK (vs:=(bR [] 12 cG t [])) aDc rfl (eF _).1 (dN (n:=12) m2 (tF (eF _).1))) fun a w hf hc=>zD θ he hi hf 4 rfl rfl rfl hc
     ·intro E θ a w hD hi hp he hc
      have e0:=hp.o 0 rfl
      have hf:=he.h0.mP he 3 rfl e0
      refine sp 1 hf rfl fun a hf=>zD θ he hi hf 5 rfl rfl rfl hc
     ·intro E θ a w hD hi hp he hc
      have e1:=hp.o 1 rfl
      try dsimp only at hc
      rw [hi] at hc
      have hf:=(he.h0.mT he 0 rfl).mP he 4 rfl e1
      refine xI (enc:=vE) (f:=(fun _=>false)) (z:=t) hf hc rfl rfl rfl eF aF2 u3 fun w hc=>zG θ he hi hf rfl ?_
      try dsimp only
      rw [aS E 3]
      exact hc
     ·intro E θ a w hD hi hp he hc
      have hf:=he.h0
      refine sp 1 hf rfl fun a hf=>zD θ he hi hf 6 rfl rfl rfl hc
     ·intro E θ a w i he hc
      have hf:=he.h0
      have e2:=i 2 rfl
      have e3:=i 3 rfl
      have e4:=i 4 rfl
      replace hf:=hf.more he 6 rfl (onP e4)
      replace hf:=hf.more he 5 rfl (onP e2)
      replace hf:=hf.more he 0 rfl (onT)
      try dsimp only at hc
      rw [e3] at hc
      exact ⟨hf.kp rfl,hc⟩
     rintro a w ⟨hf,hc⟩
     refine bp _ _ ?_
     refine wp_ret ?_
     obtain rfl:=sj hF
     replace hc:=hc.drop k2
     exact aG9 (by simp) rfl Tryz.results32 hf hc (show gR _ 4=_ from rfl) (jH (vs:=(bR [] 12 cG t [])) aDc rfl (eF _).1 (dN (n:=12) m2 (tF (eF _).1))) (show gR _ 6=_ from rfl) ⟨m,p,ac,rfl,(hc.drop k2)⟩
    have b3:∀ r,aq=.out r→r=ai:=by
     rintro r rfl
     exact sj hF
    refine cZ N (cW (S:=S23) (x:=aq) ?_ N (0,(fun _=>false)) _ _ ⟨hf.kp rfl,hc⟩ a4)
    clear hF hf hc
    rintro ⟨a2,t⟩ b6 a w KB23 ⟨hf,hc⟩ hF ak a6
    unfold kU at hF
    refine zS fun K h=>sp 1 hf rfl fun a hf=>zT h ?_
    refine wp_seq_k fun K26 b1=>zI hf rfl hF ?_ ?_ <;> clear hF <;> intro hF
    ·refine wp_skip ?_
     refine b1 _ _ ?_
     refine wp_seq_k fun K27 bn=>wp_block ?_
     refine zS fun K h=>?_
     obtain ⟨b0,a8,hF⟩:=aA hF
     obtain ⟨b9,b8,a5,bf⟩:=k.atm a8
     refine zP hf rfl (pIA Tryz.underlying23 fO rfl rfl a5) fun a hf=>zE hf hc rfl (eP cR rfl (dI (j:=0) bf rfl)) fun a w hf hc=>sp 1 hf rfl fun a hf=>zT h ?_
     refine bV ?_
     refine sp 1 hf rfl fun a hf=>?_
     obtain ⟨b7,aj,hF⟩:=aA hF
     refine zP hf rfl (xL Tryz.underlying90 yC rfl rfl (cF aj).1 (cF aj).2) fun a hf=>aK7 (vs:=[.bool true]) (o':=0) (z:=true) hf hc rfl rfl rfl rfl yC rfl (fun x=>(mD x).1) rfl aj rfl rfl u2 fun w hc=>aP ?_
     refine bn _ _ ?_
     refine bV ?_
     refine sp 2 hf rfl fun a hf=>aP ?_
     exact a6 (W (a2 + 1),(rT t b0.toNat true)) _ _ (sj hF).symm ⟨hf.kp rfl,hc⟩
    ·refine wp_exit ?_
     refine aY ?_
     refine aY ?_
     have he:=sj hF
     rw [← he] at ak
     refine fJ ?_
     exact a7 _ _ _ ak ⟨hf.kp rfl,hc⟩
  refine zS fun K h=>sp 3 hf rfl fun a hf=>?_
  obtain ⟨bu,au,hF⟩:=aA hF
  refine jX 7 (fun a=>Has 42 a [(1,.slice Y B.length X),(2,pq a0),(5,pq V),(7,pq g),(8,pq m),(9,i6 d.2.2.2),(17,i6 d.2.2.2),(18,.bool (d.2.2.2 == 0)),(19,.bool (d.2.2.2 == 0)),(26,.bool bu)]) hc ?_ ?_
  ·cases hb:(d.2.2.2 == 0)
   ·rw [hb] at hf
    have hF:=kI hb au
    obtain rfl:=sj hF
    refine stS hf rfl rfl rfl fun a hf=>stS hf rfl rfl rfl fun a hf=>stS hf rfl rfl rfl fun a hf=>stS hf rfl rfl rfl fun a hf=>stS hf rfl rfl rfl fun a hf=>stS hf rfl rfl rfl fun a hf=>sp 1 hf rfl fun a hf=>aP ⟨hf.kp rfl,hc⟩
   ·rw [hb] at hf
    have hF:=fP hb au
    refine sp 1 hf rfl fun a hf=>zP hf rfl (pFA sI rfl) fun a hf=>zL hf hc hY m4 rfl fun a w hf hc=>zP hf rfl (bG Tryz.underlying23 rfl) fun a hf=>?_
    obtain ⟨b2,bi,hF⟩:=aA hF
    refine zQ (v:=.bool b2) hf hc aL4 rfl (fun w hc=>uQ B ((r.Down.length:Nat):Int) k hc bi) fun a w hf hc=>sp 2 hf rfl fun a hf=>?_
    obtain rfl:=sj hF
    exact aP ⟨hf.kp rfl,hc⟩
  intro a w ⟨hf,hc⟩
  refine zT h ?_
  refine zI hf rfl hF ?_ ?_ <;> clear hF <;> intro hF
  ·refine bV ?_
   refine sp 1 hf rfl fun a hf=>aP ?_
   replace hc:=hc.drop k4
   exact ap 2 _ _  (hf.kp rfl) hc hF
  ·refine wp_skip ?_
   replace hc:=hc.drop k4
   exact ap d.2.2.2 _ _  (hf.kp rfl) hc hF

def sG (N:Nat) (s_:Int) (x:Nat→Bool):Option (Bool) :=
 Option.bind (inR s_ 12) fun un=>
 some (x s_.toNat)
theorem aCf {N:Nat} {G:aT} {Lf:List Ent} {w:World} (s_:Int) (x:Nat→Bool) {b_:Nat}  (hc:Ctx G (.box b_ (bR [] 12 cG x []) 90::Lf) w) {D:Bool} (hF:sG N s_ x=some D):Calls Tryz.prog 38 #[i6 s_,pq b_] w (fun e w=>e=.returned (.bool D)∧Ctx G (.box b_ (bR [] 12 cG x []) 90::Lf) w):=by
 unfold sG at hF
 refine bL Tryz.func38 rfl Tryz.ntmps38 rfl fun a hf=>zS fun K h=>sp 1 hf rfl fun a hf=>zT h ?_
 refine zS fun K h=>sp 1 hf rfl fun a hf=>?_
 obtain ⟨un,B,hF⟩:=aA hF
 refine zP hf rfl (xL Tryz.underlying90 yC rfl rfl (cF B).1 (cF B).2) fun a hf=>zE hf hc rfl (eP aJi rfl (yF (j:=0) m0 (fun x=>(mD x).1) rfl B rfl)) fun a w hf hc=>sp 1 hf rfl fun a hf=>zT h ?_
 refine wp_ret ?_
 obtain rfl:=sj hF
 exact zO1 Tryz.results38 hf rfl ⟨rfl,hc⟩

def cY (N:Nat) (s_:List Int) (f_:Nat→Bool) (x:Int):Option (bY (Int) (Int)) :=
 cond (decide (x < ((s_.length:Nat):Int)))
 (Option.bind (bE s_ x) fun B=>
 Option.bind (sG N B f_) fun r=>
 cond r
 (some (.ret x))
 (some (.cont (W (x + 1)))))
 (some (.brk x))
def iO (N:Nat) (s_:List Int) (f_:Nat→Bool):Option (Int) :=
 Option.bind (aX (fun s4=>cY N s_ f_ s4) N 0) fun x4=>
 exK x4 (fun s4=>some (-1)) some
theorem rM {N:Nat} {G:aT} {Lf:List Ent} {w:World} (s_:List Int) (f_:Nat→Bool) {H:Option Addr} {D:Nat} {b_:Nat} (M:Rd G 1 H D (s_.map aB)) (hc:Ctx G (.box b_ (bR [] 12 cG f_ []) 90::Lf) w) {I:Int} (hF:iO N s_ f_=some I):Calls Tryz.prog 39 #[.slice H s_.length D,.func (.func 38) #[] #[pq b_]] w (fun e w=>e=.returned (i6 I)∧Ctx G (.box b_ (bR [] 12 cG f_ []) 90::Lf) w):=by
 unfold iO at hF
 refine bL Tryz.func39 rfl Tryz.ntmps39 rfl fun a hf=>zS fun K h=>sp 1 hf rfl fun a hf=>zT h ?_
 refine wp_seq_k fun K2 h2=>zS fun K h=>sp 1 hf rfl fun a hf=>zP hf rfl (bG Tryz.underlying23 rfl) fun a hf=>sp 1 hf rfl fun a hf=>zT h ?_
 refine wp_block ?_
 obtain ⟨x4,V,hF⟩:=aA hF
 let S4:Int→Act→World→Prop:=(fun (zz:Int) a w=>Has 19 a [(0,.slice H s_.length D),(1,.func (.func 38) #[] #[pq b_]),(7,i6 ((s_.length:Nat):Int)),(8,i6 zz)]∧Ctx G (.box b_ (bR [] 12 cG f_ []) 90::Lf) w)
 have O:∀ (zz:Int) a w,x4=.go zz→S4 zz a w→K2 a w:=by
  rintro x a w rfl ⟨hf,hc⟩
  replace hF:=bK hF
  refine h2 _ _ ?_
  refine zS fun K h=>sp 1 hf rfl fun a hf=>zT h ?_
  refine wp_ret ?_
  obtain rfl:=sj hF
  exact zO1 Tryz.results39 hf rfl ⟨rfl,hc⟩
 have X:∀ r,x4=.out r→r=I:=by
  rintro r rfl
  exact sj hF
 refine cZ N (cW (S:=S4) (x:=x4) ?_ N 0 _ _ ⟨hf.kp rfl,hc⟩ V)
 clear hF hf hc
 rintro x Z a w KB4 ⟨hf,hc⟩ hF B R
 unfold cY at hF
 refine zS fun K h=>sp 1 hf rfl fun a hf=>zT h ?_
 refine wp_seq_k fun K7 h7=>zI hf rfl hF ?_ ?_ <;> clear hF <;> intro hF
 ·refine wp_skip ?_
  refine h7 _ _ ?_
  refine wp_seq_k fun K8 h8=>wp_block ?_
  refine zS fun K h=>sp 2 hf rfl fun a hf=>zT h ?_
  refine zS fun K h=>sp 3 hf rfl fun a hf=>?_
  obtain ⟨U,J,hF⟩:=aA hF
  obtain ⟨Y,o,qa,qp⟩:=M.atm J
  refine zP hf rfl (pIA Tryz.underlying23 fO rfl rfl qa) fun a hf=>zE hf hc rfl (eP cR rfl (dI (j:=0) qp rfl)) fun a w hf hc=>?_
  obtain ⟨r,hr,hF⟩:=aA hF
  refine zQ (v:=.bool r) hf hc en_38 rfl (fun w hc=>(aCf U f_ (hc.pick k0) hr).mono fun e w h=>⟨h.1,(h.2.unpick k0)⟩) fun a w hf hc=>zT h ?_
  refine zI hf rfl hF ?_ ?_ <;> clear hF <;> intro hF
  ·refine zS fun K h=>sp 2 hf rfl fun a hf=>zT h ?_
   refine wp_ret ?_
   refine bS ?_
   refine aL ?_
   refine aL ?_
   have he:=sj hF
   rw [← he] at B
   replace hF:=X _ B
   refine bS ?_
   refine aL ?_
   obtain rfl:=hF
   exact zO1 Tryz.results39 hf rfl ⟨rfl,hc⟩
  ·refine wp_skip ?_
   refine h8 _ _ ?_
   refine bV ?_
   refine sp 2 hf rfl fun a hf=>aP ?_
   exact R (W (x + 1)) _ _ (sj hF).symm ⟨hf.kp rfl,hc⟩
 ·refine wp_exit ?_
  refine aY ?_
  refine aY ?_
  have he:=sj hF
  rw [← he] at B
  refine fJ ?_
  exact O _ _ _ B ⟨hf.kp rfl,hc⟩

def gH (N:Nat) (s_:List Int) (f_:Nat→Bool):Option (Bool) :=
 Option.bind (iO N s_ f_) fun r=>
 some (decide (0≤r))
theorem qL {N:Nat} {G:aT} {Lf:List Ent} {w:World} (s_:List Int) (f_:Nat→Bool) {B:Option Addr} {D:Nat} {b_:Nat} (I:Rd G 1 B D (s_.map aB)) (hc:Ctx G (.box b_ (bR [] 12 cG f_ []) 90::Lf) w) {H:Bool} (hF:gH N s_ f_=some H):Calls Tryz.prog 36 #[.slice B s_.length D,.func (.func 38) #[] #[pq b_]] w (fun e w=>e=.returned (.bool H)∧Ctx G (.box b_ (bR [] 12 cG f_ []) 90::Lf) w):=by
 unfold gH at hF
 refine bL Tryz.func36 rfl Tryz.ntmps36 rfl fun a hf=>zS fun K h=>sp 1 hf rfl fun a hf=>zT h ?_
 refine zS fun K h=>sp 2 hf rfl fun a hf=>?_
 obtain ⟨r,hr,hF⟩:=aA hF
 refine zQ (v:=i6 r) hf hc aAn rfl (fun w hc=>(rM s_ f_ I (hc.pick k0) hr).mono fun e w h=>⟨h.1,(h.2.unpick k0)⟩) fun a w hf hc=>sp 2 hf rfl fun a hf=>zT h ?_
 refine wp_ret ?_
 obtain rfl:=sj hF
 exact zO1 Tryz.results36 hf rfl ⟨rfl,hc⟩

def qO (N:Nat) (d:aC) (x:aF) (D:Nat→Bool):Option (Bool) :=
 Option.bind (bN N (⟨x.River,x.found⟩:aF) d) fun r=>
 Option.bind (gH N r D) fun B=>
 some B
theorem yJ {N:Nat} {G:aT} {Lf:List Ent} {w:World} (d:aC) (x:aF) (j:Nat→Bool) {b_:Nat} {g:Nat} {S:Option Addr} {U:Nat} {H:Option Addr} {M:Nat} {D:Option Addr} {B:Nat} {O:Option Addr} {R:Nat} {J:Option Addr} {I:Nat} {mb:Nat} {u:Hds} {i:Nat} (b:Rd G 1 S U (x.River.Down.map aB)) (Y:Rd G 2 H M (x.River.Travel.map aI)) (V:Rd G 1 D B (x.River.Springs.map aB)) (Z:Rd G 3 O R (x.River.Towns.map aG)) (X:RdT cH G 2 J I x.River.Floods) (hc:Ctx G (.box b_ [pq g] 71::.box g [.slice S x.River.Down.length U,.slice H x.River.Travel.length M,.slice D x.River.Springs.length B,.slice O x.River.Towns.length R,i6 x.River.Delay.Lo,i6 x.River.Delay.Hi,.slice J x.River.Floods.length I,.map (some mb)] 102::bI mb aW x.found 3 u::.box i (bR [] 12 cG j []) 90::Lf) w) {n:Bool} (hF:qO N d x j=some n):Calls Tryz.prog 35 #[.agg #[i6 d.Spring,i6 d.Town],pq b_,pq i] w (fun e w=>∃ (m:Hds),e=.returned (.bool n)∧Ctx G (.box b_ [pq g] 71::.box g [.slice S x.River.Down.length U,.slice H x.River.Travel.length M,.slice D x.River.Springs.length B,.slice O x.River.Towns.length R,i6 x.River.Delay.Lo,i6 x.River.Delay.Hi,.slice J x.River.Floods.length I,.map (some mb)] 102::bI mb aW x.found 3 m::.box i (bR [] 12 cG j []) 90::Lf) w):=by
 unfold qO at hF
 refine bL Tryz.func35 rfl Tryz.ntmps35 rfl fun a hf=>zS fun K h=>zB hf hc rfl fun t a w hf hc=>sp 1 hf rfl fun a hf=>zT h ?_
 refine zS fun K h=>zL hf hc vB m1 rfl fun a w hf hc=>zN hf hc jE m0 rfl fun a w hf hc=>?_
 obtain ⟨r,hr,hF⟩:=aA hF
 refine zC hf aH7 rfl (iS (⟨x.River,x.found⟩:aF) d b Y V Z X ((hc.pick k3).pick k3) hr) ?_
 rintro _ w ⟨aa,z,ab,rfl,hc⟩
 refine ⟨_,rfl,fun a hf=>?_⟩
 refine zP hf rfl (pMF (us:=[pq i]) rfl rfl) fun a hf=>?_
 obtain ⟨s,p,hF⟩:=aA hF
 refine zQ (v:=.bool s) hf hc aAp rfl (fun w hc=>by obtain ⟨G1,y,q,hc,o⟩:=lend hc k0; exact (qL r j q (hc.pick k4) p).mono fun e w h=>⟨h.1,((o _ _ (h.2.unpick k4)).unpick k0)⟩) fun a w hf hc=>sp 1 hf rfl fun a hf=>zT h ?_
 refine wp_ret ?_
 obtain rfl:=sj hF
 obtain ⟨k,hc⟩:=tU ((hc.pick k0).pick k2)
 replace hc:Ctx G (bI mb aW x.found 3 k::.box g [.slice S x.River.Down.length U,.slice H x.River.Travel.length M,.slice D x.River.Springs.length B,.slice O x.River.Towns.length R,i6 x.River.Delay.Lo,i6 x.River.Delay.Hi,.slice J x.River.Floods.length I,.map (some mb)] 102::.box t [i6 d.Spring,i6 d.Town] 62::.box b_ [pq g] 71::.box i (bR [] 12 cG j []) 90::Lf) w:=hc
 replace hc:=(((hc.drop k2).pick k0).pick k1).pick k2
 exact zO1 Tryz.results35 hf rfl ⟨k,rfl,hc⟩

def cA (N:Nat) (s_:List aC) (f_:aF) (B:Nat→Bool) (x:Int):Option (bY (Int) (Int)) :=
 cond (decide (x < ((s_.length:Nat):Int)))
 (Option.bind (bE s_ x) fun D=>
 Option.bind (qO N D f_ B) fun r=>
 cond r
 (some (.ret x))
 (some (.cont (W (x + 1)))))
 (some (.brk x))
def dW (N:Nat) (s_:List aC) (f_:aF) (B:Nat→Bool):Option (Int) :=
 Option.bind (aX (fun s4=>cA N s_ f_ B s4) N 0) fun x4=>
 exK x4 (fun s4=>some (-1)) some
theorem mF {N:Nat} {G:aT} {Lf:List Ent} {w:World} (s_:List aC) (f_:aF) (j:Nat→Bool) {q:Option Addr} {p:Nat} {b_:Nat} {g:Nat} {U:Option Addr} {V:Nat} {H:Option Addr} {I:Nat} {D:Option Addr} {B:Nat} {R:Option Addr} {O:Nat} {J:Option Addr} {M:Nat} {mb:Nat} {y:Hds} {k:Nat} (aa:Rd G 2 q p (s_.map aD)) (d:Rd G 1 U V (f_.River.Down.map aB)) (Z:Rd G 2 H I (f_.River.Travel.map aI)) (X:Rd G 1 D B (f_.River.Springs.map aB)) (b:Rd G 3 R O (f_.River.Towns.map aG)) (Y:RdT cH G 2 J M f_.River.Floods) (hc:Ctx G (.box b_ [pq g] 71::.box g [.slice U f_.River.Down.length V,.slice H f_.River.Travel.length I,.slice D f_.River.Springs.length B,.slice R f_.River.Towns.length O,i6 f_.River.Delay.Lo,i6 f_.River.Delay.Hi,.slice J f_.River.Floods.length M,.map (some mb)] 102::bI mb aW f_.found 3 y::.box k (bR [] 12 cG j []) 90::Lf) w) {u:Int} (hF:dW N s_ f_ j=some u):Calls Tryz.prog 64 #[.slice q s_.length p,.func (.func 35) #[] #[pq b_,pq k]] w (fun e w=>∃ (v:Hds),e=.returned (i6 u)∧Ctx G (.box b_ [pq g] 71::.box g [.slice U f_.River.Down.length V,.slice H f_.River.Travel.length I,.slice D f_.River.Springs.length B,.slice R f_.River.Towns.length O,i6 f_.River.Delay.Lo,i6 f_.River.Delay.Hi,.slice J f_.River.Floods.length M,.map (some mb)] 102::bI mb aW f_.found 3 v::.box k (bR [] 12 cG j []) 90::Lf) w):=by
 unfold dW at hF
 refine bL Tryz.func64 rfl Tryz.ntmps64 rfl fun a hf=>zS fun K h=>sp 1 hf rfl fun a hf=>zT h ?_
 refine wp_seq_k fun K2 h2=>zS fun K h=>sp 1 hf rfl fun a hf=>zP hf rfl (bG Tryz.underlying49 rfl) fun a hf=>sp 1 hf rfl fun a hf=>zT h ?_
 refine wp_block ?_
 obtain ⟨x4,ad,hF⟩:=aA hF
 let S4:Int→Act→World→Prop:=(fun (zz:Int) a w=>∃ (m:Hds),Has 19 a [(0,.slice q s_.length p),(1,.func (.func 35) #[] #[pq b_,pq k]),(7,i6 ((s_.length:Nat):Int)),(8,i6 zz)]∧Ctx G (.box b_ [pq g] 71::.box g [.slice U f_.River.Down.length V,.slice H f_.River.Travel.length I,.slice D f_.River.Springs.length B,.slice R f_.River.Towns.length O,i6 f_.River.Delay.Lo,i6 f_.River.Delay.Hi,.slice J f_.River.Floods.length M,.map (some mb)] 102::bI mb aW f_.found 3 m::.box k (bR [] 12 cG j []) 90::Lf) w)
 have ab:∀ (zz:Int) a w,x4=.go zz→S4 zz a w→K2 a w:=by
  rintro x a w rfl ⟨m,hf,hc⟩
  replace hF:=bK hF
  refine h2 _ _ ?_
  refine zS fun K h=>sp 1 hf rfl fun a hf=>zT h ?_
  refine wp_ret ?_
  obtain rfl:=sj hF
  exact zO1 Tryz.results64 hf rfl ⟨m,rfl,hc⟩
 have af:∀ r,x4=.out r→r=u:=by
  rintro r rfl
  exact sj hF
 refine cZ N (cW (S:=S4) (x:=x4) ?_ N 0 _ _ ⟨y,hf.kp rfl,hc⟩ ad)
 clear hF hf hc
 rintro x ai a w KB4 ⟨m,hf,hc⟩ hF i ac
 unfold cA at hF
 refine zS fun K h=>sp 1 hf rfl fun a hf=>zT h ?_
 refine wp_seq_k fun K7 h7=>zI hf rfl hF ?_ ?_ <;> clear hF <;> intro hF
 ·refine wp_skip ?_
  refine h7 _ _ ?_
  refine wp_seq_k fun K8 h8=>wp_block ?_
  refine zS fun K h=>sp 2 hf rfl fun a hf=>zT h ?_
  refine zS fun K h=>sp 3 hf rfl fun a hf=>?_
  obtain ⟨t,z,hF⟩:=aA hF
  obtain ⟨ag,o,qa,qp⟩:=aa.atm z
  refine zP hf rfl (pIA Tryz.underlying49 gG rfl rfl qa) fun a hf=>zE hf hc rfl (lK (vs:=[i6 t.Spring,i6 t.Town]) jE rfl rfl (kH qp (n:=2) (o':=0) rfl)) fun a w hf hc=>?_
  obtain ⟨r,hr,hF⟩:=aA hF
  refine zC hf aPu rfl (yJ t f_ j d Z X b Y ((((hc.pick k3).pick k3).pick k3).pick k3) hr) ?_
  rintro _ w ⟨s,rfl,hc⟩
  refine ⟨_,rfl,fun a hf=>?_⟩
  refine zT h ?_
  refine zI hf rfl hF ?_ ?_ <;> clear hF <;> intro hF
  ·refine zS fun K h=>sp 2 hf rfl fun a hf=>zT h ?_
   refine wp_ret ?_
   refine bS ?_
   refine aL ?_
   refine aL ?_
   have he:=sj hF
   rw [← he] at i
   replace hF:=af _ i
   refine bS ?_
   refine aL ?_
   obtain rfl:=hF
   exact zO1 Tryz.results64 hf rfl ⟨s,rfl,hc⟩
  ·refine wp_skip ?_
   refine h8 _ _ ?_
   refine bV ?_
   refine sp 2 hf rfl fun a hf=>aP ?_
   exact ac (W (x + 1)) _ _ (sj hF).symm ⟨s,hf.kp rfl,hc⟩
 ·refine wp_exit ?_
  refine aY ?_
  refine aY ?_
  have he:=sj hF
  rw [← he] at i
  refine fJ ?_
  exact ab _ _ _ i ⟨m,hf.kp rfl,hc⟩

def cD (N:Nat) (B:Int) (H:List aC) (D:Int):Option (bY ((List aC) × Int × Int) ((List aC))) :=
 some (.cont (H,D,W (B + 1)))
def cI (N:Nat) (O:aF) (I:Nat→Bool) (B:List aC) (D:Int) (H:Int):Option (bY ((List aC) × Int × Int) ((List aC))) :=
 cond (decide (H < ((B.length:Nat):Int)))
 (Option.bind (bE B H) fun J=>
 Option.bind (qO N J O I) fun M=>
 cond (!M)
 (Option.bind (bE B D) fun R=>
 cD N H (B.set D.toNat J) (W (D + 1)))
 (cD N H B D))
 (some (.brk (B,D,H)))
def bT (N:Nat) (s_:List aC) (H:aF) (B:Nat→Bool):Option ((List aC)) :=
 Option.bind (dW N s_ H B) fun r=>
 cond (r == (-1))
 (some s_)
 (Option.bind (aX (fun s8=>cI N H B s8.1 s8.2.1 s8.2.2) N (s_,r,W (r + 1))) fun x8=>
 exK x8 (fun s8=>Option.bind (rH s8.1 s8.2.1 ((s8.1.length:Nat):Int)) fun sub=>
 Option.bind (aGy sub.length) fun un=>
 Option.bind (rH s8.1 0 s8.2.1) fun D=>
 some D) some)
theorem nG {N:Nat} {G:aT} {Lf:List Ent} {w:World} (s_:List aC) (B:aF) (m:Nat→Bool) {ad:Option Addr} {ac:Nat} {b_:Nat} {p:Nat} {V:Option Addr} {X:Nat} {M:Option Addr} {J:Nat} {H:Option Addr} {D:Nat} {R:Option Addr} {U:Nat} {I:Option Addr} {O:Nat} {mb:Nat} {bd:Hds} {s:Nat} (j:Rd G 1 V X (B.River.Down.map aB)) (b:Rd G 2 M J (B.River.Travel.map aI)) (Y:Rd G 1 H D (B.River.Springs.map aB)) (d:Rd G 3 R U (B.River.Towns.map aG)) (Z:RdT cH G 2 I O B.River.Floods) (hc:Ctx G (.row ad ac (s_.map aD) 62 2::.box b_ [pq p] 71::.box p [.slice V B.River.Down.length X,.slice M B.River.Travel.length J,.slice H B.River.Springs.length D,.slice R B.River.Towns.length U,i6 B.River.Delay.Lo,i6 B.River.Delay.Hi,.slice I B.River.Floods.length O,.map (some mb)] 102::bI mb aW B.found 3 bd::.box s (bR [] 12 cG m []) 90::Lf) w) {au:(List aC)} (hF:bT N s_ B m=some au):Calls Tryz.prog 33 #[.slice ad s_.length ac,.func (.func 35) #[] #[pq b_,pq s]] w (fun e w=>∃ (a2:Option Addr) (a0:Nat) (az:Hds),e=.returned (.slice a2 au.length a0)∧Ctx G (.row a2 a0 (au.map aD) 62 2::.box b_ [pq p] 71::.box p [.slice V B.River.Down.length X,.slice M B.River.Travel.length J,.slice H B.River.Springs.length D,.slice R B.River.Towns.length U,i6 B.River.Delay.Lo,i6 B.River.Delay.Hi,.slice I B.River.Floods.length O,.map (some mb)] 102::bI mb aW B.found 3 az::.box s (bR [] 12 cG m []) 90::Lf) w):=by
 unfold bT at hF
 refine bL Tryz.func33 rfl Tryz.ntmps33 rfl fun a hf=>zS fun K h=>sp 1 hf rfl fun a hf=>zT h ?_
 refine zS fun K h=>sp 2 hf rfl fun a hf=>?_
 obtain ⟨r,hr,hF⟩:=aA hF
 obtain ⟨G1,y,a8,hc,a3⟩:=lend hc k0
 refine zC hf aN2 rfl (mF s_ B m a8 (j.mono y) (b.mono y) (Y.mono y) (d.mono y) (Z.mono y) ((((hc.pick k3).pick k3).pick k3).pick k3) hr) ?_
 rintro _ w ⟨a1,rfl,hc⟩
 refine ⟨_,rfl,fun a hf=>?_⟩
 replace hc:=a3 _ _ hc
 refine sp 1 hf rfl fun a hf=>zT h ?_
 refine wp_seq_k fun K3 h3=>zS fun K h=>sp 2 hf rfl fun a hf=>zT h ?_
 refine zI hf rfl hF ?_ ?_ <;> clear hF <;> intro hF
 ·refine zS fun K h=>sp 2 hf rfl fun a hf=>zT h ?_
  refine wp_ret ?_
  refine aL ?_
  obtain rfl:=sj hF
  exact zO1 Tryz.results33 hf rfl ⟨ad,ac,a1,rfl,hc⟩
 ·refine wp_skip ?_
  refine h3 _ _ ?_
  refine wp_seq_k fun K6 h6=>zS fun K h=>sp 3 hf rfl fun a hf=>zT h ?_
  refine wp_block ?_
  obtain ⟨x8,bi,hF⟩:=aA hF
  let S8:((List aC) × Int × Int)→Act→World→Prop:=(fun (zz:(List aC) × Int × Int) a w=>∃ (ab:Option Addr) (o:Nat) (t:Hds),Has 42 a [(0,.slice ab zz.1.length o),(1,.func (.func 35) #[] #[pq b_,pq s]),(5,i6 zz.2.1),(6,i6 zz.2.2)]∧Ctx G (.row ab o (zz.1.map aD) 62 2::.box b_ [pq p] 71::.box p [.slice V B.River.Down.length X,.slice M B.River.Travel.length J,.slice H B.River.Springs.length D,.slice R B.River.Towns.length U,i6 B.River.Delay.Lo,i6 B.River.Delay.Hi,.slice I B.River.Floods.length O,.map (some mb)] 102::bI mb aW B.found 3 t::.box s (bR [] 12 cG m []) 90::Lf) w)
  have bj:∀ (zz:(List aC) × Int × Int) a w,x8=.go zz→S8 zz a w→K6 a w:=by
   rintro ⟨v,aa,ag⟩ a w rfl ⟨ab,o,t,hf,hc⟩
   replace hF:=bK hF
   refine h6 _ _ ?_
   refine zS fun K h=>sp 2 hf rfl fun a hf=>?_
   have qc:=qX hc m0
   obtain ⟨sub,ay,hF⟩:=aA hF
   refine zP hf rfl (pSl Tryz.underlying49 gG rfl rfl qc rfl rfl ay) fun a hf=>?_
   obtain ⟨un,bb,hF⟩:=aA hF
   obtain ⟨ar,ai,hF⟩:=aA hF
   have a5:=qX hc m0
   refine aP6 (enc:=aD) (xs:=v) (s1:=sub) (s2:=ar) (i:=aa) hf hc rfl Tryz.underlying49 aLy rfl rfl (by decide) rfl rfl rfl ay rfl bb ai (fun x=>(dJ x).1) u0 fun w hc=>zT h ?_
   refine zS fun K h=>sp 2 hf rfl fun a hf=>zP hf rfl (Pu.cast (pSl (xs:=v) Tryz.underlying49 gG rfl rfl a5 rfl rfl ai) (congrArg (fun q=>Value.slice q ar.length o) aNf)) fun a hf=>sp 1 hf rfl fun a hf=>zT h ?_
   refine wp_ret ?_
   obtain rfl:=sj hF
   exact zO1 Tryz.results33 hf rfl ⟨ab,o,t,rfl,hc⟩
  have bq:∀ r,x8=.out r→r=au:=by
   rintro r rfl
   exact sj hF
  refine cZ N (cW (S:=S8) (x:=x8) ?_ N (s_,r,W (r + 1)) _ _ ⟨ad,ac,a1,hf.kp rfl,hc⟩ bi)
  clear hF hf hc
  rintro ⟨v,aa,ag⟩ bg a w KB8 ⟨ab,o,t,hf,hc⟩ hF ap bc
  unfold cI at hF
  refine wp_seq_k fun K11 ba=>zS fun K h=>sp 2 hf rfl fun a hf=>zP hf rfl (bG Tryz.underlying49 rfl) fun a hf=>sp 1 hf rfl fun a hf=>zT h ?_
  refine zI hf rfl hF ?_ ?_ <;> clear hF <;> intro hF
  ·refine wp_skip ?_
   refine ba _ _ ?_
   refine wp_seq_k fun K13 a9=>?_
   have ax:∀ (aj:List aC) (ak:Int) (am:Option Addr) (an:Nat) (af:Hds) a w,Has 42 a [(0,.slice am aj.length an),(1,.func (.func 35) #[] #[pq b_,pq s]),(5,i6 ak),(6,i6 ag)]→Ctx G (.box b_ [pq p] 71::.box p [.slice V B.River.Down.length X,.slice M B.River.Travel.length J,.slice H B.River.Springs.length D,.slice R B.River.Towns.length U,i6 B.River.Delay.Lo,i6 B.River.Delay.Hi,.slice I B.River.Floods.length O,.map (some mb)] 102::bI mb aW B.found 3 af::.box s (bR [] 12 cG m []) 90::.row am an (aj.map aD) 62 2::Lf) w→cD N ag aj ak=some bg→K13 a w:=by
    repeat (clear hF)
    repeat (clear hc)
    repeat (clear hf)
    intro aj ak am an af a w hf hc hF
    unfold cD at hF
    refine a9 _ _ ?_
    refine bV ?_
    refine sp 3 hf rfl fun a hf=>aP ?_
    replace hc:=((((hc.pick k3).pick k3).pick k3).pick k3).pick k4
    exact bc (aj,ak,W (ag + 1)) _ _ (sj hF).symm ⟨am,an,af,hf.kp rfl,hc⟩
   refine wp_block ?_
   refine zS fun K h=>sp 2 hf rfl fun a hf=>?_
   obtain ⟨u,a6,hF⟩:=aA hF
   have bf:=hf
   obtain ⟨g,rfl,qa,qr⟩:=hP hc m0 a6
   have hf:=bf
   refine zP hf rfl (pIA Tryz.underlying49 gG rfl rfl qa) fun a hf=>zE hf hc rfl (lK (vs:=[i6 u.Spring,i6 u.Town]) jE rfl rfl (jL (sz:=2) (i:=ag.toNat) m0 qr (n:=2) (o':=0) rfl)) fun a w hf hc=>zA hf hc aLy rfl fun bm a w hf hc=>zW hf hc gG u0 rfl fun w hc=>zT h ?_
   refine zS fun K h=>sp 1 hf rfl fun a hf=>zN hf hc jE m0 rfl fun a w hf hc=>?_
   obtain ⟨bp,a7,hF⟩:=aA hF
   refine zC hf aPu rfl (yJ u B m j b Y d Z ((((hc.pick k5).pick k5).pick k5).pick k5) a7) ?_
   rintro _ w ⟨aq,rfl,hc⟩
   refine ⟨_,rfl,fun a hf=>?_⟩
   refine sp 1 hf rfl fun a hf=>zT h ?_
   refine zI hf rfl hF ?_ ?_ <;> clear hF <;> intro hF
   ·refine zS fun K h=>sp 2 hf rfl fun a hf=>zN hf hc jE m4 rfl fun a w hf hc=>?_
    obtain ⟨bn,av,hF⟩:=aA hF
    obtain ⟨a4,bk⟩:=eY hc m5 av
    refine zP hf rfl (pIA Tryz.underlying49 gG rfl rfl a4) fun a hf=>yA (sz:=2) (vs:=[i6 u.Spring,i6 u.Town]) (o':=0) (z:=u) (xs:=v) hf hc rfl rfl rfl rfl gG rfl (fun x=>(dJ x).1) (mL av) (fun _ _=>rfl) rfl u5 fun w hc=>zT h ?_
    refine bV ?_
    refine sp 3 hf rfl fun a hf=>aP ?_
    replace hf:=hf.castAt 0 (v':=.slice (some ⟨g,0,none⟩) ((v.set aa.toNat u).length) o) rfl (congrArg (fun k=>Value.slice (some ⟨g,0,none⟩) k o) (by simp))
    replace hc:=hc.drop k4
    exact ax (v.set aa.toNat u) (W (aa + 1)) (some ⟨g,0,none⟩) o aq _ _  (hf.kp rfl) hc hF
   ·refine wp_skip ?_
    replace hc:=hc.drop k4
    exact ax v aa (some ⟨g,0,none⟩) o aq _ _  (hf.kp rfl) hc hF
  ·refine wp_exit ?_
   refine aY ?_
   refine aY ?_
   have he:=sj hF
   rw [← he] at ap
   refine fJ ?_
   exact bj _ _ _ ap ⟨ab,o,t,hf.kp rfl,hc⟩

def sD (N:Nat) (r:aH) (D:List Int):Option ((List aC) × Int) :=
 Option.bind (sN N r D) (aAg (fun H=>cond (H.2 != 0)
 (some (([]:List aC),H.2))
 (none))
 (fun B=>cond (B.2.2.2.2 != 0)
 (some (([]:List aC),B.2.2.2.2))
 (Option.bind (eN N (⟨(⟨r.Down,r.Travel,r.Springs,r.Towns,(⟨B.1,B.2.1⟩:aN),r.Floods⟩:aH),B.2.2.1⟩:aF)) fun I=>
 Option.bind (bT N I (⟨(⟨r.Down,r.Travel,r.Springs,r.Towns,(⟨B.1,B.2.1⟩:aN),r.Floods⟩:aH),B.2.2.1⟩:aF) B.2.2.2.1) fun J=>
 some (J,0))))
theorem aBm {N:Nat} {G:aT} {Lf:List Ent} {w:World} (r:aH) (J:List Int) {j:Option Addr} {k:Nat} {X:Option Addr} {U:Nat} {O:Option Addr} {R:Nat} {i:Option Addr} {d:Nat} {S:Option Addr} {V:Nat} {g:Option Addr} {b:Nat} (M:Rd G 1 j k (r.Down.map aB)) (H:Rd G 2 X U (r.Travel.map aI)) (B:Rd G 1 O R (r.Springs.map aB)) (I:Rd G 3 i d (r.Towns.map aG)) (D:RdT cH G 2 S V r.Floods) (Z:Rd G 1 g b (J.map aB)) (hc:Ctx G (Lf) w) {m:(List aC) × Int} (hF:sD N r J=some m):Calls Tryz.prog 12 #[.agg #[.slice j r.Down.length k,.slice X r.Travel.length U,.slice O r.Springs.length R,.slice i r.Towns.length d,i6 r.Delay.Lo,i6 r.Delay.Hi,.slice S r.Floods.length V],.slice g J.length b] w (fun e w=>∃ (p:Option Addr) (q:Nat),e=.returned (.tuple #[.slice p m.1.length q,i6 m.2])∧Ctx G (.row p q (m.1.map aD) 62 2::Lf) w):=by
 unfold sD at hF
 refine bL Tryz.func12 rfl Tryz.ntmps12 rfl fun a hf=>zS fun K h=>zB hf hc rfl fun ai a w hf hc=>sp 2 hf rfl fun a hf=>zT h ?_
 refine zS fun K h=>zN hf hc oK m0 rfl fun a w hf hc=>sp 1 hf rfl fun a hf=>?_
 obtain ⟨n,o,hF⟩:=aA hF
 cases n with
 | inl n=>
  replace hF:=aC4 hF
  refine zC hf aPm rfl (xU r J M H B I D Z hc o) ?_
  rintro _ w ⟨rfl,hc⟩
  refine ⟨_,rfl,fun a hf=>?_⟩
  refine sp 4 hf rfl fun a hf=>zA hf hc aPn rfl fun ak a w hf hc=>aFg (cs:=(bR [] 12 cG (fun _=>false) [])) hf hc rfl rfl aIi rfl fun an a w hf hc=>zW hf hc aO3 u1 rfl fun w hc=>xI (enc:=vE) (f:=(fun _=>false)) (z:=n.1) hf hc rfl rfl rfl eF aF2 u0 fun w hc=>sp 1 hf rfl fun a hf=>zT h ?_
  refine wp_seq_k fun K3 h3=>zS fun K h=>sp 2 hf rfl fun a hf=>zT h ?_
  refine zI hf rfl hF ?_ ?_ <;> clear hF <;> intro hF
  ·refine zS fun K h=>sp 3 hf rfl fun a hf=>zT h ?_
   refine wp_ret ?_
   refine aL ?_
   obtain rfl:=sj hF
   replace hc:=hc.nilRow 62 2
   replace hc:=((hc.drop k3).drop k2).drop k1
   exact zO2 Tryz.results12 hf rfl rfl ⟨none,0,rfl,hc⟩
  ·refine wp_skip ?_
   refine h3 _ _ ?_
   refine wp_seq_k fun K6 h6=>aBn hF
 | inr Y=>
  replace hF:=aC7 hF
  have s:=o
  refine zC hf aPm rfl (xU r J M H B I D Z hc s) ?_
  rintro _ w ⟨af,aj,am,rfl,hc⟩
  refine ⟨_,rfl,fun a hf=>?_⟩
  refine sp 4 hf rfl fun a hf=>zA hf hc aPn rfl fun aa a w hf hc=>aFg (cs:=(bR [] 12 cG (fun _=>false) [])) hf hc rfl rfl aIi rfl fun v a w hf hc=>zW hf hc aO3 u1 rfl fun w hc=>xI (enc:=vE) (f:=(fun _=>false)) (z:=Y.2.2.2.1) hf hc rfl rfl rfl eF aF2 u0 fun w hc=>sp 1 hf rfl fun a hf=>zT h ?_
  refine wp_seq_k fun K7 h7=>zS fun K h=>sp 2 hf rfl fun a hf=>zT h ?_
  refine zI hf rfl hF ?_ ?_ <;> clear hF <;> intro hF
  ·refine zS fun K h=>sp 3 hf rfl fun a hf=>zT h ?_
   refine wp_ret ?_
   refine aL ?_
   obtain rfl:=sj hF
   replace hc:=hc.nilRow 62 2
   replace hc:=((((hc.drop k5).drop k4).drop k3).drop k2).drop k1
   exact zO2 Tryz.results12 hf rfl rfl ⟨none,0,rfl,hc⟩
  ·refine wp_skip ?_
   refine h7 _ _ ?_
   refine zS fun K h=>zL hf hc vB m1 rfl fun a w hf hc=>?_
   obtain ⟨x,t,hF⟩:=aA hF
   refine zC hf aKb rfl (kO (⟨(⟨r.Down,r.Travel,r.Springs,r.Towns,(⟨Y.1,Y.2.1⟩:aN),r.Floods⟩:aH),Y.2.2.1⟩:aF) M H B I D ((hc.pick k2).pick k3) t) ?_
   rintro _ w ⟨ag,ad,rfl,hc⟩
   refine ⟨_,rfl,fun a hf=>?_⟩
   refine zP hf rfl (pMF (us:=[pq aa,pq v]) rfl rfl) fun a hf=>?_
   obtain ⟨ap,u,hF⟩:=aA hF
   refine zC hf en_33 rfl (nG x (⟨(⟨r.Down,r.Travel,r.Springs,r.Towns,(⟨Y.1,Y.2.1⟩:aN),r.Floods⟩:aH),Y.2.2.1⟩:aF) Y.2.2.2.1 M H B I D (((((hc.pick k3).pick k3).pick k3).pick k4).pick k4) u) ?_
   rintro _ w ⟨y,ab,ac,rfl,hc⟩
   refine ⟨_,rfl,fun a hf=>?_⟩
   refine sp 2 hf rfl fun a hf=>zT h ?_
   refine wp_ret ?_
   obtain rfl:=sj hF
   replace hc:=((((hc.drop k5).drop k4).drop k3).drop k2).drop k1
   exact zO2 Tryz.results12 hf rfl rfl ⟨y,ab,rfl,hc⟩

def pL (N:Nat) (l:List Int):Option ((List Int)) :=
 Option.bind (room (l).length) fun un=>
 some l
theorem xJ {N:Nat} {G:aT} {Lf:List Ent} {w:World} (l:List Int) {H:Option Addr} {D:Nat} (S:Rd G 1 H D (l.map aB)) (hc:Ctx G (Lf) w) {B:(List Int)} (hF:pL N l=some B):Calls Tryz.prog 16 #[.slice H l.length D] w (fun e w=>∃ (J:Option Addr) (I:Nat),e=.returned (.slice J B.length I)∧Ctx G (.row J I (B.map aB) 3 1::Lf) w):=by
 unfold pL at hF
 refine bL Tryz.func16 rfl Tryz.ntmps16 rfl fun a hf=>zS fun K h=>sp 1 hf rfl fun a hf=>zT h ?_
 refine zS fun K h=>sp 1 hf rfl fun a hf=>zT h ?_
 refine zS fun K h=>sp 2 hf rfl fun a hf=>?_
 replace hc:=hc.nilRow 3 1
 obtain ⟨un,M,hF⟩:=aA hF
 refine pC (xs:=([]:List Int)) (ys:=l) hf hc rfl rfl jA rfl rfl rfl rfl rfl bZ (aGp hc S) (fun _ _=>u0) (by simpa using fD M) fun R O a w hf hc=>sp 1 hf rfl fun a hf=>zT h ?_
 refine wp_ret ?_
 obtain rfl:=sj hF
 exact zO1 Tryz.results16 hf rfl ⟨R,O,rfl,hc⟩

def iX (n:Int) (x:Int):Bool :=
 (n == x)
theorem tD {G:aT} {Lf:List Ent} {w:World} (n:Int) (x:Int) {b_:Nat}  (hc:Ctx G (.box b_ [i6 x] 3::Lf) w) {B:Bool} (hF:iX n x=B):Calls Tryz.prog 17 #[i6 n,pq b_] w (fun e w=>e=.returned (.bool B)∧Ctx G (.box b_ [i6 x] 3::Lf) w):=by
 unfold iX at hF
 refine bL Tryz.func17 rfl Tryz.ntmps17 rfl fun a hf=>zS fun K h=>sp 1 hf rfl fun a hf=>zT h ?_
 refine zS fun K h=>sp 1 hf rfl fun a hf=>zL hf hc cR m0 rfl fun a w hf hc=>sp 2 hf rfl fun a hf=>zT h ?_
 refine wp_ret ?_
 obtain rfl:=hF
 exact zO1 Tryz.results17 hf rfl ⟨rfl,hc⟩

def eR (N:Nat) (s_:List Int) (f_:Int) (x:Int):Option (bY (Int) (Int)) :=
 cond (decide (x < ((s_.length:Nat):Int)))
 (Option.bind (bE s_ x) fun B=>
 cond (iX B f_)
 (some (.ret x))
 (some (.cont (W (x + 1)))))
 (some (.brk x))
def iE (N:Nat) (s_:List Int) (f_:Int):Option (Int) :=
 Option.bind (aX (fun s4=>eR N s_ f_ s4) N 0) fun x4=>
 exK x4 (fun s4=>some (-1)) some
theorem qU {N:Nat} {G:aT} {Lf:List Ent} {w:World} (s_:List Int) (f_:Int) {H:Option Addr} {D:Nat} {b_:Nat} (O:Rd G 1 H D (s_.map aB)) (hc:Ctx G (.box b_ [i6 f_] 3::Lf) w) {I:Int} (hF:iE N s_ f_=some I):Calls Tryz.prog 39 #[.slice H s_.length D,.func (.func 17) #[] #[pq b_]] w (fun e w=>e=.returned (i6 I)∧Ctx G (.box b_ [i6 f_] 3::Lf) w):=by
 unfold iE at hF
 refine bL Tryz.func39 rfl Tryz.ntmps39 rfl fun a hf=>zS fun K h=>sp 1 hf rfl fun a hf=>zT h ?_
 refine wp_seq_k fun K2 h2=>zS fun K h=>sp 1 hf rfl fun a hf=>zP hf rfl (bG Tryz.underlying23 rfl) fun a hf=>sp 1 hf rfl fun a hf=>zT h ?_
 refine wp_block ?_
 obtain ⟨x4,V,hF⟩:=aA hF
 let S4:Int→Act→World→Prop:=(fun (zz:Int) a w=>Has 19 a [(0,.slice H s_.length D),(1,.func (.func 17) #[] #[pq b_]),(7,i6 ((s_.length:Nat):Int)),(8,i6 zz)]∧Ctx G (.box b_ [i6 f_] 3::Lf) w)
 have R:∀ (zz:Int) a w,x4=.go zz→S4 zz a w→K2 a w:=by
  rintro x a w rfl ⟨hf,hc⟩
  replace hF:=bK hF
  refine h2 _ _ ?_
  refine zS fun K h=>sp 1 hf rfl fun a hf=>zT h ?_
  refine wp_ret ?_
  obtain rfl:=sj hF
  exact zO1 Tryz.results39 hf rfl ⟨rfl,hc⟩
 have X:∀ r,x4=.out r→r=I:=by
  rintro r rfl
  exact sj hF
 refine cZ N (cW (S:=S4) (x:=x4) ?_ N 0 _ _ ⟨hf.kp rfl,hc⟩ V)
 clear hF hf hc
 rintro x Z a w KB4 ⟨hf,hc⟩ hF B U
 unfold eR at hF
 refine zS fun K h=>sp 1 hf rfl fun a hf=>zT h ?_
 refine wp_seq_k fun K7 h7=>zI hf rfl hF ?_ ?_ <;> clear hF <;> intro hF
 ·refine wp_skip ?_
  refine h7 _ _ ?_
  refine wp_seq_k fun K8 h8=>wp_block ?_
  refine zS fun K h=>sp 2 hf rfl fun a hf=>zT h ?_
  refine zS fun K h=>sp 3 hf rfl fun a hf=>?_
  obtain ⟨J,M,hF⟩:=aA hF
  obtain ⟨Y,o,qa,qp⟩:=O.atm M
  refine zP hf rfl (pIA Tryz.underlying23 fO rfl rfl qa) fun a hf=>zE hf hc rfl (eP cR rfl (dI (j:=0) qp rfl)) fun a w hf hc=>zQ (v:=.bool (iX J f_)) hf hc aQb rfl (fun w hc=>(tD J f_ (hc.pick k0) rfl).mono fun e w h=>⟨h.1,(h.2.unpick k0)⟩) fun a w hf hc=>zT h ?_
  refine zI hf rfl hF ?_ ?_ <;> clear hF <;> intro hF
  ·refine zS fun K h=>sp 2 hf rfl fun a hf=>zT h ?_
   refine wp_ret ?_
   refine bS ?_
   refine aL ?_
   refine aL ?_
   have he:=sj hF
   rw [← he] at B
   replace hF:=X _ B
   refine bS ?_
   refine aL ?_
   obtain rfl:=hF
   exact zO1 Tryz.results39 hf rfl ⟨rfl,hc⟩
  ·refine wp_skip ?_
   refine h8 _ _ ?_
   refine bV ?_
   refine sp 2 hf rfl fun a hf=>aP ?_
   exact U (W (x + 1)) _ _ (sj hF).symm ⟨hf.kp rfl,hc⟩
 ·refine wp_exit ?_
  refine aY ?_
  refine aY ?_
  have he:=sj hF
  rw [← he] at B
  refine fJ ?_
  exact R _ _ _ B ⟨hf.kp rfl,hc⟩

def eZ (N:Nat) (B:Int) (H:List Int) (D:Int):Option (bY ((List Int) × Int × Int) ((List Int))) :=
 some (.cont (H,D,W (B + 1)))
def fI (N:Nat) (J:Int) (B:List Int) (D:Int) (H:Int):Option (bY ((List Int) × Int × Int) ((List Int))) :=
 cond (decide (H < ((B.length:Nat):Int)))
 (Option.bind (bE B H) fun I=>
 cond (!(iX I J))
 (Option.bind (bE B D) fun M=>
 eZ N H (B.set D.toNat I) (W (D + 1)))
 (eZ N H B D))
 (some (.brk (B,D,H)))
def gP (N:Nat) (s_:List Int) (D:Int):Option ((List Int)) :=
 Option.bind (iE N s_ D) fun r=>
 cond (r == (-1))
 (some s_)
 (Option.bind (aX (fun s8=>fI N D s8.1 s8.2.1 s8.2.2) N (s_,r,W (r + 1))) fun x8=>
 exK x8 (fun s8=>Option.bind (rH s8.1 s8.2.1 ((s8.1.length:Nat):Int)) fun sub=>
 Option.bind (aGy sub.length) fun un=>
 Option.bind (rH s8.1 0 s8.2.1) fun B=>
 some B) some)
theorem sM {N:Nat} {G:aT} {Lf:List Ent} {w:World} (s_:List Int) (D:Int) {O:Option Addr} {R:Nat} {b_:Nat}  (hc:Ctx G (.row O R (s_.map aB) 3 1::.box b_ [i6 D] 3::Lf) w) {m:(List Int)} (hF:gP N s_ D=some m):Calls Tryz.prog 15 #[.slice O s_.length R,.func (.func 17) #[] #[pq b_]] w (fun e w=>∃ (t:Option Addr) (u:Nat),e=.returned (.slice t m.length u)∧Ctx G (.row t u (m.map aB) 3 1::.box b_ [i6 D] 3::Lf) w):=by
 unfold gP at hF
 refine bL Tryz.func15 rfl Tryz.ntmps15 rfl fun a hf=>zS fun K h=>sp 1 hf rfl fun a hf=>zT h ?_
 refine zS fun K h=>sp 2 hf rfl fun a hf=>?_
 obtain ⟨r,hr,hF⟩:=aA hF
 refine zQ (v:=i6 r) hf hc aAn rfl (fun w hc=>by obtain ⟨G1,ar,ab,hc,y⟩:=lend hc k0; exact (qU s_ D ab (hc.pick k0) hr).mono fun e w h=>⟨h.1,((y _ _ (h.2.unpick k0)).unpick k0)⟩) fun a w hf hc=>sp 1 hf rfl fun a hf=>zT h ?_
 refine wp_seq_k fun K3 h3=>zS fun K h=>sp 2 hf rfl fun a hf=>zT h ?_
 refine zI hf rfl hF ?_ ?_ <;> clear hF <;> intro hF
 ·refine zS fun K h=>sp 2 hf rfl fun a hf=>zT h ?_
  refine wp_ret ?_
  refine aL ?_
  obtain rfl:=sj hF
  exact zO1 Tryz.results15 hf rfl ⟨O,R,rfl,hc⟩
 ·refine wp_skip ?_
  refine h3 _ _ ?_
  refine wp_seq_k fun K6 h6=>zS fun K h=>sp 3 hf rfl fun a hf=>zT h ?_
  refine wp_block ?_
  obtain ⟨x8,an,hF⟩:=aA hF
  let S8:((List Int) × Int × Int)→Act→World→Prop:=(fun (zz:(List Int) × Int × Int) a w=>∃ (J:Option Addr) (B:Nat),Has 42 a [(0,.slice J zz.1.length B),(1,.func (.func 17) #[] #[pq b_]),(5,i6 zz.2.1),(6,i6 zz.2.2)]∧Ctx G (.row J B (zz.1.map aB) 3 1::.box b_ [i6 D] 3::Lf) w)
  have ap:∀ (zz:(List Int) × Int × Int) a w,x8=.go zz→S8 zz a w→K6 a w:=by
   rintro ⟨H,I,U⟩ a w rfl ⟨J,B,hf,hc⟩
   replace hF:=bK hF
   refine h6 _ _ ?_
   refine zS fun K h=>sp 2 hf rfl fun a hf=>?_
   have qc:=qX hc m0
   obtain ⟨sub,p,hF⟩:=aA hF
   refine zP hf rfl (pSl Tryz.underlying23 fO rfl rfl qc rfl rfl p) fun a hf=>?_
   obtain ⟨un,ag,hF⟩:=aA hF
   obtain ⟨d,X,hF⟩:=aA hF
   have ad:=qX hc m0
   refine aP6 (enc:=aB) (xs:=H) (s1:=sub) (s2:=d) (i:=I) hf hc rfl Tryz.underlying23 aJs rfl rfl (by decide) rfl rfl rfl p rfl ag X (fun x=>(bZ x).1) u0 fun w hc=>zT h ?_
   refine zS fun K h=>sp 2 hf rfl fun a hf=>zP hf rfl (Pu.cast (pSl (xs:=H) Tryz.underlying23 fO rfl rfl ad rfl rfl X) (congrArg (fun q=>Value.slice q d.length B) aNf)) fun a hf=>sp 1 hf rfl fun a hf=>zT h ?_
   refine wp_ret ?_
   obtain rfl:=sj hF
   exact zO1 Tryz.results15 hf rfl ⟨J,B,rfl,hc⟩
  have av:∀ r,x8=.out r→r=m:=by
   rintro r rfl
   exact sj hF
  refine cZ N (cW (S:=S8) (x:=x8) ?_ N (s_,r,W (r + 1)) _ _ ⟨O,R,hf.kp rfl,hc⟩ an)
  clear hF hf hc
  rintro ⟨H,I,U⟩ am a w KB8 ⟨J,B,hf,hc⟩ hF n ai
  unfold fI at hF
  refine wp_seq_k fun K11 ak=>zS fun K h=>sp 2 hf rfl fun a hf=>zP hf rfl (bG Tryz.underlying23 rfl) fun a hf=>sp 1 hf rfl fun a hf=>zT h ?_
  refine zI hf rfl hF ?_ ?_ <;> clear hF <;> intro hF
  ·refine wp_skip ?_
   refine ak _ _ ?_
   refine wp_seq_k fun K13 af=>?_
   have s:∀ (V:List Int) (Y:Int) (Z:Option Addr) (b:Nat) a w,Has 42 a [(0,.slice Z V.length b),(1,.func (.func 17) #[] #[pq b_]),(5,i6 Y),(6,i6 U)]→Ctx G (.row Z b (V.map aB) 3 1::.box b_ [i6 D] 3::Lf) w→eZ N U V Y=some am→K13 a w:=by
    repeat (clear hF)
    repeat (clear hc)
    repeat (clear hf)
    intro V Y Z b a w hf hc hF
    unfold eZ at hF
    refine af _ _ ?_
    refine bV ?_
    refine sp 3 hf rfl fun a hf=>aP ?_
    exact ai (V,Y,W (U + 1)) _ _ (sj hF).symm ⟨Z,b,hf.kp rfl,hc⟩
   refine wp_block ?_
   refine zS fun K h=>sp 2 hf rfl fun a hf=>?_
   obtain ⟨M,aa,hF⟩:=aA hF
   have aj:=hf
   obtain ⟨g,rfl,qa,qr⟩:=hP hc m0 aa
   have hf:=aj
   refine zP hf rfl (pIA Tryz.underlying23 fO rfl rfl qa) fun a hf=>zE hf hc rfl (eP cR rfl (fZ (sz:=1) (i:=U.toNat) (j:=0) m0 qr rfl)) fun a w hf hc=>sp 1 hf rfl fun a hf=>zT h ?_
   refine zS fun K h=>sp 2 hf rfl fun a hf=>zQ (v:=.bool (iX M D)) hf hc aQb rfl (fun w hc=>(tD M D (hc.pick k1) rfl).mono fun e w h=>⟨h.1,(h.2.unpick k1)⟩) fun a w hf hc=>sp 1 hf rfl fun a hf=>zT h ?_
   refine zI hf rfl hF ?_ ?_ <;> clear hF <;> intro hF
   ·refine zS fun K h=>sp 3 hf rfl fun a hf=>?_
    obtain ⟨au,o,hF⟩:=aA hF
    obtain ⟨ac,aq⟩:=eY hc m0 o
    refine zP hf rfl (pIA Tryz.underlying23 fO rfl rfl ac) fun a hf=>yA (sz:=1) (vs:=[i6 M]) (o':=0) (z:=M) (xs:=H) hf hc rfl rfl rfl rfl fO rfl (fun x=>(bZ x).1) (mL o) (fun _ _=>rfl) rfl u0 fun w hc=>zT h ?_
    refine bV ?_
    refine sp 3 hf rfl fun a hf=>aP ?_
    replace hf:=hf.castAt 0 (v':=.slice (some ⟨g,0,none⟩) ((H.set I.toNat M).length) B) rfl (congrArg (fun k=>Value.slice (some ⟨g,0,none⟩) k B) (by simp))
    exact s (H.set I.toNat M) (W (I + 1)) (some ⟨g,0,none⟩) B _ _  (hf.kp rfl) hc hF
   ·refine wp_skip ?_
    exact s H I (some ⟨g,0,none⟩) B _ _  (hf.kp rfl) hc hF
  ·refine wp_exit ?_
   refine aY ?_
   refine aY ?_
   have he:=sj hF
   rw [← he] at n
   refine fJ ?_
   exact ap _ _ _ n ⟨J,B,hf.kp rfl,hc⟩

def jD (N:Nat) (s_:List Int) (i_:Int) (j_:Int):Option ((List Int)) :=
 delO s_ i_ j_
/-! ### Walks of the library -/

theorem uS {N:Nat} {G:aT} {Lf:List Ent} {w:World} (s_:List Int) (i_:Int) (j_:Int) {B:Option Addr} {H:Nat}  (hc:Ctx G (.row B H (s_.map aB) 3 1::Lf) w) {D:(List Int)} (hF:jD N s_ i_ j_=some D):Calls Tryz.prog 18 #[.slice B s_.length H,i6 i_,i6 j_] w (fun e w=>∃ (J:Option Addr) (I:Nat),e=.returned (.slice J D.length I)∧Ctx G (.row J I (D.map aB) 3 1::Lf) w):=by
 unfold jD at hF
 exact aMy (fun a c w=>Go.Proofs.Any.slices_Delete_int_empty Go.Proofs.Tryz.lays23 a c w) (fun b o c i j zs w h1 h2 h3 h4 h5=>Go.Proofs.Any.slices_Delete_int Go.Proofs.Tryz.lays23 b o c i j zs w h1 h2 h3 h4 h5) hc hF

def gN (N:Nat) (O:List (List Int)) (J:Int × Int × Int) (D:List (List Int)) (B:Int):Option (bY ((List (List Int)) × Int) (Bool)) :=
 cond (decide (B < ((O.length:Nat):Int)))
 (Option.bind (bE D B) fun M=>
 Option.bind (pL N M) fun H=>
 Option.bind (gP N H J.1) fun I=>
 Option.bind (bE D B) fun R=>
 some (.cont ((D.set B.toNat I),W (B + 1))))
 (some (.brk (D,B)))
def lL (N:Nat) (D:Int) (B:List Int):Option (bY ((List Int) × Int) (Bool)) :=
 some (.cont (B,W (D + 1)))
def gS (N:Nat) (I:(List Int) × Int) (M:(List Int) × Int) (D:List Int) (B:Int):Option (bY ((List Int) × Int) (Bool)) :=
 cond (decide (B < ((I.1.length:Nat):Int)))
 (Option.bind (bE I.1 B) fun H=>
 Option.bind (bB N M.1 B) fun J=>
 cond J
 (Option.bind (room ((D++[H])).length) fun O=>
 lL N B (D++[H]))
 (lL N B D))
 (some (.brk (D,B)))
def gQ (N:Nat) (I:List Int) (more:Int) (J:(List Int) × Int) (D:Int) (O:Int) (M:Int) (H:List aJ):Option (bY (Int × Int × Int × (List aJ)) (Bool)) :=
 cond (decide (D < ((J.1.length:Nat):Int)))
 (Option.bind (tS N (⟨I,O,M⟩:aZ) (W (((J.1.length:Nat):Int) + ((W (more)).tmod (W ((W (12 - ((J.1.length:Nat):Int))) + 1)))))) fun B=>
 Option.bind (room ((H++[(⟨1,B.1⟩:aJ)])).length) fun R=>
 some (.cont (W (D + 1),B.2.1,B.2.2,(H++[(⟨1,B.1⟩:aJ)]))))
 (some (.brk (D,O,M,H)))
def gT (N:Nat) (H:List Int) (more:Int) (I:(List Int) × Int) (x:Int) (M:Int) (J:Int) (D:List (List Int)):Option (bY (Int × Int × Int × (List (List Int))) (Bool)) :=
 cond (decide (x < (W (((I.1.length:Nat):Int) + ((W (more)).tmod (W ((W (12 - ((I.1.length:Nat):Int))) + 1)))))))
 (Option.bind (tS N (⟨H,M,J⟩:aZ) ((I.1.length:Nat):Int)) fun B=>
 Option.bind (room ((D++[B.1])).length) fun O=>
 some (.cont (W (x + 1),B.2.1,B.2.2,(D++[B.1]))))
 (some (.brk (x,M,J,D)))
def oZ (N:Nat) (O:List Int) (J:List Int) (more:Int):Option (Bool) :=
 Option.bind (aBe N O) fun r=>
 Option.bind (uP N (⟨O,r.1,r.2⟩:aZ) 8) fun B=>
 Option.bind (uB N B.1.Down B.1.Travel B.1.Springs B.1.Towns B.1.Delay.Lo B.1.Delay.Hi B.1.Floods) fun H=>
 Option.bind (aBe N J) fun b=>
 Option.bind (pG N (⟨B.1.Down,B.1.Travel,B.1.Springs,H.1,(⟨H.2.1,H.2.2.1⟩:aN),B.1.Floods⟩:aH)) fun D=>
 cond (((!H.2.2.2) || (D.2 != 0)) || (decide (((B.1.Down.length:Nat):Int) < ((D.1.length:Nat):Int))))
 (some false)
 (cond (((D.1.length:Nat):Int) == 0)
 (Option.bind (sU N) fun o=>
 some o)
 (Option.bind (nz (W ((W (12 - ((D.1.length:Nat):Int))) + 1))) fun un=>
 Option.bind (aX (fun I=>gT N J more D I.1 I.2.1 I.2.2.1 I.2.2.2) N (0,b.1,b.2,([]:List (List Int)))) fun t=>
 exK t (fun I=>Option.bind (aX (fun M=>gQ N J more D M.1 M.2.1 M.2.2.1 M.2.2.2) N (0,I.2.1,I.2.2.1,([]:List aJ))) fun s=>
 exK s (fun M=>Option.bind (nS N (⟨I.2.2.2,M.2.2.2⟩:aE)) fun X=>
 cond ((X.2 != 0) || (((X.1.length:Nat):Int) != (W (((D.1.length:Nat):Int) + ((W (more)).tmod (W ((W (12 - ((D.1.length:Nat):Int))) + 1)))))))
 (some false)
 (Option.bind (aX (fun R=>gS N D X R.1 R.2) N (([]:List Int),0)) fun n=>
 exK n (fun R=>Option.bind (sD N (⟨B.1.Down,B.1.Travel,B.1.Springs,H.1,(⟨H.2.1,H.2.2.1⟩:aN),B.1.Floods⟩:aH) R.1) fun Z=>
 Option.bind (cond ((Z.2 != 0) || (decide (0 < ((Z.1.length:Nat):Int)))) (some true) (Option.bind (mI N R.1 D.1) fun u=>
 some (!u))) fun m=>
 cond m
 (some false)
 (Option.bind (bW N (⟨J,M.2.1,M.2.2.1⟩:aZ) ((D.1.length:Nat):Int)) fun V=>
 Option.bind (aX (fun U=>gN N I.2.2.2 V U.1 U.2) N (I.2.2.2,0)) fun p=>
 exK p (fun U=>Option.bind (nS N (⟨U.1,M.2.2.2⟩:aE)) fun S=>
 Option.bind (cond ((S.2 != 0) || (((S.1.length:Nat):Int) != (W (((D.1.length:Nat):Int) + ((W (more)).tmod (W ((W (12 - ((D.1.length:Nat):Int))) + 1))))))) (some true) (Option.bind (bB N S.1 V.1) fun g=>
 some g)) fun k=>
 cond k
 (some false)
 (Option.bind (pL N D.1) fun i=>
 Option.bind (jD N i V.1 (W (V.1 + 1))) fun j=>
 Option.bind (sD N (⟨B.1.Down,B.1.Travel,B.1.Springs,H.1,(⟨H.2.1,H.2.2.1⟩:aN),B.1.Floods⟩:aH) j) fun Y=>
 Option.bind (cond ((Y.2 == 0) && (decide (0 < ((Y.1.length:Nat):Int)))) (Option.bind (sU N) fun d=>
 some d) (some false)) fun q=>
 some q)) some)) some)) some) some))
theorem aBd {N:Nat} {G:aT} {Lf:List Ent} {w:World} (bf:List Int) (U:List Int) (more:Int) {b3:Option Addr} {b5:Nat} {Y:Option Addr} {V:Nat} (b4:Rd G 1 b3 b5 (bf.map tI)) (bj:Rd G 1 Y V (U.map tI)) (hc:Ctx G (Lf) w) {ci:Bool} (hF:oZ N bf U more=some ci):Calls Tryz.prog 3 #[.slice b3 bf.length b5,.slice Y U.length V,.int .u8 more] w (fun e w=>e=.returned (.bool ci)∧Ctx G (Lf) w):=by
 unfold oZ at hF
 refine bL Tryz.func3 rfl Tryz.ntmps3 rfl fun a hf=>zS fun K h=>sp 1 hf rfl fun a hf=>zT h ?_
 refine zS fun K h=>sp 1 hf rfl fun a hf=>?_
 obtain ⟨r,hr,hF⟩:=aA hF
 refine zC hf en_6 rfl (aEf bf b4 hc hr) ?_
 rintro _ w ⟨ku,rfl,hc⟩
 refine ⟨_,rfl,fun a hf=>?_⟩
 obtain ⟨B,i2,hF⟩:=aA hF
 refine zC hf en_5 rfl (aFh (⟨bf,r.1,r.2⟩:aZ) 8 b4 (hc.pick k0) i2) ?_
 rintro _ w ⟨af,ab,s,aa,ag,ad,kr,kq,ai,M,rfl,hc⟩
 refine ⟨_,rfl,fun a hf=>?_⟩
 obtain ⟨H,i3,hF⟩:=aA hF
 obtain ⟨G1,bd,am,hc,ak⟩:=lend hc k0
 obtain ⟨G2,a8,a9,hc,a7⟩:=lend hc k0
 obtain ⟨G3,ba,bq,hc,br⟩:=lend hc k0
 obtain ⟨G4,a2,bs,hc,bt⟩:=zH aGm hc k1 k1
 refine zC hf en_4 rfl (aFc B.1.Down B.1.Travel B.1.Springs B.1.Towns B.1.Delay.Lo B.1.Delay.Hi B.1.Floods (((am.mono a8).mono ba).mono a2) ((a9.mono ba).mono a2) (bq.mono a2) bs (hc.pick k0) i3) ?_
 rintro _ w ⟨aj,ac,rfl,hc⟩
 refine ⟨_,rfl,fun a hf=>?_⟩
 replace hc:=bt _ _ hc
 replace hc:=br _ _ hc
 replace hc:=a7 _ _ hc
 replace hc:=ak _ _ hc
 refine sp 3 hf rfl fun a hf=>zA hf hc aJu rfl fun n a w hf hc=>zW hf hc aIn u0 rfl fun w hc=>sp 1 hf rfl fun a hf=>zT h ?_
 refine wp_seq_k fun K3 h3=>bV ?_
 refine sp 1 hf rfl fun a hf=>?_
 obtain ⟨gf,gv,hF⟩:=aA hF
 refine zC hf en_6 rfl (aEf U bj hc gv) ?_
 rintro _ w ⟨aq,rfl,hc⟩
 refine ⟨_,rfl,fun a hf=>?_⟩
 refine sp 1 hf rfl fun a hf=>aP ?_
 replace hc:=hc.drop k8
 refine h3 _ _ ?_
 refine zS fun K h=>zN hf hc oK m1 rfl fun a w hf hc=>?_
 obtain ⟨D,g8,hF⟩:=aA hF
 obtain ⟨G1,bd,am,hc,ak⟩:=lend hc k2
 obtain ⟨G2,a8,a9,hc,a7⟩:=lend hc k2
 obtain ⟨G3,ba,bq,hc,br⟩:=lend hc k2
 obtain ⟨G4,a2,bs,hc,bt⟩:=lend hc k4
 obtain ⟨G5,a3,cd,hc,cc⟩:=zH aGm hc k2 k2
 refine zC hf en_7 rfl (aDg (⟨B.1.Down,B.1.Travel,B.1.Springs,H.1,(⟨H.2.1,H.2.2.1⟩:aN),B.1.Floods⟩:aH) ((((am.mono a8).mono ba).mono a2).mono a3) (((a9.mono ba).mono a2).mono a3) ((bq.mono a2).mono a3) (bs.mono a3) cd hc g8) ?_
 rintro _ w ⟨a6,a5,rfl,hc⟩
 refine ⟨_,rfl,fun a hf=>?_⟩
 replace hc:=cc _ _ hc
 replace hc:=bt _ _ hc
 replace hc:=br _ _ hc
 replace hc:=a7 _ _ hc
 replace hc:=ak _ _ hc
 refine sp 5 hf rfl fun a hf=>zT h ?_
 refine wp_seq_k fun K5 h5=>zS fun K h=>sp 3 hf rfl fun a hf=>jX 3 (fun a=>Has 200 a [(2,.int .u8 more),(7,pq n),(8,.bool H.2.2.2),(9,pq aq),(10,.slice a6 D.1.length a5),(11,i6 D.2),(37,.bool H.2.2.2),(38,.bool (!H.2.2.2)),(39,.bool (!H.2.2.2)),(42,.bool ((!H.2.2.2) || (D.2 != 0)))]) hc ?_ ?_
 ·cases hb:(!H.2.2.2)
  ·rw [hb] at hf
   refine sp 3 hf rfl fun a hf=>aP ⟨hf.kp rfl,hc⟩
  ·rw [hb] at hf
   refine stS hf rfl rfl rfl fun a hf=>stS hf rfl rfl rfl fun a hf=>sp 1 hf rfl fun a hf=>aP ⟨hf.kp rfl,hc⟩
 intro a w ⟨hf,hc⟩
 refine sp 1 hf rfl fun a hf=>jX 7 (fun a=>Has 200 a [(2,.int .u8 more),(7,pq n),(8,.bool H.2.2.2),(9,pq aq),(10,.slice a6 D.1.length a5),(11,i6 D.2),(37,.bool H.2.2.2),(38,.bool (!H.2.2.2)),(39,.bool (!H.2.2.2)),(42,.bool ((!H.2.2.2) || (D.2 != 0))),(43,.bool ((!H.2.2.2) || (D.2 != 0))),(50,.bool (((!H.2.2.2) || (D.2 != 0)) || (decide (((B.1.Down.length:Nat):Int) < ((D.1.length:Nat):Int)))))]) hc ?_ ?_
 ·cases hb:((!H.2.2.2) || (D.2 != 0))
  ·rw [hb] at hf
   refine sp 1 hf rfl fun a hf=>zP hf rfl (bG Tryz.underlying23 rfl) fun a hf=>zP hf rfl (pFA sI rfl) fun a hf=>zL hf hc hY m8 rfl fun a w hf hc=>zP hf rfl (bG Tryz.underlying23 rfl) fun a hf=>sp 2 hf rfl fun a hf=>aP ⟨hf.kp rfl,hc⟩
  ·rw [hb] at hf
   refine stS hf rfl rfl rfl fun a hf=>stS hf rfl rfl rfl fun a hf=>stS hf rfl rfl rfl fun a hf=>stS hf rfl rfl rfl fun a hf=>stS hf rfl rfl rfl fun a hf=>stS hf rfl rfl rfl fun a hf=>sp 1 hf rfl fun a hf=>aP ⟨hf.kp rfl,hc⟩
 intro a w ⟨hf,hc⟩
 refine zT h ?_
 refine zI hf rfl hF ?_ ?_ <;> clear hF <;> intro hF
 ·refine wp_seq_k fun K7 h7=>bV ?_
  refine sp 1 hf rfl fun a hf=>aP ?_
  replace hc:=((((((((hc.drop k8).drop k7).drop k6).drop k5).drop k4).drop k3).drop k2).drop k1).drop k0
  refine h7 _ _ ?_
  refine wp_ret ?_
  refine aL ?_
  obtain rfl:=sj hF
  exact zO1 Tryz.results3 hf rfl ⟨rfl,hc⟩
 ·refine wp_skip ?_
  refine h5 _ _ ?_
  refine wp_seq_k fun K8 h8=>zS fun K h=>sp 1 hf rfl fun a hf=>zP hf rfl (bG Tryz.underlying23 rfl) fun a hf=>sp 1 hf rfl fun a hf=>zT h ?_
  refine zI hf rfl hF ?_ ?_ <;> clear hF <;> intro hF
  ·refine wp_seq_k fun K10 ju=>bV ?_
   obtain ⟨jb,g0,hF⟩:=aA hF
   refine zQ (v:=.bool jb) hf hc en_8 rfl (fun w hc=>yP hc g0) fun a w hf hc=>sp 1 hf rfl fun a hf=>aP ?_
   replace hc:=((((((((hc.drop k8).drop k7).drop k6).drop k5).drop k4).drop k3).drop k2).drop k1).drop k0
   refine ju _ _ ?_
   refine wp_ret ?_
   refine aL ?_
   obtain rfl:=sj hF
   exact zO1 Tryz.results3 hf rfl ⟨rfl,hc⟩
  ·refine wp_skip ?_
   refine h8 _ _ ?_
   refine zS fun K h=>sp 1 hf rfl fun a hf=>zP hf rfl (bG Tryz.underlying23 rfl) fun a hf=>sp 1 hf rfl fun a hf=>zP hf rfl (pCv Tryz.underlying5 Tryz.underlying3 rfl) fun a hf=>sp 1 hf rfl fun a hf=>zP hf rfl (bG Tryz.underlying23 rfl) fun a hf=>sp 2 hf rfl fun a hf=>?_
   obtain ⟨un,i8,hF⟩:=aA hF
   refine zP hf rfl (pRem rfl rfl (aDs i8)) fun a hf=>sp 2 hf rfl fun a hf=>zT h ?_
   refine zS fun K h=>zA hf hc aP7 rfl fun m a w hf hc=>zT h ?_
   refine wp_seq_k fun K13 i5=>zS fun K h=>sp 2 hf rfl fun a hf=>zT h ?_
   refine wp_block ?_
   obtain ⟨dv,gr,hF⟩:=aA hF
   let S15:(Int × Int × Int × (List (List Int)))→Act→World→Prop:=(fun (zz:Int × Int × Int × (List (List Int))) a w=>∃ (ay:Option Addr) (I:aCq),Has 200 a [(7,pq n),(9,pq aq),(10,.slice a6 D.1.length a5),(12,i6 (W (((D.1.length:Nat):Int) + ((W (more)).tmod (W ((W (12 - ((D.1.length:Nat):Int))) + 1)))))),(13,pq m),(65,i6 (W (((D.1.length:Nat):Int) + ((W (more)).tmod (W ((W (12 - ((D.1.length:Nat):Int))) + 1)))))),(66,i6 zz.1)]∧Ctx G (.row ay I.1 ((aU I.2 zz.2.2.2).map (Kd.v cL)) 23 1::cK cL (aU I.2 zz.2.2.2)::.box m [.slice ay zz.2.2.2.length I.1,.slice none 0 0] 43::.row af ab (B.1.Down.map aB) 3 1::.row s aa (B.1.Travel.map aI) 27 2::.row ag ad (B.1.Springs.map aB) 3 1::.row aj ac (H.1.map aG) 65 3::.row ai M.1 ((aU M.2 B.1.Floods).map (Kd.v cH)) 68 2::cK cH (aU M.2 B.1.Floods)::.row a6 a5 (D.1.map aB) 3 1::.box aq [.slice Y U.length V,i6 zz.2.1,i6 zz.2.2.1] 70::.box n [.slice af B.1.Down.length ab,.slice s B.1.Travel.length aa,.slice ag B.1.Springs.length ad,.slice aj H.1.length ac,i6 H.2.1,i6 H.2.2.1,.slice ai B.1.Floods.length M.1] 30::Lf) w)
   have gz:∀ (zz:Int × Int × Int × (List (List Int))) a w,dv=.go zz→S15 zz a w→K13 a w:=by
    rintro ⟨x,c7,c6,R⟩ a w rfl ⟨ay,I,hf,hc⟩
    replace hF:=bK hF
    refine i5 _ _ ?_
    refine wp_seq_k fun K16 j5=>zS fun K h=>sp 1 hf rfl fun a hf=>zP hf rfl (bG Tryz.underlying23 rfl) fun a hf=>sp 1 hf rfl fun a hf=>zT h ?_
    refine wp_block ?_
    obtain ⟨df,gu,hF⟩:=aA hF
    let S18:(Int × Int × Int × (List aJ))→Act→World→Prop:=(fun (zz:Int × Int × Int × (List aJ)) a w=>∃ (a0:Option Addr) (J:aCq),Has 200 a [(7,pq n),(9,pq aq),(10,.slice a6 D.1.length a5),(12,i6 (W (((D.1.length:Nat):Int) + ((W (more)).tmod (W ((W (12 - ((D.1.length:Nat):Int))) + 1)))))),(13,pq m),(79,i6 ((D.1.length:Nat):Int)),(80,i6 zz.1)]∧Ctx G (.row a0 J.1 ((aU J.2 zz.2.2.2).map (Kd.v dP)) 46 2::cK dP (aU J.2 zz.2.2.2)::.row ay I.1 ((aU I.2 R).map (Kd.v cL)) 23 1::cK cL (aU I.2 R)::.box m [.slice ay R.length I.1,.slice a0 zz.2.2.2.length J.1] 43::.row af ab (B.1.Down.map aB) 3 1::.row s aa (B.1.Travel.map aI) 27 2::.row ag ad (B.1.Springs.map aB) 3 1::.row aj ac (H.1.map aG) 65 3::.row ai M.1 ((aU M.2 B.1.Floods).map (Kd.v cH)) 68 2::cK cH (aU M.2 B.1.Floods)::.row a6 a5 (D.1.map aB) 3 1::.box aq [.slice Y U.length V,i6 zz.2.1,i6 zz.2.2.1] 70::.box n [.slice af B.1.Down.length ab,.slice s B.1.Travel.length aa,.slice ag B.1.Springs.length ad,.slice aj H.1.length ac,i6 H.2.1,i6 H.2.2.1,.slice ai B.1.Floods.length M.1] 30::Lf) w)
    have gj:∀ (zz:Int × Int × Int × (List aJ)) a w,df=.go zz→S18 zz a w→K16 a w:=by
     rintro ⟨c4,ck,cg,Z⟩ a w rfl ⟨a0,J,hf,hc⟩
     replace hF:=bK hF
     refine j5 _ _ ?_
     refine zS fun K h=>zN hf hc aFl m4 rfl fun a w hf hc=>?_
     obtain ⟨bg,ix,hF⟩:=aA hF
     obtain ⟨G1,bd,am,hc,ak⟩:=zH aG3 hc k2 k2
     obtain ⟨G2,a8,a9,hc,a7⟩:=zH aJl hc k0 k0
     refine zC hf aN3 rfl (uH (⟨R,Z⟩:aE) (am.mono a8) a9 hc ix) ?_
     rintro _ w ⟨cb,ct,rfl,hc⟩
     refine ⟨_,rfl,fun a hf=>?_⟩
     replace hc:=a7 _ _ hc
     replace hc:=ak _ _ hc
     refine sp 5 hf rfl fun a hf=>zT h ?_
     refine wp_seq_k fun K20 j7=>zS fun K h=>sp 3 hf rfl fun a hf=>jX 5 (fun a=>Has 200 a [(7,pq n),(9,pq aq),(10,.slice a6 D.1.length a5),(12,i6 (W (((D.1.length:Nat):Int) + ((W (more)).tmod (W ((W (12 - ((D.1.length:Nat):Int))) + 1)))))),(13,pq m),(14,.slice cb bg.1.length ct),(11,i6 bg.2),(97,i6 bg.2),(98,.bool (bg.2 != 0)),(99,.bool (bg.2 != 0)),(104,.bool ((bg.2 != 0) || (((bg.1.length:Nat):Int) != (W (((D.1.length:Nat):Int) + ((W (more)).tmod (W ((W (12 - ((D.1.length:Nat):Int))) + 1))))))))]) hc ?_ ?_
     ·cases hb:(bg.2 != 0)
      ·rw [hb] at hf
       refine sp 1 hf rfl fun a hf=>zP hf rfl (bG Tryz.underlying23 rfl) fun a hf=>sp 3 hf rfl fun a hf=>aP ⟨hf.kp rfl,hc⟩
      ·rw [hb] at hf
       refine stS hf rfl rfl rfl fun a hf=>stS hf rfl rfl rfl fun a hf=>stS hf rfl rfl rfl fun a hf=>stS hf rfl rfl rfl fun a hf=>sp 1 hf rfl fun a hf=>aP ⟨hf.kp rfl,hc⟩
     intro a w ⟨hf,hc⟩
     refine zT h ?_
     refine zI hf rfl hF ?_ ?_ <;> clear hF <;> intro hF
     ·refine wp_seq_k fun K22 jm=>bV ?_
      refine sp 1 hf rfl fun a hf=>aP ?_
      replace hc:=((((((((((((((hc.drop k14).drop k13).drop k12).drop k11).drop k10).drop k9).drop k8).drop k7).drop k6).drop k5).drop k4).drop k3).drop k2).drop k1).drop k0
      refine jm _ _ ?_
      refine wp_ret ?_
      refine aL ?_
      obtain rfl:=sj hF
      exact zO1 Tryz.results3 hf rfl ⟨rfl,hc⟩
     ·refine wp_skip ?_
      refine j7 _ _ ?_
      refine zS fun K h=>sp 1 hf rfl fun a hf=>zT h ?_
      refine wp_seq_k fun K24 j3=>zS fun K h=>sp 1 hf rfl fun a hf=>zP hf rfl (bG Tryz.underlying23 rfl) fun a hf=>sp 1 hf rfl fun a hf=>zT h ?_
      refine wp_block ?_
      obtain ⟨dd,gx,hF⟩:=aA hF
      let S26:((List Int) × Int)→Act→World→Prop:=(fun (zz:(List Int) × Int) a w=>∃ (an:Option Addr) (ax:Nat) (bm:Option Addr) (b2:Nat),Has 200 a [(7,pq n),(9,pq aq),(10,.slice an D.1.length ax),(12,i6 (W (((D.1.length:Nat):Int) + ((W (more)).tmod (W ((W (12 - ((D.1.length:Nat):Int))) + 1)))))),(13,pq m),(14,.slice cb bg.1.length ct),(15,.slice bm zz.1.length b2),(105,.slice an D.1.length ax),(106,i6 ((D.1.length:Nat):Int)),(107,i6 zz.2)]∧Ctx G (.row bm b2 (zz.1.map aB) 3 1::.row ay I.1 ((aU I.2 R).map (Kd.v cL)) 23 1::cK cL (aU I.2 R)::.row a0 J.1 ((aU J.2 Z).map (Kd.v dP)) 46 2::cK dP (aU J.2 Z)::.row cb ct (bg.1.map aB) 3 1::.box m [.slice ay R.length I.1,.slice a0 Z.length J.1] 43::.row af ab (B.1.Down.map aB) 3 1::.row s aa (B.1.Travel.map aI) 27 2::.row ag ad (B.1.Springs.map aB) 3 1::.row aj ac (H.1.map aG) 65 3::.row ai M.1 ((aU M.2 B.1.Floods).map (Kd.v cH)) 68 2::cK cH (aU M.2 B.1.Floods)::.row an ax (D.1.map aB) 3 1::.box aq [.slice Y U.length V,i6 ck,i6 cg] 70::.box n [.slice af B.1.Down.length ab,.slice s B.1.Travel.length aa,.slice ag B.1.Springs.length ad,.slice aj H.1.length ac,i6 H.2.1,i6 H.2.2.1,.slice ai B.1.Floods.length M.1] 30::Lf) w)
      have ik:∀ (zz:(List Int) × Int) a w,dd=.go zz→S26 zz a w→K24 a w:=by
       rintro ⟨bk,cj⟩ a w rfl ⟨an,ax,bm,b2,hf,hc⟩
       replace hF:=bK hF
       refine j3 _ _ ?_
       refine wp_seq_k fun K27 j1=>bV ?_
       refine zN hf hc oK m15 rfl fun a w hf hc=>sp 1 hf rfl fun a hf=>?_
       obtain ⟨a4,gk,hF⟩:=aA hF
       obtain ⟨G1,bd,am,hc,ak⟩:=lend hc k7
       obtain ⟨G2,a8,a9,hc,a7⟩:=lend hc k7
       obtain ⟨G3,ba,bq,hc,br⟩:=lend hc k7
       obtain ⟨G4,a2,bs,hc,bt⟩:=lend hc k7
       obtain ⟨G5,a3,cd,hc,cc⟩:=zH aGm hc k7 k7
       obtain ⟨G6,bb,cy,hc,c0⟩:=lend hc k0
       refine zC hf aQa rfl (aBm (⟨B.1.Down,B.1.Travel,B.1.Springs,H.1,(⟨H.2.1,H.2.2.1⟩:aN),B.1.Floods⟩:aH) bk (((((am.mono a8).mono ba).mono a2).mono a3).mono bb) ((((a9.mono ba).mono a2).mono a3).mono bb) (((bq.mono a2).mono a3).mono bb) ((bs.mono a3).mono bb) (cd.mono bb) cy hc gk) ?_
       rintro _ w ⟨c9,dn,rfl,hc⟩
       refine ⟨_,rfl,fun a hf=>?_⟩
       replace hc:=c0 _ _ hc
       replace hc:=cc _ _ hc
       replace hc:=bt _ _ hc
       replace hc:=br _ _ hc
       replace hc:=a7 _ _ hc
       replace hc:=ak _ _ hc
       refine sp 5 hf rfl fun a hf=>aP ?_
       replace hc:=hc.drop k12
       refine j1 _ _ ?_
       refine wp_seq_k fun K28 ji=>wp_seq_k fun K29 jn=>bV ?_
       refine sp 3 hf rfl fun a hf=>jX 4 (fun a=>Has 200 a [(7,pq n),(9,pq aq),(10,.slice an D.1.length ax),(12,i6 (W (((D.1.length:Nat):Int) + ((W (more)).tmod (W ((W (12 - ((D.1.length:Nat):Int))) + 1)))))),(13,pq m),(15,.slice bm bk.length b2),(18,.slice c9 a4.1.length dn),(11,i6 a4.2),(126,i6 a4.2),(127,.bool (a4.2 != 0)),(128,.bool (a4.2 != 0)),(132,.bool ((a4.2 != 0) || (decide (0 < ((a4.1.length:Nat):Int)))))]) hc ?_ ?_
       ·cases hb:(a4.2 != 0)
        ·rw [hb] at hf
         refine sp 1 hf rfl fun a hf=>zP hf rfl (bG Tryz.underlying49 rfl) fun a hf=>sp 2 hf rfl fun a hf=>aP ⟨hf.kp rfl,hc⟩
        ·rw [hb] at hf
         refine stS hf rfl rfl rfl fun a hf=>stS hf rfl rfl rfl fun a hf=>stS hf rfl rfl rfl fun a hf=>sp 1 hf rfl fun a hf=>aP ⟨hf.kp rfl,hc⟩
       intro a w ⟨hf,hc⟩
       refine sp 1 hf rfl fun a hf=>?_
       obtain ⟨js,dz,hF⟩:=aA hF
       refine jX 5 (fun a=>Has 200 a [(7,pq n),(9,pq aq),(10,.slice an D.1.length ax),(12,i6 (W (((D.1.length:Nat):Int) + ((W (more)).tmod (W ((W (12 - ((D.1.length:Nat):Int))) + 1)))))),(13,pq m),(15,.slice bm bk.length b2),(18,.slice c9 a4.1.length dn),(11,i6 a4.2),(126,i6 a4.2),(127,.bool (a4.2 != 0)),(128,.bool (a4.2 != 0)),(132,.bool ((a4.2 != 0) || (decide (0 < ((a4.1.length:Nat):Int))))),(133,.bool ((a4.2 != 0) || (decide (0 < ((a4.1.length:Nat):Int))))),(138,.bool js)]) hc ?_ ?_
       ·cases hb:((a4.2 != 0) || (decide (0 < ((a4.1.length:Nat):Int))))
        ·rw [hb] at hf
         have hF:=kI hb dz
         refine sp 2 hf rfl fun a hf=>?_
         obtain ⟨jc,ii,hF⟩:=aA hF
         refine zQ (v:=.bool jc) hf hc aJ0 rfl (fun w hc=>by obtain ⟨G1,bd,am,hc,ak⟩:=lend hc k6; obtain ⟨G2,a8,a9,hc,a7⟩:=lend hc k12; exact (pZ bk D.1 (am.mono a8) a9 hc ii).mono fun e w h=>⟨h.1,((ak _ _ ((a7 _ _ h.2).unpick k12)).unpick k6)⟩) fun a w hf hc=>sp 2 hf rfl fun a hf=>?_
         obtain rfl:=sj hF
         exact aP ⟨hf.kp rfl,hc⟩
        ·rw [hb] at hf
         have hF:=fP hb dz
         obtain rfl:=sj hF
         refine stS hf rfl rfl rfl fun a hf=>stS hf rfl rfl rfl fun a hf=>stS hf rfl rfl rfl fun a hf=>stS hf rfl rfl rfl fun a hf=>sp 1 hf rfl fun a hf=>aP ⟨hf.kp rfl,hc⟩
       intro a w ⟨hf,hc⟩
       refine aP ?_
       replace hc:=(hc.drop k7).drop k6
       refine jn _ _ ?_
       refine zI hf rfl hF ?_ ?_ <;> clear hF <;> intro hF
       ·refine wp_seq_k fun K30 j4=>bV ?_
        refine sp 1 hf rfl fun a hf=>aP ?_
        replace hc:=(((((((((((((hc.drop k13).drop k12).drop k11).drop k10).drop k9).drop k8).drop k7).drop k6).drop k5).drop k4).drop k3).drop k2).drop k1).drop k0
        refine j4 _ _ ?_
        refine wp_ret ?_
        refine aL ?_
        obtain rfl:=sj hF
        exact zO1 Tryz.results3 hf rfl ⟨rfl,hc⟩
       ·refine wp_skip ?_
        refine ji _ _ ?_
        refine wp_seq_k fun K31 i9=>bV ?_
        refine sp 2 hf rfl fun a hf=>zP hf rfl (bG Tryz.underlying23 rfl) fun a hf=>?_
        obtain ⟨bi,ij,hF⟩:=aA hF
        refine zC hf uF rfl (cJ (⟨U,ck,cg⟩:aZ) ((D.1.length:Nat):Int) bj (hc.pick k12) ij) ?_
        rintro _ w ⟨rfl,hc⟩
        refine ⟨_,rfl,fun a hf=>?_⟩
        refine zA hf hc aJs rfl fun bc a w hf hc=>zW hf hc fO u0 rfl fun w hc=>aP ?_
        replace hc:=hc.drop k1
        refine i9 _ _ ?_
        refine wp_seq_k fun K32 jp=>zS fun K h=>zP hf rfl (pFA oM rfl) fun a hf=>zL hf hc wA m11 rfl fun a w hf hc=>zP hf rfl (bG Tryz.underlying40 rfl) fun a hf=>sp 1 hf rfl fun a hf=>zT h ?_
        refine wp_block ?_
        obtain ⟨du,iq,hF⟩:=aA hF
        let S34:((List (List Int)) × Int)→Act→World→Prop:=(fun (zz:(List (List Int)) × Int) a w=>∃ (bu:Option Addr) (O:aCq),Has 200 a [(7,pq n),(10,.slice an D.1.length ax),(12,i6 (W (((D.1.length:Nat):Int) + ((W (more)).tmod (W ((W (12 - ((D.1.length:Nat):Int))) + 1)))))),(13,pq m),(19,pq bc),(144,.slice bu zz.1.length O.1),(145,i6 ((R.length:Nat):Int)),(146,i6 zz.2)]∧Ctx G (.box bc [i6 bi.1] 3::.row af ab (B.1.Down.map aB) 3 1::.row s aa (B.1.Travel.map aI) 27 2::.row ag ad (B.1.Springs.map aB) 3 1::.row aj ac (H.1.map aG) 65 3::.row ai M.1 ((aU M.2 B.1.Floods).map (Kd.v cH)) 68 2::cK cH (aU M.2 B.1.Floods)::.row bu O.1 ((aU O.2 zz.1).map (Kd.v cL)) 23 1::cK cL (aU O.2 zz.1)::.row a0 J.1 ((aU J.2 Z).map (Kd.v dP)) 46 2::cK dP (aU J.2 Z)::.box m [.slice bu zz.1.length O.1,.slice a0 Z.length J.1] 43::.row an ax (D.1.map aB) 3 1::.box n [.slice af B.1.Down.length ab,.slice s B.1.Travel.length aa,.slice ag B.1.Springs.length ad,.slice aj H.1.length ac,i6 H.2.1,i6 H.2.2.1,.slice ai B.1.Floods.length M.1] 30::Lf) w)
        have gs:∀ (zz:(List (List Int)) × Int) a w,du=.go zz→S34 zz a w→K32 a w:=by
         rintro ⟨au,q⟩ a w rfl ⟨bu,O,hf,hc⟩
         replace hF:=bK hF
         refine jp _ _ ?_
         refine wp_seq_k fun K35 j0=>bV ?_
         refine zN hf hc aFl m11 rfl fun a w hf hc=>?_
         obtain ⟨ap,d7,hF⟩:=aA hF
         obtain ⟨G1,bd,am,hc,ak⟩:=zH aG3 hc k7 k7
         obtain ⟨G2,a8,a9,hc,a7⟩:=zH aJl hc k7 k7
         refine zC hf aN3 rfl (uH (⟨au,Z⟩:aE) (am.mono a8) a9 hc d7) ?_
         rintro _ w ⟨dt,dy,rfl,hc⟩
         refine ⟨_,rfl,fun a hf=>?_⟩
         replace hc:=a7 _ _ hc
         replace hc:=ak _ _ hc
         refine sp 5 hf rfl fun a hf=>aP ?_
         replace hc:=((((hc.drop k12).drop k3).drop k2).drop k1).drop k0
         refine j0 _ _ ?_
         refine wp_seq_k fun K36 jr=>wp_seq_k fun K37 jg=>bV ?_
         refine sp 3 hf rfl fun a hf=>jX 5 (fun a=>Has 200 a [(7,pq n),(10,.slice an D.1.length ax),(12,i6 (W (((D.1.length:Nat):Int) + ((W (more)).tmod (W ((W (12 - ((D.1.length:Nat):Int))) + 1)))))),(19,pq bc),(14,.slice dt ap.1.length dy),(11,i6 ap.2),(165,i6 ap.2),(166,.bool (ap.2 != 0)),(167,.bool (ap.2 != 0)),(172,.bool ((ap.2 != 0) || (((ap.1.length:Nat):Int) != (W (((D.1.length:Nat):Int) + ((W (more)).tmod (W ((W (12 - ((D.1.length:Nat):Int))) + 1))))))))]) hc ?_ ?_
         ·cases hb:(ap.2 != 0)
          ·rw [hb] at hf
           refine sp 1 hf rfl fun a hf=>zP hf rfl (bG Tryz.underlying23 rfl) fun a hf=>sp 3 hf rfl fun a hf=>aP ⟨hf.kp rfl,hc⟩
          ·rw [hb] at hf
           refine stS hf rfl rfl rfl fun a hf=>stS hf rfl rfl rfl fun a hf=>stS hf rfl rfl rfl fun a hf=>stS hf rfl rfl rfl fun a hf=>sp 1 hf rfl fun a hf=>aP ⟨hf.kp rfl,hc⟩
         intro a w ⟨hf,hc⟩
         refine sp 1 hf rfl fun a hf=>?_
         obtain ⟨jd,dq,hF⟩:=aA hF
         refine jX 4 (fun a=>Has 200 a [(7,pq n),(10,.slice an D.1.length ax),(12,i6 (W (((D.1.length:Nat):Int) + ((W (more)).tmod (W ((W (12 - ((D.1.length:Nat):Int))) + 1)))))),(19,pq bc),(14,.slice dt ap.1.length dy),(11,i6 ap.2),(165,i6 ap.2),(166,.bool (ap.2 != 0)),(167,.bool (ap.2 != 0)),(172,.bool ((ap.2 != 0) || (((ap.1.length:Nat):Int) != (W (((D.1.length:Nat):Int) + ((W (more)).tmod (W ((W (12 - ((D.1.length:Nat):Int))) + 1)))))))),(173,.bool ((ap.2 != 0) || (((ap.1.length:Nat):Int) != (W (((D.1.length:Nat):Int) + ((W (more)).tmod (W ((W (12 - ((D.1.length:Nat):Int))) + 1)))))))),(177,.bool jd)]) hc ?_ ?_
         ·cases hb:((ap.2 != 0) || (((ap.1.length:Nat):Int) != (W (((D.1.length:Nat):Int) + ((W (more)).tmod (W ((W (12 - ((D.1.length:Nat):Int))) + 1)))))))
          ·rw [hb] at hf
           have hF:=kI hb dq
           refine sp 1 hf rfl fun a hf=>zL hf hc cR m1 rfl fun a w hf hc=>?_
           obtain ⟨ic,d9,hF⟩:=aA hF
           refine zQ (v:=.bool ic) hf hc aB4 rfl (fun w hc=>by obtain ⟨G1,bd,am,hc,ak⟩:=lend hc k0; exact (cP ap.1 bi.1 am hc d9).mono fun e w h=>⟨h.1,((ak _ _ h.2).unpick k0)⟩) fun a w hf hc=>sp 1 hf rfl fun a hf=>?_
           obtain rfl:=sj hF
           exact aP ⟨hf.kp rfl,hc⟩
          ·rw [hb] at hf
           have hF:=fP hb dq
           obtain rfl:=sj hF
           refine stS hf rfl rfl rfl fun a hf=>stS hf rfl rfl rfl fun a hf=>stS hf rfl rfl rfl fun a hf=>sp 1 hf rfl fun a hf=>aP ⟨hf.kp rfl,hc⟩
         intro a w ⟨hf,hc⟩
         refine aP ?_
         replace hc:=hc.drop k0
         refine jg _ _ ?_
         refine zI hf rfl hF ?_ ?_ <;> clear hF <;> intro hF
         ·refine wp_seq_k fun K38 i7=>bV ?_
          refine sp 1 hf rfl fun a hf=>aP ?_
          replace hc:=((((((((hc.drop k8).drop k7).drop k6).drop k5).drop k4).drop k3).drop k2).drop k1).drop k0
          refine i7 _ _ ?_
          refine wp_ret ?_
          refine aL ?_
          obtain rfl:=sj hF
          exact zO1 Tryz.results3 hf rfl ⟨rfl,hc⟩
         ·refine wp_skip ?_
          refine jr _ _ ?_
          refine wp_seq_k fun K39 jz=>?_
          obtain ⟨cz,ga,hF⟩:=aA hF
          obtain ⟨bx,gd,hF⟩:=aA hF
          replace hc:=hc.nilRow 0 0
          refine eL (fun θ=>[⟨none,none,7,pq n⟩,⟨none,none,10,.slice an D.1.length ax⟩,⟨none,none,19,pq bc⟩,⟨some 0,none,178,.slice an D.1.length ax⟩,⟨some 1,none,179,.slice ((θ 8).p) cz.length ((θ 8).c)⟩,⟨some 2,none,180,i6 bi.1⟩,⟨some 3,none,181,i6 bi.1⟩,⟨some 4,none,182,i6 (W (bi.1 + 1))⟩,⟨some 5,none,183,.slice ((θ 40).p) bx.length ((θ 40).c)⟩,⟨some 6,none,22,.slice ((θ 40).p) bx.length ((θ 40).c)⟩]) (fun E θ=>(bif E 5 then .row ((θ 40).p) ((θ 40).c) (bx.map aB) 3 1 else bif E 1 then .row ((θ 8).p) ((θ 8).c) (cz.map aB) 3 1 else .row none 0 [] 0 0)::.box bc [i6 bi.1] 3::.row af ab (B.1.Down.map aB) 3 1::.row s aa (B.1.Travel.map aI) 27 2::.row ag ad (B.1.Springs.map aB) 3 1::.row aj ac (H.1.map aG) 65 3::.row ai M.1 ((aU M.2 B.1.Floods).map (Kd.v cH)) 68 2::cK cH (aU M.2 B.1.Floods)::.row an ax (D.1.map aB) 3 1::.box n [.slice af B.1.Down.length ab,.slice s B.1.Travel.length aa,.slice ag B.1.Springs.length ad,.slice aj H.1.length ac,i6 H.2.1,i6 H.2.2.1,.slice ai B.1.Floods.length M.1] 30::Lf) [(5,1),(6,5)] (fun a w=>∃ (c1:Option Addr) (c3:Nat),Has 200 a [(7,pq n),(22,.slice c1 bx.length c3)]∧Ctx G (.row c1 c3 (bx.map aB) 3 1::.box bc [i6 bi.1] 3::.row af ab (B.1.Down.map aB) 3 1::.row s aa (B.1.Travel.map aI) 27 2::.row ag ad (B.1.Springs.map aB) 3 1::.row aj ac (H.1.map aG) 65 3::.row ai M.1 ((aU M.2 B.1.Floods).map (Kd.v cH)) 68 2::cK cH (aU M.2 B.1.Floods)::.row an ax (D.1.map aB) 3 1::.box n [.slice af B.1.Down.length ab,.slice s B.1.Travel.length aa,.slice ag B.1.Springs.length ad,.slice aj H.1.length ac,i6 H.2.1,i6 H.2.2.1,.slice ai B.1.Floods.length M.1] 30::Lf) w) bA (by kernel_rfl) (by kernel_rfl) (fN.of hf ⟨rfl,rfl,rfl,trivial,trivial,trivial,trivial,trivial,trivial,trivial,trivial⟩) hc ⟨?_,?_,?_,?_,?_,?_,?_,trivial⟩ ?_ ?_
          ·intro E θ a w hD hi hp he hc
           have hf:=he.h0.mT he 1 rfl
           refine sp 1 hf rfl fun a hf=>zD θ he hi hf 3 rfl rfl rfl hc
          ·intro E θ a w hD hi hp he hc
           have e0:=hp.o 0 rfl
           have e5:=hD.f 0 rfl hi
           try dsimp only at hc
           rw [hi,e5] at hc
           have hf:=he.h0.mP he 3 rfl e0
           obtain ⟨G1,bd,am,hc,ak⟩:=lend hc k8
           refine zC hf aO5 rfl (xJ D.1 am hc ga) ?_
           rintro _ w ⟨g2,ir,rfl,hc⟩
           refine ⟨_,rfl,fun a hf=>?_⟩
           replace hc:=ak _ _ hc
           refine aP ?_
           refine eJ ?_
           intro ds u a1
           replace hc:=(((((((((hc.drop k2).pick k0).pick k8).pick k8).pick k8).pick k8).pick k8).pick k8).pick k8).pick k8
           refine ⟨(nF θ 8 ⟨0,g2,ir,(fun _=>(none,0))⟩),he.put hi a1 hf rfl [] trivial ⟨qq,qq,qq,qq,qq,qq,qq,qq,qq,qq,trivial⟩,?_⟩
           try dsimp only
           rw [aS E 1,aQ 1 e5 rfl]
           exact hc
          ·intro E θ a w hD hi hp he hc
           have hf:=he.h0.mT he 2 rfl
           refine zL hf hc cR m1 rfl fun a w hf hc=>zD θ he hi hf 5 rfl rfl rfl hc
          ·intro E θ a w hD hi hp he hc
           have hf:=he.h0.mT he 2 rfl
           refine zL hf hc cR m1 rfl fun a w hf hc=>zD θ he hi hf 6 rfl rfl rfl hc
          ·intro E θ a w hD hi hp he hc
           have e3:=hp.o 3 rfl
           have hf:=he.h0.mP he 6 rfl e3
           refine sp 1 hf rfl fun a hf=>zD θ he hi hf 7 rfl rfl rfl hc
          ·intro E θ a w hD hi hp he hc
           have e1:=hp.o 1 rfl
           have e2:=hp.o 2 rfl
           have e4:=hp.o 4 rfl
           have e6:=hD.f 1 rfl hi
           try dsimp only at hc
           rw [e1,hi] at hc
           have hf:=((he.h0.mP he 4 rfl e1).mP he 5 rfl e2).mP he 7 rfl e4
           refine zC hf en_18 rfl (uS cz bi.1 (W (bi.1 + 1)) (hc.pick k0) gd) ?_
           rintro _ w ⟨g1,iu,rfl,hc⟩
           refine ⟨_,rfl,fun a hf=>?_⟩
           refine aP ?_
           refine eJ ?_
           intro ds u a1
           refine ⟨(nF θ 40 ⟨0,g1,iu,(fun _=>(none,0))⟩),he.put hi a1 hf rfl [6] ⟨⟨e6,rfl⟩,trivial⟩ ⟨qq,qq,qq,qq,qq,qq,qq,qq,qq,trivial,trivial⟩,?_⟩
           try dsimp only
           rw [eC 5 e1,aS E 5]
           exact hc
          ·intro E θ a w hD hi hp he hc
           have e5:=hp.o 5 rfl
           have hf:=he.h0.mP he 8 rfl e5
           refine sp 1 hf rfl fun a hf=>zD θ he hi hf 9 rfl rfl rfl hc
          ·intro E θ a w av he hc
           have hf:=he.h0
           have e1:=av 1 rfl
           have e5:=av 5 rfl
           have e6:=av 6 rfl
           replace hf:=hf.more he 9 rfl (onP e6)
           replace hf:=hf.more he 0 rfl (onT)
           try dsimp only at hc
           rw [e1,e5] at hc
           exact ⟨(θ 40).p,(θ 40).c,hf.kp rfl,hc⟩
          rintro a w ⟨c1,c3,hf,hc⟩
          replace hc:=(hc.drop k8).drop k1
          refine jz _ _ ?_
          refine wp_seq_k fun K40 j8=>bV ?_
          refine zN hf hc oK m7 rfl fun a w hf hc=>sp 1 hf rfl fun a hf=>?_
          obtain ⟨ar,d3,hF⟩:=aA hF
          obtain ⟨G1,bd,am,hc,ak⟩:=lend hc k1
          obtain ⟨G2,a8,a9,hc,a7⟩:=lend hc k1
          obtain ⟨G3,ba,bq,hc,br⟩:=lend hc k1
          obtain ⟨G4,a2,bs,hc,bt⟩:=lend hc k1
          obtain ⟨G5,a3,cd,hc,cc⟩:=zH aGm hc k1 k1
          obtain ⟨G6,bb,cy,hc,c0⟩:=lend hc k0
          refine zC hf aQa rfl (aBm (⟨B.1.Down,B.1.Travel,B.1.Springs,H.1,(⟨H.2.1,H.2.2.1⟩:aN),B.1.Floods⟩:aH) bx (((((am.mono a8).mono ba).mono a2).mono a3).mono bb) ((((a9.mono ba).mono a2).mono a3).mono bb) (((bq.mono a2).mono a3).mono bb) ((bs.mono a3).mono bb) (cd.mono bb) cy hc d3) ?_
          rintro _ w ⟨c8,dk,rfl,hc⟩
          refine ⟨_,rfl,fun a hf=>?_⟩
          replace hc:=c0 _ _ hc
          replace hc:=cc _ _ hc
          replace hc:=bt _ _ hc
          replace hc:=br _ _ hc
          replace hc:=a7 _ _ hc
          replace hc:=ak _ _ hc
          refine sp 5 hf rfl fun a hf=>aP ?_
          replace hc:=(((((((hc.drop k8).drop k6).drop k5).drop k4).drop k3).drop k2).drop k1).drop k0
          refine j8 _ _ ?_
          refine zS fun K h=>sp 3 hf rfl fun a hf=>jX 4 (fun a=>Has 200 a [(18,.slice c8 ar.1.length dk),(11,i6 ar.2),(190,i6 ar.2),(191,.bool (ar.2 == 0)),(192,.bool (ar.2 == 0)),(196,.bool ((ar.2 == 0) && (decide (0 < ((ar.1.length:Nat):Int)))))]) hc ?_ ?_
          ·cases hb:(ar.2 == 0)
           ·rw [hb] at hf
            refine stS hf rfl rfl rfl fun a hf=>stS hf rfl rfl rfl fun a hf=>stS hf rfl rfl rfl fun a hf=>sp 1 hf rfl fun a hf=>aP ⟨hf.kp rfl,hc⟩
           ·rw [hb] at hf
            refine sp 1 hf rfl fun a hf=>zP hf rfl (bG Tryz.underlying49 rfl) fun a hf=>sp 2 hf rfl fun a hf=>aP ⟨hf.kp rfl,hc⟩
          intro a w ⟨hf,hc⟩
          refine sp 1 hf rfl fun a hf=>?_
          obtain ⟨jt,di,hF⟩:=aA hF
          refine jX 2 (fun a=>Has 200 a [(18,.slice c8 ar.1.length dk),(11,i6 ar.2),(190,i6 ar.2),(191,.bool (ar.2 == 0)),(192,.bool (ar.2 == 0)),(196,.bool ((ar.2 == 0) && (decide (0 < ((ar.1.length:Nat):Int))))),(197,.bool ((ar.2 == 0) && (decide (0 < ((ar.1.length:Nat):Int))))),(199,.bool jt)]) hc ?_ ?_
          ·cases hb:((ar.2 == 0) && (decide (0 < ((ar.1.length:Nat):Int))))
           ·rw [hb] at hf
            have hF:=kI hb di
            obtain rfl:=sj hF
            refine stS hf rfl rfl rfl fun a hf=>sp 1 hf rfl fun a hf=>aP ⟨hf.kp rfl,hc⟩
           ·rw [hb] at hf
            have hF:=fP hb di
            obtain ⟨ip,d1,hF⟩:=aA hF
            refine zQ (v:=.bool ip) hf hc en_8 rfl (fun w hc=>yP hc d1) fun a w hf hc=>sp 1 hf rfl fun a hf=>?_
            obtain rfl:=sj hF
            exact aP ⟨hf.kp rfl,hc⟩
          intro a w ⟨hf,hc⟩
          refine sp 1 hf rfl fun a hf=>zT h ?_
          refine wp_ret ?_
          obtain rfl:=sj hF
          replace hc:=hc.drop k0
          exact zO1 Tryz.results3 hf rfl ⟨rfl,hc⟩
        have ka:∀ r,du=.out r→r=ci:=by
         rintro r rfl
         exact sj hF
        refine cZ N (cW (S:=S34) (x:=du) ?_ N (R,0) _ _ ⟨ay,I,hf.kp rfl,hc⟩ iq)
        clear hF hf hc
        rintro ⟨au,q⟩ kg a w KB34 ⟨bu,O,hf,hc⟩ hF cu iv
        unfold gN at hF
        refine zS fun K h=>sp 1 hf rfl fun a hf=>zT h ?_
        refine wp_seq_k fun K43 jj=>zI hf rfl hF ?_ ?_ <;> clear hF <;> intro hF
        ·refine wp_skip ?_
         refine jj _ _ ?_
         refine wp_seq_k fun K44 jf=>wp_block ?_
         refine zS fun K h=>sp 1 hf rfl fun a hf=>?_
         obtain ⟨dx,dc,hF⟩:=aA hF
         obtain ⟨g,rfl,qa,qr⟩:=hP hc m7 (oF dc)
         refine zP hf rfl (pIA Tryz.underlying40 vI rfl rfl (At.len qa (by simp only [jJ,List.length_set]))) fun a hf=>zE hf hc rfl (eP hY rfl (fZ (sz:=1) (i:=q.toNat) (j:=0) m7 qr rfl)) fun a w hf hc=>sp 2 hf rfl fun a hf=>zT h ?_
         obtain ⟨c2,gb,hF⟩:=aA hF
         obtain ⟨az,d5,hF⟩:=aA hF
         obtain ⟨kt,cr,hF⟩:=aA hF
         obtain ⟨iy,kj⟩:=eY hc m7 (oF cr)
         replace hc:=hc.nilRow 0 0
         refine eL (fun θ=>[⟨none,none,7,pq n⟩,⟨none,none,10,.slice an D.1.length ax⟩,⟨none,none,12,i6 (W (((D.1.length:Nat):Int) + ((W (more)).tmod (W ((W (12 - ((D.1.length:Nat):Int))) + 1)))))⟩,⟨none,none,13,pq m⟩,⟨none,none,19,pq bc⟩,⟨none,none,20,i6 q⟩,⟨none,none,21,.slice ((O.2 q.toNat).1) dx.length ((O.2 q.toNat).2)⟩,⟨none,none,144,.slice (some ⟨g,0,none⟩) au.length O.1⟩,⟨none,none,145,i6 ((R.length:Nat):Int)⟩,⟨none,none,146,i6 q⟩,⟨some 0,none,151,pq m⟩,⟨some 1,none,152,.slice (some ⟨g,0,none⟩) au.length O.1⟩,⟨some 2,none,153,i6 q⟩,⟨some 3,none,154,.slice ((O.2 q.toNat).1) dx.length ((O.2 q.toNat).2)⟩,⟨some 4,none,155,.slice ((θ 32).p) c2.length ((θ 32).c)⟩,⟨some 5,none,156,.func (.func 17) #[] #[pq bc]⟩,⟨some 6,none,157,.slice ((θ 48).p) az.length ((θ 48).c)⟩,⟨some 7,none,158,.pointer (some ⟨g,q.toNat * 1,none⟩)⟩]) (fun E θ=>(bif E 8 then .row none 0 [] 0 0 else bif E 6 then .row ((θ 48).p) ((θ 48).c) (az.map aB) 3 1 else bif E 4 then .row ((θ 32).p) ((θ 32).c) (c2.map aB) 3 1 else .row none 0 [] 0 0)::.box bc [i6 bi.1] 3::.row af ab (B.1.Down.map aB) 3 1::.row s aa (B.1.Travel.map aI) 27 2::.row ag ad (B.1.Springs.map aB) 3 1::.row aj ac (H.1.map aG) 65 3::.row ai M.1 ((aU M.2 B.1.Floods).map (Kd.v cH)) 68 2::cK cH (aU M.2 B.1.Floods)::(bif E 8 then .row (some ⟨g,0,none⟩) O.1 ((aU (θ 64).h (au.set q.toNat az)).map (Kd.v cL)) 23 1 else .row (some ⟨g,0,none⟩) O.1 ((aU O.2 au).map (Kd.v cL)) 23 1)::(bif E 8 then cK cL (aU (θ 64).h (au.set q.toNat az)) else cK cL (aU O.2 au))::.row a0 J.1 ((aU J.2 Z).map (Kd.v dP)) 46 2::cK dP (aU J.2 Z)::(bif E 8 then .box m [.slice (some ⟨g,0,none⟩) au.length O.1,.slice a0 Z.length J.1] 43 else .box m [.slice (some ⟨g,0,none⟩) au.length O.1,.slice a0 Z.length J.1] 43)::.row an ax (D.1.map aB) 3 1::.box n [.slice af B.1.Down.length ab,.slice s B.1.Travel.length aa,.slice ag B.1.Springs.length ad,.slice aj H.1.length ac,i6 H.2.1,i6 H.2.2.1,.slice ai B.1.Floods.length M.1] 30::Lf) [(8,1),(6,4),(8,4),(8,6),(8,7)] (fun a w=>∃ (bp:Hds),Has 200 a [(7,pq n),(10,.slice an D.1.length ax),(12,i6 (W (((D.1.length:Nat):Int) + ((W (more)).tmod (W ((W (12 - ((D.1.length:Nat):Int))) + 1)))))),(13,pq m),(19,pq bc),(144,.slice (some ⟨g,0,none⟩) au.length O.1),(145,i6 ((R.length:Nat):Int)),(146,i6 q)]∧Ctx G (.box bc [i6 bi.1] 3::.row af ab (B.1.Down.map aB) 3 1::.row s aa (B.1.Travel.map aI) 27 2::.row ag ad (B.1.Springs.map aB) 3 1::.row aj ac (H.1.map aG) 65 3::.row ai M.1 ((aU M.2 B.1.Floods).map (Kd.v cH)) 68 2::cK cH (aU M.2 B.1.Floods)::.row (some ⟨g,0,none⟩) O.1 ((aU bp (au.set q.toNat az)).map (Kd.v cL)) 23 1::cK cL (aU bp (au.set q.toNat az))::.row a0 J.1 ((aU J.2 Z).map (Kd.v dP)) 46 2::cK dP (aU J.2 Z)::.box m [.slice (some ⟨g,0,none⟩) au.length O.1,.slice a0 Z.length J.1] 43::.row an ax (D.1.map aB) 3 1::.box n [.slice af B.1.Down.length ab,.slice s B.1.Travel.length aa,.slice ag B.1.Springs.length ad,.slice aj H.1.length ac,i6 H.2.1,i6 H.2.2.1,.slice ai B.1.Floods.length M.1] 30::Lf) w) bA (by kernel_rfl) (by kernel_rfl) (fN.of hf ⟨rfl,rfl,rfl,rfl,rfl,rfl,rfl,rfl,rfl,rfl,trivial,trivial,trivial,trivial,trivial,trivial,trivial,trivial,trivial⟩) hc ⟨?_,?_,?_,?_,?_,?_,?_,?_,?_,trivial⟩ ?_ ?_
         ·intro E θ a w hD hi hp he hc
          have hf:=he.h0.mT he 3 rfl
          refine zP hf rfl (pFA oM rfl) fun a hf=>zD θ he hi hf 10 rfl rfl rfl hc
         ·intro E θ a w hD hi hp he hc
          have e0:=hp.o 0 rfl
          have e8:=hD.f 0 rfl hi
          try dsimp only at hc
          rw [e8] at hc
          have hf:=he.h0.mP he 10 rfl e0
          refine zL hf hc wA m12 rfl fun a w hf hc=>zD θ he hi hf 11 rfl rfl rfl ?_
          try dsimp only
          rw [aQ 1 e8 rfl]
          exact hc
         ·intro E θ a w hD hi hp he hc
          have hf:=he.h0.mT he 5 rfl
          refine sp 1 hf rfl fun a hf=>zD θ he hi hf 12 rfl rfl rfl hc
         ·intro E θ a w hD hi hp he hc
          have hf:=he.h0.mT he 6 rfl
          refine sp 1 hf rfl fun a hf=>zD θ he hi hf 13 rfl rfl rfl hc
         ·intro E θ a w hD hi hp he hc
          have e3:=hp.o 3 rfl
          have e6:=hD.f 1 rfl hi
          have e8:=hD.f 2 rfl hi
          try dsimp only at hc
          rw [hi,e6,e8] at hc
          have hf:=he.h0.mP he 13 rfl e3
          obtain ⟨G1,bd,am,hc,ak⟩:=lendI aG3 hc k9
          refine zC hf aO5 rfl (xJ dx (am _ _ dc) hc gb) ?_
          rintro _ w ⟨i1,gp,rfl,hc⟩
          refine ⟨_,rfl,fun a hf=>?_⟩
          replace hc:=ak _ _ hc
          refine aP ?_
          refine eJ ?_
          intro ds u a1
          replace hc:=((((((((((hc.drop k2).pick k0).pick k9).pick k9).pick k9).pick k9).pick k9).pick k9).pick k9).pick k9).pick k9
          refine ⟨(nF θ 32 ⟨0,i1,gp,(fun _=>(none,0))⟩),he.put hi a1 hf rfl [] trivial ⟨qq,qq,qq,qq,qq,qq,qq,qq,qq,qq,qq,qq,qq,qq,qq,qq,qq,qq,trivial⟩,?_⟩
          try dsimp only
          rw [aS E 4,aQ 4 e6 rfl,aQ 4 e8 rfl]
          exact hc
         ·intro E θ a w hD hi hp he hc
          have hf:=he.h0.mT he 4 rfl
          refine zP hf rfl (pMF (us:=[pq bc]) rfl rfl) fun a hf=>zD θ he hi hf 15 rfl rfl rfl hc
         ·intro E θ a w hD hi hp he hc
          have e4:=hp.o 4 rfl
          have e5:=hp.o 5 rfl
          have e8:=hD.f 3 rfl hi
          try dsimp only at hc
          rw [e4,hi,e8] at hc
          have hf:=(he.h0.mP he 14 rfl e4).mP he 15 rfl e5
          refine zC hf en_15 rfl (sM c2 bi.1 ((hc.pick k1).pick k1) d5) ?_
          rintro _ w ⟨g3,g9,rfl,hc⟩
          refine ⟨_,rfl,fun a hf=>?_⟩
          refine aP ?_
          refine eJ ?_
          intro ds u a1
          refine ⟨(nF θ 48 ⟨0,g3,g9,(fun _=>(none,0))⟩),he.put hi a1 hf rfl [] trivial ⟨qq,qq,qq,qq,qq,qq,qq,qq,qq,qq,qq,qq,qq,qq,qq,qq,qq,qq,trivial⟩,?_⟩
          try dsimp only
          rw [eC 6 e4,aS E 6,aQ 6 e8 rfl]
          exact hc
         ·intro E θ a w hD hi hp he hc
          have e1:=hp.o 1 rfl
          have e2:=hp.o 2 rfl
          have e8:=hD.f 4 rfl hi
          try dsimp only at hc
          rw [e8] at hc
          have hf:=(he.h0.mP he 11 rfl e1).mP he 12 rfl e2
          refine zP hf rfl (pIA Tryz.underlying40 vI rfl rfl (At.len iy (by simp only [jJ,List.length_set]))) fun a hf=>zD θ he hi hf 17 rfl rfl rfl ?_
          try dsimp only
          rw [aQ 7 e8 rfl]
          exact hc
         ·intro E θ a w hD hi hp he hc
          have e6:=hp.o 6 rfl
          have e7:=hp.o 7 rfl
          have e4:=hp.o 4 rfl
          try dsimp only at hc
          rw [e4,e6,hi] at hc
          have hf:=(he.h0.mP he 16 rfl e6).mP he 17 rfl e7
          replace hc:=(aDt (hc.pick k9) cr).tail
          replace hc:Ctx _ (cK cL ((aU O.2 au).eraseIdx q.toNat)::_) _:=hc
          refine yA (vs:=[.slice ((θ 48).p) az.length ((θ 48).c)]) (o':=0) (z:=(((θ 48).p,(θ 48).c),az)) (xs:=(aU O.2 au)) hf hc rfl rfl rfl rfl vI rfl (fun x=>(aC3 x).1) (mL (oF cr)) (fun e _=>splW (aC3 e).1) rfl u9 fun w hc=>?_
          replace hc:=(((((((((hc.pick k8).pick k8).pick k8).pick k8).pick k8).pick k8).pick k8).pick k7).pick k9).pick k9
          obtain ⟨dp,hc⟩:=aFq (K:=cL) (h':=((θ 48).p,(θ 48).c)) (y:=az) cr hc
          replace hc:Ctx _ (.row (some ⟨g,0,none⟩) O.1 ((aU dp (au.set q.toNat az)).map (Kd.v cL)) 23 1::cK cL (aU dp (au.set q.toNat az))::_) _:=hc
          replace hc:=hc.nilRow 0 0
          refine aP ?_
          refine eJ ?_
          intro ds u a1
          replace hc:=(((((((((hc.pick k2).pick k2).pick k9).pick k9).pick k9).pick k9).pick k9).pick k9).pick k9).pick k9
          refine ⟨(nF θ 64 ⟨0,none,0,dp⟩),he.stay hi a1 hf ⟨qq,qq,qq,qq,qq,qq,qq,qq,qq,qq,qq,qq,qq,qq,qq,qq,qq,qq,trivial⟩,?_⟩
          try dsimp only
          rw [eC 8 e4,eC 8 e6,aS E 8]
          exact hc
         ·intro E θ a w av he hc
          have hf:=he.h0
          have e4:=av 4 rfl
          have e6:=av 6 rfl
          have e8:=av 8 rfl
          replace hf:=hf.more he 9 rfl (onT)
          replace hf:=hf.more he 8 rfl (onT)
          replace hf:=hf.more he 7 rfl (onT)
          replace hf:=hf.more he 4 rfl (onT)
          replace hf:=hf.more he 3 rfl (onT)
          replace hf:=hf.more he 2 rfl (onT)
          replace hf:=hf.more he 1 rfl (onT)
          replace hf:=hf.more he 0 rfl (onT)
          try dsimp only at hc
          rw [e4,e6,e8] at hc
          replace hc:=hc.drop k0
          exact ⟨(θ 64).h,hf.kp rfl,hc⟩
         rintro a w ⟨bp,hf,hc⟩
         refine jf _ _ ?_
         refine bV ?_
         refine sp 2 hf rfl fun a hf=>aP ?_
         replace hc:Ctx G (.box bc [i6 bi.1] 3::.row af ab (B.1.Down.map aB) 3 1::.row s aa (B.1.Travel.map aI) 27 2::.row ag ad (B.1.Springs.map aB) 3 1::.row aj ac (H.1.map aG) 65 3::.row ai M.1 ((aU M.2 B.1.Floods).map (Kd.v cH)) 68 2::cK cH (aU M.2 B.1.Floods)::.row (some ⟨g,0,none⟩) O.1 ((aU bp (au.set q.toNat az)).map (Kd.v cL)) 23 1::cK cL (aU bp (au.set q.toNat az))::.row a0 J.1 ((aU J.2 Z).map (Kd.v dP)) 46 2::cK dP (aU J.2 Z)::.box m [.slice (some ⟨g,0,none⟩) ((au.set q.toNat az).length) O.1,.slice a0 Z.length J.1] 43::.row an ax (D.1.map aB) 3 1::.box n [.slice af B.1.Down.length ab,.slice s B.1.Travel.length aa,.slice ag B.1.Springs.length ad,.slice aj H.1.length ac,i6 H.2.1,i6 H.2.2.1,.slice ai B.1.Floods.length M.1] 30::Lf) w:=by simp only [List.length_set] at hc ⊢; exact hc
         replace hf:=hf.castAt 144 (v':=.slice (some ⟨g,0,none⟩) ((au.set q.toNat az).length) O.1) rfl (congrArg (fun k=>Value.slice (some ⟨g,0,none⟩) k O.1) (by simp))
         exact iv ((au.set q.toNat az),W (q + 1)) _ _ (sj hF).symm ⟨(some ⟨g,0,none⟩),(O.1,bp),hf.kp rfl,hc⟩
        ·refine wp_exit ?_
         refine aY ?_
         refine aY ?_
         have he:=sj hF
         rw [← he] at cu
         refine fJ ?_
         exact gs _ _ _ cu ⟨bu,O,hf.kp rfl,hc⟩
      have ki:∀ r,dd=.out r→r=ci:=by
       rintro r rfl
       exact sj hF
      replace hc:=hc.nilRow 3 1
      refine cZ N (cW (S:=S26) (x:=dd) ?_ N (([]:List Int),0) _ _ ⟨a6,a5,none,0,hf.kp rfl,hc⟩ gx)
      clear hF hf hc
      rintro ⟨bk,cj⟩ iz a w KB26 ⟨an,ax,bm,b2,hf,hc⟩ hF cs gq
      unfold gS at hF
      refine zS fun K h=>sp 1 hf rfl fun a hf=>zT h ?_
      refine wp_seq_k fun K47 jx=>zI hf rfl hF ?_ ?_ <;> clear hF <;> intro hF
      ·refine wp_skip ?_
       refine jx _ _ ?_
       refine wp_seq_k fun K48 j9=>?_
       have da:∀ (bn:List Int) (cf:Option Addr) (b9:Nat) (cn:Option Addr) (cp:Nat) a w,Has 200 a [(7,pq n),(9,pq aq),(10,.slice cf D.1.length b9),(12,i6 (W (((D.1.length:Nat):Int) + ((W (more)).tmod (W ((W (12 - ((D.1.length:Nat):Int))) + 1)))))),(13,pq m),(14,.slice cb bg.1.length ct),(15,.slice cn bn.length cp),(105,.slice cf D.1.length b9),(106,i6 ((D.1.length:Nat):Int)),(107,i6 cj)]→Ctx G (.row cn cp (bn.map aB) 3 1::.row ay I.1 ((aU I.2 R).map (Kd.v cL)) 23 1::cK cL (aU I.2 R)::.row a0 J.1 ((aU J.2 Z).map (Kd.v dP)) 46 2::cK dP (aU J.2 Z)::.row cb ct (bg.1.map aB) 3 1::.box m [.slice ay R.length I.1,.slice a0 Z.length J.1] 43::.row af ab (B.1.Down.map aB) 3 1::.row s aa (B.1.Travel.map aI) 27 2::.row ag ad (B.1.Springs.map aB) 3 1::.row aj ac (H.1.map aG) 65 3::.row ai M.1 ((aU M.2 B.1.Floods).map (Kd.v cH)) 68 2::cK cH (aU M.2 B.1.Floods)::.row cf b9 (D.1.map aB) 3 1::.box aq [.slice Y U.length V,i6 ck,i6 cg] 70::.box n [.slice af B.1.Down.length ab,.slice s B.1.Travel.length aa,.slice ag B.1.Springs.length ad,.slice aj H.1.length ac,i6 H.2.1,i6 H.2.2.1,.slice ai B.1.Floods.length M.1] 30::Lf) w→lL N cj bn=some iz→K48 a w:=by
        repeat (clear hF)
        repeat (clear hc)
        repeat (clear hf)
        intro bn cf b9 cn cp a w hf hc hF
        unfold lL at hF
        refine j9 _ _ ?_
        refine bV ?_
        refine sp 2 hf rfl fun a hf=>aP ?_
        exact gq (bn,W (cj + 1)) _ _ (sj hF).symm ⟨cf,b9,cn,cp,hf.kp rfl,hc⟩
       refine wp_block ?_
       refine zS fun K h=>sp 1 hf rfl fun a hf=>?_
       obtain ⟨c5,ig,hF⟩:=aA hF
       have jv:=hf
       obtain ⟨gg,rfl,g6,gn⟩:=hP hc m13 ig
       have hf:=jv
       refine zP hf rfl (pIA Tryz.underlying23 fO rfl rfl g6) fun a hf=>zE hf hc rfl (eP cR rfl (fZ (sz:=1) (i:=cj.toNat) (j:=0) m13 gn rfl)) fun a w hf hc=>sp 2 hf rfl fun a hf=>zT h ?_
       refine zS fun K h=>sp 2 hf rfl fun a hf=>?_
       obtain ⟨g4,d4,hF⟩:=aA hF
       refine zQ (v:=.bool g4) hf hc aB4 rfl (fun w hc=>by obtain ⟨G1,bd,am,hc,ak⟩:=lend hc k5; exact (cP bg.1 cj am hc d4).mono fun e w h=>⟨h.1,((ak _ _ h.2).unpick k5)⟩) fun a w hf hc=>zT h ?_
       refine zI hf rfl hF ?_ ?_ <;> clear hF <;> intro hF
       ·refine bV ?_
        refine sp 2 hf rfl fun a hf=>oB (rows:=([c5]:List Int).map aB) (vs:=[(0,i6 c5)]) hf hc rfl rfl jA rfl ⟨rfl,rfl,rfl,trivial⟩ rfl rfl fun ks a w hf hc=>?_
        obtain ⟨kf,d0,hF⟩:=aA hF
        refine pC (xs:=bk) (ys:=([c5]:List Int)) hf hc rfl rfl jA rfl rfl rfl rfl rfl bZ (kC hc m0) (fun _ _=>u1) (by simpa using fD d0) fun g7 i0 a w hf hc=>sp 1 hf rfl fun a hf=>aP ?_
        replace hc:=hc.drop k0
        exact da (bk++[c5]) (some ⟨gg,0,none⟩) ax g7 i0 _ _  (hf.kp rfl) hc hF
       ·refine wp_skip ?_
        exact da bk (some ⟨gg,0,none⟩) ax bm b2 _ _  (hf.kp rfl) hc hF
      ·refine wp_exit ?_
       refine aY ?_
       refine aY ?_
       have he:=sj hF
       rw [← he] at cs
       refine fJ ?_
       exact ik _ _ _ cs ⟨an,ax,bm,b2,hf.kp rfl,hc⟩
    have kb:∀ r,df=.out r→r=ci:=by
     rintro r rfl
     exact sj hF
    replace hc:=hc.nilRow 46 2
    replace hc:=aG7 (K:=dP) (hs:=(noH 0)) hc
    replace hc:=(hc.pick k0).pick k1
    refine cZ N (cW (S:=S18) (x:=df) ?_ N (0,c7,c6,([]:List aJ)) _ _ ⟨none,(0,(noH 0)),hf.kp rfl,hc⟩ gu)
    clear hF hf hc
    rintro ⟨c4,ck,cg,Z⟩ kk a w KB18 ⟨a0,J,hf,hc⟩ hF cx i4
    unfold gQ at hF
    refine zS fun K h=>sp 1 hf rfl fun a hf=>zT h ?_
    refine wp_seq_k fun K52 j2=>zI hf rfl hF ?_ ?_ <;> clear hF <;> intro hF
    ·refine wp_skip ?_
     refine j2 _ _ ?_
     refine wp_seq_k fun K53 jk=>wp_block ?_
     obtain ⟨X,d2,hF⟩:=aA hF
     obtain ⟨kn,d6,hF⟩:=aA hF
     replace hc:=hc.nilRow 0 0
     replace hc:=hc.nilRow 0 0
     refine eL (fun θ=>[⟨none,none,7,pq n⟩,⟨none,none,9,pq aq⟩,⟨none,none,10,.slice a6 D.1.length a5⟩,⟨none,none,12,i6 (W (((D.1.length:Nat):Int) + ((W (more)).tmod (W ((W (12 - ((D.1.length:Nat):Int))) + 1)))))⟩,⟨none,none,13,pq m⟩,⟨none,none,79,i6 ((D.1.length:Nat):Int)⟩,⟨none,none,80,i6 c4⟩,⟨some 0,none,82,.pointer (some ⟨m,1,none⟩)⟩,⟨some 1,none,83,.slice a0 Z.length J.1⟩,⟨some 2,none,84,pq aq⟩,⟨some 3,none,85,i6 (W (((D.1.length:Nat):Int) + ((W (more)).tmod (W ((W (12 - ((D.1.length:Nat):Int))) + 1)))))⟩,⟨some 4,none,86,.slice ((θ 32).p) X.1.length ((θ 32).c)⟩,⟨some 5,none,87,.agg #[i6 1,.slice ((θ 32).p) X.1.length ((θ 32).c)]⟩,⟨some 6,none,88,.slice (some ⟨(θ 48).b,0,none⟩) 1 1⟩,⟨some 7,none,89,.slice ((θ 56).p) ((Z++[(⟨1,X.1⟩:aJ)]).length) ((θ 56).c)⟩,⟨some 8,none,90,.pointer (some ⟨m,1,none⟩)⟩]) (fun E θ=>(bif E 6 then .row (some ⟨(θ 48).b,0,none⟩) 1 (([(((θ 32).p,(θ 32).c),(⟨1,X.1⟩:aJ))]:List (H2 × aJ)).map (Kd.v dP)) 46 2 else .row none 0 [] 0 0)::(bif E 4 then .row ((θ 32).p) ((θ 32).c) (X.1.map aB) 3 1 else .row none 0 [] 0 0)::(bif E 7 then .row ((θ 56).p) ((θ 56).c) (((aU J.2 Z)++([(((θ 32).p,(θ 32).c),(⟨1,X.1⟩:aJ))]:List (H2 × aJ))).map (Kd.v dP)) 46 2 else .row a0 J.1 ((aU J.2 Z).map (Kd.v dP)) 46 2)::cK dP (aU J.2 Z)::.row ay I.1 ((aU I.2 R).map (Kd.v cL)) 23 1::cK cL (aU I.2 R)::(bif E 9 then .box m [.slice ay R.length I.1,.slice ((θ 56).p) ((Z++[(⟨1,X.1⟩:aJ)]).length) ((θ 56).c)] 43 else .box m [.slice ay R.length I.1,.slice a0 Z.length J.1] 43)::.row af ab (B.1.Down.map aB) 3 1::.row s aa (B.1.Travel.map aI) 27 2::.row ag ad (B.1.Springs.map aB) 3 1::.row aj ac (H.1.map aG) 65 3::.row ai M.1 ((aU M.2 B.1.Floods).map (Kd.v cH)) 68 2::cK cH (aU M.2 B.1.Floods)::.row a6 a5 (D.1.map aB) 3 1::(bif E 4 then .box aq [.slice Y U.length V,i6 X.2.1,i6 X.2.2] 70 else .box aq [.slice Y U.length V,i6 ck,i6 cg] 70)::.box n [.slice af B.1.Down.length ab,.slice s B.1.Travel.length aa,.slice ag B.1.Springs.length ad,.slice aj H.1.length ac,i6 H.2.1,i6 H.2.2.1,.slice ai B.1.Floods.length M.1] 30::Lf) [(5,4),(9,1),(6,5),(7,4),(9,7)] (fun a w=>∃ (gi:Nat) (ca:Option Addr) (b8:Nat) (bv:Option Addr) (bz:Nat),Has 200 a [(7,pq n),(9,pq aq),(10,.slice a6 D.1.length a5),(12,i6 (W (((D.1.length:Nat):Int) + ((W (more)).tmod (W ((W (12 - ((D.1.length:Nat):Int))) + 1)))))),(13,pq m),(79,i6 ((D.1.length:Nat):Int)),(80,i6 c4)]∧Ctx G (.row (some ⟨gi,0,none⟩) 1 (([((ca,b8),(⟨1,X.1⟩:aJ))]:List (H2 × aJ)).map (Kd.v dP)) 46 2::.row ca b8 (X.1.map aB) 3 1::.row bv bz (((aU J.2 Z)++([((ca,b8),(⟨1,X.1⟩:aJ))]:List (H2 × aJ))).map (Kd.v dP)) 46 2::cK dP (aU J.2 Z)::.row ay I.1 ((aU I.2 R).map (Kd.v cL)) 23 1::cK cL (aU I.2 R)::.box m [.slice ay R.length I.1,.slice bv ((Z++[(⟨1,X.1⟩:aJ)]).length) bz] 43::.row af ab (B.1.Down.map aB) 3 1::.row s aa (B.1.Travel.map aI) 27 2::.row ag ad (B.1.Springs.map aB) 3 1::.row aj ac (H.1.map aG) 65 3::.row ai M.1 ((aU M.2 B.1.Floods).map (Kd.v cH)) 68 2::cK cH (aU M.2 B.1.Floods)::.row a6 a5 (D.1.map aB) 3 1::.box aq [.slice Y U.length V,i6 X.2.1,i6 X.2.2] 70::.box n [.slice af B.1.Down.length ab,.slice s B.1.Travel.length aa,.slice ag B.1.Springs.length ad,.slice aj H.1.length ac,i6 H.2.1,i6 H.2.2.1,.slice ai B.1.Floods.length M.1] 30::Lf) w) bA (by kernel_rfl) (by kernel_rfl) (fN.of hf ⟨rfl,rfl,rfl,rfl,rfl,rfl,rfl,trivial,trivial,trivial,trivial,trivial,trivial,trivial,trivial,trivial,trivial⟩) hc ⟨?_,?_,?_,?_,?_,?_,?_,?_,?_,?_,trivial⟩ ?_ ?_
     ·intro E θ a w hD hi hp he hc
      have hf:=he.h0.mT he 4 rfl
      refine zP hf rfl (pFA tK rfl) fun a hf=>zD θ he hi hf 7 rfl rfl rfl hc
     ·intro E θ a w hD hi hp he hc
      have e0:=hp.o 0 rfl
      have e9:=hD.f 1 rfl hi
      try dsimp only at hc
      rw [e9] at hc
      have hf:=he.h0.mP he 7 rfl e0
      refine zL hf hc aDb m6 rfl fun a w hf hc=>zD θ he hi hf 8 rfl rfl rfl ?_
      try dsimp only
      rw [aQ 1 e9 rfl]
      exact hc
     ·intro E θ a w hD hi hp he hc
      have hf:=he.h0.mT he 1 rfl
      refine sp 1 hf rfl fun a hf=>zD θ he hi hf 9 rfl rfl rfl hc
     ·intro E θ a w hD hi hp he hc
      have hf:=he.h0.mT he 3 rfl
      refine sp 1 hf rfl fun a hf=>zD θ he hi hf 10 rfl rfl rfl hc
     ·intro E θ a w hD hi hp he hc
      have e2:=hp.o 2 rfl
      have e3:=hp.o 3 rfl
      have e5:=hD.f 0 rfl hi
      have e6:=hD.f 2 rfl e5
      have e7:=hD.f 3 rfl hi
      try dsimp only at hc
      rw [hi,e6,e7] at hc
      have hf:=(he.h0.mP he 9 rfl e2).mP he 10 rfl e3
      refine zC hf en_9 rfl (aBy (⟨U,ck,cg⟩:aZ) (W (((D.1.length:Nat):Int) + ((W (more)).tmod (W ((W (12 - ((D.1.length:Nat):Int))) + 1))))) bj (hc.pick k14) d2) ?_
      rintro _ w ⟨ib,ia,rfl,hc⟩
      refine ⟨_,rfl,fun a hf=>?_⟩
      refine aP ?_
      refine eJ ?_
      intro ds u a1
      replace hc:=(((((((((((((((hc.drop k3).pick k1).pick k14).pick k14).pick k14).pick k14).pick k14).pick k14).pick k14).pick k14).pick k14).pick k14).pick k14).pick k14).pick k13).pick k14
      refine ⟨(nF θ 32 ⟨0,ib,ia,(fun _=>(none,0))⟩),he.put hi a1 hf rfl [5] ⟨⟨e5,rfl⟩,trivial⟩ ⟨qq,qq,qq,qq,qq,qq,qq,qq,qq,qq,qq,qq,trivial,qq,qq,qq,trivial⟩,?_⟩
      try dsimp only
      rw [aS E 4,aQ 4 e6 rfl,aQ 4 e7 rfl]
      exact hc
     ·intro E θ a w hD hi hp he hc
      have e4:=hp.o 4 rfl
      have hf:=he.h0.mP he 11 rfl e4
      refine zP hf rfl (iF (cells:=[i6 1,.slice ((θ 32).p) X.1.length ((θ 32).c)]) aL6 rfl rfl) fun a hf=>zD θ he hi hf 12 rfl rfl rfl hc
     ·intro E θ a w hD hi hp he hc
      have e5:=hp.o 5 rfl
      have e4:=hD.t 0 rfl e5
      try dsimp only at hc
      rw [hi,e4] at hc
      have hf:=he.h0.mP he 12 rfl e5
      refine oB (rows:=([(((θ 32).p,(θ 32).c),(⟨1,X.1⟩:aJ))]:List (H2 × aJ)).map (Kd.v dP)) (vs:=[(0,.agg #[i6 1,.slice ((θ 32).p) X.1.length ((θ 32).c)])]) hf hc rfl rfl aN5 rfl ⟨rfl,rfl,rfl,trivial⟩ rfl rfl fun j6 a w hf hc=>aP ?_
      refine eJ ?_
      intro ds u a1
      replace hc:=hc.drop k1
      refine ⟨(nF θ 48 ⟨j6,none,0,(fun _=>(none,0))⟩),he.put hi a1 hf rfl [] trivial ⟨qq,qq,qq,qq,qq,qq,qq,qq,qq,qq,qq,qq,qq,qq,qq,qq,trivial⟩,?_⟩
      try dsimp only
      rw [aS E 6,eC 6 e4]
      exact hc
     ·intro E θ a w hD hi hp he hc
      have e1:=hp.o 1 rfl
      have e6:=hp.o 6 rfl
      have e9:=hD.f 4 rfl hi
      try dsimp only at hc
      rw [e6,hi,e9] at hc
      have hf:=(he.h0.mP he 8 rfl e1).mP he 13 rfl e6
      refine pC (xs:=(aU J.2 Z)) (ys:=([(((θ 32).p,(θ 32).c),(⟨1,X.1⟩:aJ))]:List (H2 × aJ))) hf hc rfl rfl aN5 rfl rfl (jJ _ _).symm rfl rfl aLh (kC hc m0) (fun _ _=>u2) (by simpa [jJ] using fD d6) fun dm dj a w hf hc=>?_
      replace hf:=aD8 (v':=.slice dm (Z++[(⟨1,X.1⟩:aJ)]).length dj) (by simp [jJ]) hf
      refine aP ?_
      refine eJ ?_
      intro ds u a1
      refine ⟨(nF θ 56 ⟨0,dm,dj,(fun _=>(none,0))⟩),he.put hi a1 hf rfl [] trivial ⟨qq,qq,qq,qq,qq,qq,qq,qq,qq,qq,qq,qq,qq,qq,qq,qq,trivial⟩,?_⟩
      try dsimp only
      rw [eC 7 e6,aS E 7,aQ 7 e9 rfl]
      exact hc
     ·intro E θ a w hD hi hp he hc
      have hf:=he.h0.mT he 4 rfl
      refine zP hf rfl (pFA tK rfl) fun a hf=>zD θ he hi hf 15 rfl rfl rfl hc
     ·intro E θ a w hD hi hp he hc
      have e7:=hp.o 7 rfl
      have e8:=hp.o 8 rfl
      try dsimp only at hc
      rw [hi] at hc
      have hf:=(he.h0.mP he 14 rfl e7).mP he 15 rfl e8
      refine zW hf hc sz_41 u6 rfl fun w hc=>zG θ he hi hf rfl ?_
      try dsimp only
      rw [aS E 9]
      exact hc
     ·intro E θ a w av he hc
      have hf:=he.h0
      have e4:=av 4 rfl
      have e6:=av 6 rfl
      have e7:=av 7 rfl
      have e9:=av 9 rfl
      replace hf:=hf.more he 6 rfl (onT)
      replace hf:=hf.more he 5 rfl (onT)
      replace hf:=hf.more he 4 rfl (onT)
      replace hf:=hf.more he 3 rfl (onT)
      replace hf:=hf.more he 2 rfl (onT)
      replace hf:=hf.more he 1 rfl (onT)
      replace hf:=hf.more he 0 rfl (onT)
      try dsimp only at hc
      rw [e4,e6,e7,e9] at hc
      exact ⟨(θ 48).b,(θ 32).p,(θ 32).c,(θ 56).p,(θ 56).c,hf.kp rfl,hc⟩
     rintro a w ⟨gi,ca,b8,bv,bz,hf,hc⟩
     replace hc:=(((hc.drop k0).pick k0).pick k2).pick k2
     obtain ⟨cm,hc⟩:=aCj (K:=dP) ([((ca,b8),(⟨1,X.1⟩:aJ))]:List (H2 × aJ)) hc
     replace hc:Ctx G (.row bv bz ((aU cm (Z++[(⟨1,X.1⟩:aJ)])).map (Kd.v dP)) 46 2::cK dP (aU cm (Z++[(⟨1,X.1⟩:aJ)]))::.row ay I.1 ((aU I.2 R).map (Kd.v cL)) 23 1::cK cL (aU I.2 R)::.box m [.slice ay R.length I.1,.slice bv ((Z++[(⟨1,X.1⟩:aJ)]).length) bz] 43::.row af ab (B.1.Down.map aB) 3 1::.row s aa (B.1.Travel.map aI) 27 2::.row ag ad (B.1.Springs.map aB) 3 1::.row aj ac (H.1.map aG) 65 3::.row ai M.1 ((aU M.2 B.1.Floods).map (Kd.v cH)) 68 2::cK cH (aU M.2 B.1.Floods)::.row a6 a5 (D.1.map aB) 3 1::.box aq [.slice Y U.length V,i6 X.2.1,i6 X.2.2] 70::.box n [.slice af B.1.Down.length ab,.slice s B.1.Travel.length aa,.slice ag B.1.Springs.length ad,.slice aj H.1.length ac,i6 H.2.1,i6 H.2.2.1,.slice ai B.1.Floods.length M.1] 30::Lf) w:=hc
     refine jk _ _ ?_
     refine bV ?_
     refine sp 2 hf rfl fun a hf=>aP ?_
     exact i4 (W (c4 + 1),X.2.1,X.2.2,(Z++[(⟨1,X.1⟩:aJ)])) _ _ (sj hF).symm ⟨bv,(bz,cm),hf.kp rfl,hc⟩
    ·refine wp_exit ?_
     refine aY ?_
     refine aY ?_
     have he:=sj hF
     rw [← he] at cx
     refine fJ ?_
     exact gj _ _ _ cx ⟨a0,J,hf.kp rfl,hc⟩
   have kc:∀ r,dv=.out r→r=ci:=by
    rintro r rfl
    exact sj hF
   replace hc:=hc.nilRow 23 1
   replace hc:=aG7 (K:=cL) (hs:=(noH 0)) hc
   replace hc:=(hc.pick k0).pick k1
   refine cZ N (cW (S:=S15) (x:=dv) ?_ N (0,gf.1,gf.2,([]:List (List Int))) _ _ ⟨none,(0,(noH 0)),hf.kp rfl,hc⟩ gr)
   clear hF hf hc
   rintro ⟨x,c7,c6,R⟩ kd a w KB15 ⟨ay,I,hf,hc⟩ hF cv gy
   unfold gT at hF
   refine zS fun K h=>sp 1 hf rfl fun a hf=>zT h ?_
   refine wp_seq_k fun K55 jy=>zI hf rfl hF ?_ ?_ <;> clear hF <;> intro hF
   ·refine wp_skip ?_
    refine jy _ _ ?_
    refine wp_seq_k fun K56 jq=>wp_block ?_
    obtain ⟨d,d8,hF⟩:=aA hF
    obtain ⟨km,gc,hF⟩:=aA hF
    replace hc:=hc.nilRow 0 0
    replace hc:=hc.nilRow 0 0
    refine eL (fun θ=>[⟨none,none,7,pq n⟩,⟨none,none,9,pq aq⟩,⟨none,none,10,.slice a6 D.1.length a5⟩,⟨none,none,12,i6 (W (((D.1.length:Nat):Int) + ((W (more)).tmod (W ((W (12 - ((D.1.length:Nat):Int))) + 1)))))⟩,⟨none,none,13,pq m⟩,⟨none,none,65,i6 (W (((D.1.length:Nat):Int) + ((W (more)).tmod (W ((W (12 - ((D.1.length:Nat):Int))) + 1)))))⟩,⟨none,none,66,i6 x⟩,⟨some 0,none,68,pq m⟩,⟨some 1,none,69,.slice ay R.length I.1⟩,⟨some 2,none,70,pq aq⟩,⟨some 3,none,71,.slice a6 D.1.length a5⟩,⟨some 4,none,72,i6 ((D.1.length:Nat):Int)⟩,⟨some 5,none,73,.slice ((θ 40).p) d.1.length ((θ 40).c)⟩,⟨some 6,none,74,.slice (some ⟨(θ 48).b,0,none⟩) 1 1⟩,⟨some 7,none,75,.slice ((θ 56).p) ((R++[d.1]).length) ((θ 56).c)⟩,⟨some 8,none,76,pq m⟩]) (fun E θ=>(bif E 6 then .row (some ⟨(θ 48).b,0,none⟩) 1 (([(((θ 40).p,(θ 40).c),d.1)]:List (H2 × (List Int))).map (Kd.v cL)) 23 1 else .row none 0 [] 0 0)::(bif E 5 then .row ((θ 40).p) ((θ 40).c) (d.1.map aB) 3 1 else .row none 0 [] 0 0)::(bif E 7 then .row ((θ 56).p) ((θ 56).c) (((aU I.2 R)++([(((θ 40).p,(θ 40).c),d.1)]:List (H2 × (List Int)))).map (Kd.v cL)) 23 1 else .row ay I.1 ((aU I.2 R).map (Kd.v cL)) 23 1)::cK cL (aU I.2 R)::(bif E 9 then .box m [.slice ((θ 56).p) ((R++[d.1]).length) ((θ 56).c),.slice none 0 0] 43 else .box m [.slice ay R.length I.1,.slice none 0 0] 43)::.row af ab (B.1.Down.map aB) 3 1::.row s aa (B.1.Travel.map aI) 27 2::.row ag ad (B.1.Springs.map aB) 3 1::.row aj ac (H.1.map aG) 65 3::.row ai M.1 ((aU M.2 B.1.Floods).map (Kd.v cH)) 68 2::cK cH (aU M.2 B.1.Floods)::.row a6 a5 (D.1.map aB) 3 1::(bif E 5 then .box aq [.slice Y U.length V,i6 d.2.1,i6 d.2.2] 70 else .box aq [.slice Y U.length V,i6 c7,i6 c6] 70)::.box n [.slice af B.1.Down.length ab,.slice s B.1.Travel.length aa,.slice ag B.1.Springs.length ad,.slice aj H.1.length ac,i6 H.2.1,i6 H.2.2.1,.slice ai B.1.Floods.length M.1] 30::Lf) [(9,1),(6,5),(7,5),(9,7)] (fun a w=>∃ (db:Nat) (b6:Option Addr) (b7:Nat) (b1:Option Addr) (b0:Nat),Has 200 a [(7,pq n),(9,pq aq),(10,.slice a6 D.1.length a5),(12,i6 (W (((D.1.length:Nat):Int) + ((W (more)).tmod (W ((W (12 - ((D.1.length:Nat):Int))) + 1)))))),(13,pq m),(65,i6 (W (((D.1.length:Nat):Int) + ((W (more)).tmod (W ((W (12 - ((D.1.length:Nat):Int))) + 1)))))),(66,i6 x)]∧Ctx G (.row (some ⟨db,0,none⟩) 1 (([((b6,b7),d.1)]:List (H2 × (List Int))).map (Kd.v cL)) 23 1::.row b6 b7 (d.1.map aB) 3 1::.row b1 b0 (((aU I.2 R)++([((b6,b7),d.1)]:List (H2 × (List Int)))).map (Kd.v cL)) 23 1::cK cL (aU I.2 R)::.box m [.slice b1 ((R++[d.1]).length) b0,.slice none 0 0] 43::.row af ab (B.1.Down.map aB) 3 1::.row s aa (B.1.Travel.map aI) 27 2::.row ag ad (B.1.Springs.map aB) 3 1::.row aj ac (H.1.map aG) 65 3::.row ai M.1 ((aU M.2 B.1.Floods).map (Kd.v cH)) 68 2::cK cH (aU M.2 B.1.Floods)::.row a6 a5 (D.1.map aB) 3 1::.box aq [.slice Y U.length V,i6 d.2.1,i6 d.2.2] 70::.box n [.slice af B.1.Down.length ab,.slice s B.1.Travel.length aa,.slice ag B.1.Springs.length ad,.slice aj H.1.length ac,i6 H.2.1,i6 H.2.2.1,.slice ai B.1.Floods.length M.1] 30::Lf) w) bA (by kernel_rfl) (by kernel_rfl) (fN.of hf ⟨rfl,rfl,rfl,rfl,rfl,rfl,rfl,trivial,trivial,trivial,trivial,trivial,trivial,trivial,trivial,trivial,trivial⟩) hc ⟨?_,?_,?_,?_,?_,?_,?_,?_,?_,?_,trivial⟩ ?_ ?_
    ·intro E θ a w hD hi hp he hc
     have hf:=he.h0.mT he 4 rfl
     refine zP hf rfl (pFA oM rfl) fun a hf=>zD θ he hi hf 7 rfl rfl rfl hc
    ·intro E θ a w hD hi hp he hc
     have e0:=hp.o 0 rfl
     have e9:=hD.f 0 rfl hi
     try dsimp only at hc
     rw [e9] at hc
     have hf:=he.h0.mP he 7 rfl e0
     refine zL hf hc wA m4 rfl fun a w hf hc=>zD θ he hi hf 8 rfl rfl rfl ?_
     try dsimp only
     rw [aQ 1 e9 rfl]
     exact hc
    ·intro E θ a w hD hi hp he hc
     have hf:=he.h0.mT he 1 rfl
     refine sp 1 hf rfl fun a hf=>zD θ he hi hf 9 rfl rfl rfl hc
    ·intro E θ a w hD hi hp he hc
     have hf:=he.h0.mT he 2 rfl
     refine sp 1 hf rfl fun a hf=>zD θ he hi hf 10 rfl rfl rfl hc
    ·intro E θ a w hD hi hp he hc
     have e3:=hp.o 3 rfl
     have hf:=he.h0.mP he 10 rfl e3
     refine zP hf rfl (bG Tryz.underlying23 rfl) fun a hf=>zD θ he hi hf 11 rfl rfl rfl hc
    ·intro E θ a w hD hi hp he hc
     have e2:=hp.o 2 rfl
     have e4:=hp.o 4 rfl
     have e6:=hD.f 1 rfl hi
     have e7:=hD.f 2 rfl hi
     try dsimp only at hc
     rw [hi,e6,e7] at hc
     have hf:=(he.h0.mP he 9 rfl e2).mP he 11 rfl e4
     refine zC hf en_9 rfl (aBy (⟨U,c7,c6⟩:aZ) ((D.1.length:Nat):Int) bj (hc.pick k12) d8) ?_
     rintro _ w ⟨g5,it,rfl,hc⟩
     refine ⟨_,rfl,fun a hf=>?_⟩
     refine aP ?_
     refine eJ ?_
     intro ds u a1
     replace hc:=(((((((((((((hc.drop k3).pick k1).pick k12).pick k12).pick k12).pick k12).pick k12).pick k12).pick k12).pick k12).pick k12).pick k12).pick k11).pick k12
     refine ⟨(nF θ 40 ⟨0,g5,it,(fun _=>(none,0))⟩),he.put hi a1 hf rfl [] trivial ⟨qq,qq,qq,qq,qq,qq,qq,qq,qq,qq,qq,qq,qq,qq,qq,qq,trivial⟩,?_⟩
     try dsimp only
     rw [aS E 5,aQ 5 e6 rfl,aQ 5 e7 rfl]
     exact hc
    ·intro E θ a w hD hi hp he hc
     have e5:=hp.o 5 rfl
     try dsimp only at hc
     rw [hi,e5] at hc
     have hf:=he.h0.mP he 12 rfl e5
     refine oB (rows:=([(((θ 40).p,(θ 40).c),d.1)]:List (H2 × (List Int))).map (Kd.v cL)) (vs:=[(0,.slice ((θ 40).p) d.1.length ((θ 40).c))]) hf hc rfl rfl aMr rfl ⟨rfl,rfl,rfl,trivial⟩ rfl rfl fun ja a w hf hc=>aP ?_
     refine eJ ?_
     intro ds u a1
     replace hc:=hc.drop k1
     refine ⟨(nF θ 48 ⟨ja,none,0,(fun _=>(none,0))⟩),he.put hi a1 hf rfl [] trivial ⟨qq,qq,qq,qq,qq,qq,qq,qq,qq,qq,qq,qq,qq,qq,qq,qq,trivial⟩,?_⟩
     try dsimp only
     rw [aS E 6,eC 6 e5]
     exact hc
    ·intro E θ a w hD hi hp he hc
     have e1:=hp.o 1 rfl
     have e6:=hp.o 6 rfl
     have e9:=hD.f 3 rfl hi
     try dsimp only at hc
     rw [e6,hi,e9] at hc
     have hf:=(he.h0.mP he 8 rfl e1).mP he 13 rfl e6
     refine pC (xs:=(aU I.2 R)) (ys:=([(((θ 40).p,(θ 40).c),d.1)]:List (H2 × (List Int)))) hf hc rfl rfl aMr rfl rfl (jJ _ _).symm rfl rfl aC3 (kC hc m0) (fun _ _=>u2) (by simpa [jJ] using fD gc) fun dg dr a w hf hc=>?_
     replace hf:=aD8 (v':=.slice dg (R++[d.1]).length dr) (by simp [jJ]) hf
     refine aP ?_
     refine eJ ?_
     intro ds u a1
     refine ⟨(nF θ 56 ⟨0,dg,dr,(fun _=>(none,0))⟩),he.put hi a1 hf rfl [] trivial ⟨qq,qq,qq,qq,qq,qq,qq,qq,qq,qq,qq,qq,qq,qq,qq,qq,trivial⟩,?_⟩
     try dsimp only
     rw [eC 7 e6,aS E 7,aQ 7 e9 rfl]
     exact hc
    ·intro E θ a w hD hi hp he hc
     have hf:=he.h0.mT he 4 rfl
     refine zP hf rfl (pFA oM rfl) fun a hf=>zD θ he hi hf 15 rfl rfl rfl hc
    ·intro E θ a w hD hi hp he hc
     have e7:=hp.o 7 rfl
     have e8:=hp.o 8 rfl
     try dsimp only at hc
     rw [hi] at hc
     have hf:=(he.h0.mP he 14 rfl e7).mP he 15 rfl e8
     refine zW hf hc sz_40 u4 rfl fun w hc=>zG θ he hi hf rfl ?_
     try dsimp only
     rw [aS E 9]
     exact hc
    ·intro E θ a w av he hc
     have hf:=he.h0
     have e5:=av 5 rfl
     have e6:=av 6 rfl
     have e7:=av 7 rfl
     have e9:=av 9 rfl
     replace hf:=hf.more he 6 rfl (onT)
     replace hf:=hf.more he 5 rfl (onT)
     replace hf:=hf.more he 4 rfl (onT)
     replace hf:=hf.more he 3 rfl (onT)
     replace hf:=hf.more he 2 rfl (onT)
     replace hf:=hf.more he 1 rfl (onT)
     replace hf:=hf.more he 0 rfl (onT)
     try dsimp only at hc
     rw [e5,e6,e7,e9] at hc
     exact ⟨(θ 48).b,(θ 40).p,(θ 40).c,(θ 56).p,(θ 56).c,hf.kp rfl,hc⟩
    rintro a w ⟨db,b6,b7,b1,b0,hf,hc⟩
    replace hc:=(((hc.drop k0).pick k0).pick k2).pick k2
    obtain ⟨cq,hc⟩:=aCj (K:=cL) ([((b6,b7),d.1)]:List (H2 × (List Int))) hc
    replace hc:Ctx G (.row b1 b0 ((aU cq (R++[d.1])).map (Kd.v cL)) 23 1::cK cL (aU cq (R++[d.1]))::.box m [.slice b1 ((R++[d.1]).length) b0,.slice none 0 0] 43::.row af ab (B.1.Down.map aB) 3 1::.row s aa (B.1.Travel.map aI) 27 2::.row ag ad (B.1.Springs.map aB) 3 1::.row aj ac (H.1.map aG) 65 3::.row ai M.1 ((aU M.2 B.1.Floods).map (Kd.v cH)) 68 2::cK cH (aU M.2 B.1.Floods)::.row a6 a5 (D.1.map aB) 3 1::.box aq [.slice Y U.length V,i6 d.2.1,i6 d.2.2] 70::.box n [.slice af B.1.Down.length ab,.slice s B.1.Travel.length aa,.slice ag B.1.Springs.length ad,.slice aj H.1.length ac,i6 H.2.1,i6 H.2.2.1,.slice ai B.1.Floods.length M.1] 30::Lf) w:=hc
    refine jq _ _ ?_
    refine bV ?_
    refine sp 2 hf rfl fun a hf=>aP ?_
    exact gy (W (x + 1),d.2.1,d.2.2,(R++[d.1])) _ _ (sj hF).symm ⟨b1,(b0,cq),hf.kp rfl,hc⟩
   ·refine wp_exit ?_
    refine aY ?_
    refine aY ?_
    have he:=sj hF
    rw [← he] at cv
    refine fJ ?_
    exact gz _ _ _ cv ⟨ay,I,hf.kp rfl,hc⟩

end Go.Nilo
