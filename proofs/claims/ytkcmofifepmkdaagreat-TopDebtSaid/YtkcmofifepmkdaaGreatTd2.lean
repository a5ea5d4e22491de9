/-
 What functions of the Go text compute, as plain functions, and that they do, part 2 of 5. Conditions: what each theorem names.
-/
import Derived.Test.YtkcmofifepmkdaaGreatTd1
import Derived.Test.YtkcmofifepmkdaaGreatProg
set_option linter.unusedVariables false
set_option linter.unusedSimpArgs false
set_option maxRecDepth 100000
set_option maxHeartbeats 4000000
namespace Go.Nilo
open Go.Proofs


def hH (N:Nat) (H:Int) (B:Bool) (D:Int→Option aA):Option (dA (Int × Bool × (Int→Option aA)) (dA (Bool × (Int→Option aA)) ((Int→Option aA)))) :=
 some (.cont (W (H + 1),B,D))
def eO (N:Nat) (d:aP) (H:Int) (D:Int→Option aA) (O:Bool) (B:Int→Option aA) (xv:aB):Option (Rs (Bool × (Int→Option aA))) :=
 cond (!(fW xv))
 (some (.go (O,B)))
 (Option.bind (dW N d xv) fun M=>
 Option.bind (eD N d xv) fun I=>
 cond (((!((B I).isSome)) || (decide ((W ((((D H).getD (⟨0,0,(⟨0,false⟩:aB)⟩:aA)).cost) + M.1)) < (((B I).getD (⟨0,0,(⟨0,false⟩:aB)⟩:aA)).cost)))) || (((W ((((D H).getD (⟨0,0,(⟨0,false⟩:aB)⟩:aA)).cost) + M.1)) == (((B I).getD (⟨0,0,(⟨0,false⟩:aB)⟩:aA)).cost)) && (decide ((W ((((D H).getD (⟨0,0,(⟨0,false⟩:aB)⟩:aA)).many) + 1)) < (((B I).getD (⟨0,0,(⟨0,false⟩:aB)⟩:aA)).many)))))
 (Option.bind (eD N d xv) fun J=>
 some (.go (true,(gQ (gQ B J ((B J).getD (⟨0,0,(⟨0,false⟩:aB)⟩:aA))) J (⟨W ((((D H).getD (⟨0,0,(⟨0,false⟩:aB)⟩:aA)).cost) + M.1),W ((((D H).getD (⟨0,0,(⟨0,false⟩:aB)⟩:aA)).many) + 1),xv⟩:aA)))))
 (some (.go (O,B))))
def pV (N:Nat) (d:aP) (D:Int) (I:Bool) (B:Int→Option aA):Option (dA (Int × Bool × (Int→Option aA)) (dA (Bool × (Int→Option aA)) ((Int→Option aA)))) :=
 cond (decide (D < (W (d.ways.outside + 2))))
 (cond (!((B D).isSome))
 (hH N D I B)
 (Option.bind (kG N d D) fun r=>
 Option.bind (dV N d r (rY (fun (zz:Bool × (Int→Option aA)) (M:aB)=>eO N d D B zz.1 zz.2 M)) (.go (I,B))) fun J=>
 rsK J (fun H=>hH N D H.1 H.2) (fun H=>none)))
 (some (.brk (D,I,B)))
def qL (N:Nat) (d:aP) (x:Bool) (mp:Int→Option aA):Option (dA (Bool × (Int→Option aA)) ((Int→Option aA))) :=
 cond x
 (Option.bind (bN (fun B=>pV N d B.1 B.2.1 B.2.2) N (0,false,mp)) fun D=>
 exK D (fun B=>some (.cont (B.2.1,B.2.2))) some)
 (some (.brk (x,mp)))
def kI (N:Nat) (d:aP) (B:Int):Option ((Int→Option aA)) :=
 Option.bind (bN (fun s6=>qL N d s6.1 s6.2) N (true,(gQ (fun _=>none:Int→Option aA) B (⟨0,0,(⟨0,false⟩:aB)⟩:aA)))) fun x6=>
 exK x6 (fun s6=>some s6.2) some
theorem wN {N:Nat} {G:bA} {Lf:List Ent} {w:World} (d:aP) (t:Int) {b_:Nat} {I:Option Addr} {M:Nat} (i:Rd G 5 I M (d.ways.all.map aH)) (hc:Ctx G (.box b_ [.slice I d.ways.all.length M,i6 d.ways.outside,i6 d.reaches] 78::Lf) w) {ak:(Int→Option aA)} (hF:kI N d t=some ak):Calls Tryz.prog 68 #[pq b_,i6 t,.agg #[.func (.func 95) #[] #[]]] w (fun e w=>∃ (aq:Nat),e=.returned (.map (some aq))∧Ctx G (.im aq (fun j=>(ak j).map (fun xq:aA=>.agg #[i6 xq.cost,i6 xq.many,i6 xq.by_.way,.bool xq.by_.back])) none::.box b_ [.slice I d.ways.all.length M,i6 d.ways.outside,i6 d.reaches] 78::Lf) w):=by
 unfold kI at hF
 refine aEy Tryz.func68 rfl Tryz.ntmps68 rfl fun a hf=>zS fun K h=>zB hf hc rfl fun R a w hf hc=>zB hf hc rfl fun X a w hf hc=>sp 1 hf rfl fun a hf=>zT h ?_
 refine zS fun K h=>stMM hf hc rfl rfl fun mb a w hf hc=>?_
 replace hc:Ctx _ (.im mb (fun j=>((fun _=>none:Int→Option aA) j).map (fun xq:aA=>.agg #[i6 xq.cost,i6 xq.many,i6 xq.by_.way,.bool xq.by_.back])) none::_) w:=hc
 refine sp 1 hf rfl fun a hf=>zP hf rfl (bJ (cells:=[i6 0,i6 0,i6 0,.bool false]) aCn rfl rfl) fun a hf=>stMI (enc:=(fun xq:aA=>.agg #[i6 xq.cost,i6 xq.many,i6 xq.by_.way,.bool xq.by_.back])) (m:=(fun _=>none:Int→Option aA)) (v:=(⟨0,0,(⟨0,false⟩:aB)⟩:aA)) hf hc rfl Tryz.underlying165 Tryz.underlying3 rfl rfl rfl u0 fun w hc=>sp 1 hf rfl fun a hf=>aHw (cs:=[.map none]) hf hc rfl rfl aL5 rfl fun V a w hf hc=>aKa (vs:=[.map (some mb)]) hf hc rfl rfl rfl rfl aK2 rfl rfl u0 fun w hc=>zT h ?_
 refine zS fun K h=>zL hf hc nT m3 rfl fun a w hf hc=>zP hf rfl (pMF (vs:=[pq b_]) (us:=[]) rfl rfl) fun a hf=>zA hf hc aM6 rfl fun U a w hf hc=>zW hf hc aMs u0 rfl fun w hc=>zT h ?_
 refine wp_seq_k fun K4 h4=>zS fun K h=>zA hf hc aMo rfl fun ar a w hf hc=>zW hf hc aBv u0 rfl fun w hc=>zT h ?_
 refine wp_block ?_
 obtain ⟨x6,a6,hF⟩:=aC hF
 let S6:(Bool × (Int→Option aA))→Act→World→Prop:=(fun (zz:Bool × (Int→Option aA)) a w=>∃ (bq:Nat) (Ds:List Nat),Has ⟨108,lK Ds⟩ a [(3,pq R),(5,pq X),(7,pq V),(8,pq U),(9,pq bq)]∧Ctx G (.box bq [.bool zz.1] 4::.box U [.func (.func 66) #[pq b_] #[]] 160::.box V [.map (some mb)] 165::.im mb (fun j=>(zz.2 j).map (fun xq:aA=>.agg #[i6 xq.cost,i6 xq.many,i6 xq.by_.way,.bool xq.by_.back])) none::.box X [.func (.func 95) #[] #[]] 163::.box R [pq b_] 71::.box b_ [.slice I d.ways.all.length M,i6 d.ways.outside,i6 d.reaches] 78::(nI Ds++Lf)) w)
 have a5:∀ (zz:Bool × (Int→Option aA)) a w,x6=.go zz→S6 zz a w→K4 a w:=by
  rintro ⟨x,mp⟩ a w rfl ⟨bq,Ds,hf,hc⟩
  replace hF:=cJ hF
  refine h4 _ _ ?_
  refine zS fun K h=>zL hf hc wT m2 rfl fun a w hf hc=>sp 1 hf rfl fun a hf=>zT h ?_
  refine wp_ret ?_
  obtain rfl:=sj hF
  replace hc:=((((hc.drop k5).drop k4).drop k2).drop k1).drop k0
  refine aFx hf ?_
  refine aAd [.im mb (fun j=>(mp j).map (fun xq:aA=>.agg #[i6 xq.cost,i6 xq.many,i6 xq.by_.way,.bool xq.by_.back])) none,.box b_ [.slice I d.ways.all.length M,i6 d.ways.outside,i6 d.reaches] 78] Ds hc fun w hc=>?_
  replace hc:Ctx G (.im mb (fun j=>(mp j).map (fun xq:aA=>.agg #[i6 xq.cost,i6 xq.many,i6 xq.by_.way,.bool xq.by_.back])) none::.box b_ [.slice I d.ways.all.length M,i6 d.ways.outside,i6 d.reaches] 78::Lf) w:=hc
  exact aFs Tryz.results68 hf hc (show iK _ 6=_ from rfl) ⟨mb,rfl,hc⟩
 have bt:∀ r,x6=.out r→r=ak:=by
  rintro r rfl
  exact sj hF
 replace hf:=aJm hf
 replace hc:Ctx G (.box ar [.bool true] 4::.box U [.func (.func 66) #[pq b_] #[]] 160::.box V [.map (some mb)] 165::.im mb (fun j=>((gQ (fun _=>none:Int→Option aA) t (⟨0,0,(⟨0,false⟩:aB)⟩:aA)) j).map (fun xq:aA=>.agg #[i6 xq.cost,i6 xq.many,i6 xq.by_.way,.bool xq.by_.back])) none::.box X [.func (.func 95) #[] #[]] 163::.box R [pq b_] 71::.box b_ [.slice I d.ways.all.length M,i6 d.ways.outside,i6 d.reaches] 78::(nI []++Lf)) w:=hc
 refine dQ N (dP (S:=S6) (x:=x6) ?_ N (true,(gQ (fun _=>none:Int→Option aA) t (⟨0,0,(⟨0,false⟩:aB)⟩:aA))) _ _ ⟨ar,[],hf.kp rfl,hc⟩ a6)
 clear hF hf hc
 rintro ⟨x,mp⟩ bf a w KB6 ⟨bq,Ds,hf,hc⟩ hF ag bd
 unfold qL at hF
 refine wp_seq_k fun K8 h8=>zS fun K h=>zL hf hc vC m0 rfl fun a w hf hc=>zT h ?_
 refine zI hf rfl hF ?_ ?_ <;> clear hF <;> intro hF
 ·refine wp_skip ?_
  refine h8 _ _ ?_
  refine wp_seq_k fun K10 bj=>wp_block ?_
  refine zS fun K h=>zW hf hc aBv u0 rfl fun w hc=>zT h ?_
  refine zS fun K h=>zL hf hc nT m5 rfl fun a w hf hc=>sp 1 hf rfl fun a hf=>zP hf rfl (pFA gA rfl) fun a hf=>zP hf rfl (pFA yW rfl) fun a hf=>zL hf hc aX m6 rfl fun a w hf hc=>sp 2 hf rfl fun a hf=>zT h ?_
  refine lR fun K13 bm=>wp_block ?_
  obtain ⟨ap,ay,hF⟩:=aC hF
  let S14:(Int × Bool × (Int→Option aA))→Act→World→Prop:=(fun (zz:Int × Bool × (Int→Option aA)) a w=>∃ (Ds_1:List Nat),Has ⟨108,lK Ds_1⟩ a [(3,pq R),(5,pq X),(7,pq V),(8,pq U),(9,pq bq),(31,i6 (W (d.ways.outside + 2))),(32,i6 zz.1)]∧Ctx G (.box bq [.bool zz.2.1] 4::.box U [.func (.func 66) #[pq b_] #[]] 160::.box V [.map (some mb)] 165::.im mb (fun j=>(zz.2.2 j).map (fun xq:aA=>.agg #[i6 xq.cost,i6 xq.many,i6 xq.by_.way,.bool xq.by_.back])) none::.box X [.func (.func 95) #[] #[]] 163::.box R [pq b_] 71::.box b_ [.slice I d.ways.all.length M,i6 d.ways.outside,i6 d.reaches] 78::(nI Ds_1++Lf)) w)
  have av:∀ (zz:Int × Bool × (Int→Option aA)) a w,ap=.go zz→S14 zz a w→K13 a w:=by
   rintro ⟨H,y,D⟩ a w rfl ⟨Ds_1,hf,hc⟩
   replace hF:=cJ hF
   refine bm _ _ ?_
   refine bj _ _ ?_
   refine zS fun K h=>zL hf hc vC m0 rfl fun a w hf hc=>zT h ?_
   refine cX ?_
   refine zA hf hc aMo rfl fun bc a w hf hc=>zW hf hc aBv u0 rfl fun w hc=>aQ ?_
   replace hc:=hc.drop k1
   exact bd (y,D) _ _ (sj hF).symm ⟨bc,Ds_1,hf.kp rfl,hc⟩
  have bs:∀ r,ap=.out r→r=bf:=by
   rintro r rfl
   exact sj hF
  refine dQ N (dP (S:=S14) (x:=ap) ?_ N (0,false,mp) _ _ ⟨Ds,hf.kp rfl,hc⟩ ay)
  clear hF hf hc
  rintro ⟨H,y,D⟩ af a w KB14 ⟨Ds_1,hf,hc⟩ hF ad a2
  unfold pV at hF
  refine zS fun K h=>sp 1 hf rfl fun a hf=>zT h ?_
  refine wp_seq_k fun K17 bi=>zI hf rfl hF ?_ ?_ <;> clear hF <;> intro hF
  ·refine wp_skip ?_
   refine bi _ _ ?_
   refine wp_seq_k fun K18 a8=>?_
   have aj:∀ (ac:Bool) (ab:Int→Option aA) (Ds_2:List Nat) a w,Has ⟨108,lK Ds_2⟩ a [(3,pq R),(5,pq X),(7,pq V),(8,pq U),(9,pq bq),(31,i6 (W (d.ways.outside + 2))),(32,i6 H)]→Ctx G (.box bq [.bool ac] 4::.box U [.func (.func 66) #[pq b_] #[]] 160::.box V [.map (some mb)] 165::.im mb (fun j=>(ab j).map (fun xq:aA=>.agg #[i6 xq.cost,i6 xq.many,i6 xq.by_.way,.bool xq.by_.back])) none::.box X [.func (.func 95) #[] #[]] 163::.box R [pq b_] 71::.box b_ [.slice I d.ways.all.length M,i6 d.ways.outside,i6 d.reaches] 78::(nI Ds_2++Lf)) w→hH N H ac ab=some af→K18 a w:=by
    repeat (clear hF)
    repeat (clear hc)
    repeat (clear hf)
    intro ac ab Ds_2 a w hf hc hF
    unfold hH at hF
    refine a8 _ _ ?_
    refine cX ?_
    refine sp 2 hf rfl fun a hf=>aQ ?_
    exact a2 (W (H + 1),ac,ab) _ _ (sj hF).symm ⟨Ds_2,hf.kp rfl,hc⟩
   refine wp_block ?_
   refine zS fun K h=>sp 2 hf rfl fun a hf=>zT h ?_
   refine zS fun K h=>zL hf hc wT m2 rfl fun a w hf hc=>sp 1 hf rfl fun a hf=>zE hf hc rfl (aCg (enc:=(fun xq:aA=>.agg #[i6 xq.cost,i6 xq.many,i6 xq.by_.way,.bool xq.by_.back])) (z0:=(⟨0,0,(⟨0,false⟩:aB)⟩:aA)) (m:=D) m3 Tryz.underlying165 Tryz.underlying3 nB rfl rfl) fun a w hf hc=>sp 3 hf rfl fun a hf=>zA hf hc nB rfl fun g a w hf hc=>zW hf hc uG u0 rfl fun w hc=>sp 1 hf rfl fun a hf=>zT h ?_
   refine wp_seq_k fun K21 a7=>zS fun K h=>sp 2 hf rfl fun a hf=>zT h ?_
   refine zI hf rfl hF ?_ ?_ <;> clear hF <;> intro hF
   ·refine wp_exit ?_
    refine bI ?_
    refine fB ?_
    replace hc:=hc.drop k0
    exact aj y D Ds_1 _ _  (hf.kp rfl) hc hF
   ·refine wp_skip ?_
    refine a7 _ _ ?_
    refine zS fun K h=>zL hf hc nT m6 rfl fun a w hf hc=>sp 1 hf rfl fun a hf=>?_
    obtain ⟨r,hr,hF⟩:=aC hF
    refine zC hf aK1 rfl (qM d H i (hc.pick k7) hr) ?_
    rintro _ w ⟨aa,z,rfl,hc⟩
    refine ⟨_,rfl,fun a hf=>?_⟩
    refine zT h ?_
    obtain ⟨a4,au,hF⟩:=aC hF
    refine aGa (C:=[.box aa [pq b_] 71,.box z [i6 r] 3]) (C2:=[.box aa [pq b_] 71,.box z [i6 r] 3]) (L0:=[.box b_ [.slice I d.ways.all.length M,i6 d.ways.outside,i6 d.reaches] 78,.box g [i6 (((D H).getD (⟨0,0,(⟨0,false⟩:aB)⟩:aA)).cost),i6 (((D H).getD (⟨0,0,(⟨0,false⟩:aB)⟩:aA)).many),i6 ((((D H).getD (⟨0,0,(⟨0,false⟩:aB)⟩:aA)).by_).way),.bool ((((D H).getD (⟨0,0,(⟨0,false⟩:aB)⟩:aA)).by_).back)] 168,.box bq [.bool y] 4,.box U [.func (.func 66) #[pq b_] #[]] 160,.box V [.map (some mb)] 165,.im mb (fun j=>(D j).map (fun xq:aA=>.agg #[i6 xq.cost,i6 xq.many,i6 xq.by_.way,.bool xq.by_.back])) none,.box X [.func (.func 95) #[] #[]] 163,.box R [pq b_] 71]) (Lf:=(nI Ds_1++Lf)) (encs:=fun x:aB=>[.agg #[i6 x.way,.bool x.back]]) (fun (zz:Bool × (Int→Option aA)) L=>L=[.box b_ [.slice I d.ways.all.length M,i6 d.ways.outside,i6 d.reaches] 78,.box g [i6 (((D H).getD (⟨0,0,(⟨0,false⟩:aB)⟩:aA)).cost),i6 (((D H).getD (⟨0,0,(⟨0,false⟩:aB)⟩:aA)).many),i6 ((((D H).getD (⟨0,0,(⟨0,false⟩:aB)⟩:aA)).by_).way),.bool ((((D H).getD (⟨0,0,(⟨0,false⟩:aB)⟩:aA)).by_).back)] 168,.box bq [.bool zz.1] 4,.box U [.func (.func 66) #[pq b_] #[]] 160,.box V [.map (some mb)] 165,.im mb (fun j=>(zz.2 j).map (fun xq:aA=>.agg #[i6 xq.cost,i6 xq.many,i6 xq.by_.way,.bool xq.by_.back])) none,.box X [.func (.func 95) #[] #[]] 163,.box R [pq b_] 71]) (fun (zz:Bool × (Int→Option aA)) (ba:aB)=>eO N d H D zz.1 zz.2 ba) (y,D) a4 hf hc rfl aM8 (fun _=>rfl) rfl rfl ?_ ?_ ?_ ?_
    ·intro lq mq J A Lx w hy hJ hc
     exact pG d r i J _ hy _ hJ hc au
    ·clear hF hf hc
     rintro lq mq ⟨Z,B⟩ xv oq _ Lr Lb a w bu rfl hF hf hc hK
     replace hf:Has 108 a [(3,pq R),(5,pq X),(7,pq V),(8,pq U),(9,pq bq),(11,pq g),(31,i6 (W (d.ways.outside + 2))),(32,i6 H),(46,.agg #[i6 xv.way,.bool xv.back])]:=hf.kp rfl
     replace hc:Ctx G (.box b_ [.slice I d.ways.all.length M,i6 d.ways.outside,i6 d.reaches] 78::.box g [i6 (((D H).getD (⟨0,0,(⟨0,false⟩:aB)⟩:aA)).cost),i6 (((D H).getD (⟨0,0,(⟨0,false⟩:aB)⟩:aA)).many),i6 ((((D H).getD (⟨0,0,(⟨0,false⟩:aB)⟩:aA)).by_).way),.bool ((((D H).getD (⟨0,0,(⟨0,false⟩:aB)⟩:aA)).by_).back)] 168::.box bq [.bool Z] 4::.box U [.func (.func 66) #[pq b_] #[]] 160::.box V [.map (some mb)] 165::.im mb (fun j=>(B j).map (fun xq:aA=>.agg #[i6 xq.cost,i6 xq.many,i6 xq.by_.way,.bool xq.by_.back])) none::.box X [.func (.func 95) #[] #[]] 163::.box R [pq b_] 71::Lr) w:=hc
     replace hF:eO N d H D Z B xv=some oq:=hF
     unfold eO at hF
     refine sP (fun _ _ h=>h) rfl ?_
     refine zA hf hc aAw rfl fun n a w hf hc=>zW hf hc xK u0 rfl fun w hc=>aQ ?_
     refine hK _ _ [.box n [i6 xv.way,.bool xv.back] 158,.box b_ [.slice I d.ways.all.length M,i6 d.ways.outside,i6 d.reaches] 78,.box g [i6 (((D H).getD (⟨0,0,(⟨0,false⟩:aB)⟩:aA)).cost),i6 (((D H).getD (⟨0,0,(⟨0,false⟩:aB)⟩:aA)).many),i6 ((((D H).getD (⟨0,0,(⟨0,false⟩:aB)⟩:aA)).by_).way),.bool ((((D H).getD (⟨0,0,(⟨0,false⟩:aB)⟩:aA)).by_).back)] 168,.box bq [.bool Z] 4,.box U [.func (.func 66) #[pq b_] #[]] 160,.box V [.map (some mb)] 165,.im mb (fun j=>(B j).map (fun xq:aA=>.agg #[i6 xq.cost,i6 xq.many,i6 xq.by_.way,.bool xq.by_.back])) none,.box X [.func (.func 95) #[] #[]] 163,.box R [pq b_] 71] hc fun w hc=>?_
     replace hc:Ctx G (.box n [i6 xv.way,.bool xv.back] 158::.box b_ [.slice I d.ways.all.length M,i6 d.ways.outside,i6 d.reaches] 78::.box g [i6 (((D H).getD (⟨0,0,(⟨0,false⟩:aB)⟩:aA)).cost),i6 (((D H).getD (⟨0,0,(⟨0,false⟩:aB)⟩:aA)).many),i6 ((((D H).getD (⟨0,0,(⟨0,false⟩:aB)⟩:aA)).by_).way),.bool ((((D H).getD (⟨0,0,(⟨0,false⟩:aB)⟩:aA)).by_).back)] 168::.box bq [.bool Z] 4::.box U [.func (.func 66) #[pq b_] #[]] 160::.box V [.map (some mb)] 165::.im mb (fun j=>(B j).map (fun xq:aA=>.agg #[i6 xq.cost,i6 xq.many,i6 xq.by_.way,.bool xq.by_.back])) none::.box X [.func (.func 95) #[] #[]] 163::.box R [pq b_] 71::Lb) w:=hc
     refine xA fun K25 am=>vZ ?_
     refine sE fun K26 bk=>sE fun K27 bg=>sP (fun _ _ h=>h) rfl ?_
     refine zP hf rfl (pFA aHi rfl) fun a hf=>zL hf hc aL6 m7 rfl fun a w hf hc=>zN hf hc kQ m0 rfl fun a w hf hc=>zQ (v:=.bool (fW xv)) hf hc en_95 rfl (fun w hc=>uI xv hc rfl) fun a w hf hc=>sp 1 hf rfl fun a hf=>aQ ?_
     refine bg _ _ ?_
     refine aDe (b:=(!(fW xv))) hf rfl (fun hb=>?_) (fun hb=>?_)
     ·replace hF:=gI hb hF
      clear hb
      refine aKz ?_
      refine bI ?_
      refine fB ?_
      refine am _ _ ?_
      replace hc:=hc.drop k0
      exact ⟨(Z,B),_,(sj hF).symm,rfl,hc⟩
     ·replace hF:=nU hb hF
      clear hb
      refine aC4 ?_
      refine bk _ _ ?_
      refine sE fun K28 bb=>sP (fun _ _ h=>h) rfl ?_
      refine zL hf hc aNb m4 rfl fun a w hf hc=>zN hf hc kQ m0 rfl fun a w hf hc=>?_
      obtain ⟨Y,a1,hF⟩:=aC hF
      refine zQ (v:=.tuple #[i6 Y.1,i6 Y.2]) hf hc aG5 rfl (fun w hc=>(iV d xv i (hc.pick k1) a1).mono fun e w h=>⟨h.1,(h.2.unpick k1)⟩) fun a w hf hc=>sp 5 hf rfl fun a hf=>aQ ?_
      refine bb _ _ ?_
      refine sE fun K29 bn=>sP (fun _ _ h=>h) rfl ?_
      refine zP hf rfl (pFA kT rfl) fun a hf=>zL hf hc aX m2 rfl fun a w hf hc=>sp 2 hf rfl fun a hf=>zP hf rfl (pFA rK rfl) fun a hf=>zL hf hc aX m2 rfl fun a w hf hc=>sp 1 hf rfl fun a hf=>zN hf hc kQ m0 rfl fun a w hf hc=>zP hf rfl (bJ (cells:=[i6 (W ((((D H).getD (⟨0,0,(⟨0,false⟩:aB)⟩:aA)).cost) + Y.1)),i6 (W ((((D H).getD (⟨0,0,(⟨0,false⟩:aB)⟩:aA)).many) + 1)),i6 xv.way,.bool xv.back]) aCn rfl rfl) fun a hf=>zA hf hc nB rfl fun p a w hf hc=>zW hf hc uG u0 rfl fun w hc=>aQ ?_
      refine bn _ _ ?_
      refine sE fun K30 br=>?_
      obtain ⟨O,a0,hF⟩:=aC hF
      replace hc:=hc.nilRow 0 0
      refine xP (fun _ _ h=>h) rfl (fun θ=>[⟨none,none,3,pq R⟩,⟨none,none,5,pq X⟩,⟨none,none,7,pq V⟩,⟨none,none,8,pq U⟩,⟨none,none,9,pq bq⟩,⟨none,none,11,pq g⟩,⟨none,none,13,pq n⟩,⟨none,none,16,pq p⟩,⟨none,none,31,i6 (W (d.ways.outside + 2))⟩,⟨none,none,32,i6 H⟩,⟨some 0,none,68,.map (some mb)⟩,⟨some 1,none,69,pq b_⟩,⟨some 2,none,70,.agg #[i6 xv.way,.bool xv.back]⟩,⟨some 3,none,71,i6 O⟩,⟨some 4,none,72,.tuple #[.agg #[i6 (((B O).getD (⟨0,0,(⟨0,false⟩:aB)⟩:aA)).cost),i6 (((B O).getD (⟨0,0,(⟨0,false⟩:aB)⟩:aA)).many),i6 ((((B O).getD (⟨0,0,(⟨0,false⟩:aB)⟩:aA)).by_).way),.bool ((((B O).getD (⟨0,0,(⟨0,false⟩:aB)⟩:aA)).by_).back)],.bool ((B O).isSome)]⟩,⟨some 5,none,67,.tuple #[.agg #[i6 (((B O).getD (⟨0,0,(⟨0,false⟩:aB)⟩:aA)).cost),i6 (((B O).getD (⟨0,0,(⟨0,false⟩:aB)⟩:aA)).many),i6 ((((B O).getD (⟨0,0,(⟨0,false⟩:aB)⟩:aA)).by_).way),.bool ((((B O).getD (⟨0,0,(⟨0,false⟩:aB)⟩:aA)).by_).back)],.bool ((B O).isSome)]⟩,⟨some 6,none,73,.agg #[i6 (((B O).getD (⟨0,0,(⟨0,false⟩:aB)⟩:aA)).cost),i6 (((B O).getD (⟨0,0,(⟨0,false⟩:aB)⟩:aA)).many),i6 ((((B O).getD (⟨0,0,(⟨0,false⟩:aB)⟩:aA)).by_).way),.bool ((((B O).getD (⟨0,0,(⟨0,false⟩:aB)⟩:aA)).by_).back)]⟩,⟨some 7,none,74,.bool ((B O).isSome)⟩,⟨some 8,none,17,.pointer (some ⟨(θ 64).b,0,none⟩)⟩,⟨some 10,none,18,.bool ((B O).isSome)⟩]) (fun E θ=>(bif E 9 then .box (θ 64).b [i6 (((B O).getD (⟨0,0,(⟨0,false⟩:aB)⟩:aA)).cost),i6 (((B O).getD (⟨0,0,(⟨0,false⟩:aB)⟩:aA)).many),i6 ((((B O).getD (⟨0,0,(⟨0,false⟩:aB)⟩:aA)).by_).way),.bool ((((B O).getD (⟨0,0,(⟨0,false⟩:aB)⟩:aA)).by_).back)] 168 else bif E 8 then .box (θ 64).b [i6 0,i6 0,i6 0,.bool false] 168 else .row none 0 [] 0 0)::.box p [i6 (W ((((D H).getD (⟨0,0,(⟨0,false⟩:aB)⟩:aA)).cost) + Y.1)),i6 (W ((((D H).getD (⟨0,0,(⟨0,false⟩:aB)⟩:aA)).many) + 1)),i6 xv.way,.bool xv.back] 168::.box n [i6 xv.way,.bool xv.back] 158::.box b_ [.slice I d.ways.all.length M,i6 d.ways.outside,i6 d.reaches] 78::.box g [i6 (((D H).getD (⟨0,0,(⟨0,false⟩:aB)⟩:aA)).cost),i6 (((D H).getD (⟨0,0,(⟨0,false⟩:aB)⟩:aA)).many),i6 ((((D H).getD (⟨0,0,(⟨0,false⟩:aB)⟩:aA)).by_).way),.bool ((((D H).getD (⟨0,0,(⟨0,false⟩:aB)⟩:aA)).by_).back)] 168::.box bq [.bool Z] 4::.box U [.func (.func 66) #[pq b_] #[]] 160::.box V [.map (some mb)] 165::.im mb (fun j=>(B j).map (fun xq:aA=>.agg #[i6 xq.cost,i6 xq.many,i6 xq.by_.way,.bool xq.by_.back])) none::.box X [.func (.func 95) #[] #[]] 163::.box R [pq b_] 71::Lb) [(9,8)] (fun a w=>∃ (q:Nat),Has 108 a [(3,pq R),(5,pq X),(7,pq V),(8,pq U),(9,pq bq),(11,pq g),(13,pq n),(16,pq p),(31,i6 (W (d.ways.outside + 2))),(32,i6 H),(17,pq q),(18,.bool ((B O).isSome))]∧Ctx G (.box q [i6 (((B O).getD (⟨0,0,(⟨0,false⟩:aB)⟩:aA)).cost),i6 (((B O).getD (⟨0,0,(⟨0,false⟩:aB)⟩:aA)).many),i6 ((((B O).getD (⟨0,0,(⟨0,false⟩:aB)⟩:aA)).by_).way),.bool ((((B O).getD (⟨0,0,(⟨0,false⟩:aB)⟩:aA)).by_).back)] 168::.box p [i6 (W ((((D H).getD (⟨0,0,(⟨0,false⟩:aB)⟩:aA)).cost) + Y.1)),i6 (W ((((D H).getD (⟨0,0,(⟨0,false⟩:aB)⟩:aA)).many) + 1)),i6 xv.way,.bool xv.back] 168::.box n [i6 xv.way,.bool xv.back] 158::.box b_ [.slice I d.ways.all.length M,i6 d.ways.outside,i6 d.reaches] 78::.box g [i6 (((D H).getD (⟨0,0,(⟨0,false⟩:aB)⟩:aA)).cost),i6 (((D H).getD (⟨0,0,(⟨0,false⟩:aB)⟩:aA)).many),i6 ((((D H).getD (⟨0,0,(⟨0,false⟩:aB)⟩:aA)).by_).way),.bool ((((D H).getD (⟨0,0,(⟨0,false⟩:aB)⟩:aA)).by_).back)] 168::.box bq [.bool Z] 4::.box U [.func (.func 66) #[pq b_] #[]] 160::.box V [.map (some mb)] 165::.im mb (fun j=>(B j).map (fun xq:aA=>.agg #[i6 xq.cost,i6 xq.many,i6 xq.by_.way,.bool xq.by_.back])) none::.box X [.func (.func 95) #[] #[]] 163::.box R [pq b_] 71::Lb) w) aT (by kernel_rfl) (by kernel_rfl) (dL.of hf ⟨rfl,rfl,rfl,rfl,rfl,rfl,rfl,rfl,rfl,rfl,trivial,trivial,trivial,trivial,trivial,trivial,trivial,trivial,trivial,trivial,trivial⟩) hc ⟨?_,?_,?_,?_,?_,?_,?_,?_,?_,?_,?_,trivial⟩ ?_ ?_
      ·intro E θ a w hD hi hp he hc
       have hf:=he.h0.mT he 2 rfl
       refine zL hf hc wT m7 rfl fun a w hf hc=>zD θ he hi hf 10 rfl rfl rfl hc
      ·intro E θ a w hD hi hp he hc
       have hf:=he.h0.mT he 0 rfl
       refine zL hf hc nT m10 rfl fun a w hf hc=>zD θ he hi hf 11 rfl rfl rfl hc
      ·intro E θ a w hD hi hp he hc
       have hf:=he.h0.mT he 6 rfl
       refine zN hf hc kQ m2 rfl fun a w hf hc=>zD θ he hi hf 12 rfl rfl rfl hc
      ·intro E θ a w hD hi hp he hc
       have e1:=hp.o 1 rfl
       have e2:=hp.o 2 rfl
       have hf:=(he.h0.mP he 11 rfl e1).mP he 12 rfl e2
       refine zQ (v:=i6 O) hf hc aCt rfl (fun w hc=>(gG d xv i (hc.pick k3) a0).mono fun e w h=>⟨h.1,(h.2.unpick k3)⟩) fun a w hf hc=>zD θ he hi hf 13 rfl rfl rfl hc
      ·intro E θ a w hD hi hp he hc
       have e0:=hp.o 0 rfl
       have e3:=hp.o 3 rfl
       have hf:=(he.h0.mP he 10 rfl e0).mP he 13 rfl e3
       refine zE hf hc rfl (aCg (enc:=(fun xq:aA=>.agg #[i6 xq.cost,i6 xq.many,i6 xq.by_.way,.bool xq.by_.back])) (z0:=(⟨0,0,(⟨0,false⟩:aB)⟩:aA)) (m:=B) m8 Tryz.underlying165 Tryz.underlying3 nB rfl rfl) fun a w hf hc=>zD θ he hi hf 14 rfl rfl rfl hc
      ·intro E θ a w hD hi hp he hc
       have e4:=hp.o 4 rfl
       have hf:=he.h0.mP he 14 rfl e4
       refine sp 1 hf rfl fun a hf=>zD θ he hi hf 15 rfl rfl rfl hc
      ·intro E θ a w hD hi hp he hc
       have e5:=hp.o 5 rfl
       have hf:=he.h0.mP he 15 rfl e5
       refine sp 1 hf rfl fun a hf=>zD θ he hi hf 16 rfl rfl rfl hc
      ·intro E θ a w hD hi hp he hc
       have e5:=hp.o 5 rfl
       have hf:=he.h0.mP he 15 rfl e5
       refine sp 1 hf rfl fun a hf=>zD θ he hi hf 17 rfl rfl rfl hc
      ·intro E θ a w hD hi hp he hc
       have e9:=hD.f 0 rfl hi
       try dsimp only at hc
       rw [hi,e9] at hc
       have hf:=he.h0
       refine zA hf hc nB rfl fun az a w hf hc=>aQ ?_
       refine bV ?_
       intro ds u ai
       replace hc:=hc.drop k1
       refine ⟨(hZ θ 64 ⟨az,none,0,(fun _=>(none,0))⟩),he.put hi ai hf rfl [] trivial ⟨qq,qq,qq,qq,qq,qq,qq,qq,qq,qq,qq,qq,qq,qq,qq,qq,qq,qq,qq,qq,trivial⟩,?_⟩
       try dsimp only
       rw [aN E 8,aS 8 e9 rfl]
       exact hc
      ·intro E θ a w hD hi hp he hc
       have e6:=hp.o 6 rfl
       have e8:=hp.o 8 rfl
       try dsimp only at hc
       rw [e8,hi] at hc
       have hf:=(he.h0.mP he 16 rfl e6).mP he 18 rfl e8
       refine zW hf hc uG u0 rfl fun w hc=>zG θ he hi hf rfl ?_
       try dsimp only
       rw [cB 9 e8,aN E 9]
       exact hc
      ·intro E θ a w hD hi hp he hc
       have e7:=hp.o 7 rfl
       have hf:=he.h0.mP he 17 rfl e7
       refine sp 1 hf rfl fun a hf=>zD θ he hi hf 19 rfl rfl rfl hc
      ·intro E θ a w s he hc
       have hf:=he.h0
       have e8:=s 8 rfl
       have e9:=s 9 rfl
       have a9:=s 10 rfl
       replace hf:=hf.more he 19 rfl (onP a9)
       replace hf:=hf.more he 18 rfl (onP e8)
       replace hf:=hf.more he 9 rfl (onT)
       replace hf:=hf.more he 8 rfl (onT)
       replace hf:=hf.more he 7 rfl (onT)
       replace hf:=hf.more he 6 rfl (onT)
       replace hf:=hf.more he 5 rfl (onT)
       replace hf:=hf.more he 4 rfl (onT)
       replace hf:=hf.more he 3 rfl (onT)
       replace hf:=hf.more he 2 rfl (onT)
       replace hf:=hf.more he 1 rfl (onT)
       replace hf:=hf.more he 0 rfl (onT)
       try dsimp only at hc
       rw [e8,e9] at hc
       exact ⟨(θ 64).b,hf.kp rfl,hc⟩
      rintro a w ⟨q,hf,hc⟩
      refine br _ _ ?_
      refine sE fun K31 a3=>sP (fun _ _ h=>h) rfl ?_
      refine sp 3 hf rfl fun a hf=>fL 6 (fun a=>Has 108 a [(3,pq R),(5,pq X),(7,pq V),(8,pq U),(9,pq bq),(11,pq g),(13,pq n),(16,pq p),(31,i6 (W (d.ways.outside + 2))),(32,i6 H),(17,pq q),(18,.bool ((B O).isSome)),(75,.bool ((B O).isSome)),(76,.bool (!((B O).isSome))),(77,.bool (!((B O).isSome))),(83,.bool ((!((B O).isSome)) || (decide ((W ((((D H).getD (⟨0,0,(⟨0,false⟩:aB)⟩:aA)).cost) + Y.1)) < (((B O).getD (⟨0,0,(⟨0,false⟩:aB)⟩:aA)).cost)))))]) hc ?_ ?_
      ·cases hb:(!((B O).isSome))
       ·rw [hb] at hf
        refine zP hf rfl (pFA kT rfl) fun a hf=>zL hf hc aX m1 rfl fun a w hf hc=>zP hf rfl (pFA kT rfl) fun a hf=>zL hf hc aX m0 rfl fun a w hf hc=>sp 2 hf rfl fun a hf=>aQ ⟨hf.kp rfl,hc⟩
       ·rw [hb] at hf
        refine stS hf rfl rfl rfl fun a hf=>stS hf rfl rfl rfl fun a hf=>stS hf rfl rfl rfl fun a hf=>stS hf rfl rfl rfl fun a hf=>stS hf rfl rfl rfl fun a hf=>sp 1 hf rfl fun a hf=>aQ ⟨hf.kp rfl,hc⟩
      intro a w ⟨hf,hc⟩
      refine sp 1 hf rfl fun a hf=>fL 13 (fun a=>Has 108 a [(3,pq R),(5,pq X),(7,pq V),(8,pq U),(9,pq bq),(11,pq g),(13,pq n),(16,pq p),(31,i6 (W (d.ways.outside + 2))),(32,i6 H),(17,pq q),(18,.bool ((B O).isSome)),(75,.bool ((B O).isSome)),(76,.bool (!((B O).isSome))),(77,.bool (!((B O).isSome))),(83,.bool ((!((B O).isSome)) || (decide ((W ((((D H).getD (⟨0,0,(⟨0,false⟩:aB)⟩:aA)).cost) + Y.1)) < (((B O).getD (⟨0,0,(⟨0,false⟩:aB)⟩:aA)).cost))))),(84,.bool ((!((B O).isSome)) || (decide ((W ((((D H).getD (⟨0,0,(⟨0,false⟩:aB)⟩:aA)).cost) + Y.1)) < (((B O).getD (⟨0,0,(⟨0,false⟩:aB)⟩:aA)).cost))))),(97,.bool (((!((B O).isSome)) || (decide ((W ((((D H).getD (⟨0,0,(⟨0,false⟩:aB)⟩:aA)).cost) + Y.1)) < (((B O).getD (⟨0,0,(⟨0,false⟩:aB)⟩:aA)).cost)))) || (((W ((((D H).getD (⟨0,0,(⟨0,false⟩:aB)⟩:aA)).cost) + Y.1)) == (((B O).getD (⟨0,0,(⟨0,false⟩:aB)⟩:aA)).cost)) && (decide ((W ((((D H).getD (⟨0,0,(⟨0,false⟩:aB)⟩:aA)).many) + 1)) < (((B O).getD (⟨0,0,(⟨0,false⟩:aB)⟩:aA)).many))))))]) hc ?_ ?_
      ·cases hb:((!((B O).isSome)) || (decide ((W ((((D H).getD (⟨0,0,(⟨0,false⟩:aB)⟩:aA)).cost) + Y.1)) < (((B O).getD (⟨0,0,(⟨0,false⟩:aB)⟩:aA)).cost))))
       ·rw [hb] at hf
        refine zP hf rfl (pFA kT rfl) fun a hf=>zL hf hc aX m1 rfl fun a w hf hc=>zP hf rfl (pFA kT rfl) fun a hf=>zL hf hc aX m0 rfl fun a w hf hc=>sp 2 hf rfl fun a hf=>fL 6 (fun a=>Has 108 a [(3,pq R),(5,pq X),(7,pq V),(8,pq U),(9,pq bq),(11,pq g),(13,pq n),(16,pq p),(31,i6 (W (d.ways.outside + 2))),(32,i6 H),(17,pq q),(18,.bool ((B O).isSome)),(75,.bool ((B O).isSome)),(76,.bool (!((B O).isSome))),(77,.bool (!((B O).isSome))),(83,.bool false),(84,.bool false),(85,pq p),(86,i6 (W ((((D H).getD (⟨0,0,(⟨0,false⟩:aB)⟩:aA)).cost) + Y.1))),(87,pq q),(88,i6 (((B O).getD (⟨0,0,(⟨0,false⟩:aB)⟩:aA)).cost)),(89,.bool ((W ((((D H).getD (⟨0,0,(⟨0,false⟩:aB)⟩:aA)).cost) + Y.1)) == (((B O).getD (⟨0,0,(⟨0,false⟩:aB)⟩:aA)).cost))),(90,.bool ((W ((((D H).getD (⟨0,0,(⟨0,false⟩:aB)⟩:aA)).cost) + Y.1)) == (((B O).getD (⟨0,0,(⟨0,false⟩:aB)⟩:aA)).cost))),(96,.bool (((W ((((D H).getD (⟨0,0,(⟨0,false⟩:aB)⟩:aA)).cost) + Y.1)) == (((B O).getD (⟨0,0,(⟨0,false⟩:aB)⟩:aA)).cost)) && (decide ((W ((((D H).getD (⟨0,0,(⟨0,false⟩:aB)⟩:aA)).many) + 1)) < (((B O).getD (⟨0,0,(⟨0,false⟩:aB)⟩:aA)).many)))))]) hc ?_ ?_
        ·cases hb:((W ((((D H).getD (⟨0,0,(⟨0,false⟩:aB)⟩:aA)).cost) + Y.1)) == (((B O).getD (⟨0,0,(⟨0,false⟩:aB)⟩:aA)).cost))
         ·rw [hb] at hf
          refine stS hf rfl rfl rfl fun a hf=>stS hf rfl rfl rfl fun a hf=>stS hf rfl rfl rfl fun a hf=>stS hf rfl rfl rfl fun a hf=>stS hf rfl rfl rfl fun a hf=>sp 1 hf rfl fun a hf=>aQ ⟨hf.kp rfl,hc⟩
         ·rw [hb] at hf
          refine zP hf rfl (pFA rK rfl) fun a hf=>zL hf hc aX m1 rfl fun a w hf hc=>zP hf rfl (pFA rK rfl) fun a hf=>zL hf hc aX m0 rfl fun a w hf hc=>sp 2 hf rfl fun a hf=>aQ ⟨hf.kp rfl,hc⟩
        intro a w ⟨hf,hc⟩
        refine sp 1 hf rfl fun a hf=>aQ ⟨hf.kp rfl,hc⟩
       ·rw [hb] at hf
        refine stS hf rfl rfl rfl fun a hf=>stS hf rfl rfl rfl fun a hf=>stS hf rfl rfl rfl fun a hf=>stS hf rfl rfl rfl fun a hf=>stS hf rfl rfl rfl fun a hf=>stS hf rfl rfl rfl fun a hf=>stS hf rfl rfl rfl fun a hf=>stS hf rfl rfl rfl fun a hf=>stS hf rfl rfl rfl fun a hf=>stS hf rfl rfl rfl fun a hf=>stS hf rfl rfl rfl fun a hf=>stS hf rfl rfl rfl fun a hf=>sp 1 hf rfl fun a hf=>?_
        exact aQ ⟨hf.kp rfl,hc⟩
      intro a w ⟨hf,hc⟩
      refine aQ ?_
      refine a3 _ _ ?_
      refine aDe (b:=(((!((B O).isSome)) || (decide ((W ((((D H).getD (⟨0,0,(⟨0,false⟩:aB)⟩:aA)).cost) + Y.1)) < (((B O).getD (⟨0,0,(⟨0,false⟩:aB)⟩:aA)).cost)))) || (((W ((((D H).getD (⟨0,0,(⟨0,false⟩:aB)⟩:aA)).cost) + Y.1)) == (((B O).getD (⟨0,0,(⟨0,false⟩:aB)⟩:aA)).cost)) && (decide ((W ((((D H).getD (⟨0,0,(⟨0,false⟩:aB)⟩:aA)).many) + 1)) < (((B O).getD (⟨0,0,(⟨0,false⟩:aB)⟩:aA)).many)))))) hf rfl (fun hb=>?_) (fun hb=>?_)
      ·replace hF:=gI hb hF
       clear hb
       obtain ⟨k,ax,hF⟩:=aC hF
       refine xP (fun _ _ h=>h) rfl (fun θ=>[⟨none,none,3,pq R⟩,⟨none,none,5,pq X⟩,⟨none,none,7,pq V⟩,⟨none,none,8,pq U⟩,⟨none,none,9,pq bq⟩,⟨none,none,11,pq g⟩,⟨none,none,13,pq n⟩,⟨none,none,16,pq p⟩,⟨none,none,31,i6 (W (d.ways.outside + 2))⟩,⟨none,none,32,i6 H⟩,⟨some 0,none,98,.map (some mb)⟩,⟨some 1,none,99,pq b_⟩,⟨some 2,none,100,.agg #[i6 xv.way,.bool xv.back]⟩,⟨some 3,none,101,i6 k⟩,⟨some 4,none,102,.agg #[i6 (W ((((D H).getD (⟨0,0,(⟨0,false⟩:aB)⟩:aA)).cost) + Y.1)),i6 (W ((((D H).getD (⟨0,0,(⟨0,false⟩:aB)⟩:aA)).many) + 1)),i6 xv.way,.bool xv.back]⟩,⟨some 5,none,103,.tuple #[.agg #[i6 (((B k).getD (⟨0,0,(⟨0,false⟩:aB)⟩:aA)).cost),i6 (((B k).getD (⟨0,0,(⟨0,false⟩:aB)⟩:aA)).many),i6 ((((B k).getD (⟨0,0,(⟨0,false⟩:aB)⟩:aA)).by_).way),.bool ((((B k).getD (⟨0,0,(⟨0,false⟩:aB)⟩:aA)).by_).back)],i6 (((θ 40).c:Nat):Int)]⟩,⟨some 6,none,104,i6 (((θ 40).c:Nat):Int)⟩]) (fun E θ=>.box q [i6 (((B O).getD (⟨0,0,(⟨0,false⟩:aB)⟩:aA)).cost),i6 (((B O).getD (⟨0,0,(⟨0,false⟩:aB)⟩:aA)).many),i6 ((((B O).getD (⟨0,0,(⟨0,false⟩:aB)⟩:aA)).by_).way),.bool ((((B O).getD (⟨0,0,(⟨0,false⟩:aB)⟩:aA)).by_).back)] 168::.box p [i6 (W ((((D H).getD (⟨0,0,(⟨0,false⟩:aB)⟩:aA)).cost) + Y.1)),i6 (W ((((D H).getD (⟨0,0,(⟨0,false⟩:aB)⟩:aA)).many) + 1)),i6 xv.way,.bool xv.back] 168::.box n [i6 xv.way,.bool xv.back] 158::.box b_ [.slice I d.ways.all.length M,i6 d.ways.outside,i6 d.reaches] 78::.box g [i6 (((D H).getD (⟨0,0,(⟨0,false⟩:aB)⟩:aA)).cost),i6 (((D H).getD (⟨0,0,(⟨0,false⟩:aB)⟩:aA)).many),i6 ((((D H).getD (⟨0,0,(⟨0,false⟩:aB)⟩:aA)).by_).way),.bool ((((D H).getD (⟨0,0,(⟨0,false⟩:aB)⟩:aA)).by_).back)] 168::(bif E 8 then .box bq [.bool true] 4 else .box bq [.bool Z] 4)::.box U [.func (.func 66) #[pq b_] #[]] 160::.box V [.map (some mb)] 165::(bif E 7 then .im mb (fun j=>((gQ (gQ B k ((B k).getD (⟨0,0,(⟨0,false⟩:aB)⟩:aA))) k (⟨W ((((D H).getD (⟨0,0,(⟨0,false⟩:aB)⟩:aA)).cost) + Y.1),W ((((D H).getD (⟨0,0,(⟨0,false⟩:aB)⟩:aA)).many) + 1),xv⟩:aA)) j).map (fun xq:aA=>.agg #[i6 xq.cost,i6 xq.many,i6 xq.by_.way,.bool xq.by_.back])) none else bif E 5 then .im mb (fun j=>((gQ B k ((B k).getD (⟨0,0,(⟨0,false⟩:aB)⟩:aA))) j).map (fun xq:aA=>.agg #[i6 xq.cost,i6 xq.many,i6 xq.by_.way,.bool xq.by_.back])) (some ((θ 40).c,k)) else .im mb (fun j=>(B j).map (fun xq:aA=>.agg #[i6 xq.cost,i6 xq.many,i6 xq.by_.way,.bool xq.by_.back])) none)::.box X [.func (.func 95) #[] #[]] 163::.box R [pq b_] 71::Lb) [(7,5),(6,5)] (fun a w=>Has 108 a [(3,pq R),(5,pq X),(7,pq V),(8,pq U),(9,pq bq),(11,pq g),(31,i6 (W (d.ways.outside + 2))),(32,i6 H)]∧Ctx G (.box q [i6 (((B O).getD (⟨0,0,(⟨0,false⟩:aB)⟩:aA)).cost),i6 (((B O).getD (⟨0,0,(⟨0,false⟩:aB)⟩:aA)).many),i6 ((((B O).getD (⟨0,0,(⟨0,false⟩:aB)⟩:aA)).by_).way),.bool ((((B O).getD (⟨0,0,(⟨0,false⟩:aB)⟩:aA)).by_).back)] 168::.box p [i6 (W ((((D H).getD (⟨0,0,(⟨0,false⟩:aB)⟩:aA)).cost) + Y.1)),i6 (W ((((D H).getD (⟨0,0,(⟨0,false⟩:aB)⟩:aA)).many) + 1)),i6 xv.way,.bool xv.back] 168::.box n [i6 xv.way,.bool xv.back] 158::.box b_ [.slice I d.ways.all.length M,i6 d.ways.outside,i6 d.reaches] 78::.box g [i6 (((D H).getD (⟨0,0,(⟨0,false⟩:aB)⟩:aA)).cost),i6 (((D H).getD (⟨0,0,(⟨0,false⟩:aB)⟩:aA)).many),i6 ((((D H).getD (⟨0,0,(⟨0,false⟩:aB)⟩:aA)).by_).way),.bool ((((D H).getD (⟨0,0,(⟨0,false⟩:aB)⟩:aA)).by_).back)] 168::.box bq [.bool true] 4::.box U [.func (.func 66) #[pq b_] #[]] 160::.box V [.map (some mb)] 165::.im mb (fun j=>((gQ (gQ B k ((B k).getD (⟨0,0,(⟨0,false⟩:aB)⟩:aA))) k (⟨W ((((D H).getD (⟨0,0,(⟨0,false⟩:aB)⟩:aA)).cost) + Y.1),W ((((D H).getD (⟨0,0,(⟨0,false⟩:aB)⟩:aA)).many) + 1),xv⟩:aA)) j).map (fun xq:aA=>.agg #[i6 xq.cost,i6 xq.many,i6 xq.by_.way,.bool xq.by_.back])) none::.box X [.func (.func 95) #[] #[]] 163::.box R [pq b_] 71::Lb) w) aT (by kernel_rfl) (by kernel_rfl) (dL.of hf ⟨rfl,rfl,rfl,rfl,rfl,rfl,rfl,rfl,rfl,rfl,trivial,trivial,trivial,trivial,trivial,trivial,trivial,trivial⟩) hc ⟨?_,?_,?_,?_,?_,?_,?_,?_,?_,trivial⟩ ?_ ?_
       ·intro E θ a w hD hi hp he hc
        have hf:=he.h0.mT he 2 rfl
        refine zL hf hc wT m7 rfl fun a w hf hc=>zD θ he hi hf 10 rfl rfl rfl hc
       ·intro E θ a w hD hi hp he hc
        have hf:=he.h0.mT he 0 rfl
        refine zL hf hc nT m10 rfl fun a w hf hc=>zD θ he hi hf 11 rfl rfl rfl hc
       ·intro E θ a w hD hi hp he hc
        have hf:=he.h0.mT he 6 rfl
        refine zN hf hc kQ m2 rfl fun a w hf hc=>zD θ he hi hf 12 rfl rfl rfl hc
       ·intro E θ a w hD hi hp he hc
        have e1:=hp.o 1 rfl
        have e2:=hp.o 2 rfl
        have hf:=(he.h0.mP he 11 rfl e1).mP he 12 rfl e2
        refine zQ (v:=i6 k) hf hc aCt rfl (fun w hc=>(gG d xv i (hc.pick k3) ax).mono fun e w h=>⟨h.1,(h.2.unpick k3)⟩) fun a w hf hc=>zD θ he hi hf 13 rfl rfl rfl hc
       ·intro E θ a w hD hi hp he hc
        have hf:=he.h0.mT he 7 rfl
        refine zN hf hc aId m1 rfl fun a w hf hc=>zD θ he hi hf 14 rfl rfl rfl hc
       ·intro E θ a w hD hi hp he hc
        have e0:=hp.o 0 rfl
        have e3:=hp.o 3 rfl
        have e7:=hD.f 0 rfl hi
        have e6:=hD.f 1 rfl hi
        try dsimp only at hc
        rw [hi,e7] at hc
        have hf:=(he.h0.mP he 10 rfl e0).mP he 13 rfl e3
        refine stME (enc:=(fun xq:aA=>.agg #[i6 xq.cost,i6 xq.many,i6 xq.by_.way,.bool xq.by_.back])) (z0:=(⟨0,0,(⟨0,false⟩:aB)⟩:aA)) (m:=B) hf hc rfl rfl Tryz.underlying165 Tryz.underlying3 nB rfl rfl (fun _=>u8) fun bp a w hf hc=>aQ ?_
        refine bV ?_
        intro ds u ai
        refine ⟨(hZ θ 40 ⟨0,none,bp,(fun _=>(none,0))⟩),he.put hi ai hf rfl [6] ⟨⟨e6,rfl⟩,trivial⟩ ⟨qq,qq,qq,qq,qq,qq,qq,qq,qq,qq,qq,qq,qq,qq,qq,qq,trivial,trivial⟩,?_⟩
        try dsimp only
        rw [aN E 5,aS 5 e7 rfl]
        exact hc
       ·intro E θ a w hD hi hp he hc
        have e5:=hp.o 5 rfl
        have hf:=he.h0.mP he 15 rfl e5
        refine sp 1 hf rfl fun a hf=>zD θ he hi hf 16 rfl rfl rfl hc
       ·intro E θ a w hD hi hp he hc
        have e0:=hp.o 0 rfl
        have e4:=hp.o 4 rfl
        have e6:=hp.o 6 rfl
        have e5:=hp.o 5 rfl
        try dsimp only at hc
        rw [e5,hi] at hc
        have hf:=((he.h0.mP he 10 rfl e0).mP he 14 rfl e4).mP he 16 rfl e6
        refine stES (enc:=(fun xq:aA=>.agg #[i6 xq.cost,i6 xq.many,i6 xq.by_.way,.bool xq.by_.back])) (m:=(gQ B k ((B k).getD (⟨0,0,(⟨0,false⟩:aB)⟩:aA)))) (v:=(⟨W ((((D H).getD (⟨0,0,(⟨0,false⟩:aB)⟩:aA)).cost) + Y.1),W ((((D H).getD (⟨0,0,(⟨0,false⟩:aB)⟩:aA)).many) + 1),xv⟩:aA)) hf hc rfl rfl rfl rfl u8 fun w hc=>zG θ he hi hf rfl ?_
        try dsimp only
        rw [cB 7 e5,aN E 7]
        exact hc
       ·intro E θ a w hD hi hp he hc
        try dsimp only at hc
        rw [hi] at hc
        have hf:=he.h0.mT he 4 rfl
        refine zW hf hc aBv u5 rfl fun w hc=>zG θ he hi hf rfl ?_
        try dsimp only
        rw [aN E 8]
        exact hc
       ·intro E θ a w s he hc
        have hf:=he.h0
        have e5:=s 5 rfl
        have e7:=s 7 rfl
        have e8:=s 8 rfl
        replace hf:=hf.more he 9 rfl (onT)
        replace hf:=hf.more he 8 rfl (onT)
        replace hf:=hf.more he 5 rfl (onT)
        replace hf:=hf.more he 4 rfl (onT)
        replace hf:=hf.more he 3 rfl (onT)
        replace hf:=hf.more he 2 rfl (onT)
        replace hf:=hf.more he 1 rfl (onT)
        replace hf:=hf.more he 0 rfl (onT)
        try dsimp only at hc
        rw [e5,e7,e8] at hc
        exact ⟨hf.kp rfl,hc⟩
       rintro a w ⟨hf,hc⟩
       refine am _ _ ?_
       replace hc:=((hc.drop k2).drop k1).drop k0
       exact ⟨(true,(gQ (gQ B k ((B k).getD (⟨0,0,(⟨0,false⟩:aB)⟩:aA))) k (⟨W ((((D H).getD (⟨0,0,(⟨0,false⟩:aB)⟩:aA)).cost) + Y.1),W ((((D H).getD (⟨0,0,(⟨0,false⟩:aB)⟩:aA)).many) + 1),xv⟩:aA))),_,(sj hF).symm,rfl,hc⟩
      ·replace hF:=nU hb hF
       clear hb
       refine aC4 ?_
       refine am _ _ ?_
       replace hc:=((hc.drop k2).drop k1).drop k0
       exact ⟨(Z,B),_,(sj hF).symm,rfl,hc⟩
    ·rintro D_1 ⟨Z,B⟩ _ a w an rfl hf hc
     replace hf:Has ⟨108,lK (D_1::Ds_1)⟩ a [(3,pq R),(5,pq X),(7,pq V),(8,pq U),(9,pq bq),(11,pq g),(31,i6 (W (d.ways.outside + 2))),(32,i6 H)]:=hf.kp rfl
     replace hc:Ctx G (.box aa [pq b_] 71::.box z [i6 r] 3::.box b_ [.slice I d.ways.all.length M,i6 d.ways.outside,i6 d.reaches] 78::.box g [i6 (((D H).getD (⟨0,0,(⟨0,false⟩:aB)⟩:aA)).cost),i6 (((D H).getD (⟨0,0,(⟨0,false⟩:aB)⟩:aA)).many),i6 ((((D H).getD (⟨0,0,(⟨0,false⟩:aB)⟩:aA)).by_).way),.bool ((((D H).getD (⟨0,0,(⟨0,false⟩:aB)⟩:aA)).by_).back)] 168::.box bq [.bool Z] 4::.box U [.func (.func 66) #[pq b_] #[]] 160::.box V [.map (some mb)] 165::.im mb (fun j=>(B j).map (fun xq:aA=>.agg #[i6 xq.cost,i6 xq.many,i6 xq.by_.way,.bool xq.by_.back])) none::.box X [.func (.func 95) #[] #[]] 163::.box R [pq b_] 71::(nI (D_1::Ds_1)++Lf)) w:=pK (C:=[.box aa [pq b_] 71,.box z [i6 r] 3]) (L:=[.box b_ [.slice I d.ways.all.length M,i6 d.ways.outside,i6 d.reaches] 78,.box g [i6 (((D H).getD (⟨0,0,(⟨0,false⟩:aB)⟩:aA)).cost),i6 (((D H).getD (⟨0,0,(⟨0,false⟩:aB)⟩:aA)).many),i6 ((((D H).getD (⟨0,0,(⟨0,false⟩:aB)⟩:aA)).by_).way),.bool ((((D H).getD (⟨0,0,(⟨0,false⟩:aB)⟩:aA)).by_).back)] 168,.box bq [.bool Z] 4,.box U [.func (.func 66) #[pq b_] #[]] 160,.box V [.map (some mb)] 165,.im mb (fun j=>(B j).map (fun xq:aA=>.agg #[i6 xq.cost,i6 xq.many,i6 xq.by_.way,.bool xq.by_.back])) none,.box X [.func (.func 95) #[] #[]] 163,.box R [pq b_] 71]) hc
     replace hF:(hH N H Z B)=some af:=by rcases an with rfl | rfl <;> exact hF
     replace hc:=(((((((((hc.drop k3).drop k1).drop k0).pick k0).pick k6).pick k6).pick k6).pick k6).pick k6).pick k6
     exact aj Z B (D_1::Ds_1) _ _  (hf.kp rfl) hc hF
    ·rintro D_1 ⟨Z,B⟩ _ a w an rfl hf hc
     replace hf:Has ⟨108,lK (D_1::Ds_1)⟩ a [(3,pq R),(5,pq X),(7,pq V),(8,pq U),(9,pq bq),(11,pq g),(31,i6 (W (d.ways.outside + 2))),(32,i6 H)]:=hf.kp rfl
     replace hc:Ctx G (.box aa [pq b_] 71::.box z [i6 r] 3::.box b_ [.slice I d.ways.all.length M,i6 d.ways.outside,i6 d.reaches] 78::.box g [i6 (((D H).getD (⟨0,0,(⟨0,false⟩:aB)⟩:aA)).cost),i6 (((D H).getD (⟨0,0,(⟨0,false⟩:aB)⟩:aA)).many),i6 ((((D H).getD (⟨0,0,(⟨0,false⟩:aB)⟩:aA)).by_).way),.bool ((((D H).getD (⟨0,0,(⟨0,false⟩:aB)⟩:aA)).by_).back)] 168::.box bq [.bool Z] 4::.box U [.func (.func 66) #[pq b_] #[]] 160::.box V [.map (some mb)] 165::.im mb (fun j=>(B j).map (fun xq:aA=>.agg #[i6 xq.cost,i6 xq.many,i6 xq.by_.way,.bool xq.by_.back])) none::.box X [.func (.func 95) #[] #[]] 163::.box R [pq b_] 71::(nI (D_1::Ds_1)++Lf)) w:=pK (C:=[.box aa [pq b_] 71,.box z [i6 r] 3]) (L:=[.box b_ [.slice I d.ways.all.length M,i6 d.ways.outside,i6 d.reaches] 78,.box g [i6 (((D H).getD (⟨0,0,(⟨0,false⟩:aB)⟩:aA)).cost),i6 (((D H).getD (⟨0,0,(⟨0,false⟩:aB)⟩:aA)).many),i6 ((((D H).getD (⟨0,0,(⟨0,false⟩:aB)⟩:aA)).by_).way),.bool ((((D H).getD (⟨0,0,(⟨0,false⟩:aB)⟩:aA)).by_).back)] 168,.box bq [.bool Z] 4,.box U [.func (.func 66) #[pq b_] #[]] 160,.box V [.map (some mb)] 165,.im mb (fun j=>(B j).map (fun xq:aA=>.agg #[i6 xq.cost,i6 xq.many,i6 xq.by_.way,.bool xq.by_.back])) none,.box X [.func (.func 95) #[] #[]] 163,.box R [pq b_] 71]) hc
     replace hF:(none)=some af:=by subst an; exact hF
     cases hF
  ·refine wp_exit ?_
   refine bI ?_
   refine bI ?_
   have he:=sj hF
   rw [← he] at ad
   refine fB ?_
   exact av _ _ _ ad ⟨Ds_1,hf.kp rfl,hc⟩
 ·refine wp_exit ?_
  refine bI ?_
  refine bI ?_
  have he:=sj hF
  rw [← he] at ag
  refine fB ?_
  exact a5 _ _ _ ag ⟨bq,Ds,hf.kp rfl,hc⟩

def gL (N:Nat) (s_:aB) (x:List aE) (M:Int) (O:Int) (H:Int):Option ((List aE)) :=
 cond s_.back
 (Option.bind (cM x s_.way) fun I=>
 Option.bind (cM x s_.way) fun B=>
 Option.bind (qD (x.set s_.way.toNat (⟨B.from_,B.to_,B.span,W (I.now - H)⟩:aE)) x) fun _=>
 some (x.set s_.way.toNat (⟨B.from_,B.to_,B.span,W (I.now - H)⟩:aE)))
 (Option.bind (cM x s_.way) fun J=>
 Option.bind (cM x s_.way) fun D=>
 Option.bind (qD (x.set s_.way.toNat (⟨D.from_,D.to_,D.span,W (J.now + H)⟩:aE)) x) fun _=>
 some (x.set s_.way.toNat (⟨D.from_,D.to_,D.span,W (J.now + H)⟩:aE)))
theorem uO {N:Nat} {G:bA} {Lf:List Ent} {w:World} (s_:aB) (x:List aE) (X:Int) (V:Int) (H:Int) {b_:Nat} {B:Nat} {m:Option Addr} {I:Nat} {J:Nat}  (hc:Ctx G (.box b_ [pq B] 71::.box B [.slice m x.length I,i6 X,i6 V] 78::.row m I (x.map aH) 112 5::.box J [i6 H] 3::Lf) w) {r:(List aE)} (hF:gL N s_ x X V H=some r):Calls Tryz.prog 101 #[.agg #[i6 s_.way,.bool s_.back],pq b_,pq J] w (fun e w=>e=.returned (.tuple #[])∧r.length=x.length∧Ctx G (.box b_ [pq B] 71::.box B [.slice m x.length I,i6 X,i6 V] 78::.row m I (r.map aH) 112 5::.box J [i6 H] 3::Lf) w):=by
 unfold gL at hF
 refine cC Tryz.func101 rfl Tryz.ntmps101 rfl fun a hf=>zS fun K h=>zB hf hc rfl fun S a w hf hc=>zT h ?_
 refine zS fun K h=>zP hf rfl (pFA xM rfl) fun a hf=>zL hf hc vC m0 rfl fun a w hf hc=>zT h ?_
 refine zI hf rfl hF ?_ ?_ <;> clear hF <;> intro hF
 ·obtain ⟨Y,ab,hF⟩:=aC hF
  have t:=hf
  obtain ⟨g,rfl,qa,qr⟩:=iJ hc m3 ab
  have hf:=t
  obtain ⟨R,b,hF⟩:=aC hF
  obtain ⟨v,af⟩:=jX hc m3 b
  refine cU (fun θ=>[⟨none,none,1,pq b_⟩,⟨none,none,2,pq J⟩,⟨none,none,3,pq S⟩,⟨some 0,none,6,pq B⟩,⟨some 1,none,7,pq B⟩,⟨some 2,none,8,pq B⟩,⟨some 3,none,9,pq B⟩,⟨some 4,none,10,.slice (some ⟨g,0,none⟩) x.length I⟩,⟨some 5,none,11,pq S⟩,⟨some 6,none,12,i6 s_.way⟩,⟨some 7,none,13,.pointer (some ⟨g,s_.way.toNat * 5,none⟩)⟩,⟨some 8,none,14,.pointer (some ⟨g,s_.way.toNat * 5 + 4,none⟩)⟩,⟨some 9,none,15,i6 Y.now⟩,⟨some 10,none,16,i6 H⟩,⟨some 11,none,17,i6 (W (Y.now - H))⟩,⟨some 12,none,18,.pointer (some ⟨g,s_.way.toNat * 5,none⟩)⟩,⟨some 13,none,19,.pointer (some ⟨g,s_.way.toNat * 5 + 4,none⟩)⟩]) (fun E θ=>.box S [i6 s_.way,.bool s_.back] 158::.box b_ [pq B] 71::.box B [.slice (some ⟨g,0,none⟩) x.length I,i6 X,i6 V] 78::(bif E 14 then .row (some ⟨g,0,none⟩) I ((x.set s_.way.toNat (⟨R.from_,R.to_,R.span,W (Y.now - H)⟩:aE)).map aH) 112 5 else .row (some ⟨g,0,none⟩) I (x.map aH) 112 5)::.box J [i6 H] 3::Lf) [(14,7),(14,9),(13,12),(14,13)] (fun a w=>Has 34 a []∧Ctx G (.box S [i6 s_.way,.bool s_.back] 158::.box b_ [pq B] 71::.box B [.slice (some ⟨g,0,none⟩) x.length I,i6 X,i6 V] 78::.row (some ⟨g,0,none⟩) I ((x.set s_.way.toNat (⟨R.from_,R.to_,R.span,W (Y.now - H)⟩:aE)).map aH) 112 5::.box J [i6 H] 3::Lf) w) aT (by kernel_rfl) (by kernel_rfl) (dL.of hf ⟨rfl,rfl,rfl,trivial,trivial,trivial,trivial,trivial,trivial,trivial,trivial,trivial,trivial,trivial,trivial,trivial,trivial,trivial⟩) hc ⟨?_,?_,?_,?_,?_,?_,?_,?_,?_,?_,?_,?_,?_,?_,?_,trivial⟩ ?_ ?_
  ·intro E θ a w hD hi hp he hc
   have hf:=he.h0.mT he 0 rfl
   refine zL hf hc nT m1 rfl fun a w hf hc=>zD θ he hi hf 3 rfl rfl rfl hc
  ·intro E θ a w hD hi hp he hc
   have e0:=hp.o 0 rfl
   have hf:=he.h0.mP he 3 rfl e0
   refine sp 1 hf rfl fun a hf=>zD θ he hi hf 4 rfl rfl rfl hc
  ·intro E θ a w hD hi hp he hc
   have e1:=hp.o 1 rfl
   have hf:=he.h0.mP he 4 rfl e1
   refine zP hf rfl (pFA gA rfl) fun a hf=>zD θ he hi hf 5 rfl rfl rfl hc
  ·intro E θ a w hD hi hp he hc
   have e2:=hp.o 2 rfl
   have hf:=he.h0.mP he 5 rfl e2
   refine zP hf rfl (pFA jI rfl) fun a hf=>zD θ he hi hf 6 rfl rfl rfl hc
  ·intro E θ a w hD hi hp he hc
   have e3:=hp.o 3 rfl
   have hf:=he.h0.mP he 6 rfl e3
   refine zL hf hc qK m2 rfl fun a w hf hc=>zD θ he hi hf 7 rfl rfl rfl hc
  ·intro E θ a w hD hi hp he hc
   have hf:=he.h0.mT he 2 rfl
   refine zP hf rfl (pFA xF rfl) fun a hf=>zD θ he hi hf 8 rfl rfl rfl hc
  ·intro E θ a w hD hi hp he hc
   have e5:=hp.o 5 rfl
   have hf:=he.h0.mP he 8 rfl e5
   refine zL hf hc aX m0 rfl fun a w hf hc=>zD θ he hi hf 9 rfl rfl rfl hc
  ·intro E θ a w hD hi hp he hc
   have e4:=hp.o 4 rfl
   have e6:=hp.o 6 rfl
   have D:=hD.f 0 rfl hi
   try dsimp only at hc
   rw [D] at hc
   have hf:=(he.h0.mP he 7 rfl e4).mP he 9 rfl e6
   refine zP hf rfl (pIA Tryz.underlying74 kB rfl rfl qa) fun a hf=>zD θ he hi hf 10 rfl rfl rfl ?_
   try dsimp only
   rw [aS 7 D rfl]
   exact hc
  ·intro E θ a w hD hi hp he hc
   have e7:=hp.o 7 rfl
   have hf:=he.h0.mP he 10 rfl e7
   refine zP hf rfl (pFA jZ rfl) fun a hf=>zD θ he hi hf 11 rfl rfl rfl hc
  ·intro E θ a w hD hi hp he hc
   have e8:=hp.o 8 rfl
   have D:=hD.f 1 rfl hi
   try dsimp only at hc
   rw [D] at hc
   have hf:=he.h0.mP he 11 rfl e8
   refine zE hf hc rfl (cV aX rfl (eI (sz:=5) (i:=s_.way.toNat) (j:=4) m3 qr rfl)) fun a w hf hc=>zD θ he hi hf 12 rfl rfl rfl ?_
   try dsimp only
   rw [aS 9 D rfl]
   exact hc
  ·intro E θ a w hD hi hp he hc
   have hf:=he.h0.mT he 1 rfl
   refine zL hf hc aX m4 rfl fun a w hf hc=>zD θ he hi hf 13 rfl rfl rfl hc
  ·intro E θ a w hD hi hp he hc
   have e9:=hp.o 9 rfl
   have q:=hp.o 10 rfl
   have hf:=(he.h0.mP he 12 rfl e9).mP he 13 rfl q
   refine sp 1 hf rfl fun a hf=>zD θ he hi hf 14 rfl rfl rfl hc
  ·intro E θ a w hD hi hp he hc
   have e4:=hp.o 4 rfl
   have e6:=hp.o 6 rfl
   have U:=hD.f 2 rfl hi
   have D:=hD.f 3 rfl U
   try dsimp only at hc
   rw [D] at hc
   have hf:=(he.h0.mP he 7 rfl e4).mP he 9 rfl e6
   refine zP hf rfl (pIA Tryz.underlying74 kB rfl rfl v) fun a hf=>zD θ he hi hf 15 rfl rfl rfl ?_
   try dsimp only
   rw [aS 12 D rfl]
   exact hc
  ·intro E θ a w hD hi hp he hc
   have u:=hp.o 12 rfl
   have hf:=he.h0.mP he 15 rfl u
   refine zP hf rfl (pFA jZ rfl) fun a hf=>zD θ he hi hf 16 rfl rfl rfl hc
  ·intro E θ a w hD hi hp he hc
   have n:=hp.o 11 rfl
   have U:=hp.o 13 rfl
   try dsimp only at hc
   rw [hi] at hc
   have hf:=(he.h0.mP he 14 rfl n).mP he 16 rfl U
   refine aGj (sz:=5) (vs:=[i6 (W (Y.now - H))]) (o':=4) (z:=(⟨R.from_,R.to_,R.span,W (Y.now - H)⟩:aE)) (xs:=x) hf hc rfl rfl rfl rfl fD rfl (fun x=>(eU x).1) (qX b) (fun e' s=>by cases (s.symm.trans (kS b).2); rfl) rfl u3 fun w hc=>zG θ he hi hf rfl ?_
   try dsimp only
   rw [aN E 14]
   exact hc
  ·intro E θ a w k he hc
   have hf:=he.h0
   have D:=k 14 rfl
   try dsimp only at hc
   rw [D] at hc
   exact ⟨hf.keep trivial,hc⟩
  rintro a w ⟨hf,hc⟩
  obtain ⟨_,p,hF⟩:=rM hF
  obtain rfl:=sj hF
  replace hc:=hc.drop k0
  exact pO (by simp) rfl Tryz.results101 hf ⟨(by first | rfl | simp only [List.length_set]),p,hc⟩
 ·obtain ⟨Z,aa,hF⟩:=aC hF
  have t:=hf
  obtain ⟨M,rfl,ac,y⟩:=iJ hc m3 aa
  have hf:=t
  obtain ⟨O,d,hF⟩:=aC hF
  obtain ⟨ad,ag⟩:=jX hc m3 d
  refine cU (fun θ=>[⟨none,none,1,pq b_⟩,⟨none,none,2,pq J⟩,⟨none,none,3,pq S⟩,⟨some 0,none,20,pq B⟩,⟨some 1,none,21,pq B⟩,⟨some 2,none,22,pq B⟩,⟨some 3,none,23,pq B⟩,⟨some 4,none,24,.slice (some ⟨M,0,none⟩) x.length I⟩,⟨some 5,none,25,pq S⟩,⟨some 6,none,26,i6 s_.way⟩,⟨some 7,none,27,.pointer (some ⟨M,s_.way.toNat * 5,none⟩)⟩,⟨some 8,none,28,.pointer (some ⟨M,s_.way.toNat * 5 + 4,none⟩)⟩,⟨some 9,none,29,i6 Z.now⟩,⟨some 10,none,30,i6 H⟩,⟨some 11,none,31,i6 (W (Z.now + H))⟩,⟨some 12,none,32,.pointer (some ⟨M,s_.way.toNat * 5,none⟩)⟩,⟨some 13,none,33,.pointer (some ⟨M,s_.way.toNat * 5 + 4,none⟩)⟩]) (fun E θ=>.box S [i6 s_.way,.bool s_.back] 158::.box b_ [pq B] 71::.box B [.slice (some ⟨M,0,none⟩) x.length I,i6 X,i6 V] 78::(bif E 14 then .row (some ⟨M,0,none⟩) I ((x.set s_.way.toNat (⟨O.from_,O.to_,O.span,W (Z.now + H)⟩:aE)).map aH) 112 5 else .row (some ⟨M,0,none⟩) I (x.map aH) 112 5)::.box J [i6 H] 3::Lf) [(14,7),(14,9),(13,12),(14,13)] (fun a w=>Has 34 a []∧Ctx G (.box S [i6 s_.way,.bool s_.back] 158::.box b_ [pq B] 71::.box B [.slice (some ⟨M,0,none⟩) x.length I,i6 X,i6 V] 78::.row (some ⟨M,0,none⟩) I ((x.set s_.way.toNat (⟨O.from_,O.to_,O.span,W (Z.now + H)⟩:aE)).map aH) 112 5::.box J [i6 H] 3::Lf) w) aT (by kernel_rfl) (by kernel_rfl) (dL.of hf ⟨rfl,rfl,rfl,trivial,trivial,trivial,trivial,trivial,trivial,trivial,trivial,trivial,trivial,trivial,trivial,trivial,trivial,trivial⟩) hc ⟨?_,?_,?_,?_,?_,?_,?_,?_,?_,?_,?_,?_,?_,?_,?_,trivial⟩ ?_ ?_
  ·intro E θ a w hD hi hp he hc
   have hf:=he.h0.mT he 0 rfl
   refine zL hf hc nT m1 rfl fun a w hf hc=>zD θ he hi hf 3 rfl rfl rfl hc
  ·intro E θ a w hD hi hp he hc
   have e0:=hp.o 0 rfl
   have hf:=he.h0.mP he 3 rfl e0
   refine sp 1 hf rfl fun a hf=>zD θ he hi hf 4 rfl rfl rfl hc
  ·intro E θ a w hD hi hp he hc
   have e1:=hp.o 1 rfl
   have hf:=he.h0.mP he 4 rfl e1
   refine zP hf rfl (pFA gA rfl) fun a hf=>zD θ he hi hf 5 rfl rfl rfl hc
  ·intro E θ a w hD hi hp he hc
   have e2:=hp.o 2 rfl
   have hf:=he.h0.mP he 5 rfl e2
   refine zP hf rfl (pFA jI rfl) fun a hf=>zD θ he hi hf 6 rfl rfl rfl hc
  ·intro E θ a w hD hi hp he hc
   have e3:=hp.o 3 rfl
   have hf:=he.h0.mP he 6 rfl e3
   refine zL hf hc qK m2 rfl fun a w hf hc=>zD θ he hi hf 7 rfl rfl rfl hc
  ·intro E θ a w hD hi hp he hc
   have hf:=he.h0.mT he 2 rfl
   refine zP hf rfl (pFA xF rfl) fun a hf=>zD θ he hi hf 8 rfl rfl rfl hc
  ·intro E θ a w hD hi hp he hc
   have e5:=hp.o 5 rfl
   have hf:=he.h0.mP he 8 rfl e5
   refine zL hf hc aX m0 rfl fun a w hf hc=>zD θ he hi hf 9 rfl rfl rfl hc
  ·intro E θ a w hD hi hp he hc
   have e4:=hp.o 4 rfl
   have e6:=hp.o 6 rfl
   have D:=hD.f 0 rfl hi
   try dsimp only at hc
   rw [D] at hc
   have hf:=(he.h0.mP he 7 rfl e4).mP he 9 rfl e6
   refine zP hf rfl (pIA Tryz.underlying74 kB rfl rfl ac) fun a hf=>zD θ he hi hf 10 rfl rfl rfl ?_
   try dsimp only
   rw [aS 7 D rfl]
   exact hc
  ·intro E θ a w hD hi hp he hc
   have e7:=hp.o 7 rfl
   have hf:=he.h0.mP he 10 rfl e7
   refine zP hf rfl (pFA jZ rfl) fun a hf=>zD θ he hi hf 11 rfl rfl rfl hc
  ·intro E θ a w hD hi hp he hc
   have e8:=hp.o 8 rfl
   have D:=hD.f 1 rfl hi
   try dsimp only at hc
   rw [D] at hc
   have hf:=he.h0.mP he 11 rfl e8
   refine zE hf hc rfl (cV aX rfl (eI (sz:=5) (i:=s_.way.toNat) (j:=4) m3 y rfl)) fun a w hf hc=>zD θ he hi hf 12 rfl rfl rfl ?_
   try dsimp only
   rw [aS 9 D rfl]
   exact hc
  ·intro E θ a w hD hi hp he hc
   have hf:=he.h0.mT he 1 rfl
   refine zL hf hc aX m4 rfl fun a w hf hc=>zD θ he hi hf 13 rfl rfl rfl hc
  ·intro E θ a w hD hi hp he hc
   have e9:=hp.o 9 rfl
   have q:=hp.o 10 rfl
   have hf:=(he.h0.mP he 12 rfl e9).mP he 13 rfl q
   refine sp 1 hf rfl fun a hf=>zD θ he hi hf 14 rfl rfl rfl hc
  ·intro E θ a w hD hi hp he hc
   have e4:=hp.o 4 rfl
   have e6:=hp.o 6 rfl
   have U:=hD.f 2 rfl hi
   have D:=hD.f 3 rfl U
   try dsimp only at hc
   rw [D] at hc
   have hf:=(he.h0.mP he 7 rfl e4).mP he 9 rfl e6
   refine zP hf rfl (pIA Tryz.underlying74 kB rfl rfl ad) fun a hf=>zD θ he hi hf 15 rfl rfl rfl ?_
   try dsimp only
   rw [aS 12 D rfl]
   exact hc
  ·intro E θ a w hD hi hp he hc
   have u:=hp.o 12 rfl
   have hf:=he.h0.mP he 15 rfl u
   refine zP hf rfl (pFA jZ rfl) fun a hf=>zD θ he hi hf 16 rfl rfl rfl hc
  ·intro E θ a w hD hi hp he hc
   have n:=hp.o 11 rfl
   have U:=hp.o 13 rfl
   try dsimp only at hc
   rw [hi] at hc
   have hf:=(he.h0.mP he 14 rfl n).mP he 16 rfl U
   refine aGj (sz:=5) (vs:=[i6 (W (Z.now + H))]) (o':=4) (z:=(⟨O.from_,O.to_,O.span,W (Z.now + H)⟩:aE)) (xs:=x) hf hc rfl rfl rfl rfl fD rfl (fun x=>(eU x).1) (qX d) (fun e' s=>by cases (s.symm.trans (kS d).2); rfl) rfl u3 fun w hc=>zG θ he hi hf rfl ?_
   try dsimp only
   rw [aN E 14]
   exact hc
  ·intro E θ a w k he hc
   have hf:=he.h0
   have D:=k 14 rfl
   try dsimp only at hc
   rw [D] at hc
   exact ⟨hf.keep trivial,hc⟩
  rintro a w ⟨hf,hc⟩
  obtain ⟨_,p,hF⟩:=rM hF
  obtain rfl:=sj hF
  replace hc:=hc.drop k0
  exact pO (by simp) rfl Tryz.results101 hf ⟨(by first | rfl | simp only [List.length_set]),p,hc⟩

def dR (N:Nat) (O:Int) (I:Int) (D:List aB) (J:Int) (B:Int) (H:List aE):Option (dA (Int × (List aE)) (Int × (List aE))) :=
 cond (decide (B < ((D.length:Nat):Int)))
 (Option.bind (cM D B) fun M=>
 Option.bind (gL N M H O I J) fun r=>
 some (.cont (W (B + 1),r)))
 (some (.brk (B,H)))
def dH (N:Nat) (d:List aE) (J:Int) (H:Int) (B:List aB) (x:Int) (D:Int):Option (dA (Int × Int) (Int × (List aE))) :=
 cond (decide (x < ((B.length:Nat):Int)))
 (Option.bind (cM B x) fun I=>
 Option.bind (dW N (⟨(⟨d,J⟩:cH),H⟩:aP) I) fun M=>
 some (.cont (W (x + 1),min D M.2)))
 (some (.brk (x,D)))
def eW (N:Nat) (d:List aE) (M:Int) (I:Int) (H:Int) (l:Int→Option aA) (D:List aB) (B:Int):Option (dA ((List aB) × Int) (Int × (List aE))) :=
 cond (B != H)
 (Option.bind (nQ ((D++[(((l B).getD (⟨0,0,(⟨0,false⟩:aB)⟩:aA)).by_)])).length) fun un=>
 Option.bind (eD N (⟨(⟨d,M⟩:cH),I⟩:aP) (⟨(((l B).getD (⟨0,0,(⟨0,false⟩:aB)⟩:aA)).by_).way,(!((((l B).getD (⟨0,0,(⟨0,false⟩:aB)⟩:aA)).by_).back))⟩:aB)) fun J=>
 some (.cont ((D++[(((l B).getD (⟨0,0,(⟨0,false⟩:aB)⟩:aA)).by_)]),J)))
 (some (.brk (D,B)))
def fG (N:Nat) (d:List aE) (H:Int) (D:Int) (I:Int) (M:Int) (l:Int→Option aA) (most:Int):Option (Int × (List aE)) :=
 Option.bind (bN (fun s5=>eW N d H D I l s5.1 s5.2) N (([]:List aB),M)) fun x5=>
 exK x5 (fun s5=>Option.bind (bN (fun s8=>dH N d H D s5.1 s8.1 s8.2) N (0,most)) fun x8=>
 exK x8 (fun s8=>Option.bind (bN (fun B=>dR N H D s5.1 s8.2 B.1 B.2) N (0,d)) fun J=>
 exK J (fun B=>Option.bind (qD B.2 d) fun _=>
 some (s8.2,B.2)) some) some) some
theorem qO {N:Nat} {G:bA} {Lf:List Ent} {w:World} (d:List aE) (I:Int) (J:Int) (k:Int) (ad:Int) (l:Int→Option aA) (most:Int) {b_:Nat} {H:Option Addr} {D:Nat} {mb:Nat}  (hc:Ctx G (.box b_ [.slice H d.length D,i6 I,i6 J] 78::.row H D (d.map aH) 112 5::.im mb (fun j=>(l j).map (fun xq:aA=>.agg #[i6 xq.cost,i6 xq.many,i6 xq.by_.way,.bool xq.by_.back])) none::Lf) w) {V:Int × (List aE)} (hF:fG N d I J k ad l most=some V):Calls Tryz.prog 69 #[pq b_,i6 k,i6 ad,.map (some mb),i6 most] w (fun e w=>e=.returned (i6 V.1)∧V.2.length=d.length∧Ctx G (.box b_ [.slice H d.length D,i6 I,i6 J] 78::.row H D (V.2.map aH) 112 5::.im mb (fun j=>(l j).map (fun xq:aA=>.agg #[i6 xq.cost,i6 xq.many,i6 xq.by_.way,.bool xq.by_.back])) none::Lf) w):=by
 unfold fG at hF
 refine cC Tryz.func69 rfl Tryz.ntmps69 rfl fun a hf=>zS fun K h=>zB hf hc rfl fun X a w hf hc=>zB hf hc rfl fun O a w hf hc=>sp 1 hf rfl fun a hf=>zT h ?_
 refine zS fun K h=>sp 1 hf rfl fun a hf=>zT h ?_
 refine wp_seq_k fun K3 h3=>zS fun K h=>sp 2 hf rfl fun a hf=>zT h ?_
 refine wp_block ?_
 obtain ⟨x5,a3,hF⟩:=aC hF
 let S5:((List aB) × Int)→Act→World→Prop:=(fun (zz:(List aB) × Int) a w=>∃ (Z:Option Addr) (Y:Nat),Has 68 a [(1,i6 k),(3,.map (some mb)),(5,pq X),(9,pq O),(11,.slice Z zz.1.length Y),(12,i6 zz.2)]∧Ctx G (.row Z Y (zz.1.map jY) 158 2::.box O [i6 most] 3::.box X [pq b_] 71::.box b_ [.slice H d.length D,i6 I,i6 J] 78::.row H D (d.map aH) 112 5::.im mb (fun j=>(l j).map (fun xq:aA=>.agg #[i6 xq.cost,i6 xq.many,i6 xq.by_.way,.bool xq.by_.back])) none::Lf) w)
 have bi:∀ (zz:(List aB) × Int) a w,x5=.go zz→S5 zz a w→K3 a w:=by
  rintro ⟨B,M⟩ a w rfl ⟨Z,Y,hf,hc⟩
  replace hF:=cJ hF
  refine h3 _ _ ?_
  refine wp_seq_k fun K6 h6=>zS fun K h=>sp 1 hf rfl fun a hf=>zP hf rfl (cP Tryz.underlying199 rfl) fun a hf=>sp 1 hf rfl fun a hf=>zT h ?_
  refine wp_block ?_
  obtain ⟨x8,a0,hF⟩:=aC hF
  let S8:(Int × Int)→Act→World→Prop:=(fun (zz:Int × Int) a w=>∃ (U:Option Addr) (R:Nat),Has 68 a [(5,pq X),(9,pq O),(11,.slice U B.length R),(40,.slice U B.length R),(41,i6 ((B.length:Nat):Int)),(42,i6 zz.1)]∧Ctx G (.row U R (B.map jY) 158 2::.box O [i6 zz.2] 3::.box X [pq b_] 71::.box b_ [.slice H d.length D,i6 I,i6 J] 78::.row H D (d.map aH) 112 5::.im mb (fun j=>(l j).map (fun xq:aA=>.agg #[i6 xq.cost,i6 xq.many,i6 xq.by_.way,.bool xq.by_.back])) none::Lf) w)
  have a4:∀ (zz:Int × Int) a w,x8=.go zz→S8 zz a w→K6 a w:=by
   rintro ⟨x,aa⟩ a w rfl ⟨U,R,hf,hc⟩
   replace hF:=cJ hF
   refine h6 _ _ ?_
   refine zS fun K h=>zP hf rfl (pMF (us:=[pq X,pq O]) rfl rfl) fun a hf=>sp 1 hf rfl fun a hf=>zT h ?_
   refine wp_seq_k fun K10 bd=>zS fun K h=>sp 1 hf rfl fun a hf=>zP hf rfl (cP Tryz.underlying199 rfl) fun a hf=>sp 1 hf rfl fun a hf=>zT h ?_
   refine wp_block ?_
   obtain ⟨ag,aq,hF⟩:=aC hF
   let S12:(Int × (List aE))→Act→World→Prop:=(fun (zz:Int × (List aE)) a w=>∃ (o:Option Addr) (b:Nat),Has 68 a [(9,pq O),(18,.func (.func 101) #[] #[pq X,pq O]),(57,.slice o B.length b),(58,i6 ((B.length:Nat):Int)),(59,i6 zz.1)]∧Ctx G (.row o b (B.map jY) 158 2::.box O [i6 aa] 3::.box X [pq b_] 71::.box b_ [.slice H zz.2.length D,i6 I,i6 J] 78::.row H D (zz.2.map aH) 112 5::.im mb (fun j=>(l j).map (fun xq:aA=>.agg #[i6 xq.cost,i6 xq.many,i6 xq.by_.way,.bool xq.by_.back])) none::Lf) w)
   have ar:∀ (zz:Int × (List aE)) a w,ag=.go zz→S12 zz a w→K10 a w:=by
    rintro ⟨ai,s⟩ a w rfl ⟨o,b,hf,hc⟩
    replace hF:=cJ hF
    refine bd _ _ ?_
    refine zS fun K h=>zL hf hc aX m1 rfl fun a w hf hc=>sp 1 hf rfl fun a hf=>zT h ?_
    refine wp_ret ?_
    obtain ⟨_,u,hF⟩:=rM hF
    obtain rfl:=sj hF
    replace hc:=((hc.drop k2).drop k1).drop k0
    replace hc:Ctx G (.box b_ [.slice H d.length D,i6 I,i6 J] 78::.row H D (s.map aH) 112 5::.im mb (fun j=>(l j).map (fun xq:aA=>.agg #[i6 xq.cost,i6 xq.many,i6 xq.by_.way,.bool xq.by_.back])) none::Lf) w:=by
     first | exact hc | (simp only [List.length_set] at hc; exact hc) | (try rw [u] at hc; exact hc) | (simp only [List.length_set] at hc u; try rw [u] at hc; exact hc)
    exact zO1 Tryz.results69 hf rfl ⟨rfl,u,hc⟩
   have bk:∀ r,ag=.out r→r=V:=by
    rintro r rfl
    exact sj hF
   refine dQ N (dP (S:=S12) (x:=ag) ?_ N (0,d) _ _ ⟨U,R,hf.kp rfl,hc⟩ aq)
   clear hF hf hc
   rintro ⟨ai,s⟩ bj a w KB12 ⟨o,b,hf,hc⟩ hF p ax
   unfold dR at hF
   refine zS fun K h=>sp 1 hf rfl fun a hf=>zT h ?_
   refine wp_seq_k fun K15 a1=>zI hf rfl hF ?_ ?_ <;> clear hF <;> intro hF
   ·refine wp_skip ?_
    refine a1 _ _ ?_
    refine wp_seq_k fun K16 a6=>wp_block ?_
    refine zS fun K h=>?_
    obtain ⟨ab,ay,hF⟩:=aC hF
    have aj:=hf
    obtain ⟨g,rfl,qa,qr⟩:=iJ hc m0 ay
    have hf:=aj
    refine zP hf rfl (pIA Tryz.underlying199 xK rfl rfl qa) fun a hf=>zE hf hc rfl (kK (vs:=[i6 ab.way,.bool ab.back]) kQ rfl rfl (pP (sz:=2) (i:=ai.toNat) m0 qr (n:=2) (o':=0) rfl)) fun a w hf hc=>zA hf hc aAw rfl fun bs a w hf hc=>zW hf hc xK u0 rfl fun w hc=>zT h ?_
    refine cX ?_
    refine sp 1 hf rfl fun a hf=>zN hf hc kQ m0 rfl fun a w hf hc=>?_
    obtain ⟨r,hr,hF⟩:=aC hF
    refine zC hf aQc rfl (uO ab s I J aa ((((hc.pick k2).pick k5).pick k5).pick k5) hr) ?_
    rintro _ w ⟨rfl,hl,hc⟩
    refine ⟨_,rfl,fun a hf=>?_⟩
    try rw [← hl] at hf
    try rw [← hl] at hc
    refine aQ ?_
    refine a6 _ _ ?_
    refine cX ?_
    refine sp 2 hf rfl fun a hf=>aQ ?_
    replace hc:=(((((hc.drop k4).pick k2).pick k2).pick k2).pick k3).pick k4
    exact ax (W (ai + 1),r) _ _ (sj hF).symm ⟨(some ⟨g,0,none⟩),b,hf.kp rfl,hc⟩
   ·refine wp_exit ?_
    refine bI ?_
    refine bI ?_
    have he:=sj hF
    rw [← he] at p
    refine fB ?_
    exact ar _ _ _ p ⟨o,b,hf.kp rfl,hc⟩
  have bn:∀ r,x8=.out r→r=V:=by
   rintro r rfl
   exact sj hF
  refine dQ N (dP (S:=S8) (x:=x8) ?_ N (0,most) _ _ ⟨Z,Y,hf.kp rfl,hc⟩ a0)
  clear hF hf hc
  rintro ⟨x,aa⟩ bm a w KB8 ⟨U,R,hf,hc⟩ hF y bc
  unfold dH at hF
  refine zS fun K h=>sp 1 hf rfl fun a hf=>zT h ?_
  refine wp_seq_k fun K19 a8=>zI hf rfl hF ?_ ?_ <;> clear hF <;> intro hF
  ·refine wp_skip ?_
   refine a8 _ _ ?_
   refine wp_seq_k fun K20 bf=>wp_block ?_
   refine zS fun K h=>?_
   obtain ⟨af,an,hF⟩:=aC hF
   have aj:=hf
   obtain ⟨bb,rfl,am,az⟩:=iJ hc m0 an
   have hf:=aj
   refine zP hf rfl (pIA Tryz.underlying199 xK rfl rfl am) fun a hf=>zE hf hc rfl (kK (vs:=[i6 af.way,.bool af.back]) kQ rfl rfl (pP (sz:=2) (i:=x.toNat) m0 az (n:=2) (o':=0) rfl)) fun a w hf hc=>zA hf hc aAw rfl fun bq a w hf hc=>zW hf hc xK u0 rfl fun w hc=>zT h ?_
   refine zS fun K h=>zL hf hc nT m3 rfl fun a w hf hc=>zN hf hc kQ m0 rfl fun a w hf hc=>?_
   obtain ⟨ac,av,hF⟩:=aC hF
   refine zQ (v:=.tuple #[i6 ac.1,i6 ac.2]) hf hc aG5 rfl (fun w hc=>by obtain ⟨G1,ap,t,hc,q⟩:=lend hc k5; exact (iV (⟨(⟨d,I⟩:cH),J⟩:aP) af t (hc.pick k4) av).mono fun e w h=>⟨h.1,((q _ _ (h.2.unpick k4)).unpick k5)⟩) fun a w hf hc=>sp 5 hf rfl fun a hf=>zT h ?_
   refine cX ?_
   refine zL hf hc aX m2 rfl fun a w hf hc=>sp 1 hf rfl fun a hf=>zP hf rfl (aFi rfl rfl) fun a hf=>zW hf hc fD u2 rfl fun w hc=>aQ ?_
   refine bf _ _ ?_
   refine cX ?_
   refine sp 2 hf rfl fun a hf=>aQ ?_
   replace hc:=hc.drop k0
   exact bc (W (x + 1),min aa ac.2) _ _ (sj hF).symm ⟨(some ⟨bb,0,none⟩),R,hf.kp rfl,hc⟩
  ·refine wp_exit ?_
   refine bI ?_
   refine bI ?_
   have he:=sj hF
   rw [← he] at y
   refine fB ?_
   exact a4 _ _ _ y ⟨U,R,hf.kp rfl,hc⟩
 have bu:∀ r,x5=.out r→r=V:=by
  rintro r rfl
  exact sj hF
 replace hc:=hc.nilRow 158 2
 refine dQ N (dP (S:=S5) (x:=x5) ?_ N (([]:List aB),ad) _ _ ⟨none,0,hf.kp rfl,hc⟩ a3)
 clear hF hf hc
 rintro ⟨B,M⟩ bp a w KB5 ⟨Z,Y,hf,hc⟩ hF z a2
 unfold eW at hF
 refine wp_seq_k fun K23 a7=>zS fun K h=>sp 3 hf rfl fun a hf=>zT h ?_
 refine zI hf rfl hF ?_ ?_ <;> clear hF <;> intro hF
 ·refine wp_skip ?_
  refine a7 _ _ ?_
  refine lR fun K25 bg=>wp_block ?_
  refine zS fun K h=>sp 2 hf rfl fun a hf=>zE hf hc rfl (eLk (enc:=(fun xq:aA=>.agg #[i6 xq.cost,i6 xq.many,i6 xq.by_.way,.bool xq.by_.back])) (z0:=(⟨0,0,(⟨0,false⟩:aB)⟩:aA)) (m:=l) m5 Tryz.underlying165 Tryz.underlying3 nB rfl rfl) fun a w hf hc=>zP hf rfl (aNj (vs:=[i6 ((((l M).getD (⟨0,0,(⟨0,false⟩:aB)⟩:aA)).by_).way),.bool ((((l M).getD (⟨0,0,(⟨0,false⟩:aB)⟩:aA)).by_).back)]) Tryz.underlying168 rfl kQ rfl rfl) fun a hf=>zA hf hc aAw rfl fun bt a w hf hc=>zW hf hc xK u0 rfl fun w hc=>zT h ?_
  refine zS fun K h=>sp 1 hf rfl fun a hf=>zN hf hc kQ m0 rfl fun a w hf hc=>oJ (rows:=([(((l M).getD (⟨0,0,(⟨0,false⟩:aB)⟩:aA)).by_)]:List aB).map jY) (vs:=[(0,.agg #[i6 ((((l M).getD (⟨0,0,(⟨0,false⟩:aB)⟩:aA)).by_).way),.bool ((((l M).getD (⟨0,0,(⟨0,false⟩:aB)⟩:aA)).by_).back)])]) hf hc rfl rfl aK9 rfl ⟨rfl,rfl,rfl,trivial⟩ rfl rfl fun br a w hf hc=>?_
  obtain ⟨un,a5,hF⟩:=aC hF
  refine lO (xs:=B) (ys:=([(((l M).getD (⟨0,0,(⟨0,false⟩:aB)⟩:aA)).by_)]:List aB)) hf hc rfl rfl aK9 rfl rfl rfl rfl rfl xO (fM hc m0) (fun _ _=>u2) (by simpa using dB a5) fun a9 ba a w hf hc=>sp 1 hf rfl fun a hf=>zT h ?_
  refine zS fun K h=>zP hf rfl (pFA xM rfl) fun a hf=>zL hf hc vC m1 rfl fun a w hf hc=>sp 1 hf rfl fun a hf=>zP hf rfl (pFA xM rfl) fun a hf=>zW hf hc aBv u1 rfl fun w hc=>zT h ?_
  refine cX ?_
  refine zL hf hc nT m4 rfl fun a w hf hc=>zN hf hc kQ m1 rfl fun a w hf hc=>?_
  obtain ⟨ak,au,hF⟩:=aC hF
  refine zQ (v:=i6 ak) hf hc aCt rfl (fun w hc=>by obtain ⟨G1,ap,t,hc,q⟩:=lend hc k6; exact (gG (⟨(⟨d,I⟩:cH),J⟩:aP) (⟨(((l M).getD (⟨0,0,(⟨0,false⟩:aB)⟩:aA)).by_).way,(!((((l M).getD (⟨0,0,(⟨0,false⟩:aB)⟩:aA)).by_).back))⟩:aB) t (hc.pick k5) au).mono fun e w h=>⟨h.1,((q _ _ (h.2.unpick k5)).unpick k6)⟩) fun a w hf hc=>sp 1 hf rfl fun a hf=>aQ ?_
  refine bg _ _ ?_
  replace hc:=(hc.drop k1).drop k0
  exact a2 ((B++[(((l M).getD (⟨0,0,(⟨0,false⟩:aB)⟩:aA)).by_)]),ak) _ _ (sj hF).symm ⟨a9,ba,hf.kp rfl,hc⟩
 ·refine wp_exit ?_
  refine bI ?_
  refine bI ?_
  have he:=sj hF
  rw [← he] at z
  refine fB ?_
  exact bi _ _ _ z ⟨Z,Y,hf.kp rfl,hc⟩

def cO (N:Nat) (H:Int) (B:Int) (D:Int) (J:Int) (M:Int) (I:Bool):Option (dA (Int × Int × Int × Int × Int × Bool) (dA ((List aE) × (Nat→Int)) ((List aE)))) :=
 some (.cont (B,W (H + 1),D,J,M,I))
def dJ (N:Nat) (x:Nat→Int) (R:Int) (D:(Int→Option aA)) (J:Int) (B:Int) (H:Int) (I:Int) (O:Int) (M:Bool):Option (dA (Int × Int × Int × Int × Int × Bool) (dA ((List aE) × (Nat→Int)) ((List aE)))) :=
 cond (decide (B < 10))
 (Option.bind (inR B 10) fun S=>
 cond ((decide (0≤(x B.toNat))) || (!((D B).isSome)))
 (cO N B J H I O M)
 (cond (((J == R) || (decide ((((D B).getD (⟨0,0,(⟨0,false⟩:aB)⟩:aA)).cost) < H))) || (((((D B).getD (⟨0,0,(⟨0,false⟩:aB)⟩:aA)).cost) == H) && (decide ((((D B).getD (⟨0,0,(⟨0,false⟩:aB)⟩:aA)).many) < I))))
 (cO N B B (((D B).getD (⟨0,0,(⟨0,false⟩:aB)⟩:aA)).cost) (((D B).getD (⟨0,0,(⟨0,false⟩:aB)⟩:aA)).many) ((((D B).getD (⟨0,0,(⟨0,false⟩:aB)⟩:aA)).by_).way) ((((D B).getD (⟨0,0,(⟨0,false⟩:aB)⟩:aA)).by_).back))
 (cO N B J H I O M)))
 (some (.brk (J,B,H,I,O,M)))
def eM (N:Nat) (J:Int) (I:Int) (H:List aE) (x:Nat→Int):Option (dA ((List aE) × (Nat→Int)) ((List aE))) :=
 cond (!(aC3 10 x (fun _=>0)))
 (Option.bind (vS (aL 10 x) 0 ((10:Nat):Int)) fun sub=>
 Option.bind (fT N sub) fun D=>
 Option.bind (kI N (⟨(⟨H,J⟩:cH),I⟩:aP) D) fun M=>
 Option.bind (bN (fun B=>dJ N x D M B.1 B.2.1 B.2.2.1 B.2.2.2.1 B.2.2.2.2.1 B.2.2.2.2.2) N (D,0,0,0,0,false)) fun S=>
 exK S (fun B=>Option.bind (inR D 10) fun un=>
 Option.bind (inR B.1 10) fun U=>
 Option.bind (fG N H J I D B.1 M (min (x D.toNat) (W (0 - (x B.1.toNat))))) fun O=>
 Option.bind (gX N (⟨(⟨O.2,J⟩:cH),I⟩:aP)) fun R=>
 some (.cont (O.2,R))) some)
 (some (.brk (H,x)))
def hX (N:Nat) (d:List aE) (D:Int) (B:Int):Option ((List aE)) :=
 Option.bind (gX N (⟨(⟨d,D⟩:cH),B⟩:aP)) fun r=>
 Option.bind (bN (fun s4=>eM N D B s4.1 s4.2) N (d,r)) fun x4=>
 exK x4 (fun s4=>Option.bind (qD s4.1 d) fun _=>
 some s4.1) some
theorem vQ {N:Nat} {G:bA} {Lf:List Ent} {w:World} (d:List aE) (V:Int) (X:Int) {b_:Nat} {M:Option Addr} {J:Nat}  (hc:Ctx G (.box b_ [.slice M d.length J,i6 V,i6 X] 78::.row M J (d.map aH) 112 5::Lf) w) {an:(List aE)} (hF:hX N d V X=some an):Calls Tryz.prog 61 #[pq b_] w (fun e w=>e=.returned (.tuple #[])∧an.length=d.length∧Ctx G (.box b_ [.slice M d.length J,i6 V,i6 X] 78::.row M J (an.map aH) 112 5::Lf) w):=by
 unfold hX at hF
 refine cC Tryz.func61 rfl Tryz.ntmps61 rfl fun a hf=>zS fun K h=>zP hf rfl (bJ (cells:=[.func (.func 95) #[] #[]]) aLv rfl rfl) fun a hf=>zA hf hc aM0 rfl fun R a w hf hc=>zW hf hc aM9 u0 rfl fun w hc=>zT h ?_
 refine zS fun K h=>sp 1 hf rfl fun a hf=>?_
 obtain ⟨r,hr,hF⟩:=aC hF
 refine zQ (v:=.agg (aY [] 10 aD r []).toArray) hf hc aN2 rfl (fun w hc=>by obtain ⟨G1,ac,g,hc,b⟩:=lend hc k2; exact (rC (⟨(⟨d,V⟩:cH),X⟩:aP) g (hc.pick k1) hr).mono fun e w h=>⟨h.1,((b _ _ (h.2.unpick k1)).unpick k2)⟩) fun a w hf hc=>aHw (cs:=(aY [] 10 aD (fun _=>0) [])) hf hc rfl rfl aGk rfl fun bi a w hf hc=>aJq (enc:=vE) (f:=(fun _=>0)) (z:=r) hf hc rfl rfl rfl eZ aGd u0 fun w hc=>zT h ?_
 refine lR fun K3 h3=>wp_block ?_
 obtain ⟨x4,bg,hF⟩:=aC hF
 let S4:((List aE) × (Nat→Int))→Act→World→Prop:=(fun (zz:(List aE) × (Nat→Int)) a w=>∃ (bq:Nat),Has 86 a [(0,pq b_),(2,pq R),(3,pq bq)]∧Ctx G (.box bq (aY [] 10 aD zz.2 []) 193::.box R [.func (.func 95) #[] #[]] 163::.box b_ [.slice M zz.1.length J,i6 V,i6 X] 78::.row M J (zz.1.map aH) 112 5::Lf) w)
 have bc:∀ (zz:(List aE) × (Nat→Int)) a w,x4=.go zz→S4 zz a w→K3 a w:=by
  rintro ⟨O,x⟩ a w rfl ⟨bq,hf,hc⟩
  replace hF:=cJ hF
  refine h3 _ _ ?_
  obtain ⟨_,aj,hF⟩:=rM hF
  obtain rfl:=sj hF
  replace hc:=(hc.drop k1).drop k0
  replace hc:Ctx G (.box b_ [.slice M d.length J,i6 V,i6 X] 78::.row M J (O.map aH) 112 5::Lf) w:=by
   first | exact hc | (simp only [List.length_set] at hc; exact hc) | (try rw [aj] at hc; exact hc) | (simp only [List.length_set] at hc aj; try rw [aj] at hc; exact hc)
  exact pO (by simp) rfl Tryz.results61 hf ⟨rfl,aj,hc⟩
 have bt:∀ r,x4=.out r→r=an:=by
  rintro r rfl
  exact sj hF
 refine dQ N (dP (S:=S4) (x:=x4) ?_ N (d,r) _ _ ⟨bi,hf.kp rfl,hc⟩ bg)
 clear hF hf hc
 rintro ⟨O,x⟩ a9 a w KB4 ⟨bq,hf,hc⟩ hF af bj
 unfold eM at hF
 refine wp_seq_k fun K5 h5=>zS fun K h=>zE hf hc rfl (kK (vs:=(aY [] 10 aD x [])) aDh rfl (eZ _).1 (cE (n:=10) m0 (aGr (eZ _).1))) fun a w hf hc=>zP hf rfl (aIb (cells:=(aY [] 10 aD (fun _=>0) [])) rfl (by rfl)) fun a hf=>zP hf rfl (pNeA aP3 rfl rfl (aPq _ _)) fun a hf=>zT h ?_
 refine zI hf rfl hF ?_ ?_ <;> clear hF <;> intro hF
 ·refine wp_skip ?_
  refine h5 _ _ ?_
  refine wp_seq_k fun K7 h7=>wp_block ?_
  refine wp_scope_straight ?_
  refine zS fun K h=>?_
  obtain ⟨sub,ar,hF⟩:=aC hF
  refine zP hf rfl (pSlA (xs:=(aL 10 x)) Tryz.underlying193 fD rfl aFy rfl rfl ar) fun a hf=>?_
  obtain ⟨H,a2,hF⟩:=aC hF
  refine zQ (v:=i6 H) hf hc aOt rfl (fun w hc=>by obtain ⟨G1,ac,g,hc,b⟩:=aN7 hc k0; exact (rV sub (Rd.sub (rdA (fun x=>(bG x).1) g rfl rfl) ar) hc a2).mono fun e w h=>⟨h.1,((b _ _ h.2).unpick k0)⟩) fun a w hf hc=>sp 1 hf rfl fun a hf=>zT h ?_
  refine zS fun K h=>sp 2 hf rfl fun a hf=>zN hf hc aMn m1 rfl fun a w hf hc=>?_
  obtain ⟨D,a1,hF⟩:=aC hF
  obtain ⟨G1,ac,g,hc,b⟩:=lend hc k3
  refine zC hf aOb rfl (wN (⟨(⟨O,V⟩:cH),X⟩:aP) H g (hc.pick k2) a1) ?_
  rintro _ w ⟨Z,rfl,hc⟩
  refine ⟨_,rfl,fun a hf=>?_⟩
  replace hc:=b _ _ hc
  refine sp 1 hf rfl fun a hf=>zT h ?_
  refine zS fun K h=>sp 1 hf rfl fun a hf=>zP hf rfl (bJ (cells:=[i6 0,i6 0,i6 0,.bool false]) aCn rfl rfl) fun a hf=>zA hf hc nB rfl fun Y a w hf hc=>sp 1 hf rfl fun a hf=>zW hf hc uG u0 rfl fun w hc=>zT h ?_
  refine wp_seq_k fun K11 bm=>wp_label ?_
  refine bm _ _ ?_
  refine wp_seq_k fun K12 bb=>zS fun K h=>zE hf hc rfl (kK (vs:=(aY [] 10 aD x [])) aDh rfl (eZ _).1 (cE (n:=10) m4 (aGr (eZ _).1))) fun a w hf hc=>sp 1 hf rfl fun a hf=>zT h ?_
  refine wp_block ?_
  obtain ⟨au,a0,hF⟩:=aC hF
  let S14:(Int × Int × Int × Int × Int × Bool)→Act→World→Prop:=(fun (zz:Int × Int × Int × Int × Int × Bool) a w=>Has 86 a [(0,pq b_),(2,pq R),(3,pq bq),(4,i6 H),(5,.map (some Z)),(6,i6 zz.1),(7,pq Y),(28,.agg (aY [] 10 aD x []).toArray),(29,i6 zz.2.1)]∧Ctx G (.box Y [i6 zz.2.2.1,i6 zz.2.2.2.1,i6 zz.2.2.2.2.1,.bool zz.2.2.2.2.2] 168::.row M J (O.map aH) 112 5::.im Z (fun j=>(D j).map (fun xq:aA=>.agg #[i6 xq.cost,i6 xq.many,i6 xq.by_.way,.bool xq.by_.back])) none::.box b_ [.slice M O.length J,i6 V,i6 X] 78::.box bq (aY [] 10 aD x []) 193::.box R [.func (.func 95) #[] #[]] 163::Lf) w)
  have ay:∀ (zz:Int × Int × Int × Int × Int × Bool) a w,au=.go zz→S14 zz a w→K12 a w:=by
   rintro ⟨I,B,U,k,s,t⟩ a w rfl ⟨hf,hc⟩
   replace hF:=cJ hF
   refine bb _ _ ?_
   obtain ⟨un,ap,hF⟩:=aC hF
   obtain ⟨bp,y,hF⟩:=aC hF
   obtain ⟨q,az,hF⟩:=aC hF
   refine cU (fun θ=>[⟨none,none,0,pq b_⟩,⟨none,none,2,pq R⟩,⟨none,none,3,pq bq⟩,⟨none,none,4,i6 H⟩,⟨none,none,5,.map (some Z)⟩,⟨none,none,6,i6 I⟩,⟨some 0,none,72,pq b_⟩,⟨some 1,none,73,i6 H⟩,⟨some 2,none,74,i6 I⟩,⟨some 3,none,75,.map (some Z)⟩,⟨some 4,none,76,i6 H⟩,⟨some 5,none,77,.pointer (some ⟨bq,0 + H.toNat * 1,none⟩)⟩,⟨some 6,none,78,i6 (x H.toNat)⟩,⟨some 7,none,79,i6 I⟩,⟨some 8,none,80,.pointer (some ⟨bq,0 + I.toNat * 1,none⟩)⟩,⟨some 9,none,81,i6 (x I.toNat)⟩,⟨some 10,none,82,i6 (W (0 - (x I.toNat)))⟩,⟨some 11,none,83,i6 (min (x H.toNat) (W (0 - (x I.toNat))))⟩,⟨some 12,none,84,i6 q.1⟩]) (fun E θ=>.box Y [i6 U,i6 k,i6 s,.bool t] 168::(bif E 12 then .row M J (q.2.map aH) 112 5 else .row M J (O.map aH) 112 5)::.im Z (fun j=>(D j).map (fun xq:aA=>.agg #[i6 xq.cost,i6 xq.many,i6 xq.by_.way,.bool xq.by_.back])) none::(bif E 12 then .box b_ [.slice M q.2.length J,i6 V,i6 X] 78 else .box b_ [.slice M O.length J,i6 V,i6 X] 78)::.box bq (aY [] 10 aD x []) 193::.box R [.func (.func 95) #[] #[]] 163::Lf) [] (fun a w=>Has 86 a [(0,pq b_),(2,pq R),(3,pq bq)]∧Ctx G (.box Y [i6 U,i6 k,i6 s,.bool t] 168::.row M J (q.2.map aH) 112 5::.im Z (fun j=>(D j).map (fun xq:aA=>.agg #[i6 xq.cost,i6 xq.many,i6 xq.by_.way,.bool xq.by_.back])) none::.box b_ [.slice M q.2.length J,i6 V,i6 X] 78::.box bq (aY [] 10 aD x []) 193::.box R [.func (.func 95) #[] #[]] 163::Lf) w) aT (by kernel_rfl) (by kernel_rfl) (dL.of hf ⟨rfl,rfl,rfl,rfl,rfl,rfl,trivial,trivial,trivial,trivial,trivial,trivial,trivial,trivial,trivial,trivial,trivial,trivial,trivial,trivial⟩) hc ⟨?_,?_,?_,?_,?_,?_,?_,?_,?_,?_,?_,?_,?_,trivial⟩ ?_ ?_
   ·intro E θ a w hD hi hp he hc
    have hf:=he.h0.mT he 0 rfl
    refine sp 1 hf rfl fun a hf=>zD θ he hi hf 6 rfl rfl rfl hc
   ·intro E θ a w hD hi hp he hc
    have hf:=he.h0.mT he 3 rfl
    refine sp 1 hf rfl fun a hf=>zD θ he hi hf 7 rfl rfl rfl hc
   ·intro E θ a w hD hi hp he hc
    have hf:=he.h0.mT he 5 rfl
    refine sp 1 hf rfl fun a hf=>zD θ he hi hf 8 rfl rfl rfl hc
   ·intro E θ a w hD hi hp he hc
    have hf:=he.h0.mT he 4 rfl
    refine sp 1 hf rfl fun a hf=>zD θ he hi hf 9 rfl rfl rfl hc
   ·intro E θ a w hD hi hp he hc
    have hf:=he.h0.mT he 3 rfl
    refine sp 1 hf rfl fun a hf=>zD θ he hi hf 10 rfl rfl rfl hc
   ·intro E θ a w hD hi hp he hc
    have e4:=hp.o 4 rfl
    have hf:=(he.h0.mT he 2 rfl).mP he 10 rfl e4
    refine zP hf rfl (nS Tryz.underlying193 fD rfl rfl (bF ap).1 (bF ap).2) fun a hf=>zD θ he hi hf 11 rfl rfl rfl hc
   ·intro E θ a w hD hi hp he hc
    have e5:=hp.o 5 rfl
    have hf:=he.h0.mP he 11 rfl e5
    refine zE hf hc rfl (cV aX rfl (kA (j:=0) m4 (fun x=>(bG x).1) rfl ap rfl)) fun a w hf hc=>zD θ he hi hf 12 rfl rfl rfl hc
   ·intro E θ a w hD hi hp he hc
    have hf:=he.h0.mT he 5 rfl
    refine sp 1 hf rfl fun a hf=>zD θ he hi hf 13 rfl rfl rfl hc
   ·intro E θ a w hD hi hp he hc
    have e7:=hp.o 7 rfl
    have hf:=(he.h0.mT he 2 rfl).mP he 13 rfl e7
    refine zP hf rfl (nS Tryz.underlying193 fD rfl rfl (bF y).1 (bF y).2) fun a hf=>zD θ he hi hf 14 rfl rfl rfl hc
   ·intro E θ a w hD hi hp he hc
    have e8:=hp.o 8 rfl
    have hf:=he.h0.mP he 14 rfl e8
    refine zE hf hc rfl (cV aX rfl (kA (j:=0) m4 (fun x=>(bG x).1) rfl y rfl)) fun a w hf hc=>zD θ he hi hf 15 rfl rfl rfl hc
   ·intro E θ a w hD hi hp he hc
    have e9:=hp.o 9 rfl
    have hf:=he.h0.mP he 15 rfl e9
    refine sp 1 hf rfl fun a hf=>zD θ he hi hf 16 rfl rfl rfl hc
   ·intro E θ a w hD hi hp he hc
    have e6:=hp.o 6 rfl
    have a7:=hp.o 10 rfl
    have hf:=(he.h0.mP he 12 rfl e6).mP he 16 rfl a7
    refine zP hf rfl (aFi rfl rfl) fun a hf=>zD θ he hi hf 17 rfl rfl rfl hc
   ·intro E θ a w hD hi hp he hc
    have e0:=hp.o 0 rfl
    have e1:=hp.o 1 rfl
    have e2:=hp.o 2 rfl
    have e3:=hp.o 3 rfl
    have bd:=hp.o 11 rfl
    try dsimp only at hc
    rw [hi] at hc
    have hf:=((((he.h0.mP he 6 rfl e0).mP he 7 rfl e1).mP he 8 rfl e2).mP he 9 rfl e3).mP he 17 rfl bd
    refine zC hf aOs rfl (qO O V X H I D (min (x H.toNat) (W (0 - (x I.toNat)))) (((hc.pick k2).pick k2).pick k3) az) ?_
    rintro _ w ⟨rfl,hl,hc⟩
    refine ⟨_,rfl,fun a hf=>?_⟩
    try rw [← hl] at hf
    try rw [← hl] at hc
    refine aQ ?_
    refine bV ?_
    intro ds u a8
    replace hc:=(((hc.pick k0).pick k2).pick k2).pick k3
    refine ⟨θ,he.put0 hi a8 hf rfl 18 rfl rfl,?_⟩
    try dsimp only
    rw [aN E 12]
    exact hc
   ·intro E θ a w aa he hc
    have hf:=he.h0
    have bn:=aa 12 rfl
    replace hf:=hf.more he 2 rfl (onT)
    replace hf:=hf.more he 1 rfl (onT)
    replace hf:=hf.more he 0 rfl (onT)
    try dsimp only at hc
    rw [bn] at hc
    exact ⟨hf.kp rfl,hc⟩
   rintro a w ⟨hf,hc⟩
   refine aNl ?_
   refine h7 _ _ ?_
   refine wp_seq_k fun K15 a5=>zS fun K h=>zE hf hc rfl (kK (vs:=(aY [] 10 aD x [])) aDh rfl (eZ _).1 (cE (n:=10) m4 (aGr (eZ _).1))) fun a w hf hc=>zT h ?_
   refine cX ?_
   refine aHw (cs:=(aY [] 10 aD (fun _=>0) [])) hf hc rfl rfl aGk rfl fun bf a w hf hc=>aJq (enc:=vE) (f:=(fun _=>0)) (z:=x) hf hc rfl rfl rfl eZ aGd u0 fun w hc=>aQ ?_
   refine a5 _ _ ?_
   refine cX ?_
   refine sp 1 hf rfl fun a hf=>?_
   obtain ⟨aq,a4,hF⟩:=aC hF
   refine zQ (v:=.agg (aY [] 10 aD aq []).toArray) hf hc aN2 rfl (fun w hc=>by obtain ⟨G1,ac,g,hc,b⟩:=lend hc k2; exact (rC (⟨(⟨q.2,V⟩:cH),X⟩:aP) g (hc.pick k3) a4).mono fun e w h=>⟨h.1,((b _ _ (h.2.unpick k3)).unpick k2)⟩) fun a w hf hc=>aJq (enc:=vE) (f:=x) (z:=aq) hf hc rfl rfl rfl eZ aGd u0 fun w hc=>aQ ?_
   replace hc:=((((((hc.drop k5).drop k3).drop k1).pick k1).pick k2).pick k3).pick k3
   exact bj (q.2,aq) _ _ (sj hF).symm ⟨bf,hf.kp rfl,hc⟩
  have br:∀ r,au=.out r→r=a9:=by
   rintro r rfl
   exact sj hF
  refine dQ N (dP (S:=S14) (x:=au) ?_ N (H,0,0,0,0,false) _ _ ⟨hf.kp rfl,hc⟩ a0)
  clear hF hf hc
  rintro ⟨I,B,U,k,s,t⟩ ax a w KB14 ⟨hf,hc⟩ hF ab a3
  unfold dJ at hF
  refine zS fun K h=>sp 1 hf rfl fun a hf=>zT h ?_
  refine wp_seq_k fun K18 a6=>zI hf rfl hF ?_ ?_ <;> clear hF <;> intro hF
  ·refine wp_skip ?_
   refine a6 _ _ ?_
   refine wp_seq_k fun K19 ba=>?_
   have ad:∀ (p:Int) (ai:Int) (ag:Int) (am:Int) (ak:Bool) a w,Has 86 a [(0,pq b_),(2,pq R),(3,pq bq),(4,i6 H),(5,.map (some Z)),(6,i6 p),(7,pq Y),(28,.agg (aY [] 10 aD x []).toArray),(29,i6 B)]→Ctx G (.box Y [i6 ai,i6 ag,i6 am,.bool ak] 168::.row M J (O.map aH) 112 5::.im Z (fun j=>(D j).map (fun xq:aA=>.agg #[i6 xq.cost,i6 xq.many,i6 xq.by_.way,.bool xq.by_.back])) none::.box b_ [.slice M O.length J,i6 V,i6 X] 78::.box bq (aY [] 10 aD x []) 193::.box R [.func (.func 95) #[] #[]] 163::Lf) w→cO N B p ai ag am ak=some ax→K19 a w:=by
    repeat (clear hF)
    repeat (clear hc)
    repeat (clear hf)
    intro p ai ag am ak a w hf hc hF
    unfold cO at hF
    refine ba _ _ ?_
    refine cX ?_
    refine sp 2 hf rfl fun a hf=>aQ ?_
    exact a3 (p,W (B + 1),ai,ag,am,ak) _ _ (sj hF).symm ⟨hf.kp rfl,hc⟩
   refine wp_block ?_
   refine zS fun K h=>sp 1 hf rfl fun a hf=>?_
   obtain ⟨bs,av,hF⟩:=aC hF
   refine zP hf rfl (pIdxA Tryz.underlying193 Tryz.underlying3 fD rfl rfl av) fun a hf=>sp 2 hf rfl fun a hf=>zT h ?_
   refine zS fun K h=>sp 2 hf rfl fun a hf=>zE hf hc rfl (aCg (enc:=(fun xq:aA=>.agg #[i6 xq.cost,i6 xq.many,i6 xq.by_.way,.bool xq.by_.back])) (z0:=(⟨0,0,(⟨0,false⟩:aB)⟩:aA)) (m:=D) m2 Tryz.underlying165 Tryz.underlying3 nB rfl rfl) fun a w hf hc=>sp 3 hf rfl fun a hf=>zA hf hc nB rfl fun i a w hf hc=>zW hf hc uG u0 rfl fun w hc=>sp 1 hf rfl fun a hf=>zT h ?_
   refine wp_seq_k fun K22 bk=>zS fun K h=>sp 3 hf rfl fun a hf=>fL 3 (fun a=>Has 86 a [(0,pq b_),(2,pq R),(3,pq bq),(4,i6 H),(5,.map (some Z)),(6,i6 I),(7,pq Y),(28,.agg (aY [] 10 aD x []).toArray),(29,i6 B),(8,i6 B),(9,i6 (x B.toNat)),(10,pq i),(11,.bool ((D B).isSome)),(39,i6 (x B.toNat)),(40,.bool (decide (0≤(x B.toNat)))),(41,.bool (decide (0≤(x B.toNat)))),(44,.bool ((decide (0≤(x B.toNat))) || (!((D B).isSome))))]) hc ?_ ?_
   ·cases hb:(decide (0≤(x B.toNat)))
    ·rw [hb] at hf
     refine sp 3 hf rfl fun a hf=>aQ ⟨hf.kp rfl,hc⟩
    ·rw [hb] at hf
     refine stS hf rfl rfl rfl fun a hf=>stS hf rfl rfl rfl fun a hf=>sp 1 hf rfl fun a hf=>aQ ⟨hf.kp rfl,hc⟩
   intro a w ⟨hf,hc⟩
   refine zT h ?_
   refine zI hf rfl hF ?_ ?_ <;> clear hF <;> intro hF
   ·refine wp_exit ?_
    refine bI ?_
    refine fB ?_
    replace hc:=hc.drop k0
    exact ad I U k s t _ _  (hf.kp rfl) hc hF
   ·refine wp_skip ?_
    refine bk _ _ ?_
    refine zS fun K h=>sp 4 hf rfl fun a hf=>fL 6 (fun a=>Has 86 a [(0,pq b_),(2,pq R),(3,pq bq),(4,i6 H),(5,.map (some Z)),(6,i6 I),(7,pq Y),(28,.agg (aY [] 10 aD x []).toArray),(29,i6 B),(8,i6 B),(10,pq i),(45,i6 I),(46,i6 H),(47,.bool (I == H)),(48,.bool (I == H)),(54,.bool ((I == H) || (decide ((((D B).getD (⟨0,0,(⟨0,false⟩:aB)⟩:aA)).cost) < U))))]) hc ?_ ?_
    ·cases hb:(I == H)
     ·rw [hb] at hf
      refine zP hf rfl (pFA kT rfl) fun a hf=>zL hf hc aX m0 rfl fun a w hf hc=>zP hf rfl (pFA kT rfl) fun a hf=>zL hf hc aX m1 rfl fun a w hf hc=>sp 2 hf rfl fun a hf=>aQ ⟨hf.kp rfl,hc⟩
     ·rw [hb] at hf
      refine stS hf rfl rfl rfl fun a hf=>stS hf rfl rfl rfl fun a hf=>stS hf rfl rfl rfl fun a hf=>stS hf rfl rfl rfl fun a hf=>stS hf rfl rfl rfl fun a hf=>sp 1 hf rfl fun a hf=>aQ ⟨hf.kp rfl,hc⟩
    intro a w ⟨hf,hc⟩
    refine sp 1 hf rfl fun a hf=>fL 13 (fun a=>Has 86 a [(0,pq b_),(2,pq R),(3,pq bq),(4,i6 H),(5,.map (some Z)),(6,i6 I),(7,pq Y),(28,.agg (aY [] 10 aD x []).toArray),(29,i6 B),(8,i6 B),(10,pq i),(45,i6 I),(46,i6 H),(47,.bool (I == H)),(48,.bool (I == H)),(54,.bool ((I == H) || (decide ((((D B).getD (⟨0,0,(⟨0,false⟩:aB)⟩:aA)).cost) < U)))),(55,.bool ((I == H) || (decide ((((D B).getD (⟨0,0,(⟨0,false⟩:aB)⟩:aA)).cost) < U)))),(68,.bool (((I == H) || (decide ((((D B).getD (⟨0,0,(⟨0,false⟩:aB)⟩:aA)).cost) < U))) || (((((D B).getD (⟨0,0,(⟨0,false⟩:aB)⟩:aA)).cost) == U) && (decide ((((D B).getD (⟨0,0,(⟨0,false⟩:aB)⟩:aA)).many) < k)))))]) hc ?_ ?_
    ·cases hb:((I == H) || (decide ((((D B).getD (⟨0,0,(⟨0,false⟩:aB)⟩:aA)).cost) < U)))
     ·rw [hb] at hf
      refine zP hf rfl (pFA kT rfl) fun a hf=>zL hf hc aX m0 rfl fun a w hf hc=>zP hf rfl (pFA kT rfl) fun a hf=>zL hf hc aX m1 rfl fun a w hf hc=>sp 2 hf rfl fun a hf=>fL 6 (fun a=>Has 86 a [(0,pq b_),(2,pq R),(3,pq bq),(4,i6 H),(5,.map (some Z)),(6,i6 I),(7,pq Y),(28,.agg (aY [] 10 aD x []).toArray),(29,i6 B),(8,i6 B),(10,pq i),(45,i6 I),(46,i6 H),(47,.bool (I == H)),(48,.bool (I == H)),(54,.bool false),(55,.bool false),(56,pq i),(57,i6 (((D B).getD (⟨0,0,(⟨0,false⟩:aB)⟩:aA)).cost)),(58,pq Y),(59,i6 U),(60,.bool ((((D B).getD (⟨0,0,(⟨0,false⟩:aB)⟩:aA)).cost) == U)),(61,.bool ((((D B).getD (⟨0,0,(⟨0,false⟩:aB)⟩:aA)).cost) == U)),(67,.bool (((((D B).getD (⟨0,0,(⟨0,false⟩:aB)⟩:aA)).cost) == U) && (decide ((((D B).getD (⟨0,0,(⟨0,false⟩:aB)⟩:aA)).many) < k))))]) hc ?_ ?_
      ·cases hb:((((D B).getD (⟨0,0,(⟨0,false⟩:aB)⟩:aA)).cost) == U)
       ·rw [hb] at hf
        refine stS hf rfl rfl rfl fun a hf=>stS hf rfl rfl rfl fun a hf=>stS hf rfl rfl rfl fun a hf=>stS hf rfl rfl rfl fun a hf=>stS hf rfl rfl rfl fun a hf=>sp 1 hf rfl fun a hf=>aQ ⟨hf.kp rfl,hc⟩
       ·rw [hb] at hf
        refine zP hf rfl (pFA rK rfl) fun a hf=>zL hf hc aX m0 rfl fun a w hf hc=>zP hf rfl (pFA rK rfl) fun a hf=>zL hf hc aX m1 rfl fun a w hf hc=>sp 2 hf rfl fun a hf=>aQ ⟨hf.kp rfl,hc⟩
      intro a w ⟨hf,hc⟩
      refine sp 1 hf rfl fun a hf=>aQ ⟨hf.kp rfl,hc⟩
     ·rw [hb] at hf
      refine stS hf rfl rfl rfl fun a hf=>stS hf rfl rfl rfl fun a hf=>stS hf rfl rfl rfl fun a hf=>stS hf rfl rfl rfl fun a hf=>stS hf rfl rfl rfl fun a hf=>stS hf rfl rfl rfl fun a hf=>stS hf rfl rfl rfl fun a hf=>stS hf rfl rfl rfl fun a hf=>stS hf rfl rfl rfl fun a hf=>stS hf rfl rfl rfl fun a hf=>stS hf rfl rfl rfl fun a hf=>stS hf rfl rfl rfl fun a hf=>sp 1 hf rfl fun a hf=>?_
      exact aQ ⟨hf.kp rfl,hc⟩
    intro a w ⟨hf,hc⟩
    refine zT h ?_
    refine zI hf rfl hF ?_ ?_ <;> clear hF <;> intro hF
    ·refine cU (fun θ=>[⟨none,none,0,pq b_⟩,⟨none,none,2,pq R⟩,⟨none,none,3,pq bq⟩,⟨none,none,4,i6 H⟩,⟨none,none,5,.map (some Z)⟩,⟨none,some 2,6,i6 I⟩,⟨none,none,7,pq Y⟩,⟨none,none,8,i6 B⟩,⟨none,none,10,pq i⟩,⟨none,none,28,.agg (aY [] 10 aD x []).toArray⟩,⟨none,none,29,i6 B⟩,⟨some 0,none,69,i6 B⟩,⟨some 1,none,70,.agg #[i6 (((D B).getD (⟨0,0,(⟨0,false⟩:aB)⟩:aA)).cost),i6 (((D B).getD (⟨0,0,(⟨0,false⟩:aB)⟩:aA)).many),i6 ((((D B).getD (⟨0,0,(⟨0,false⟩:aB)⟩:aA)).by_).way),.bool ((((D B).getD (⟨0,0,(⟨0,false⟩:aB)⟩:aA)).by_).back)]⟩,⟨some 2,none,6,i6 B⟩]) (fun E θ=>.box i [i6 (((D B).getD (⟨0,0,(⟨0,false⟩:aB)⟩:aA)).cost),i6 (((D B).getD (⟨0,0,(⟨0,false⟩:aB)⟩:aA)).many),i6 ((((D B).getD (⟨0,0,(⟨0,false⟩:aB)⟩:aA)).by_).way),.bool ((((D B).getD (⟨0,0,(⟨0,false⟩:aB)⟩:aA)).by_).back)] 168::(bif E 3 then .box Y [i6 (((D B).getD (⟨0,0,(⟨0,false⟩:aB)⟩:aA)).cost),i6 (((D B).getD (⟨0,0,(⟨0,false⟩:aB)⟩:aA)).many),i6 ((((D B).getD (⟨0,0,(⟨0,false⟩:aB)⟩:aA)).by_).way),.bool ((((D B).getD (⟨0,0,(⟨0,false⟩:aB)⟩:aA)).by_).back)] 168 else .box Y [i6 U,i6 k,i6 s,.bool t] 168)::.row M J (O.map aH) 112 5::.im Z (fun j=>(D j).map (fun xq:aA=>.agg #[i6 xq.cost,i6 xq.many,i6 xq.by_.way,.bool xq.by_.back])) none::.box b_ [.slice M O.length J,i6 V,i6 X] 78::.box bq (aY [] 10 aD x []) 193::.box R [.func (.func 95) #[] #[]] 163::Lf) [] (fun a w=>Has 86 a [(0,pq b_),(2,pq R),(3,pq bq),(4,i6 H),(5,.map (some Z)),(7,pq Y),(28,.agg (aY [] 10 aD x []).toArray),(29,i6 B),(6,i6 B)]∧Ctx G (.box i [i6 (((D B).getD (⟨0,0,(⟨0,false⟩:aB)⟩:aA)).cost),i6 (((D B).getD (⟨0,0,(⟨0,false⟩:aB)⟩:aA)).many),i6 ((((D B).getD (⟨0,0,(⟨0,false⟩:aB)⟩:aA)).by_).way),.bool ((((D B).getD (⟨0,0,(⟨0,false⟩:aB)⟩:aA)).by_).back)] 168::.box Y [i6 (((D B).getD (⟨0,0,(⟨0,false⟩:aB)⟩:aA)).cost),i6 (((D B).getD (⟨0,0,(⟨0,false⟩:aB)⟩:aA)).many),i6 ((((D B).getD (⟨0,0,(⟨0,false⟩:aB)⟩:aA)).by_).way),.bool ((((D B).getD (⟨0,0,(⟨0,false⟩:aB)⟩:aA)).by_).back)] 168::.row M J (O.map aH) 112 5::.im Z (fun j=>(D j).map (fun xq:aA=>.agg #[i6 xq.cost,i6 xq.many,i6 xq.by_.way,.bool xq.by_.back])) none::.box b_ [.slice M O.length J,i6 V,i6 X] 78::.box bq (aY [] 10 aD x []) 193::.box R [.func (.func 95) #[] #[]] 163::Lf) w) aT (by kernel_rfl) (by kernel_rfl) (dL.of hf ⟨rfl,rfl,rfl,rfl,rfl,rfl,rfl,rfl,rfl,rfl,rfl,trivial,trivial,trivial,trivial⟩) hc ⟨?_,?_,?_,?_,trivial⟩ ?_ ?_
     ·intro E θ a w hD hi hp he hc
      have hf:=he.h0.mT he 7 rfl
      refine sp 1 hf rfl fun a hf=>zD θ he hi hf 11 rfl rfl rfl hc
     ·intro E θ a w hD hi hp he hc
      have hf:=he.h0.mT he 8 rfl
      refine zN hf hc aId m0 rfl fun a w hf hc=>zD θ he hi hf 12 rfl rfl rfl hc
     ·intro E θ a w hD hi hp he hc
      have e0:=hp.o 0 rfl
      have hf:=he.h0.mP he 11 rfl e0
      refine sp 1 hf rfl fun a hf=>zD θ he hi hf 13 rfl rfl rfl hc
     ·intro E θ a w hD hi hp he hc
      have e1:=hp.o 1 rfl
      try dsimp only at hc
      rw [hi] at hc
      have hf:=(he.h0.mT he 6 rfl).mP he 12 rfl e1
      refine zW hf hc uG u1 rfl fun w hc=>zG θ he hi hf rfl ?_
      try dsimp only
      rw [aN E 3]
      exact hc
     ·intro E θ a w aa he hc
      have hf:=he.h0
      have e2:=aa 2 rfl
      have e3:=aa 3 rfl
      replace hf:=hf.more he 13 rfl (onP e2)
      replace hf:=hf.more he 10 rfl (onT)
      replace hf:=hf.more he 9 rfl (onT)
      replace hf:=hf.more he 6 rfl (onT)
      replace hf:=hf.more he 4 rfl (onT)
      replace hf:=hf.more he 3 rfl (onT)
      replace hf:=hf.more he 2 rfl (onT)
      replace hf:=hf.more he 1 rfl (onT)
      replace hf:=hf.more he 0 rfl (onT)
      try dsimp only at hc
      rw [e3] at hc
      exact ⟨hf.kp rfl,hc⟩
     rintro a w ⟨hf,hc⟩
     replace hc:=hc.drop k0
     exact ad B (((D B).getD (⟨0,0,(⟨0,false⟩:aB)⟩:aA)).cost) (((D B).getD (⟨0,0,(⟨0,false⟩:aB)⟩:aA)).many) ((((D B).getD (⟨0,0,(⟨0,false⟩:aB)⟩:aA)).by_).way) ((((D B).getD (⟨0,0,(⟨0,false⟩:aB)⟩:aA)).by_).back) _ _  (hf.kp rfl) hc hF
    ·refine wp_skip ?_
     replace hc:=hc.drop k0
     exact ad I U k s t _ _  (hf.kp rfl) hc hF
  ·refine wp_exit ?_
   refine bI ?_
   refine bI ?_
   have he:=sj hF
   rw [← he] at ab
   refine fB ?_
   exact ay _ _ _ ab ⟨hf.kp rfl,hc⟩
 ·refine wp_exit ?_
  refine bI ?_
  refine bI ?_
  have he:=sj hF
  rw [← he] at af
  refine fB ?_
  exact bc _ _ _ af ⟨bq,hf.kp rfl,hc⟩

def eB (N:Nat) (d:aP) (l:List Int) (x:Int):Option (dA ((List Int) × Int) (cL)) :=
 cond (decide (x < ((d.ways.all.length:Nat):Int)))
 (Option.bind (cM d.ways.all x) fun B=>
 Option.bind (nQ ((l++[B.now])).length) fun D=>
 some (.cont ((l++[B.now]),W (x + 1))))
 (some (.brk (l,x)))
def iP (N:Nat) (d:aP):Option (cL) :=
 Option.bind (bN (fun s5=>eB N d s5.1 s5.2) N (([]:List Int),0)) fun x5=>
 exK x5 (fun s5=>Option.bind (inM d.reaches) fun un=>
 Option.bind (inM d.ways.outside) fun H=>
 Option.bind (aEn s5.1.length) fun B=>
 Option.bind (vS s5.1 d.reaches ((s5.1.length:Nat):Int)) fun sub=>
 Option.bind (aEn sub.length) fun D=>
 some (⟨(cpL (List.replicate d.reaches.toNat (0:Int)) 0 ((List.replicate d.reaches.toNat (0:Int)).length) s5.1),(cpL (List.replicate d.ways.outside.toNat (0:Int)) 0 ((List.replicate d.ways.outside.toNat (0:Int)).length) sub)⟩:cL)) some
theorem wS {N:Nat} {G:bA} {Lf:List Ent} {w:World} (d:aP) {b_:Nat} {B:Option Addr} {D:Nat} (Z:Rd G 5 B D (d.ways.all.map aH)) (hc:Ctx G (.box b_ [.slice B d.ways.all.length D,i6 d.ways.outside,i6 d.reaches] 78::Lf) w) {g:cL} (hF:iP N d=some g):Calls Tryz.prog 63 #[pq b_] w (fun e w=>∃ (aa:Option Addr) (ab:Nat) (ad:Option Addr) (ac:Nat),e=.returned (.agg #[.slice aa g.Flows.length ab,.slice ad g.Gains.length ac])∧Ctx G (.row aa ab (g.Flows.map aD) 3 1::.row ad ac (g.Gains.map aD) 3 1::.box b_ [.slice B d.ways.all.length D,i6 d.ways.outside,i6 d.reaches] 78::Lf) w):=by
 unfold iP at hF
 refine cC Tryz.func63 rfl Tryz.ntmps63 rfl fun a hf=>zS fun K h=>zA hf hc aHm rfl fun M a w hf hc=>zT h ?_
 refine zS fun K h=>sp 1 hf rfl fun a hf=>zT h ?_
 refine wp_seq_k fun K3 h3=>zS fun K h=>sp 2 hf rfl fun a hf=>zP hf rfl (pFA gA rfl) fun a hf=>zP hf rfl (pFA jI rfl) fun a hf=>zL hf hc qK m1 rfl fun a w hf hc=>zP hf rfl (cP Tryz.underlying74 rfl) fun a hf=>sp 1 hf rfl fun a hf=>zT h ?_
 refine wp_block ?_
 obtain ⟨x5,ai,hF⟩:=aC hF
 let S5:((List Int) × Int)→Act→World→Prop:=(fun (zz:(List Int) × Int) a w=>∃ (I:Option Addr) (H:Nat),Has 49 a [(0,pq b_),(2,pq M),(3,.slice I zz.1.length H),(11,.slice B d.ways.all.length D),(12,i6 ((d.ways.all.length:Nat):Int)),(13,i6 zz.2)]∧Ctx G (.row I H (zz.1.map aD) 3 1::.box M [.slice none 0 0,.slice none 0 0] 41::.box b_ [.slice B d.ways.all.length D,i6 d.ways.outside,i6 d.reaches] 78::Lf) w)
 have au:∀ (zz:(List Int) × Int) a w,x5=.go zz→S5 zz a w→K3 a w:=by
  rintro ⟨l,x⟩ a w rfl ⟨I,H,hf,hc⟩
  replace hF:=cJ hF
  refine h3 _ _ ?_
  refine wp_seq_k fun K6 h6=>?_
  obtain ⟨un,ak,hF⟩:=aC hF
  obtain ⟨az,z,hF⟩:=aC hF
  replace hc:=hc.nilRow 0 0
  replace hc:=hc.nilRow 0 0
  replace hc:=hc.nilRow 0 0
  refine cU (fun θ=>[⟨none,none,0,pq b_⟩,⟨none,none,2,pq M⟩,⟨none,none,3,.slice I l.length H⟩,⟨some 0,none,23,pq b_⟩,⟨some 1,none,24,pq b_⟩,⟨some 2,none,25,.pointer (some ⟨b_,2,none⟩)⟩,⟨some 3,none,26,i6 d.reaches⟩,⟨some 4,none,27,.slice (some ⟨(θ 32).b,0,none⟩) ((List.replicate d.reaches.toNat (0:Int)).length) d.reaches.toNat⟩,⟨some 5,none,28,pq b_⟩,⟨some 6,none,29,pq b_⟩,⟨some 7,none,30,pq b_⟩,⟨some 8,none,31,.pointer (some ⟨b_,1,none⟩)⟩,⟨some 9,none,32,i6 d.ways.outside⟩,⟨some 10,none,33,.slice (some ⟨(θ 80).b,0,none⟩) ((List.replicate d.ways.outside.toNat (0:Int)).length) d.ways.outside.toNat⟩,⟨some 11,none,34,.agg #[.slice (some ⟨(θ 32).b,0,none⟩) ((List.replicate d.reaches.toNat (0:Int)).length) d.reaches.toNat,.slice (some ⟨(θ 80).b,0,none⟩) ((List.replicate d.ways.outside.toNat (0:Int)).length) d.ways.outside.toNat]⟩,⟨some 12,none,6,.pointer (some ⟨(θ 96).b,0,none⟩)⟩]) (fun E θ=>(bif E 13 then .box (θ 96).b [.slice (some ⟨(θ 32).b,0,none⟩) ((List.replicate d.reaches.toNat (0:Int)).length) d.reaches.toNat,.slice (some ⟨(θ 80).b,0,none⟩) ((List.replicate d.ways.outside.toNat (0:Int)).length) d.ways.outside.toNat] 41 else bif E 12 then .box (θ 96).b [.slice none 0 0,.slice none 0 0] 41 else .row none 0 [] 0 0)::(bif E 10 then .row (some ⟨(θ 80).b,0,none⟩) d.ways.outside.toNat ((List.replicate d.ways.outside.toNat (0:Int)).map aD) 3 1 else .row none 0 [] 0 0)::(bif E 4 then .row (some ⟨(θ 32).b,0,none⟩) d.reaches.toNat ((List.replicate d.reaches.toNat (0:Int)).map aD) 3 1 else .row none 0 [] 0 0)::.row I H (l.map aD) 3 1::.box M [.slice none 0 0,.slice none 0 0] 41::.box b_ [.slice B d.ways.all.length D,i6 d.ways.outside,i6 d.reaches] 78::Lf) [(13,4),(11,4),(13,10),(11,10),(13,12)] (fun a w=>∃ (Y:Nat) (V:Nat) (J:Nat),Has 49 a [(0,pq b_),(2,pq M),(3,.slice I l.length H),(6,pq Y)]∧Ctx G (.box Y [.slice (some ⟨V,0,none⟩) ((List.replicate d.reaches.toNat (0:Int)).length) d.reaches.toNat,.slice (some ⟨J,0,none⟩) ((List.replicate d.ways.outside.toNat (0:Int)).length) d.ways.outside.toNat] 41::.row (some ⟨J,0,none⟩) d.ways.outside.toNat ((List.replicate d.ways.outside.toNat (0:Int)).map aD) 3 1::.row (some ⟨V,0,none⟩) d.reaches.toNat ((List.replicate d.reaches.toNat (0:Int)).map aD) 3 1::.row I H (l.map aD) 3 1::.box M [.slice none 0 0,.slice none 0 0] 41::.box b_ [.slice B d.ways.all.length D,i6 d.ways.outside,i6 d.reaches] 78::Lf) w) aT (by kernel_rfl) (by kernel_rfl) (dL.of hf ⟨rfl,rfl,rfl,trivial,trivial,trivial,trivial,trivial,trivial,trivial,trivial,trivial,trivial,trivial,trivial,trivial,trivial⟩) hc ⟨?_,?_,?_,?_,?_,?_,?_,?_,?_,?_,?_,?_,?_,?_,trivial⟩ ?_ ?_
  ·intro E θ a w hD hi hp he hc
   have hf:=he.h0.mT he 0 rfl
   refine sp 1 hf rfl fun a hf=>zD θ he hi hf 3 rfl rfl rfl hc
  ·intro E θ a w hD hi hp he hc
   have e0:=hp.o 0 rfl
   have hf:=he.h0.mP he 3 rfl e0
   refine sp 1 hf rfl fun a hf=>zD θ he hi hf 4 rfl rfl rfl hc
  ·intro E θ a w hD hi hp he hc
   have e1:=hp.o 1 rfl
   have hf:=he.h0.mP he 4 rfl e1
   refine zP hf rfl (pFA aBz rfl) fun a hf=>zD θ he hi hf 5 rfl rfl rfl hc
  ·intro E θ a w hD hi hp he hc
   have e2:=hp.o 2 rfl
   have hf:=he.h0.mP he 5 rfl e2
   refine zL hf hc aX m5 rfl fun a w hf hc=>zD θ he hi hf 6 rfl rfl rfl hc
  ·intro E θ a w hD hi hp he hc
   have e3:=hp.o 3 rfl
   have O:=hD.f 0 rfl hi
   have k:=hD.f 1 rfl hi
   try dsimp only at hc
   rw [hi,O] at hc
   have hf:=he.h0.mP he 6 rfl e3
   refine stMk (m:=(List.replicate d.reaches.toNat (0:Int)).length) (rows:=(List.replicate d.reaches.toNat (0:Int)).map aD) hf hc rfl rfl lQ rfl rfl (aCz ak) rfl rfl (by simp [List.map_replicate,Value.cells]) (by simp) fun aq a w hf hc=>aQ ?_
   refine bV ?_
   intro ds u j
   replace hc:=(((hc.drop k3).pick k0).pick k2).pick k2
   refine ⟨(hZ θ 32 ⟨aq,none,0,(fun _=>(none,0))⟩),he.put hi j hf rfl [11] ⟨⟨k,rfl⟩,trivial⟩ ⟨qq,qq,qq,qq,qq,qq,qq,qq,qq,qq,qq,qq,qq,qq,trivial,qq,trivial⟩,?_⟩
   try dsimp only
   rw [aN E 4,aS 4 O rfl]
   exact hc
  ·intro E θ a w hD hi hp he hc
   have hf:=he.h0.mT he 0 rfl
   refine sp 1 hf rfl fun a hf=>zD θ he hi hf 8 rfl rfl rfl hc
  ·intro E θ a w hD hi hp he hc
   have e5:=hp.o 5 rfl
   have hf:=he.h0.mP he 8 rfl e5
   refine sp 1 hf rfl fun a hf=>zD θ he hi hf 9 rfl rfl rfl hc
  ·intro E θ a w hD hi hp he hc
   have e6:=hp.o 6 rfl
   have hf:=he.h0.mP he 9 rfl e6
   refine zP hf rfl (pFA gA rfl) fun a hf=>zD θ he hi hf 10 rfl rfl rfl hc
  ·intro E θ a w hD hi hp he hc
   have e7:=hp.o 7 rfl
   have hf:=he.h0.mP he 10 rfl e7
   refine zP hf rfl (pFA yW rfl) fun a hf=>zD θ he hi hf 11 rfl rfl rfl hc
  ·intro E θ a w hD hi hp he hc
   have e8:=hp.o 8 rfl
   have hf:=he.h0.mP he 11 rfl e8
   refine zL hf hc aX m5 rfl fun a w hf hc=>zD θ he hi hf 12 rfl rfl rfl hc
  ·intro E θ a w hD hi hp he hc
   have e9:=hp.o 9 rfl
   have O:=hD.f 2 rfl hi
   have k:=hD.f 3 rfl hi
   try dsimp only at hc
   rw [hi,O] at hc
   have hf:=he.h0.mP he 12 rfl e9
   refine stMk (m:=(List.replicate d.ways.outside.toNat (0:Int)).length) (rows:=(List.replicate d.ways.outside.toNat (0:Int)).map aD) hf hc rfl rfl lQ rfl rfl (aCz z) rfl rfl (by simp [List.map_replicate,Value.cells]) (by simp) fun ap a w hf hc=>aQ ?_
   refine bV ?_
   intro ds u j
   replace hc:=((hc.drop k2).pick k0).pick k1
   refine ⟨(hZ θ 80 ⟨ap,none,0,(fun _=>(none,0))⟩),he.put hi j hf rfl [11] ⟨⟨k,rfl⟩,trivial⟩ ⟨qq,qq,qq,qq,qq,qq,qq,qq,qq,qq,qq,qq,qq,qq,trivial,qq,trivial⟩,?_⟩
   try dsimp only
   rw [aN E 10,aS 10 O rfl]
   exact hc
  ·intro E θ a w hD hi hp he hc
   have e4:=hp.o 4 rfl
   have q:=hp.o 10 rfl
   have hf:=(he.h0.mP he 7 rfl e4).mP he 13 rfl q
   refine zP hf rfl (bJ (cells:=[.slice (some ⟨(θ 32).b,0,none⟩) ((List.replicate d.reaches.toNat (0:Int)).length) d.reaches.toNat,.slice (some ⟨(θ 80).b,0,none⟩) ((List.replicate d.ways.outside.toNat (0:Int)).length) d.ways.outside.toNat]) bt_41 rfl rfl) fun a hf=>zD θ he hi hf 14 rfl rfl rfl hc
  ·intro E θ a w hD hi hp he hc
   have O:=hD.f 4 rfl hi
   try dsimp only at hc
   rw [hi,O] at hc
   have hf:=he.h0
   refine zA hf hc aHm rfl fun an a w hf hc=>aQ ?_
   refine bV ?_
   intro ds u j
   replace hc:=hc.drop k1
   refine ⟨(hZ θ 96 ⟨an,none,0,(fun _=>(none,0))⟩),he.put hi j hf rfl [] trivial ⟨qq,qq,qq,qq,qq,qq,qq,qq,qq,qq,qq,qq,qq,qq,qq,qq,trivial⟩,?_⟩
   try dsimp only
   rw [aN E 12,aS 12 O rfl]
   exact hc
  ·intro E θ a w hD hi hp he hc
   have k:=hp.o 11 rfl
   have i:=hp.o 12 rfl
   try dsimp only at hc
   rw [i,hi] at hc
   have hf:=(he.h0.mP he 14 rfl k).mP he 15 rfl i
   refine zW hf hc aIz u0 rfl fun w hc=>zG θ he hi hf rfl ?_
   try dsimp only
   rw [cB 13 i,aN E 13]
   exact hc
  ·intro E θ a w X he hc
   have hf:=he.h0
   have e4:=X 4 rfl
   have q:=X 10 rfl
   have i:=X 12 rfl
   have O:=X 13 rfl
   replace hf:=hf.more he 15 rfl (onP i)
   replace hf:=hf.more he 2 rfl (onT)
   replace hf:=hf.more he 1 rfl (onT)
   replace hf:=hf.more he 0 rfl (onT)
   try dsimp only at hc
   rw [e4,q,i,O] at hc
   exact ⟨(θ 96).b,(θ 32).b,(θ 80).b,hf.kp rfl,hc⟩
  rintro a w ⟨Y,V,J,hf,hc⟩
  refine h6 _ _ ?_
  refine zS fun K h=>zP hf rfl (pFA tY rfl) fun a hf=>zL hf hc uA m0 rfl fun a w hf hc=>sp 1 hf rfl fun a hf=>?_
  obtain ⟨a0,v,hF⟩:=aC hF
  refine stCp (enc:=aD) (R:=(List.replicate d.reaches.toNat (0:Int))) (S:=l) (lo:=0) hf hc rfl rfl Tryz.underlying39 fD rfl (by simp) rfl rfl bG (fM hc m3) (aE6 v) (by simp) u2 fun a w hf hc=>zT h ?_
  refine wp_seq_k fun K8 h8=>?_
  have qc:=aF3 hc m3
  obtain ⟨sub,s,hF⟩:=aC hF
  obtain ⟨ay,y,hF⟩:=aC hF
  refine cU (fun θ=>[⟨none,none,0,pq b_⟩,⟨none,none,2,pq M⟩,⟨none,none,3,.slice I l.length H⟩,⟨none,none,6,pq Y⟩,⟨some 0,none,39,.pointer (some ⟨Y,1,none⟩)⟩,⟨some 1,none,40,.slice (some ⟨J,0,none⟩) ((List.replicate d.ways.outside.toNat (0:Int)).length) d.ways.outside.toNat⟩,⟨some 2,none,41,.slice I l.length H⟩,⟨some 3,none,42,pq b_⟩,⟨some 4,none,43,pq b_⟩,⟨some 5,none,44,.pointer (some ⟨b_,2,none⟩)⟩,⟨some 6,none,45,i6 d.reaches⟩,⟨some 7,none,46,.slice (wQ I H d.reaches.toNat 1) sub.length (H - d.reaches.toNat)⟩,⟨some 8,none,47,i6 ((Nat.min sub.length ((List.replicate d.ways.outside.toNat (0:Int)).length):Nat):Int)⟩]) (fun E θ=>.box Y [.slice (some ⟨V,0,none⟩) ((List.replicate d.reaches.toNat (0:Int)).length) d.reaches.toNat,.slice (some ⟨J,0,none⟩) ((List.replicate d.ways.outside.toNat (0:Int)).length) d.ways.outside.toNat] 41::(bif E 8 then .row (some ⟨J,0,none⟩) d.ways.outside.toNat ((cpL (List.replicate d.ways.outside.toNat (0:Int)) 0 ((List.replicate d.ways.outside.toNat (0:Int)).length) sub).map aD) 3 1 else .row (some ⟨J,0,none⟩) d.ways.outside.toNat ((List.replicate d.ways.outside.toNat (0:Int)).map aD) 3 1)::.row (some ⟨V,0,none⟩) d.reaches.toNat ((cpL (List.replicate d.reaches.toNat (0:Int)) 0 ((List.replicate d.reaches.toNat (0:Int)).length) l).map aD) 3 1::.row I H (l.map aD) 3 1::.box M [.slice none 0 0,.slice none 0 0] 41::.box b_ [.slice B d.ways.all.length D,i6 d.ways.outside,i6 d.reaches] 78::Lf) [] (fun a w=>Has 49 a [(2,pq M),(6,pq Y)]∧Ctx G (.box Y [.slice (some ⟨V,0,none⟩) ((List.replicate d.reaches.toNat (0:Int)).length) d.reaches.toNat,.slice (some ⟨J,0,none⟩) ((List.replicate d.ways.outside.toNat (0:Int)).length) d.ways.outside.toNat] 41::.row (some ⟨J,0,none⟩) d.ways.outside.toNat ((cpL (List.replicate d.ways.outside.toNat (0:Int)) 0 ((List.replicate d.ways.outside.toNat (0:Int)).length) sub).map aD) 3 1::.row (some ⟨V,0,none⟩) d.reaches.toNat ((cpL (List.replicate d.reaches.toNat (0:Int)) 0 ((List.replicate d.reaches.toNat (0:Int)).length) l).map aD) 3 1::.row I H (l.map aD) 3 1::.box M [.slice none 0 0,.slice none 0 0] 41::.box b_ [.slice B d.ways.all.length D,i6 d.ways.outside,i6 d.reaches] 78::Lf) w) aT (by kernel_rfl) (by kernel_rfl) (dL.of hf ⟨rfl,rfl,rfl,rfl,trivial,trivial,trivial,trivial,trivial,trivial,trivial,trivial,trivial,trivial⟩) hc ⟨?_,?_,?_,?_,?_,?_,?_,?_,?_,trivial⟩ ?_ ?_
  ·intro E θ a w hD hi hp he hc
   have hf:=he.h0.mT he 3 rfl
   refine zP hf rfl (pFA aB6 rfl) fun a hf=>zD θ he hi hf 4 rfl rfl rfl hc
  ·intro E θ a w hD hi hp he hc
   have e0:=hp.o 0 rfl
   have hf:=he.h0.mP he 4 rfl e0
   refine zL hf hc uA m0 rfl fun a w hf hc=>zD θ he hi hf 5 rfl rfl rfl hc
  ·intro E θ a w hD hi hp he hc
   have hf:=he.h0.mT he 2 rfl
   refine sp 1 hf rfl fun a hf=>zD θ he hi hf 6 rfl rfl rfl hc
  ·intro E θ a w hD hi hp he hc
   have hf:=he.h0.mT he 0 rfl
   refine sp 1 hf rfl fun a hf=>zD θ he hi hf 7 rfl rfl rfl hc
  ·intro E θ a w hD hi hp he hc
   have e3:=hp.o 3 rfl
   have hf:=he.h0.mP he 7 rfl e3
   refine sp 1 hf rfl fun a hf=>zD θ he hi hf 8 rfl rfl rfl hc
  ·intro E θ a w hD hi hp he hc
   have e4:=hp.o 4 rfl
   have hf:=he.h0.mP he 8 rfl e4
   refine zP hf rfl (pFA aBz rfl) fun a hf=>zD θ he hi hf 9 rfl rfl rfl hc
  ·intro E θ a w hD hi hp he hc
   have e5:=hp.o 5 rfl
   have hf:=he.h0.mP he 9 rfl e5
   refine zL hf hc aX m5 rfl fun a w hf hc=>zD θ he hi hf 10 rfl rfl rfl hc
  ·intro E θ a w hD hi hp he hc
   have e2:=hp.o 2 rfl
   have e6:=hp.o 6 rfl
   have hf:=(he.h0.mP he 6 rfl e2).mP he 10 rfl e6
   refine zP hf rfl (pSl Tryz.underlying39 fD rfl rfl qc rfl rfl s) fun a hf=>zD θ he hi hf 11 rfl rfl rfl hc
  ·intro E θ a w hD hi hp he hc
   have e1:=hp.o 1 rfl
   have e7:=hp.o 7 rfl
   try dsimp only at hc
   rw [hi] at hc
   have hf:=(he.h0.mP he 5 rfl e1).mP he 11 rfl e7
   refine stCp (enc:=aD) (R:=(List.replicate d.ways.outside.toNat (0:Int))) (S:=sub) (lo:=0) hf hc rfl rfl Tryz.underlying39 fD rfl (by simp) rfl rfl bG (aNm (fun x=>(bG x).1) (fM hc m3) s (aF3 hc m3)) (aE6 y) (by simp) u1 fun a w hf hc=>zD θ he hi hf 12 rfl rfl rfl ?_
   try dsimp only
   rw [aN E 8]
   exact hc
  ·intro E θ a w X he hc
   have hf:=he.h0
   have e8:=X 8 rfl
   replace hf:=hf.more he 3 rfl (onT)
   replace hf:=hf.more he 1 rfl (onT)
   try dsimp only at hc
   rw [e8] at hc
   exact ⟨hf.kp rfl,hc⟩
  rintro a w ⟨hf,hc⟩
  refine h8 _ _ ?_
  refine zS fun K h=>zN hf hc aJh m0 rfl fun a w hf hc=>zW hf hc aIz u4 rfl fun w hc=>zT h ?_
  refine wp_ret ?_
  obtain rfl:=sj hF
  replace hc:=(((((hc.drop k3).drop k0).pick k2).pick k3).pick k2).pick k3
  exact nK (by simp) rfl Tryz.results63 hf hc (dX (vs:=[.slice (some ⟨V,0,none⟩) ((List.replicate d.reaches.toNat (0:Int)).length) d.reaches.toNat,.slice (some ⟨J,0,none⟩) ((List.replicate d.ways.outside.toNat (0:Int)).length) d.ways.outside.toNat]) aJh rfl rfl (cE (n:=2) m3 rfl)) ⟨(some ⟨V,0,none⟩),d.reaches.toNat,(some ⟨J,0,none⟩),d.ways.outside.toNat,(by first | rfl | simp only [aD6]),(hc.drop k3)⟩
 have a5:∀ r,x5=.out r→r=g:=by
  rintro r rfl
  exact sj hF
 replace hc:=hc.nilRow 3 1
 refine dQ N (dP (S:=S5) (x:=x5) ?_ N (([]:List Int),0) _ _ ⟨none,0,hf.kp rfl,hc⟩ ai)
 clear hF hf hc
 rintro ⟨l,x⟩ a2 a w KB5 ⟨I,H,hf,hc⟩ hF p ag
 unfold eB at hF
 refine zS fun K h=>sp 1 hf rfl fun a hf=>zT h ?_
 refine wp_seq_k fun K11 av=>zI hf rfl hF ?_ ?_ <;> clear hF <;> intro hF
 ·refine wp_skip ?_
  refine av _ _ ?_
  refine wp_seq_k fun K12 am=>wp_block ?_
  refine zS fun K h=>?_
  obtain ⟨U,af,hF⟩:=aC hF
  obtain ⟨a4,o,qa,qp⟩:=Z.atm af
  refine zP hf rfl (pIA Tryz.underlying74 kB rfl rfl qa) fun a hf=>zE hf hc rfl (kK (vs:=[i6 U.from_,i6 U.to_,i6 U.span.Lo,i6 U.span.Hi,i6 U.now]) aDc rfl rfl (dF qp (n:=5) (o':=0) rfl)) fun a w hf hc=>zA hf hc aCr rfl fun a3 a w hf hc=>zW hf hc kB u0 rfl fun w hc=>zT h ?_
  refine cX ?_
  refine sp 1 hf rfl fun a hf=>zP hf rfl (pFA jZ rfl) fun a hf=>zL hf hc aX m0 rfl fun a w hf hc=>oJ (rows:=([U.now]:List Int).map aD) (vs:=[(0,i6 U.now)]) hf hc rfl rfl lQ rfl ⟨rfl,rfl,rfl,trivial⟩ rfl rfl fun a1 a w hf hc=>?_
  obtain ⟨ax,t,hF⟩:=aC hF
  refine lO (xs:=l) (ys:=([U.now]:List Int)) hf hc rfl rfl lQ rfl rfl rfl rfl rfl bG (fM hc m0) (fun _ _=>u2) (by simpa using dB t) fun aj ar a w hf hc=>sp 1 hf rfl fun a hf=>aQ ?_
  refine am _ _ ?_
  refine cX ?_
  refine sp 2 hf rfl fun a hf=>aQ ?_
  replace hc:=(hc.drop k1).drop k0
  exact ag ((l++[U.now]),W (x + 1)) _ _ (sj hF).symm ⟨aj,ar,hf.kp rfl,hc⟩
 ·refine wp_exit ?_
  refine bI ?_
  refine bI ?_
  have he:=sj hF
  rw [← he] at p
  refine fB ?_
  exact au _ _ _ p ⟨I,H,hf.kp rfl,hc⟩

def bU (x:Int) (s_:aF):Int :=
 max (max 0 (W (s_.Lo - x))) (W (x - s_.Hi))
theorem xN {G:bA} {Lf:List Ent} {w:World} (x:Int) (s_:aF)   (hc:Ctx G (Lf) w) {B:Int} (hF:bU x s_=B):Calls Tryz.prog 98 #[i6 x,.agg #[i6 s_.Lo,i6 s_.Hi]] w (fun e w=>e=.returned (i6 B)∧Ctx G (Lf) w):=by
 unfold bU at hF
 refine cC Tryz.func98 rfl Tryz.ntmps98 rfl fun a hf=>zS fun K h=>zB hf hc rfl fun D a w hf hc=>sp 1 hf rfl fun a hf=>zT h ?_
 refine zS fun K h=>zP hf rfl (pFA iH rfl) fun a hf=>zL hf hc aX m0 rfl fun a w hf hc=>sp 3 hf rfl fun a hf=>zP hf rfl (pFA fQ rfl) fun a hf=>zL hf hc aX m0 rfl fun a w hf hc=>sp 1 hf rfl fun a hf=>zP hf rfl (pMax3 rfl rfl rfl) fun a hf=>sp 1 hf rfl fun a hf=>zT h ?_
 refine wp_ret ?_
 obtain rfl:=hF
 replace hc:=hc.drop k0
 exact zO1 Tryz.results98 hf rfl ⟨rfl,hc⟩

def iU (N:Nat) (l:List Int) (n:Int) (x:Int):Option (dA (Int × Int) (Int)) :=
 cond (decide (x < ((l.length:Nat):Int)))
 (Option.bind (cM l x) fun B=>
 some (.cont (W (n + B),W (x + 1))))
 (some (.brk (n,x)))
def pI (N:Nat) (l:List Int):Option (Int) :=
 Option.bind (bN (fun s5=>iU N l s5.1 s5.2) N (0,0)) fun x5=>
 exK x5 (fun s5=>some s5.1) some
theorem aDg {N:Nat} {G:bA} {Lf:List Ent} {w:World} (l:List Int) {I:Option Addr} {D:Nat} (U:Rd G 1 I D (l.map aD)) (hc:Ctx G (Lf) w) {H:Int} (hF:pI N l=some H):Calls Tryz.prog 99 #[.slice I l.length D] w (fun e w=>e=.returned (i6 H)∧Ctx G (Lf) w):=by
 unfold pI at hF
 refine cC Tryz.func99 rfl Tryz.ntmps99 rfl fun a hf=>zS fun K h=>sp 1 hf rfl fun a hf=>zT h ?_
 refine zS fun K h=>sp 1 hf rfl fun a hf=>zT h ?_
 refine wp_seq_k fun K3 h3=>zS fun K h=>sp 1 hf rfl fun a hf=>zP hf rfl (cP Tryz.underlying39 rfl) fun a hf=>sp 1 hf rfl fun a hf=>zT h ?_
 refine wp_block ?_
 obtain ⟨x5,O,hF⟩:=aC hF
 let S5:(Int × Int)→Act→World→Prop:=(fun (zz:Int × Int) a w=>Has 17 a [(3,i6 zz.1),(6,.slice I l.length D),(7,i6 ((l.length:Nat):Int)),(8,i6 zz.2)]∧Ctx G (Lf) w)
 have V:∀ (zz:Int × Int) a w,x5=.go zz→S5 zz a w→K3 a w:=by
  rintro ⟨n,x⟩ a w rfl ⟨hf,hc⟩
  replace hF:=cJ hF
  refine h3 _ _ ?_
  refine zS fun K h=>sp 2 hf rfl fun a hf=>zT h ?_
  refine wp_ret ?_
  obtain rfl:=sj hF
  exact zO1 Tryz.results99 hf rfl ⟨rfl,hc⟩
 have Z:∀ r,x5=.out r→r=H:=by
  rintro r rfl
  exact sj hF
 refine dQ N (dP (S:=S5) (x:=x5) ?_ N (0,0) _ _ ⟨hf.kp rfl,hc⟩ O)
 clear hF hf hc
 rintro ⟨n,x⟩ X a w KB5 ⟨hf,hc⟩ hF B M
 unfold iU at hF
 refine zS fun K h=>sp 1 hf rfl fun a hf=>zT h ?_
 refine wp_seq_k fun K8 h8=>zI hf rfl hF ?_ ?_ <;> clear hF <;> intro hF
 ·refine wp_skip ?_
  refine h8 _ _ ?_
  refine wp_seq_k fun K9 h9=>wp_block ?_
  refine zS fun K h=>?_
  obtain ⟨R,J,hF⟩:=aC hF
  obtain ⟨Y,o,qa,qp⟩:=U.atm J
  refine zP hf rfl (pIA Tryz.underlying39 fD rfl rfl qa) fun a hf=>zE hf hc rfl (cV aX rfl (kX (j:=0) qp rfl)) fun a w hf hc=>sp 1 hf rfl fun a hf=>zT h ?_
  refine cX ?_
  refine sp 4 hf rfl fun a hf=>aQ ?_
  refine h9 _ _ ?_
  refine cX ?_
  refine sp 2 hf rfl fun a hf=>aQ ?_
  exact M (W (n + R),W (x + 1)) _ _ (sj hF).symm ⟨hf.kp rfl,hc⟩
 ·refine wp_exit ?_
  refine bI ?_
  refine bI ?_
  have he:=sj hF
  rw [← he] at B
  refine fB ?_
  exact V _ _ _ B ⟨hf.kp rfl,hc⟩

def gD (N:Nat) (n:bC) (t_:cL) (D:List Int) (B:Int):Option (dA ((List Int) × Int) (Int)) :=
 cond (decide (B < ((n.Gains.length:Nat):Int)))
 (Option.bind (cM n.Gains B) fun I=>
 Option.bind (cM t_.Gains B) fun H=>
 Option.bind (nQ ((D++[(bU H I)])).length) fun un=>
 some (.cont ((D++[(bU H I)]),W (B + 1))))
 (some (.brk (D,B)))
def iB (N:Nat) (n:bC) (t_:cL) (l:List Int) (x:Int):Option (dA ((List Int) × Int) (Int)) :=
 cond (decide (x < ((n.Reaches.length:Nat):Int)))
 (Option.bind (cM n.Reaches x) fun B=>
 Option.bind (cM t_.Flows x) fun D=>
 Option.bind (nQ ((l++[(bU D B.Flow)])).length) fun H=>
 some (.cont ((l++[(bU D B.Flow)]),W (x + 1))))
 (some (.brk (l,x)))
def oA (N:Nat) (n:bC) (t_:cL):Option (Int) :=
 Option.bind (bN (fun s5=>iB N n t_ s5.1 s5.2) N (([]:List Int),0)) fun x5=>
 exK x5 (fun s5=>Option.bind (bN (fun s8=>gD N n t_ s8.1 s8.2) N (s5.1,0)) fun x8=>
 exK x8 (fun s8=>Option.bind (pI N s8.1) fun r=>
 some r) some) some
theorem aBp {N:Nat} {G:bA} {Lf:List Ent} {w:World} (n:bC) (t_:cL) {R:Option Addr} {U:Nat} {M:Option Addr} {J:Nat} {I:Option Addr} {H:Nat} {B:Option Addr} {D:Nat} (af:Rd G 2 R U (n.Gains.map aJ)) (y:Rd G 4 M J (n.Reaches.map bH)) (ab:Rd G 1 I H (t_.Flows.map aD)) (ac:Rd G 1 B D (t_.Gains.map aD)) (hc:Ctx G (Lf) w) {aj:Int} (hF:oA N n t_=some aj):Calls Tryz.prog 62 #[.agg #[.slice R n.Gains.length U,.slice M n.Reaches.length J],.agg #[.slice I t_.Flows.length H,.slice B t_.Gains.length D]] w (fun e w=>e=.returned (i6 aj)∧Ctx G (Lf) w):=by
 unfold oA at hF
 refine cC Tryz.func62 rfl Tryz.ntmps62 rfl fun a hf=>zS fun K h=>zB hf hc rfl fun z a w hf hc=>zB hf hc rfl fun Z a w hf hc=>sp 1 hf rfl fun a hf=>zT h ?_
 refine zS fun K h=>sp 1 hf rfl fun a hf=>zT h ?_
 refine wp_seq_k fun K3 h3=>zS fun K h=>zP hf rfl (pFA rA rfl) fun a hf=>zL hf hc yX m1 rfl fun a w hf hc=>zP hf rfl (cP Tryz.underlying36 rfl) fun a hf=>sp 1 hf rfl fun a hf=>zT h ?_
 refine wp_block ?_
 obtain ⟨x5,bi,hF⟩:=aC hF
 let S5:((List Int) × Int)→Act→World→Prop:=(fun (zz:(List Int) × Int) a w=>∃ (m:Option Addr) (i:Nat),Has 51 a [(2,pq z),(3,pq Z),(5,.slice m zz.1.length i),(11,.slice M n.Reaches.length J),(12,i6 ((n.Reaches.length:Nat):Int)),(13,i6 zz.2)]∧Ctx G (.row m i (zz.1.map aD) 3 1::.box Z [.slice I t_.Flows.length H,.slice B t_.Gains.length D] 41::.box z [.slice R n.Gains.length U,.slice M n.Reaches.length J] 38::Lf) w)
 have bx:∀ (zz:(List Int) × Int) a w,x5=.go zz→S5 zz a w→K3 a w:=by
  rintro ⟨l,x⟩ a w rfl ⟨m,i,hf,hc⟩
  replace hF:=cJ hF
  refine h3 _ _ ?_
  refine wp_seq_k fun K6 h6=>zS fun K h=>zP hf rfl (pFA sC rfl) fun a hf=>zL hf hc sA m2 rfl fun a w hf hc=>zP hf rfl (cP Tryz.underlying35 rfl) fun a hf=>sp 1 hf rfl fun a hf=>zT h ?_
  refine wp_block ?_
  obtain ⟨x8,bd,hF⟩:=aC hF
  let S8:((List Int) × Int)→Act→World→Prop:=(fun (zz:(List Int) × Int) a w=>∃ (q:Option Addr) (s:Nat),Has 51 a [(3,pq Z),(5,.slice q zz.1.length s),(31,.slice R n.Gains.length U),(32,i6 ((n.Gains.length:Nat):Int)),(33,i6 zz.2)]∧Ctx G (.row q s (zz.1.map aD) 3 1::.box Z [.slice I t_.Flows.length H,.slice B t_.Gains.length D] 41::Lf) w)
  have bj:∀ (zz:(List Int) × Int) a w,x8=.go zz→S8 zz a w→K6 a w:=by
   rintro ⟨d,aa⟩ a w rfl ⟨q,s,hf,hc⟩
   replace hF:=cJ hF
   refine h6 _ _ ?_
   refine zS fun K h=>sp 1 hf rfl fun a hf=>?_
   obtain ⟨r,hr,hF⟩:=aC hF
   refine zQ (v:=i6 r) hf hc en_99 rfl (fun w hc=>by obtain ⟨G1,b1,a8,hc,ay⟩:=lend hc k0; exact (aDg d a8 hc hr).mono fun e w h=>⟨h.1,((ay _ _ h.2).unpick k0)⟩) fun a w hf hc=>sp 1 hf rfl fun a hf=>zT h ?_
   refine wp_ret ?_
   obtain rfl:=sj hF
   replace hc:=(hc.drop k1).drop k0
   exact zO1 Tryz.results62 hf rfl ⟨rfl,hc⟩
  have b4:∀ r,x8=.out r→r=aj:=by
   rintro r rfl
   exact sj hF
  replace hc:=hc.drop k2
  refine dQ N (dP (S:=S8) (x:=x8) ?_ N (l,0) _ _ ⟨m,i,hf.kp rfl,hc⟩ bd)
  clear hF hf hc
  rintro ⟨d,aa⟩ b3 a w KB8 ⟨q,s,hf,hc⟩ hF am bt
  unfold gD at hF
  refine zS fun K h=>sp 1 hf rfl fun a hf=>zT h ?_
  refine wp_seq_k fun K11 bz=>zI hf rfl hF ?_ ?_ <;> clear hF <;> intro hF
  ·refine wp_skip ?_
   refine bz _ _ ?_
   refine wp_seq_k fun K12 bp=>wp_block ?_
   refine zS fun K h=>sp 1 hf rfl fun a hf=>?_
   obtain ⟨V,a6,hF⟩:=aC hF
   obtain ⟨b7,o,qa,qp⟩:=af.atm a6
   refine zP hf rfl (pIA Tryz.underlying35 fS rfl rfl qa) fun a hf=>zE hf hc rfl (kK (vs:=[i6 V.Lo,i6 V.Hi]) eY rfl rfl (dF qp (n:=2) (o':=0) rfl)) fun a w hf hc=>zA hf hc rE rfl fun au a w hf hc=>sp 1 hf rfl fun a hf=>zW hf hc fS u0 rfl fun w hc=>zT h ?_
   obtain ⟨Y,a2,hF⟩:=aC hF
   obtain ⟨bs,bv,az,a4⟩:=ac.atm a2
   obtain ⟨un,bm,hF⟩:=aC hF
   replace hc:=hc.nilRow 0 0
   refine cU (fun θ=>[⟨none,none,3,pq Z⟩,⟨none,some 10,5,.slice q d.length s⟩,⟨none,none,8,i6 aa⟩,⟨none,none,9,pq au⟩,⟨none,none,31,.slice R n.Gains.length U⟩,⟨none,none,32,i6 ((n.Gains.length:Nat):Int)⟩,⟨none,none,33,i6 aa⟩,⟨some 0,none,38,.slice q d.length s⟩,⟨some 1,none,39,.pointer (some ⟨Z,1,none⟩)⟩,⟨some 2,none,40,.slice B t_.Gains.length D⟩,⟨some 3,none,41,i6 aa⟩,⟨some 4,none,42,.pointer (some ⟨bs,bv,none⟩)⟩,⟨some 5,none,43,i6 Y⟩,⟨some 6,none,44,.agg #[i6 V.Lo,i6 V.Hi]⟩,⟨some 7,none,45,i6 (bU Y V)⟩,⟨some 8,none,46,.slice (some ⟨(θ 64).b,0,none⟩) 1 1⟩,⟨some 9,none,47,.slice ((θ 72).p) ((d++[(bU Y V)]).length) ((θ 72).c)⟩,⟨some 10,none,5,.slice ((θ 72).p) ((d++[(bU Y V)]).length) ((θ 72).c)⟩]) (fun E θ=>(bif E 8 then .row (some ⟨(θ 64).b,0,none⟩) 1 (([(bU Y V)]:List Int).map aD) 3 1 else .row none 0 [] 0 0)::.box au [i6 V.Lo,i6 V.Hi] 29::(bif E 9 then .row ((θ 72).p) ((θ 72).c) ((d++[(bU Y V)]).map aD) 3 1 else .row q s (d.map aD) 3 1)::.box Z [.slice I t_.Flows.length H,.slice B t_.Gains.length D] 41::Lf) [(10,0),(10,9)] (fun a w=>∃ (ak:Option Addr) (an:Nat) (ax:Nat),Has 51 a [(3,pq Z),(31,.slice R n.Gains.length U),(32,i6 ((n.Gains.length:Nat):Int)),(33,i6 aa),(5,.slice ak ((d++[(bU Y V)]).length) an)]∧Ctx G (.row (some ⟨ax,0,none⟩) 1 (([(bU Y V)]:List Int).map aD) 3 1::.box au [i6 V.Lo,i6 V.Hi] 29::.row ak an ((d++[(bU Y V)]).map aD) 3 1::.box Z [.slice I t_.Flows.length H,.slice B t_.Gains.length D] 41::Lf) w) aT (by kernel_rfl) (by kernel_rfl) (dL.of hf ⟨rfl,rfl,rfl,rfl,rfl,rfl,rfl,trivial,trivial,trivial,trivial,trivial,trivial,trivial,trivial,trivial,trivial,trivial,trivial⟩) hc ⟨?_,?_,?_,?_,?_,?_,?_,?_,?_,?_,?_,trivial⟩ ?_ ?_
   ·intro E θ a w hD hi hp he hc
    have k:=hD.f 0 rfl hi
    have hf:=he.h0.mN he 1 rfl k
    refine sp 1 hf rfl fun a hf=>zD θ he hi hf 7 rfl rfl rfl hc
   ·intro E θ a w hD hi hp he hc
    have hf:=he.h0.mT he 0 rfl
    refine zP hf rfl (pFA aB6 rfl) fun a hf=>zD θ he hi hf 8 rfl rfl rfl hc
   ·intro E θ a w hD hi hp he hc
    have e1:=hp.o 1 rfl
    have hf:=he.h0.mP he 8 rfl e1
    refine zL hf hc uA m3 rfl fun a w hf hc=>zD θ he hi hf 9 rfl rfl rfl hc
   ·intro E θ a w hD hi hp he hc
    have hf:=he.h0.mT he 2 rfl
    refine sp 1 hf rfl fun a hf=>zD θ he hi hf 10 rfl rfl rfl hc
   ·intro E θ a w hD hi hp he hc
    have e2:=hp.o 2 rfl
    have e3:=hp.o 3 rfl
    have hf:=(he.h0.mP he 9 rfl e2).mP he 10 rfl e3
    refine zP hf rfl (pIA Tryz.underlying39 fD rfl rfl az) fun a hf=>zD θ he hi hf 11 rfl rfl rfl hc
   ·intro E θ a w hD hi hp he hc
    have e4:=hp.o 4 rfl
    have hf:=he.h0.mP he 11 rfl e4
    refine zE hf hc rfl (cV aX rfl (kX (j:=0) a4 rfl)) fun a w hf hc=>zD θ he hi hf 12 rfl rfl rfl hc
   ·intro E θ a w hD hi hp he hc
    have hf:=he.h0.mT he 3 rfl
    refine zN hf hc eY m1 rfl fun a w hf hc=>zD θ he hi hf 13 rfl rfl rfl hc
   ·intro E θ a w hD hi hp he hc
    have e5:=hp.o 5 rfl
    have e6:=hp.o 6 rfl
    have hf:=(he.h0.mP he 12 rfl e5).mP he 13 rfl e6
    refine zQ (v:=i6 (bU Y V)) hf hc aOx rfl (fun w hc=>xN Y V hc rfl) fun a w hf hc=>zD θ he hi hf 14 rfl rfl rfl hc
   ·intro E θ a w hD hi hp he hc
    have e7:=hp.o 7 rfl
    try dsimp only at hc
    rw [hi] at hc
    have hf:=he.h0.mP he 14 rfl e7
    refine oJ (rows:=([(bU Y V)]:List Int).map aD) (vs:=[(0,i6 (bU Y V))]) hf hc rfl rfl lQ rfl ⟨rfl,rfl,rfl,trivial⟩ rfl rfl fun br a w hf hc=>aQ ?_
    refine bV ?_
    intro ds u t
    replace hc:=hc.drop k1
    refine ⟨(hZ θ 64 ⟨br,none,0,(fun _=>(none,0))⟩),he.put hi t hf rfl [] trivial ⟨qq,qq,qq,qq,qq,qq,qq,qq,qq,qq,qq,qq,qq,qq,qq,qq,qq,qq,trivial⟩,?_⟩
    try dsimp only
    rw [aN E 8]
    exact hc
   ·intro E θ a w hD hi hp he hc
    have e0:=hp.o 0 rfl
    have e8:=hp.o 8 rfl
    have k:=hD.f 1 rfl hi
    try dsimp only at hc
    rw [e8,hi] at hc
    have hf:=(he.h0.mP he 7 rfl e0).mP he 15 rfl e8
    refine lO (xs:=d) (ys:=([(bU Y V)]:List Int)) hf hc rfl rfl lQ rfl rfl rfl rfl rfl bG (fM hc m0) (fun _ _=>u2) (by simpa using dB bm) fun bq bu a w hf hc=>aQ ?_
    refine bV ?_
    intro ds u t
    refine ⟨(hZ θ 72 ⟨0,bq,bu,(fun _=>(none,0))⟩),he.put hi t hf rfl [10] ⟨⟨k,rfl⟩,trivial⟩ ⟨qq,qq,qq,qq,qq,qq,qq,qq,qq,qq,qq,qq,qq,qq,qq,qq,qq,trivial,trivial⟩,?_⟩
    try dsimp only
    rw [cB 9 e8,aN E 9]
    exact hc
   ·intro E θ a w hD hi hp he hc
    have e9:=hp.o 9 rfl
    have hf:=he.h0.mP he 16 rfl e9
    refine sp 1 hf rfl fun a hf=>zD θ he hi hf 17 rfl rfl rfl hc
   ·intro E θ a w g he hc
    have hf:=he.h0
    have e8:=g 8 rfl
    have e9:=g 9 rfl
    have k:=g 10 rfl
    replace hf:=hf.more he 17 rfl (onP k)
    replace hf:=hf.more he 6 rfl (onT)
    replace hf:=hf.more he 5 rfl (onT)
    replace hf:=hf.more he 4 rfl (onT)
    replace hf:=hf.more he 0 rfl (onT)
    try dsimp only at hc
    rw [e8,e9] at hc
    exact ⟨(θ 72).p,(θ 72).c,(θ 64).b,hf.kp rfl,hc⟩
   rintro a w ⟨ak,an,ax,hf,hc⟩
   refine bp _ _ ?_
   refine cX ?_
   refine sp 2 hf rfl fun a hf=>aQ ?_
   replace hc:=(hc.drop k1).drop k0
   exact bt ((d++[(bU Y V)]),W (aa + 1)) _ _ (sj hF).symm ⟨ak,an,hf.kp rfl,hc⟩
  ·refine wp_exit ?_
   refine bI ?_
   refine bI ?_
   have he:=sj hF
   rw [← he] at am
   refine fB ?_
   exact bj _ _ _ am ⟨q,s,hf.kp rfl,hc⟩
 have b9:∀ r,x5=.out r→r=aj:=by
  rintro r rfl
  exact sj hF
 replace hc:=hc.nilRow 3 1
 refine dQ N (dP (S:=S5) (x:=x5) ?_ N (([]:List Int),0) _ _ ⟨none,0,hf.kp rfl,hc⟩ bi)
 clear hF hf hc
 rintro ⟨l,x⟩ b5 a w KB5 ⟨m,i,hf,hc⟩ hF aq bg
 unfold iB at hF
 refine zS fun K h=>sp 1 hf rfl fun a hf=>zT h ?_
 refine wp_seq_k fun K15 bf=>zI hf rfl hF ?_ ?_ <;> clear hF <;> intro hF
 ·refine wp_skip ?_
  refine bf _ _ ?_
  refine wp_seq_k fun K16 bn=>wp_block ?_
  refine zS fun K h=>sp 1 hf rfl fun a hf=>?_
  obtain ⟨O,a3,hF⟩:=aC hF
  obtain ⟨b8,b6,ba,a1⟩:=y.atm a3
  refine zP hf rfl (pIA Tryz.underlying36 zY rfl rfl ba) fun a hf=>zE hf hc rfl (kK (vs:=[i6 O.From,i6 O.To,i6 O.Flow.Lo,i6 O.Flow.Hi]) aJc rfl rfl (dF a1 (n:=4) (o':=0) rfl)) fun a w hf hc=>zA hf hc aJv rfl fun ap a w hf hc=>sp 1 hf rfl fun a hf=>zW hf hc zY u0 rfl fun w hc=>zT h ?_
  obtain ⟨X,a7,hF⟩:=aC hF
  obtain ⟨bb,bk,a0,a9⟩:=ab.atm a7
  obtain ⟨b2,av,hF⟩:=aC hF
  replace hc:=hc.nilRow 0 0
  refine cU (fun θ=>[⟨none,none,2,pq z⟩,⟨none,none,3,pq Z⟩,⟨none,some 11,5,.slice m l.length i⟩,⟨none,none,6,i6 x⟩,⟨none,none,7,pq ap⟩,⟨none,none,11,.slice M n.Reaches.length J⟩,⟨none,none,12,i6 ((n.Reaches.length:Nat):Int)⟩,⟨none,none,13,i6 x⟩,⟨some 0,none,18,.slice m l.length i⟩,⟨some 1,none,19,pq Z⟩,⟨some 2,none,20,.slice I t_.Flows.length H⟩,⟨some 3,none,21,i6 x⟩,⟨some 4,none,22,.pointer (some ⟨bb,bk,none⟩)⟩,⟨some 5,none,23,i6 X⟩,⟨some 6,none,24,.pointer (some ⟨ap,2,none⟩)⟩,⟨some 7,none,25,.agg #[i6 O.Flow.Lo,i6 O.Flow.Hi]⟩,⟨some 8,none,26,i6 (bU X O.Flow)⟩,⟨some 9,none,27,.slice (some ⟨(θ 72).b,0,none⟩) 1 1⟩,⟨some 10,none,28,.slice ((θ 80).p) ((l++[(bU X O.Flow)]).length) ((θ 80).c)⟩,⟨some 11,none,5,.slice ((θ 80).p) ((l++[(bU X O.Flow)]).length) ((θ 80).c)⟩]) (fun E θ=>(bif E 9 then .row (some ⟨(θ 72).b,0,none⟩) 1 (([(bU X O.Flow)]:List Int).map aD) 3 1 else .row none 0 [] 0 0)::.box ap [i6 O.From,i6 O.To,i6 O.Flow.Lo,i6 O.Flow.Hi] 49::(bif E 10 then .row ((θ 80).p) ((θ 80).c) ((l++[(bU X O.Flow)]).map aD) 3 1 else .row m i (l.map aD) 3 1)::.box Z [.slice I t_.Flows.length H,.slice B t_.Gains.length D] 41::.box z [.slice R n.Gains.length U,.slice M n.Reaches.length J] 38::Lf) [(11,0),(11,10)] (fun a w=>∃ (ag:Option Addr) (ai:Nat) (ar:Nat),Has 51 a [(2,pq z),(3,pq Z),(11,.slice M n.Reaches.length J),(12,i6 ((n.Reaches.length:Nat):Int)),(13,i6 x),(5,.slice ag ((l++[(bU X O.Flow)]).length) ai)]∧Ctx G (.row (some ⟨ar,0,none⟩) 1 (([(bU X O.Flow)]:List Int).map aD) 3 1::.box ap [i6 O.From,i6 O.To,i6 O.Flow.Lo,i6 O.Flow.Hi] 49::.row ag ai ((l++[(bU X O.Flow)]).map aD) 3 1::.box Z [.slice I t_.Flows.length H,.slice B t_.Gains.length D] 41::.box z [.slice R n.Gains.length U,.slice M n.Reaches.length J] 38::Lf) w) aT (by kernel_rfl) (by kernel_rfl) (dL.of hf ⟨rfl,rfl,rfl,rfl,rfl,rfl,rfl,rfl,trivial,trivial,trivial,trivial,trivial,trivial,trivial,trivial,trivial,trivial,trivial,trivial,trivial⟩) hc ⟨?_,?_,?_,?_,?_,?_,?_,?_,?_,?_,?_,?_,trivial⟩ ?_ ?_
  ·intro E θ a w hD hi hp he hc
   have ad:=hD.f 0 rfl hi
   have hf:=he.h0.mN he 2 rfl ad
   refine sp 1 hf rfl fun a hf=>zD θ he hi hf 8 rfl rfl rfl hc
  ·intro E θ a w hD hi hp he hc
   have hf:=he.h0.mT he 1 rfl
   refine zP hf rfl (pFA tY rfl) fun a hf=>zD θ he hi hf 9 rfl rfl rfl hc
  ·intro E θ a w hD hi hp he hc
   have e1:=hp.o 1 rfl
   have hf:=he.h0.mP he 9 rfl e1
   refine zL hf hc uA m3 rfl fun a w hf hc=>zD θ he hi hf 10 rfl rfl rfl hc
  ·intro E θ a w hD hi hp he hc
   have hf:=he.h0.mT he 3 rfl
   refine sp 1 hf rfl fun a hf=>zD θ he hi hf 11 rfl rfl rfl hc
  ·intro E θ a w hD hi hp he hc
   have e2:=hp.o 2 rfl
   have e3:=hp.o 3 rfl
   have hf:=(he.h0.mP he 10 rfl e2).mP he 11 rfl e3
   refine zP hf rfl (pIA Tryz.underlying39 fD rfl rfl a0) fun a hf=>zD θ he hi hf 12 rfl rfl rfl hc
  ·intro E θ a w hD hi hp he hc
   have e4:=hp.o 4 rfl
   have hf:=he.h0.mP he 12 rfl e4
   refine zE hf hc rfl (cV aX rfl (kX (j:=0) a9 rfl)) fun a w hf hc=>zD θ he hi hf 13 rfl rfl rfl hc
  ·intro E θ a w hD hi hp he hc
   have hf:=he.h0.mT he 4 rfl
   refine zP hf rfl (pFA yB rfl) fun a hf=>zD θ he hi hf 14 rfl rfl rfl hc
  ·intro E θ a w hD hi hp he hc
   have e6:=hp.o 6 rfl
   have hf:=he.h0.mP he 14 rfl e6
   refine zN hf hc eY m1 rfl fun a w hf hc=>zD θ he hi hf 15 rfl rfl rfl hc
  ·intro E θ a w hD hi hp he hc
   have e5:=hp.o 5 rfl
   have e7:=hp.o 7 rfl
   have hf:=(he.h0.mP he 13 rfl e5).mP he 15 rfl e7
   refine zQ (v:=i6 (bU X O.Flow)) hf hc aOx rfl (fun w hc=>xN X O.Flow hc rfl) fun a w hf hc=>zD θ he hi hf 16 rfl rfl rfl hc
  ·intro E θ a w hD hi hp he hc
   have e8:=hp.o 8 rfl
   try dsimp only at hc
   rw [hi] at hc
   have hf:=he.h0.mP he 16 rfl e8
   refine oJ (rows:=([(bU X O.Flow)]:List Int).map aD) (vs:=[(0,i6 (bU X O.Flow))]) hf hc rfl rfl lQ rfl ⟨rfl,rfl,rfl,trivial⟩ rfl rfl fun a5 a w hf hc=>aQ ?_
   refine bV ?_
   intro ds u t
   replace hc:=hc.drop k1
   refine ⟨(hZ θ 72 ⟨a5,none,0,(fun _=>(none,0))⟩),he.put hi t hf rfl [] trivial ⟨qq,qq,qq,qq,qq,qq,qq,qq,qq,qq,qq,qq,qq,qq,qq,qq,qq,qq,qq,qq,trivial⟩,?_⟩
   try dsimp only
   rw [aN E 9]
   exact hc
  ·intro E θ a w hD hi hp he hc
   have e0:=hp.o 0 rfl
   have e9:=hp.o 9 rfl
   have ad:=hD.f 1 rfl hi
   try dsimp only at hc
   rw [e9,hi] at hc
   have hf:=(he.h0.mP he 8 rfl e0).mP he 17 rfl e9
   refine lO (xs:=l) (ys:=([(bU X O.Flow)]:List Int)) hf hc rfl rfl lQ rfl rfl rfl rfl rfl bG (fM hc m0) (fun _ _=>u2) (by simpa using dB av) fun bc b0 a w hf hc=>aQ ?_
   refine bV ?_
   intro ds u t
   refine ⟨(hZ θ 80 ⟨0,bc,b0,(fun _=>(none,0))⟩),he.put hi t hf rfl [11] ⟨⟨ad,rfl⟩,trivial⟩ ⟨qq,qq,qq,qq,qq,qq,qq,qq,qq,qq,qq,qq,qq,qq,qq,qq,qq,qq,qq,trivial,trivial⟩,?_⟩
   try dsimp only
   rw [cB 10 e9,aN E 10]
   exact hc
  ·intro E θ a w hD hi hp he hc
   have k:=hp.o 10 rfl
   have hf:=he.h0.mP he 18 rfl k
   refine sp 1 hf rfl fun a hf=>zD θ he hi hf 19 rfl rfl rfl hc
  ·intro E θ a w g he hc
   have hf:=he.h0
   have e9:=g 9 rfl
   have k:=g 10 rfl
   have ad:=g 11 rfl
   replace hf:=hf.more he 19 rfl (onP ad)
   replace hf:=hf.more he 7 rfl (onT)
   replace hf:=hf.more he 6 rfl (onT)
   replace hf:=hf.more he 5 rfl (onT)
   replace hf:=hf.more he 1 rfl (onT)
   replace hf:=hf.more he 0 rfl (onT)
   try dsimp only at hc
   rw [e9,k] at hc
   exact ⟨(θ 80).p,(θ 80).c,(θ 72).b,hf.kp rfl,hc⟩
  rintro a w ⟨ag,ai,ar,hf,hc⟩
  refine bn _ _ ?_
  refine cX ?_
  refine sp 2 hf rfl fun a hf=>aQ ?_
  replace hc:=(hc.drop k1).drop k0
  exact bg ((l++[(bU X O.Flow)]),W (x + 1)) _ _ (sj hF).symm ⟨ag,ai,hf.kp rfl,hc⟩
 ·refine wp_exit ?_
  refine bI ?_
  refine bI ?_
  have he:=sj hF
  rw [← he] at aq
  refine fB ?_
  exact bx _ _ _ aq ⟨m,i,hf.kp rfl,hc⟩

def mQ (N:Nat) (n:bC):Option ((Int × Int) ⊕ (aP × Int × Int)) :=
 Option.bind (oL N n) fun r=>
 cond (r != 0)
 (some (.inl (0,r)))
 (Option.bind (mZ N n) fun B=>
 Option.bind (hX N B.ways.all B.ways.outside B.reaches) fun D=>
 Option.bind (iP N (⟨(⟨D,B.ways.outside⟩:cH),B.reaches⟩:aP)) fun I=>
 Option.bind (oA N n I) fun H=>
 some (.inr ((⟨(⟨D,B.ways.outside⟩:cH),B.reaches⟩:aP),H,0)))
theorem tA {N:Nat} {G:bA} {Lf:List Ent} {w:World} (n:bC) {H:Option Addr} {I:Nat} {D:Option Addr} {B:Nat} (M:Rd G 2 H I (n.Gains.map aJ)) (J:Rd G 4 D B (n.Reaches.map bH)) (hc:Ctx G (Lf) w) {q:(Int × Int) ⊕ (aP × Int × Int)} (hF:mQ N n=some q):Calls Tryz.prog 34 #[.agg #[.slice H n.Gains.length I,.slice D n.Reaches.length B]] w (fun e w=>aAb (fun rr=>e=.returned (.tuple #[.pointer none,i6 rr.1,i6 rr.2])∧Ctx G (Lf) w) (fun rr=>∃ (y:Nat) (m:Option Addr) (x:Nat),e=.returned (.tuple #[pq y,i6 rr.2.1,i6 rr.2.2])∧Ctx G (.row m x (rr.1.ways.all.map aH) 112 5::.box y [.slice m rr.1.ways.all.length x,i6 rr.1.ways.outside,i6 rr.1.reaches] 78::Lf) w) q):=by
 unfold mQ at hF
 refine cC Tryz.func34 rfl Tryz.ntmps34 rfl fun a hf=>zS fun K h=>zB hf hc rfl fun j a w hf hc=>sp 3 hf rfl fun a hf=>zT h ?_
 refine wp_seq_k fun K2 h2=>zS fun K h=>zN hf hc aBg m0 rfl fun a w hf hc=>?_
 obtain ⟨r,hr,hF⟩:=aC hF
 refine zQ (v:=i6 r) hf hc en_59 rfl (fun w hc=>aA9 n M J hc hr) fun a w hf hc=>sp 1 hf rfl fun a hf=>zT h ?_
 refine zS fun K h=>sp 2 hf rfl fun a hf=>zT h ?_
 refine zI hf rfl hF ?_ ?_ <;> clear hF <;> intro hF
 ·refine zS fun K h=>sp 4 hf rfl fun a hf=>zT h ?_
  refine wp_ret ?_
  refine aU ?_
  obtain rfl:=sj hF
  replace hc:=hc.drop k0
  exact zO3 Tryz.results34 hf rfl rfl rfl ⟨rfl,hc⟩
 ·refine wp_skip ?_
  refine h2 _ _ ?_
  refine zS fun K h=>zN hf hc aBg m0 rfl fun a w hf hc=>?_
  obtain ⟨O,af,hF⟩:=aC hF
  refine zC hf en_60 rfl (aA5 n M J hc af) ?_
  rintro _ w ⟨R,X,V,rfl,hc⟩
  refine ⟨_,rfl,fun a hf=>?_⟩
  refine sp 1 hf rfl fun a hf=>zT h ?_
  refine zS fun K h=>sp 1 hf rfl fun a hf=>?_
  obtain ⟨Y,ad,hF⟩:=aC hF
  refine zC hf en_61 rfl (vQ O.ways.all O.ways.outside O.reaches ((hc.pick k0).pick k1) ad) ?_
  rintro _ w ⟨rfl,hl,hc⟩
  refine ⟨_,rfl,fun a hf=>?_⟩
  try rw [← hl] at hf
  try rw [← hl] at hc
  refine zT h ?_
  refine wp_seq_k fun K8 h8=>?_
  obtain ⟨S,ab,hF⟩:=aC hF
  obtain ⟨i,ag,hF⟩:=aC hF
  replace hc:=hc.nilRow 0 0
  replace hc:=hc.nilRow 0 0
  refine cU (fun θ=>[⟨none,none,1,pq j⟩,⟨none,some 5,2,.pointer none⟩,⟨none,some 6,3,i6 0⟩,⟨none,some 7,4,i6 0⟩,⟨none,none,6,pq R⟩,⟨some 0,none,16,pq R⟩,⟨some 1,none,17,.agg #[.slice H n.Gains.length I,.slice D n.Reaches.length B]⟩,⟨some 2,none,18,pq R⟩,⟨some 3,none,19,.agg #[.slice ((θ 24).p) S.Flows.length ((θ 24).c),.slice ((θ 25).p) S.Gains.length ((θ 25).c)]⟩,⟨some 4,none,20,i6 i⟩,⟨some 5,none,2,pq R⟩,⟨some 6,none,3,i6 i⟩,⟨some 7,none,4,i6 0⟩]) (fun E θ=>(bif E 3 then .row ((θ 25).p) ((θ 25).c) (S.Gains.map aD) 3 1 else .row none 0 [] 0 0)::(bif E 3 then .row ((θ 24).p) ((θ 24).c) (S.Flows.map aD) 3 1 else .row none 0 [] 0 0)::.box R [.slice X Y.length V,i6 O.ways.outside,i6 O.reaches] 78::.row X V (Y.map aH) 112 5::.box j [.slice H n.Gains.length I,.slice D n.Reaches.length B] 38::Lf) [] (fun a w=>∃ (s:Option Addr) (t:Nat) (k:Option Addr) (z:Nat),Has 21 a [(2,pq R),(3,i6 i),(4,i6 0)]∧Ctx G (.row s t (S.Gains.map aD) 3 1::.row k z (S.Flows.map aD) 3 1::.box R [.slice X Y.length V,i6 O.ways.outside,i6 O.reaches] 78::.row X V (Y.map aH) 112 5::.box j [.slice H n.Gains.length I,.slice D n.Reaches.length B] 38::Lf) w) aT (by kernel_rfl) (by kernel_rfl) (dL.of hf ⟨rfl,rfl,rfl,rfl,rfl,trivial,trivial,trivial,trivial,trivial,trivial,trivial,trivial,trivial⟩) hc ⟨?_,?_,?_,?_,?_,?_,?_,?_,trivial⟩ ?_ ?_
  ·intro E θ a w hD hi hp he hc
   have hf:=he.h0.mT he 4 rfl
   refine sp 1 hf rfl fun a hf=>zD θ he hi hf 5 rfl rfl rfl hc
  ·intro E θ a w hD hi hp he hc
   have hf:=he.h0.mT he 0 rfl
   refine zN hf hc aBg m4 rfl fun a w hf hc=>zD θ he hi hf 6 rfl rfl rfl hc
  ·intro E θ a w hD hi hp he hc
   have hf:=he.h0.mT he 4 rfl
   refine sp 1 hf rfl fun a hf=>zD θ he hi hf 7 rfl rfl rfl hc
  ·intro E θ a w hD hi hp he hc
   have e2:=hp.o 2 rfl
   try dsimp only at hc
   rw [hi] at hc
   have hf:=he.h0.mP he 7 rfl e2
   obtain ⟨G1,b,g,hc,Z⟩:=lend hc k3
   refine zC hf en_63 rfl (wS (⟨(⟨Y,O.ways.outside⟩:cH),O.reaches⟩:aP) g (hc.pick k2) ab) ?_
   rintro _ w ⟨ai,an,ak,am,rfl,hc⟩
   refine ⟨_,rfl,fun a hf=>?_⟩
   replace hc:=Z _ _ hc
   refine aQ ?_
   refine bV ?_
   intro ds u aj
   replace hc:=(((((hc.drop k5).drop k4).pick k0).pick k3).pick k2).pick k3
   refine ⟨(hZ (hZ θ 24 ⟨0,ai,an,(fun _=>(none,0))⟩) 25 ⟨0,ak,am,(fun _=>(none,0))⟩),he.put hi aj hf rfl [] trivial ⟨qq,qq,qq,qq,qq,qq,qq,qq,qq,qq,qq,qq,qq,trivial⟩,?_⟩
   try dsimp only
   rw [aN E 3]
   exact hc
  ·intro E θ a w hD hi hp he hc
   have e1:=hp.o 1 rfl
   have e3:=hp.o 3 rfl
   try dsimp only at hc
   rw [e3] at hc
   have hf:=(he.h0.mP he 6 rfl e1).mP he 8 rfl e3
   refine zQ (v:=i6 i) hf hc en_62 rfl (fun w hc=>by obtain ⟨G1,b,g,hc,Z⟩:=lend hc k1; obtain ⟨G2,d,ac,hc,aa⟩:=lend hc k0; exact (aBp n S ((M.mono b).mono d) ((J.mono b).mono d) (g.mono d) ac hc ag).mono fun e w h=>⟨h.1,((Z _ _ ((aa _ _ h.2).unpick k0)).unpick k1)⟩) fun a w hf hc=>zD θ he hi hf 9 rfl rfl rfl ?_
   try dsimp only
   rw [cB 4 e3]
   exact hc
  ·intro E θ a w hD hi hp he hc
   have e0:=hp.o 0 rfl
   have hf:=he.h0.mP he 5 rfl e0
   refine sp 1 hf rfl fun a hf=>zD θ he hi hf 10 rfl rfl rfl hc
  ·intro E θ a w hD hi hp he hc
   have e4:=hp.o 4 rfl
   have hf:=he.h0.mP he 9 rfl e4
   refine sp 1 hf rfl fun a hf=>zD θ he hi hf 11 rfl rfl rfl hc
  ·intro E θ a w hD hi hp he hc
   have hf:=he.h0
   refine sp 1 hf rfl fun a hf=>zD θ he hi hf 12 rfl rfl rfl hc
  ·intro E θ a w U he hc
   have hf:=he.h0
   have e3:=U 3 rfl
   have e5:=U 5 rfl
   have e6:=U 6 rfl
   have e7:=U 7 rfl
   replace hf:=hf.more he 12 rfl (onP e7)
   replace hf:=hf.more he 11 rfl (onP e6)
   replace hf:=hf.more he 10 rfl (onP e5)
   try dsimp only at hc
   rw [e3] at hc
   exact ⟨(θ 25).p,(θ 25).c,(θ 24).p,(θ 24).c,hf.kp rfl,hc⟩
  rintro a w ⟨s,t,k,z,hf,hc⟩
  refine h8 _ _ ?_
  refine wp_ret ?_
  obtain rfl:=sj hF
  replace hc:=((((hc.drop k4).drop k1).drop k0).pick k0).pick k1
  exact zO3 Tryz.results34 hf rfl rfl rfl ⟨R,X,V,rfl,hc⟩

def mI (N:Nat) (B:Int):Option ((Int) ⊕ (aP × Int)) :=
 some (.inl B)
def mM (N:Nat) (D:aP × Int × Int) (B:Int):Option ((Int) ⊕ (aP × Int)) :=
 some (.inr (D.1,B))
def mR (N:Nat) (n:bC):Option ((Int) ⊕ (aP × Int)) :=
 Option.bind (mQ N n) (aAb (fun r=>cond ((r.2 == 0) && (decide (0 < r.1)))
 (mI N 6)
 (mI N r.2))
 (fun B=>cond ((B.2.2 == 0) && (decide (0 < B.2.1)))
 (mM N B 6)
 (mM N B B.2.2)))
theorem tD {N:Nat} {G:bA} {Lf:List Ent} {w:World} (n:bC) {O:Option Addr} {M:Nat} {H:Option Addr} {I:Nat} (J:Rd G 2 O M (n.Gains.map aJ)) (D:Rd G 4 H I (n.Reaches.map bH)) (hc:Ctx G (Lf) w) {R:(Int) ⊕ (aP × Int)} (hF:mR N n=some R):Calls Tryz.prog 18 #[.agg #[.slice O n.Gains.length M,.slice H n.Reaches.length I]] w (fun e w=>aAb (fun rr=>e=.returned (.tuple #[.pointer none,i6 rr])∧Ctx G (Lf) w) (fun rr=>∃ (d:Nat) (g:Option Addr) (i:Nat),e=.returned (.tuple #[pq d,i6 rr.2])∧Ctx G (.row g i (rr.1.ways.all.map aH) 112 5::.box d [.slice g rr.1.ways.all.length i,i6 rr.1.ways.outside,i6 rr.1.reaches] 78::Lf) w) R):=by
 unfold mR at hF
 refine cC Tryz.func18 rfl Tryz.ntmps18 rfl fun a hf=>zS fun K h=>zB hf hc rfl fun k a w hf hc=>sp 2 hf rfl fun a hf=>zT h ?_
 refine zS fun K h=>zN hf hc aBg m0 rfl fun a w hf hc=>?_
 obtain ⟨r,hr,hF⟩:=aC hF
 cases r with
 | inl r=>
  replace hF:=aE0 hF
  refine zC hf aNz rfl (tA n J D hc hr) ?_
  rintro _ w ⟨rfl,hc⟩
  refine ⟨_,rfl,fun a hf=>?_⟩
  refine sp 7 hf rfl fun a hf=>zT h ?_
  refine wp_seq_k fun K3 h3=>?_
  have b:∀ (V:Int) a w,Has 21 a [(4,.pointer none),(6,i6 V)]→Ctx G (Lf) w→mI N V=some R→K3 a w:=by
   repeat (clear hF)
   repeat (clear hc)
   repeat (clear hf)
   intro V a w hf hc hF
   unfold mI at hF
   refine h3 _ _ ?_
   refine zS fun K h=>sp 4 hf rfl fun a hf=>zT h ?_
   refine wp_ret ?_
   obtain rfl:=sj hF
   exact zO2 Tryz.results18 hf rfl rfl ⟨rfl,hc⟩
  refine zS fun K h=>sp 3 hf rfl fun a hf=>fL 3 (fun a=>Has 21 a [(4,.pointer none),(5,i6 r.1),(6,i6 r.2),(13,i6 r.2),(14,.bool (r.2 == 0)),(15,.bool (r.2 == 0)),(18,.bool ((r.2 == 0) && (decide (0 < r.1))))]) hc ?_ ?_
  ·cases hb:(r.2 == 0)
   ·rw [hb] at hf
    refine stS hf rfl rfl rfl fun a hf=>stS hf rfl rfl rfl fun a hf=>sp 1 hf rfl fun a hf=>aQ ⟨hf.kp rfl,hc⟩
   ·rw [hb] at hf
    refine sp 3 hf rfl fun a hf=>aQ ⟨hf.kp rfl,hc⟩
  intro a w ⟨hf,hc⟩
  refine zT h ?_
  refine zI hf rfl hF ?_ ?_ <;> clear hF <;> intro hF
  ·refine cX ?_
   refine sp 1 hf rfl fun a hf=>aQ ?_
   replace hc:=hc.drop k0
   exact b 6 _ _  (hf.kp rfl) hc hF
  ·refine wp_skip ?_
   replace hc:=hc.drop k0
   exact b r.2 _ _  (hf.kp rfl) hc hF
 | inr B=>
  replace hF:=aFl hF
  have j:=hr
  refine zC hf aNz rfl (tA n J D hc j) ?_
  rintro _ w ⟨S,Y,U,rfl,hc⟩
  refine ⟨_,rfl,fun a hf=>?_⟩
  refine sp 7 hf rfl fun a hf=>zT h ?_
  refine wp_seq_k fun K6 h6=>?_
  have Z:∀ (X:Int) a w,Has 21 a [(4,pq S),(6,i6 X)]→Ctx G (.row Y U (B.1.ways.all.map aH) 112 5::.box S [.slice Y B.1.ways.all.length U,i6 B.1.ways.outside,i6 B.1.reaches] 78::Lf) w→mM N B X=some R→K6 a w:=by
   repeat (clear hF)
   repeat (clear hc)
   repeat (clear hf)
   intro X a w hf hc hF
   unfold mM at hF
   refine h6 _ _ ?_
   refine zS fun K h=>sp 4 hf rfl fun a hf=>zT h ?_
   refine wp_ret ?_
   obtain rfl:=sj hF
   exact zO2 Tryz.results18 hf rfl rfl ⟨S,Y,U,rfl,hc⟩
  refine zS fun K h=>sp 3 hf rfl fun a hf=>fL 3 (fun a=>Has 21 a [(4,pq S),(5,i6 B.2.1),(6,i6 B.2.2),(13,i6 B.2.2),(14,.bool (B.2.2 == 0)),(15,.bool (B.2.2 == 0)),(18,.bool ((B.2.2 == 0) && (decide (0 < B.2.1))))]) hc ?_ ?_
  ·cases hb:(B.2.2 == 0)
   ·rw [hb] at hf
    refine stS hf rfl rfl rfl fun a hf=>stS hf rfl rfl rfl fun a hf=>sp 1 hf rfl fun a hf=>aQ ⟨hf.kp rfl,hc⟩
   ·rw [hb] at hf
    refine sp 3 hf rfl fun a hf=>aQ ⟨hf.kp rfl,hc⟩
  intro a w ⟨hf,hc⟩
  refine zT h ?_
  refine zI hf rfl hF ?_ ?_ <;> clear hF <;> intro hF
  ·refine cX ?_
   refine sp 1 hf rfl fun a hf=>aQ ?_
   replace hc:=hc.drop k2
   exact Z 6 _ _  (hf.kp rfl) hc hF
  ·refine wp_skip ?_
   replace hc:=hc.drop k2
   exact Z B.2.2 _ _  (hf.kp rfl) hc hF

def dZ (N:Nat) (s_:List aE):Option ((List aE)) :=
 Option.bind (nQ (s_).length) fun un=>
 some s_
theorem nD {N:Nat} {G:bA} {Lf:List Ent} {w:World} (s_:List aE) {I:Option Addr} {D:Nat} (H:Rd G 5 I D (s_.map aH)) (hc:Ctx G (Lf) w) {B:(List aE)} (hF:dZ N s_=some B):Calls Tryz.prog 64 #[.slice I s_.length D] w (fun e w=>∃ (J:Option Addr) (M:Nat),e=.returned (.slice J B.length M)∧Ctx G (.row J M (B.map aH) 112 5::Lf) w):=by
 unfold dZ at hF
 refine cC Tryz.func64 rfl Tryz.ntmps64 rfl fun a hf=>zS fun K h=>sp 1 hf rfl fun a hf=>zT h ?_
 refine wp_seq_k fun K2 h2=>zS fun K h=>sp 1 hf rfl fun a hf=>zP hf rfl (pEqN Tryz.underlying74 rfl rfl) fun a hf=>zT h ?_
 rcases aJx H with ⟨hp,hx⟩ | hp
 ·rw [hp] at hf
  replace hF:(some ([]:List aE))=some B:=by
   try rw [hx] at hF
   exact hF
  refine aIk hf rfl ?_
  refine zS fun K h=>sp 1 hf rfl fun a hf=>zT h ?_
  refine wp_ret ?_
  refine aU ?_
  obtain rfl:=sj hF
  replace hc:=hc.nilRow 112 5
  exact zO1 Tryz.results64 hf rfl ⟨none,0,rfl,hc⟩
 ·rw [hp] at hf
  refine aDi hf rfl ?_
  refine wp_skip ?_
  refine h2 _ _ ?_
  refine zS fun K h=>oJ (rows:=([]:List aE).map aH) (vs:=[]) hf hc rfl rfl aFo rfl trivial rfl rfl fun U a w hf hc=>sp 1 hf rfl fun a hf=>?_
  obtain ⟨un,R,hF⟩:=aC hF
  refine lO (xs:=([]:List aE)) (ys:=s_) hf hc rfl rfl aFo rfl rfl rfl rfl rfl eU (aM5 hc H) (fun _ _=>u0) (by simpa using dB R) fun S O a w hf hc=>sp 1 hf rfl fun a hf=>zT h ?_
  refine wp_ret ?_
  obtain rfl:=sj hF
  exact zO1 Tryz.results64 hf rfl ⟨S,O,rfl,hc⟩

def hU (N:Nat) (d:aP):Option (aP) :=
 Option.bind (dZ N d.ways.all) fun r=>
 some (⟨(⟨r,d.ways.outside⟩:cH),d.reaches⟩:aP)
theorem pL {N:Nat} {G:bA} {Lf:List Ent} {w:World} (d:aP) {b_:Nat} {D:Option Addr} {B:Nat} (H:Rd G 5 D B (d.ways.all.map aH)) (hc:Ctx G (.box b_ [.slice D d.ways.all.length B,i6 d.ways.outside,i6 d.reaches] 78::Lf) w) {J:aP} (hF:hU N d=some J):Calls Tryz.prog 35 #[pq b_] w (fun e w=>∃ (Z:Nat) (g:Option Addr) (i:Nat),e=.returned (pq Z)∧Ctx G (.row g i (J.ways.all.map aH) 112 5::.box Z [.slice g J.ways.all.length i,i6 J.ways.outside,i6 J.reaches] 78::.box b_ [.slice D d.ways.all.length B,i6 d.ways.outside,i6 d.reaches] 78::Lf) w):=by
 unfold hU at hF
 refine cC Tryz.func35 rfl Tryz.ntmps35 rfl fun a hf=>zS fun K h=>sp 1 hf rfl fun a hf=>zT h ?_
 refine wp_seq_k fun K2 h2=>?_
 obtain ⟨r,hr,hF⟩:=aC hF
 replace hc:=hc.nilRow 0 0
 replace hc:=hc.nilRow 0 0
 refine cU (fun θ=>[⟨none,none,0,pq b_⟩,⟨none,some 18,2,.pointer none⟩,⟨some 0,none,3,pq b_⟩,⟨some 1,none,4,pq b_⟩,⟨some 2,none,5,pq b_⟩,⟨some 3,none,6,pq b_⟩,⟨some 4,none,7,.slice D d.ways.all.length B⟩,⟨some 5,none,8,.slice ((θ 40).p) r.length ((θ 40).c)⟩,⟨some 6,none,9,pq b_⟩,⟨some 7,none,10,pq b_⟩,⟨some 8,none,11,pq b_⟩,⟨some 9,none,12,.pointer (some ⟨b_,1,none⟩)⟩,⟨some 10,none,13,i6 d.ways.outside⟩,⟨some 11,none,14,.agg #[.slice ((θ 40).p) r.length ((θ 40).c),i6 d.ways.outside]⟩,⟨some 12,none,15,pq b_⟩,⟨some 13,none,16,pq b_⟩,⟨some 14,none,17,.pointer (some ⟨b_,2,none⟩)⟩,⟨some 15,none,18,i6 d.reaches⟩,⟨some 16,none,19,.agg #[.slice ((θ 40).p) r.length ((θ 40).c),i6 d.ways.outside,i6 d.reaches]⟩,⟨some 17,none,20,.pointer (some ⟨(θ 136).b,0,none⟩)⟩,⟨some 18,none,2,.pointer (some ⟨(θ 136).b,0,none⟩)⟩]) (fun E θ=>(bif E 17 then .box (θ 136).b [.slice ((θ 40).p) r.length ((θ 40).c),i6 d.ways.outside,i6 d.reaches] 78 else .row none 0 [] 0 0)::(bif E 5 then .row ((θ 40).p) ((θ 40).c) (r.map aH) 112 5 else .row none 0 [] 0 0)::.box b_ [.slice D d.ways.all.length B,i6 d.ways.outside,i6 d.reaches] 78::Lf) [(11,5),(16,11),(17,16),(18,17)] (fun a w=>∃ (U:Nat) (R:Option Addr) (V:Nat),Has 21 a [(2,pq U)]∧Ctx G (.box U [.slice R r.length V,i6 d.ways.outside,i6 d.reaches] 78::.row R V (r.map aH) 112 5::.box b_ [.slice D d.ways.all.length B,i6 d.ways.outside,i6 d.reaches] 78::Lf) w) aT (by kernel_rfl) (by kernel_rfl) (dL.of hf ⟨rfl,rfl,trivial,trivial,trivial,trivial,trivial,trivial,trivial,trivial,trivial,trivial,trivial,trivial,trivial,trivial,trivial,trivial,trivial,trivial,trivial,trivial⟩) hc ⟨?_,?_,?_,?_,?_,?_,?_,?_,?_,?_,?_,?_,?_,?_,?_,?_,?_,?_,?_,trivial⟩ ?_ ?_
 ·intro E θ a w hD hi hp he hc
  have hf:=he.h0.mT he 0 rfl
  refine sp 1 hf rfl fun a hf=>zD θ he hi hf 2 rfl rfl rfl hc
 ·intro E θ a w hD hi hp he hc
  have e0:=hp.o 0 rfl
  have hf:=he.h0.mP he 2 rfl e0
  refine sp 1 hf rfl fun a hf=>zD θ he hi hf 3 rfl rfl rfl hc
 ·intro E θ a w hD hi hp he hc
  have e1:=hp.o 1 rfl
  have hf:=he.h0.mP he 3 rfl e1
  refine zP hf rfl (pFA gA rfl) fun a hf=>zD θ he hi hf 4 rfl rfl rfl hc
 ·intro E θ a w hD hi hp he hc
  have e2:=hp.o 2 rfl
  have hf:=he.h0.mP he 4 rfl e2
  refine zP hf rfl (pFA jI rfl) fun a hf=>zD θ he hi hf 5 rfl rfl rfl hc
 ·intro E θ a w hD hi hp he hc
  have e3:=hp.o 3 rfl
  have hf:=he.h0.mP he 5 rfl e3
  refine zL hf hc qK m2 rfl fun a w hf hc=>zD θ he hi hf 6 rfl rfl rfl hc
 ·intro E θ a w hD hi hp he hc
  have e4:=hp.o 4 rfl
  have O:=hD.f 0 rfl hi
  have S:=hD.f 1 rfl O
  have I:=hD.f 2 rfl S
  try dsimp only at hc
  rw [hi,I] at hc
  have hf:=he.h0.mP he 6 rfl e4
  refine zC hf en_64 rfl (nD d.ways.all H hc hr) ?_
  rintro _ w ⟨n,j,rfl,hc⟩
  refine ⟨_,rfl,fun a hf=>?_⟩
  refine aQ ?_
  refine bV ?_
  intro ds u Y
  replace hc:=((hc.drop k2).pick k0).pick k1
  refine ⟨(hZ θ 40 ⟨0,n,j,(fun _=>(none,0))⟩),he.put hi Y hf rfl [11,16] ⟨⟨O,rfl⟩,⟨S,rfl⟩,trivial⟩ ⟨qq,qq,qq,qq,qq,qq,qq,qq,qq,qq,qq,qq,qq,trivial,qq,qq,qq,qq,trivial,qq,qq,trivial⟩,?_⟩
  try dsimp only
  rw [aN E 5,aS 5 I rfl]
  exact hc
 ·intro E θ a w hD hi hp he hc
  have hf:=he.h0.mT he 0 rfl
  refine sp 1 hf rfl fun a hf=>zD θ he hi hf 8 rfl rfl rfl hc
 ·intro E θ a w hD hi hp he hc
  have e6:=hp.o 6 rfl
  have hf:=he.h0.mP he 8 rfl e6
  refine sp 1 hf rfl fun a hf=>zD θ he hi hf 9 rfl rfl rfl hc
 ·intro E θ a w hD hi hp he hc
  have e7:=hp.o 7 rfl
  have hf:=he.h0.mP he 9 rfl e7
  refine zP hf rfl (pFA gA rfl) fun a hf=>zD θ he hi hf 10 rfl rfl rfl hc
 ·intro E θ a w hD hi hp he hc
  have e8:=hp.o 8 rfl
  have hf:=he.h0.mP he 10 rfl e8
  refine zP hf rfl (pFA yW rfl) fun a hf=>zD θ he hi hf 11 rfl rfl rfl hc
 ·intro E θ a w hD hi hp he hc
  have e9:=hp.o 9 rfl
  have hf:=he.h0.mP he 11 rfl e9
  refine zL hf hc aX m2 rfl fun a w hf hc=>zD θ he hi hf 12 rfl rfl rfl hc
 ·intro E θ a w hD hi hp he hc
  have e5:=hp.o 5 rfl
  have s:=hp.o 10 rfl
  have hf:=(he.h0.mP he 7 rfl e5).mP he 12 rfl s
  refine zP hf rfl (bJ (cells:=[.slice ((θ 40).p) r.length ((θ 40).c),i6 d.ways.outside]) aN4 rfl rfl) fun a hf=>zD θ he hi hf 13 rfl rfl rfl hc
 ·intro E θ a w hD hi hp he hc
  have hf:=he.h0.mT he 0 rfl
  refine sp 1 hf rfl fun a hf=>zD θ he hi hf 14 rfl rfl rfl hc
 ·intro E θ a w hD hi hp he hc
  have k:=hp.o 12 rfl
  have hf:=he.h0.mP he 14 rfl k
  refine sp 1 hf rfl fun a hf=>zD θ he hi hf 15 rfl rfl rfl hc
 ·intro E θ a w hD hi hp he hc
  have m:=hp.o 13 rfl
  have hf:=he.h0.mP he 15 rfl m
  refine zP hf rfl (pFA aBz rfl) fun a hf=>zD θ he hi hf 16 rfl rfl rfl hc
 ·intro E θ a w hD hi hp he hc
  have t:=hp.o 14 rfl
  have hf:=he.h0.mP he 16 rfl t
  refine zL hf hc aX m2 rfl fun a w hf hc=>zD θ he hi hf 17 rfl rfl rfl hc
 ·intro E θ a w hD hi hp he hc
  have O:=hp.o 11 rfl
  have q:=hp.o 15 rfl
  have hf:=(he.h0.mP he 13 rfl O).mP he 17 rfl q
  refine zP hf rfl (bJ (cells:=[.slice ((θ 40).p) r.length ((θ 40).c),i6 d.ways.outside,i6 d.reaches]) aOp rfl rfl) fun a hf=>zD θ he hi hf 18 rfl rfl rfl hc
 ·intro E θ a w hD hi hp he hc
  have S:=hp.o 16 rfl
  have X:=hD.f 3 rfl hi
  try dsimp only at hc
  rw [hi] at hc
  have hf:=he.h0.mP he 18 rfl S
  refine zB hf hc rfl fun v a w hf hc=>aQ ?_
  refine bV ?_
  intro ds u Y
  replace hc:=hc.drop k1
  refine ⟨(hZ θ 136 ⟨v,none,0,(fun _=>(none,0))⟩),he.put hi Y hf rfl [18] ⟨⟨X,rfl⟩,trivial⟩ ⟨qq,qq,qq,qq,qq,qq,qq,qq,qq,qq,qq,qq,qq,qq,qq,qq,qq,qq,qq,qq,trivial,trivial⟩,?_⟩
  try dsimp only
  rw [aN E 17]
  exact hc
 ·intro E θ a w hD hi hp he hc
  have I:=hp.o 17 rfl
  have hf:=he.h0.mP he 19 rfl I
  refine sp 1 hf rfl fun a hf=>zD θ he hi hf 20 rfl rfl rfl hc
 ·intro E θ a w M he hc
  have hf:=he.h0
  have e5:=M 5 rfl
  have I:=M 17 rfl
  have X:=M 18 rfl
  replace hf:=hf.more he 20 rfl (onP X)
  try dsimp only at hc
  rw [e5,I] at hc
  exact ⟨(θ 136).b,(θ 40).p,(θ 40).c,hf.kp rfl,hc⟩
 rintro a w ⟨U,R,V,hf,hc⟩
 refine h2 _ _ ?_
 refine wp_ret ?_
 obtain rfl:=sj hF
 replace hc:=(hc.pick k0).pick k1
 exact zO1 Tryz.results35 hf rfl ⟨U,R,V,rfl,hc⟩

def jB (N:Nat) (s_:aB) (x:aP) (B:Int):Option (Bool) :=
 Option.bind (dW N (⟨x.ways,x.reaches⟩:aP) s_) fun r=>
 some (((r.1 == 0) && (!(s_.way == B && s_.back == true))) && (!(s_.way == B && s_.back == false)))
theorem uT {N:Nat} {G:bA} {Lf:List Ent} {w:World} (s_:aB) (x:aP) (H:Int) {b_:Nat} {M:Nat} {B:Option Addr} {D:Nat} {J:Nat} (I:Rd G 5 B D (x.ways.all.map aH)) (hc:Ctx G (.box b_ [pq M] 71::.box M [.slice B x.ways.all.length D,i6 x.ways.outside,i6 x.reaches] 78::.box J [i6 H] 3::Lf) w) {O:Bool} (hF:jB N s_ x H=some O):Calls Tryz.prog 65 #[.agg #[i6 s_.way,.bool s_.back],pq b_,pq J] w (fun e w=>e=.returned (.bool O)∧Ctx G (.box b_ [pq M] 71::.box M [.slice B x.ways.all.length D,i6 x.ways.outside,i6 x.reaches] 78::.box J [i6 H] 3::Lf) w):=by
 unfold jB at hF
 refine cC Tryz.func65 rfl Tryz.ntmps65 rfl fun a hf=>zS fun K h=>zB hf hc rfl fun R a w hf hc=>sp 1 hf rfl fun a hf=>zT h ?_
 refine zS fun K h=>zL hf hc nT m1 rfl fun a w hf hc=>zN hf hc kQ m0 rfl fun a w hf hc=>?_
 obtain ⟨r,hr,hF⟩:=aC hF
 refine zQ (v:=.tuple #[i6 r.1,i6 r.2]) hf hc aG5 rfl (fun w hc=>(iV (⟨x.ways,x.reaches⟩:aP) s_ I (hc.pick k2) hr).mono fun e w h=>⟨h.1,(h.2.unpick k2)⟩) fun a w hf hc=>sp 5 hf rfl fun a hf=>zT h ?_
 refine zS fun K h=>sp 3 hf rfl fun a hf=>fL 5 (fun a=>Has 27 a [(2,pq J),(3,pq R),(4,.bool false),(5,i6 r.1),(13,i6 r.1),(14,.bool (r.1 == 0)),(15,.bool (r.1 == 0)),(20,.bool ((r.1 == 0) && (!(s_.way == H && s_.back == true))))]) hc ?_ ?_
 ·cases hb:(r.1 == 0)
  ·rw [hb] at hf
   refine stS hf rfl rfl rfl fun a hf=>stS hf rfl rfl rfl fun a hf=>stS hf rfl rfl rfl fun a hf=>stS hf rfl rfl rfl fun a hf=>sp 1 hf rfl fun a hf=>aQ ⟨hf.kp rfl,hc⟩
  ·rw [hb] at hf
   refine zN hf hc kQ m0 rfl fun a w hf hc=>zL hf hc aX m3 rfl fun a w hf hc=>zP hf rfl (bJ (cells:=[i6 H,.bool true]) vM rfl rfl) fun a hf=>zP hf rfl (pNeA aLc rfl rfl (aJi _ _ _ _)) fun a hf=>sp 1 hf rfl fun a hf=>aQ ⟨hf.kp rfl,hc⟩
 intro a w ⟨hf,hc⟩
 refine sp 1 hf rfl fun a hf=>fL 5 (fun a=>Has 27 a [(2,pq J),(3,pq R),(4,.bool false),(5,i6 r.1),(13,i6 r.1),(14,.bool (r.1 == 0)),(15,.bool (r.1 == 0)),(20,.bool ((r.1 == 0) && (!(s_.way == H && s_.back == true)))),(21,.bool ((r.1 == 0) && (!(s_.way == H && s_.back == true)))),(26,.bool (((r.1 == 0) && (!(s_.way == H && s_.back == true))) && (!(s_.way == H && s_.back == false))))]) hc ?_ ?_
 ·cases hb:((r.1 == 0) && (!(s_.way == H && s_.back == true)))
  ·rw [hb] at hf
   refine stS hf rfl rfl rfl fun a hf=>stS hf rfl rfl rfl fun a hf=>stS hf rfl rfl rfl fun a hf=>stS hf rfl rfl rfl fun a hf=>sp 1 hf rfl fun a hf=>aQ ⟨hf.kp rfl,hc⟩
  ·rw [hb] at hf
   refine zN hf hc kQ m0 rfl fun a w hf hc=>zL hf hc aX m3 rfl fun a w hf hc=>zP hf rfl (bJ (cells:=[i6 H,.bool false]) vM rfl rfl) fun a hf=>zP hf rfl (pNeA aLc rfl rfl (aJi _ _ _ _)) fun a hf=>sp 1 hf rfl fun a hf=>aQ ⟨hf.kp rfl,hc⟩
 intro a w ⟨hf,hc⟩
 refine sp 1 hf rfl fun a hf=>zT h ?_
 refine wp_ret ?_
 obtain rfl:=sj hF
 replace hc:=hc.drop k0
 exact zO1 Tryz.results65 hf rfl ⟨rfl,hc⟩

def fR (N:Nat) (H:Int) (B:Bool) (D:Int→Option aA):Option (dA (Int × Bool × (Int→Option aA)) (dA (Bool × (Int→Option aA)) ((Int→Option aA)))) :=
 some (.cont (W (H + 1),B,D))
def dN (N:Nat) (d:aP) (r:Int) (H:Int) (D:Int→Option aA) (O:Bool) (B:Int→Option aA) (xv:aB):Option (Rs (Bool × (Int→Option aA))) :=
 Option.bind (jB N xv d r) fun R=>
 cond (!R)
 (some (.go (O,B)))
 (Option.bind (dW N d xv) fun J=>
 Option.bind (eD N d xv) fun I=>
 cond (((!((B I).isSome)) || (decide ((W ((((D H).getD (⟨0,0,(⟨0,false⟩:aB)⟩:aA)).cost) + J.1)) < (((B I).getD (⟨0,0,(⟨0,false⟩:aB)⟩:aA)).cost)))) || (((W ((((D H).getD (⟨0,0,(⟨0,false⟩:aB)⟩:aA)).cost) + J.1)) == (((B I).getD (⟨0,0,(⟨0,false⟩:aB)⟩:aA)).cost)) && (decide ((W ((((D H).getD (⟨0,0,(⟨0,false⟩:aB)⟩:aA)).many) + 1)) < (((B I).getD (⟨0,0,(⟨0,false⟩:aB)⟩:aA)).many)))))
 (Option.bind (eD N d xv) fun M=>
 some (.go (true,(gQ (gQ B M ((B M).getD (⟨0,0,(⟨0,false⟩:aB)⟩:aA))) M (⟨W ((((D H).getD (⟨0,0,(⟨0,false⟩:aB)⟩:aA)).cost) + J.1),W ((((D H).getD (⟨0,0,(⟨0,false⟩:aB)⟩:aA)).many) + 1),xv⟩:aA)))))
 (some (.go (O,B))))
def oH (N:Nat) (d:aP) (r:Int) (D:Int) (I:Bool) (B:Int→Option aA):Option (dA (Int × Bool × (Int→Option aA)) (dA (Bool × (Int→Option aA)) ((Int→Option aA)))) :=
 cond (decide (D < (W (d.ways.outside + 2))))
 (cond (!((B D).isSome))
 (fR N D I B)
 (Option.bind (kG N d D) fun J=>
 Option.bind (dV N d J (rY (fun (zz:Bool × (Int→Option aA)) (O:aB)=>dN N d r D B zz.1 zz.2 O)) (.go (I,B))) fun M=>
 rsK M (fun H=>fR N D H.1 H.2) (fun H=>none)))
 (some (.brk (D,I,B)))
def oK (N:Nat) (d:aP) (r:Int) (x:Bool) (mp:Int→Option aA):Option (dA (Bool × (Int→Option aA)) ((Int→Option aA))) :=
 cond x
 (Option.bind (bN (fun B=>oH N d r B.1 B.2.1 B.2.2) N (0,false,mp)) fun D=>
 exK D (fun B=>some (.cont (B.2.1,B.2.2))) some)
 (some (.brk (x,mp)))
def iL (N:Nat) (d:aP) (B:Int) (r:Int):Option ((Int→Option aA)) :=
 Option.bind (bN (fun s6=>oK N d r s6.1 s6.2) N (true,(gQ (fun _=>none:Int→Option aA) B (⟨0,0,(⟨0,false⟩:aB)⟩:aA)))) fun x6=>
 exK x6 (fun s6=>some s6.2) some
theorem uE {N:Nat} {G:bA} {Lf:List Ent} {w:World} (d:aP) (z:Int) (r:Int) {b_:Nat} {M:Option Addr} {I:Nat} {R:Nat} {U:Nat} (g:Rd G 5 M I (d.ways.all.map aH)) (hc:Ctx G (.box b_ [.slice M d.ways.all.length I,i6 d.ways.outside,i6 d.reaches] 78::.box R [pq b_] 71::.box U [i6 r] 3::Lf) w) {ap:(Int→Option aA)} (hF:iL N d z r=some ap):Calls Tryz.prog 68 #[pq b_,i6 z,.agg #[.func (.func 65) #[] #[pq R,pq U]]] w (fun e w=>∃ (ay:Nat),e=.returned (.map (some ay))∧Ctx G (.im ay (fun j=>(ap j).map (fun xq:aA=>.agg #[i6 xq.cost,i6 xq.many,i6 xq.by_.way,.bool xq.by_.back])) none::.box b_ [.slice M d.ways.all.length I,i6 d.ways.outside,i6 d.reaches] 78::.box R [pq b_] 71::.box U [i6 r] 3::Lf) w):=by
 unfold iL at hF
 refine aEy Tryz.func68 rfl Tryz.ntmps68 rfl fun a hf=>zS fun K h=>zB hf hc rfl fun X a w hf hc=>zB hf hc rfl fun V a w hf hc=>sp 1 hf rfl fun a hf=>zT h ?_
 refine zS fun K h=>stMM hf hc rfl rfl fun mb a w hf hc=>?_
 replace hc:Ctx _ (.im mb (fun j=>((fun _=>none:Int→Option aA) j).map (fun xq:aA=>.agg #[i6 xq.cost,i6 xq.many,i6 xq.by_.way,.bool xq.by_.back])) none::_) w:=hc
 refine sp 1 hf rfl fun a hf=>zP hf rfl (bJ (cells:=[i6 0,i6 0,i6 0,.bool false]) aCn rfl rfl) fun a hf=>stMI (enc:=(fun xq:aA=>.agg #[i6 xq.cost,i6 xq.many,i6 xq.by_.way,.bool xq.by_.back])) (m:=(fun _=>none:Int→Option aA)) (v:=(⟨0,0,(⟨0,false⟩:aB)⟩:aA)) hf hc rfl Tryz.underlying165 Tryz.underlying3 rfl rfl rfl u0 fun w hc=>sp 1 hf rfl fun a hf=>aHw (cs:=[.map none]) hf hc rfl rfl aL5 rfl fun Z a w hf hc=>aKa (vs:=[.map (some mb)]) hf hc rfl rfl rfl rfl aK2 rfl rfl u0 fun w hc=>zT h ?_
 refine zS fun K h=>zL hf hc nT m3 rfl fun a w hf hc=>zP hf rfl (pMF (vs:=[pq b_]) (us:=[]) rfl rfl) fun a hf=>zA hf hc aM6 rfl fun Y a w hf hc=>zW hf hc aMs u0 rfl fun w hc=>zT h ?_
 refine wp_seq_k fun K4 h4=>zS fun K h=>zA hf hc aMo rfl fun ax a w hf hc=>zW hf hc aBv u0 rfl fun w hc=>zT h ?_
 refine wp_block ?_
 obtain ⟨x6,bt,hF⟩:=aC hF
 let S6:(Bool × (Int→Option aA))→Act→World→Prop:=(fun (zz:Bool × (Int→Option aA)) a w=>∃ (bq:Nat) (Ds:List Nat),Has ⟨108,lK Ds⟩ a [(3,pq X),(5,pq V),(7,pq Z),(8,pq Y),(9,pq bq)]∧Ctx G (.box bq [.bool zz.1] 4::.box Y [.func (.func 66) #[pq b_] #[]] 160::.box Z [.map (some mb)] 165::.im mb (fun j=>(zz.2 j).map (fun xq:aA=>.agg #[i6 xq.cost,i6 xq.many,i6 xq.by_.way,.bool xq.by_.back])) none::.box V [.func (.func 65) #[] #[pq R,pq U]] 163::.box X [pq b_] 71::.box b_ [.slice M d.ways.all.length I,i6 d.ways.outside,i6 d.reaches] 78::.box R [pq b_] 71::.box U [i6 r] 3::(nI Ds++Lf)) w)
 have bn:∀ (zz:Bool × (Int→Option aA)) a w,x6=.go zz→S6 zz a w→K4 a w:=by
  rintro ⟨x,mp⟩ a w rfl ⟨bq,Ds,hf,hc⟩
  replace hF:=cJ hF
  refine h4 _ _ ?_
  refine wp_seq_k fun K7 h7=>cX ?_
  refine zL hf hc wT m2 rfl fun a w hf hc=>sp 1 hf rfl fun a hf=>aQ ?_
  replace hc:=((((hc.drop k5).drop k4).drop k2).drop k1).drop k0
  refine h7 _ _ ?_
  refine wp_ret ?_
  obtain rfl:=sj hF
  refine aFx hf ?_
  refine aAd [.im mb (fun j=>(mp j).map (fun xq:aA=>.agg #[i6 xq.cost,i6 xq.many,i6 xq.by_.way,.bool xq.by_.back])) none,.box b_ [.slice M d.ways.all.length I,i6 d.ways.outside,i6 d.reaches] 78,.box R [pq b_] 71,.box U [i6 r] 3] Ds hc fun w hc=>?_
  replace hc:Ctx G (.im mb (fun j=>(mp j).map (fun xq:aA=>.agg #[i6 xq.cost,i6 xq.many,i6 xq.by_.way,.bool xq.by_.back])) none::.box b_ [.slice M d.ways.all.length I,i6 d.ways.outside,i6 d.reaches] 78::.box R [pq b_] 71::.box U [i6 r] 3::Lf) w:=hc
  exact aFs Tryz.results68 hf hc (show iK _ 6=_ from rfl) ⟨mb,rfl,hc⟩
 have b2:∀ r,x6=.out r→r=ap:=by
  rintro r rfl
  exact sj hF
 replace hf:=aJm hf
 replace hc:Ctx G (.box ax [.bool true] 4::.box Y [.func (.func 66) #[pq b_] #[]] 160::.box Z [.map (some mb)] 165::.im mb (fun j=>((gQ (fun _=>none:Int→Option aA) z (⟨0,0,(⟨0,false⟩:aB)⟩:aA)) j).map (fun xq:aA=>.agg #[i6 xq.cost,i6 xq.many,i6 xq.by_.way,.bool xq.by_.back])) none::.box V [.func (.func 65) #[] #[pq R,pq U]] 163::.box X [pq b_] 71::.box b_ [.slice M d.ways.all.length I,i6 d.ways.outside,i6 d.reaches] 78::.box R [pq b_] 71::.box U [i6 r] 3::(nI []++Lf)) w:=hc
 refine dQ N (dP (S:=S6) (x:=x6) ?_ N (true,(gQ (fun _=>none:Int→Option aA) z (⟨0,0,(⟨0,false⟩:aB)⟩:aA))) _ _ ⟨ax,[],hf.kp rfl,hc⟩ bt)
 clear hF hf hc
 rintro ⟨x,mp⟩ bx a w KB6 ⟨bq,Ds,hf,hc⟩ hF ak bv
 unfold oK at hF
 refine wp_seq_k fun K8 h8=>zS fun K h=>zL hf hc vC m0 rfl fun a w hf hc=>zT h ?_
 refine zI hf rfl hF ?_ ?_ <;> clear hF <;> intro hF
 ·refine wp_skip ?_
  refine h8 _ _ ?_
  refine wp_seq_k fun K10 bb=>wp_block ?_
  refine zS fun K h=>zW hf hc aBv u0 rfl fun w hc=>zT h ?_
  refine zS fun K h=>zL hf hc nT m5 rfl fun a w hf hc=>sp 1 hf rfl fun a hf=>zP hf rfl (pFA gA rfl) fun a hf=>zP hf rfl (pFA yW rfl) fun a hf=>zL hf hc aX m6 rfl fun a w hf hc=>sp 2 hf rfl fun a hf=>zT h ?_
  refine lR fun K13 bc=>wp_block ?_
  obtain ⟨am,a5,hF⟩:=aC hF
  let S14:(Int × Bool × (Int→Option aA))→Act→World→Prop:=(fun (zz:Int × Bool × (Int→Option aA)) a w=>∃ (Ds_1:List Nat),Has ⟨108,lK Ds_1⟩ a [(3,pq X),(5,pq V),(7,pq Z),(8,pq Y),(9,pq bq),(31,i6 (W (d.ways.outside + 2))),(32,i6 zz.1)]∧Ctx G (.box bq [.bool zz.2.1] 4::.box Y [.func (.func 66) #[pq b_] #[]] 160::.box Z [.map (some mb)] 165::.im mb (fun j=>(zz.2.2 j).map (fun xq:aA=>.agg #[i6 xq.cost,i6 xq.many,i6 xq.by_.way,.bool xq.by_.back])) none::.box V [.func (.func 65) #[] #[pq R,pq U]] 163::.box X [pq b_] 71::.box b_ [.slice M d.ways.all.length I,i6 d.ways.outside,i6 d.reaches] 78::.box R [pq b_] 71::.box U [i6 r] 3::(nI Ds_1++Lf)) w)
  have a0:∀ (zz:Int × Bool × (Int→Option aA)) a w,am=.go zz→S14 zz a w→K13 a w:=by
   rintro ⟨H,aa,D⟩ a w rfl ⟨Ds_1,hf,hc⟩
   replace hF:=cJ hF
   refine bc _ _ ?_
   refine bb _ _ ?_
   refine wp_seq_k fun K15 bf=>cX ?_
   refine zL hf hc vC m0 rfl fun a w hf hc=>aQ ?_
   replace hc:=hc.drop k0
   refine bf _ _ ?_
   refine cX ?_
   refine zA hf hc aMo rfl fun bk a w hf hc=>zW hf hc aBv u0 rfl fun w hc=>aQ ?_
   exact bv (aa,D) _ _ (sj hF).symm ⟨bk,Ds_1,hf.kp rfl,hc⟩
  have b1:∀ r,am=.out r→r=bx:=by
   rintro r rfl
   exact sj hF
  refine dQ N (dP (S:=S14) (x:=am) ?_ N (0,false,mp) _ _ ⟨Ds,hf.kp rfl,hc⟩ a5)
  clear hF hf hc
  rintro ⟨H,aa,D⟩ aj a w KB14 ⟨Ds_1,hf,hc⟩ hF ai a3
  unfold oH at hF
  refine zS fun K h=>sp 1 hf rfl fun a hf=>zT h ?_
  refine wp_seq_k fun K17 bz=>zI hf rfl hF ?_ ?_ <;> clear hF <;> intro hF
  ·refine wp_skip ?_
   refine bz _ _ ?_
   refine wp_seq_k fun K18 bi=>?_
   have an:∀ (af:Bool) (ag:Int→Option aA) (Ds_2:List Nat) a w,Has ⟨108,lK Ds_2⟩ a [(3,pq X),(5,pq V),(7,pq Z),(8,pq Y),(9,pq bq),(31,i6 (W (d.ways.outside + 2))),(32,i6 H)]→Ctx G (.box bq [.bool af] 4::.box Y [.func (.func 66) #[pq b_] #[]] 160::.box Z [.map (some mb)] 165::.im mb (fun j=>(ag j).map (fun xq:aA=>.agg #[i6 xq.cost,i6 xq.many,i6 xq.by_.way,.bool xq.by_.back])) none::.box V [.func (.func 65) #[] #[pq R,pq U]] 163::.box X [pq b_] 71::.box b_ [.slice M d.ways.all.length I,i6 d.ways.outside,i6 d.reaches] 78::.box R [pq b_] 71::.box U [i6 r] 3::(nI Ds_2++Lf)) w→fR N H af ag=some aj→K18 a w:=by
    repeat (clear hF)
    repeat (clear hc)
    repeat (clear hf)
    intro af ag Ds_2 a w hf hc hF
    unfold fR at hF
    refine bi _ _ ?_
    refine cX ?_
    refine sp 2 hf rfl fun a hf=>aQ ?_
    exact a3 (W (H + 1),af,ag) _ _ (sj hF).symm ⟨Ds_2,hf.kp rfl,hc⟩
   refine wp_block ?_
   refine zS fun K h=>sp 2 hf rfl fun a hf=>zT h ?_
   refine zS fun K h=>zL hf hc wT m2 rfl fun a w hf hc=>sp 1 hf rfl fun a hf=>zE hf hc rfl (aCg (enc:=(fun xq:aA=>.agg #[i6 xq.cost,i6 xq.many,i6 xq.by_.way,.bool xq.by_.back])) (z0:=(⟨0,0,(⟨0,false⟩:aB)⟩:aA)) (m:=D) m3 Tryz.underlying165 Tryz.underlying3 nB rfl rfl) fun a w hf hc=>sp 3 hf rfl fun a hf=>zA hf hc nB rfl fun n a w hf hc=>zW hf hc uG u0 rfl fun w hc=>sp 1 hf rfl fun a hf=>zT h ?_
   refine wp_seq_k fun K21 ba=>zS fun K h=>sp 2 hf rfl fun a hf=>zT h ?_
   refine zI hf rfl hF ?_ ?_ <;> clear hF <;> intro hF
   ·refine wp_exit ?_
    refine bI ?_
    refine fB ?_
    replace hc:=hc.drop k0
    exact an aa D Ds_1 _ _  (hf.kp rfl) hc hF
   ·refine wp_skip ?_
    refine ba _ _ ?_
    refine zS fun K h=>zL hf hc nT m6 rfl fun a w hf hc=>sp 1 hf rfl fun a hf=>?_
    obtain ⟨ab,a4,hF⟩:=aC hF
    refine zC hf aK1 rfl (qM d H g (hc.pick k7) a4) ?_
    rintro _ w ⟨ad,ac,rfl,hc⟩
    refine ⟨_,rfl,fun a hf=>?_⟩
    refine zT h ?_
    obtain ⟨a9,az,hF⟩:=aC hF
    refine aGa (C:=[.box ad [pq b_] 71,.box ac [i6 ab] 3]) (C2:=[.box ad [pq b_] 71,.box ac [i6 ab] 3]) (L0:=[.box b_ [.slice M d.ways.all.length I,i6 d.ways.outside,i6 d.reaches] 78,.box n [i6 (((D H).getD (⟨0,0,(⟨0,false⟩:aB)⟩:aA)).cost),i6 (((D H).getD (⟨0,0,(⟨0,false⟩:aB)⟩:aA)).many),i6 ((((D H).getD (⟨0,0,(⟨0,false⟩:aB)⟩:aA)).by_).way),.bool ((((D H).getD (⟨0,0,(⟨0,false⟩:aB)⟩:aA)).by_).back)] 168,.box bq [.bool aa] 4,.box Y [.func (.func 66) #[pq b_] #[]] 160,.box Z [.map (some mb)] 165,.im mb (fun j=>(D j).map (fun xq:aA=>.agg #[i6 xq.cost,i6 xq.many,i6 xq.by_.way,.bool xq.by_.back])) none,.box V [.func (.func 65) #[] #[pq R,pq U]] 163,.box X [pq b_] 71,.box R [pq b_] 71,.box U [i6 r] 3]) (Lf:=(nI Ds_1++Lf)) (encs:=fun x:aB=>[.agg #[i6 x.way,.bool x.back]]) (fun (zz:Bool × (Int→Option aA)) L=>L=[.box b_ [.slice M d.ways.all.length I,i6 d.ways.outside,i6 d.reaches] 78,.box n [i6 (((D H).getD (⟨0,0,(⟨0,false⟩:aB)⟩:aA)).cost),i6 (((D H).getD (⟨0,0,(⟨0,false⟩:aB)⟩:aA)).many),i6 ((((D H).getD (⟨0,0,(⟨0,false⟩:aB)⟩:aA)).by_).way),.bool ((((D H).getD (⟨0,0,(⟨0,false⟩:aB)⟩:aA)).by_).back)] 168,.box bq [.bool zz.1] 4,.box Y [.func (.func 66) #[pq b_] #[]] 160,.box Z [.map (some mb)] 165,.im mb (fun j=>(zz.2 j).map (fun xq:aA=>.agg #[i6 xq.cost,i6 xq.many,i6 xq.by_.way,.bool xq.by_.back])) none,.box V [.func (.func 65) #[] #[pq R,pq U]] 163,.box X [pq b_] 71,.box R [pq b_] 71,.box U [i6 r] 3]) (fun (zz:Bool × (Int→Option aA)) (bj:aB)=>dN N d r H D zz.1 zz.2 bj) (aa,D) a9 hf hc rfl aM8 (fun _=>rfl) rfl rfl ?_ ?_ ?_ ?_
    ·intro lq mq J A Lx w hy hJ hc
     exact pG d ab g J _ hy _ hJ hc az
    ·clear hF hf hc
     rintro lq mq ⟨k,B⟩ xv oq _ Lr Lb a w b3 rfl hF hf hc hK
     replace hf:Has 108 a [(3,pq X),(5,pq V),(7,pq Z),(8,pq Y),(9,pq bq),(11,pq n),(31,i6 (W (d.ways.outside + 2))),(32,i6 H),(46,.agg #[i6 xv.way,.bool xv.back])]:=hf.kp rfl
     replace hc:Ctx G (.box b_ [.slice M d.ways.all.length I,i6 d.ways.outside,i6 d.reaches] 78::.box n [i6 (((D H).getD (⟨0,0,(⟨0,false⟩:aB)⟩:aA)).cost),i6 (((D H).getD (⟨0,0,(⟨0,false⟩:aB)⟩:aA)).many),i6 ((((D H).getD (⟨0,0,(⟨0,false⟩:aB)⟩:aA)).by_).way),.bool ((((D H).getD (⟨0,0,(⟨0,false⟩:aB)⟩:aA)).by_).back)] 168::.box bq [.bool k] 4::.box Y [.func (.func 66) #[pq b_] #[]] 160::.box Z [.map (some mb)] 165::.im mb (fun j=>(B j).map (fun xq:aA=>.agg #[i6 xq.cost,i6 xq.many,i6 xq.by_.way,.bool xq.by_.back])) none::.box V [.func (.func 65) #[] #[pq R,pq U]] 163::.box X [pq b_] 71::.box R [pq b_] 71::.box U [i6 r] 3::Lr) w:=hc
     replace hF:dN N d r H D k B xv=some oq:=hF
     unfold dN at hF
     refine sP (fun _ _ h=>h) rfl ?_
     refine zA hf hc aAw rfl fun q a w hf hc=>zW hf hc xK u0 rfl fun w hc=>aQ ?_
     refine hK _ _ [.box q [i6 xv.way,.bool xv.back] 158,.box b_ [.slice M d.ways.all.length I,i6 d.ways.outside,i6 d.reaches] 78,.box n [i6 (((D H).getD (⟨0,0,(⟨0,false⟩:aB)⟩:aA)).cost),i6 (((D H).getD (⟨0,0,(⟨0,false⟩:aB)⟩:aA)).many),i6 ((((D H).getD (⟨0,0,(⟨0,false⟩:aB)⟩:aA)).by_).way),.bool ((((D H).getD (⟨0,0,(⟨0,false⟩:aB)⟩:aA)).by_).back)] 168,.box bq [.bool k] 4,.box Y [.func (.func 66) #[pq b_] #[]] 160,.box Z [.map (some mb)] 165,.im mb (fun j=>(B j).map (fun xq:aA=>.agg #[i6 xq.cost,i6 xq.many,i6 xq.by_.way,.bool xq.by_.back])) none,.box V [.func (.func 65) #[] #[pq R,pq U]] 163,.box X [pq b_] 71,.box R [pq b_] 71,.box U [i6 r] 3] hc fun w hc=>?_
     replace hc:Ctx G (.box q [i6 xv.way,.bool xv.back] 158::.box b_ [.slice M d.ways.all.length I,i6 d.ways.outside,i6 d.reaches] 78::.box n [i6 (((D H).getD (⟨0,0,(⟨0,false⟩:aB)⟩:aA)).cost),i6 (((D H).getD (⟨0,0,(⟨0,false⟩:aB)⟩:aA)).many),i6 ((((D H).getD (⟨0,0,(⟨0,false⟩:aB)⟩:aA)).by_).way),.bool ((((D H).getD (⟨0,0,(⟨0,false⟩:aB)⟩:aA)).by_).back)] 168::.box bq [.bool k] 4::.box Y [.func (.func 66) #[pq b_] #[]] 160::.box Z [.map (some mb)] 165::.im mb (fun j=>(B j).map (fun xq:aA=>.agg #[i6 xq.cost,i6 xq.many,i6 xq.by_.way,.bool xq.by_.back])) none::.box V [.func (.func 65) #[] #[pq R,pq U]] 163::.box X [pq b_] 71::.box R [pq b_] 71::.box U [i6 r] 3::Lb) w:=hc
     refine xA fun K25 ar=>vZ ?_
     refine sE fun K26 b0=>sE fun K27 br=>sP (fun _ _ h=>h) rfl ?_
     refine zP hf rfl (pFA aHi rfl) fun a hf=>zL hf hc aL6 m7 rfl fun a w hf hc=>zN hf hc kQ m0 rfl fun a w hf hc=>?_
     obtain ⟨av,a2,hF⟩:=aC hF
     refine zQ (v:=.bool av) hf hc en_65 rfl (fun w hc=>(uT xv d r g (((hc.pick k10).pick k2).pick k10) a2).mono fun e w h=>⟨h.1,(((h.2.unpick k10).unpick k2).unpick k10)⟩) fun a w hf hc=>sp 1 hf rfl fun a hf=>aQ ?_
     refine br _ _ ?_
     refine aDe (b:=(!av)) hf rfl (fun hb=>?_) (fun hb=>?_)
     ·replace hF:=gI hb hF
      clear hb
      refine aKz ?_
      refine bI ?_
      refine fB ?_
      refine ar _ _ ?_
      replace hc:=hc.drop k0
      exact ⟨(k,B),_,(sj hF).symm,rfl,hc⟩
     ·replace hF:=nU hb hF
      clear hb
      refine aC4 ?_
      refine b0 _ _ ?_
      refine sE fun K28 bp=>sP (fun _ _ h=>h) rfl ?_
      refine zL hf hc aNb m4 rfl fun a w hf hc=>zN hf hc kQ m0 rfl fun a w hf hc=>?_
      obtain ⟨i,a1,hF⟩:=aC hF
      refine zQ (v:=.tuple #[i6 i.1,i6 i.2]) hf hc aG5 rfl (fun w hc=>(iV d xv g (hc.pick k1) a1).mono fun e w h=>⟨h.1,(h.2.unpick k1)⟩) fun a w hf hc=>sp 5 hf rfl fun a hf=>aQ ?_
      refine bp _ _ ?_
      refine sE fun K29 bm=>sP (fun _ _ h=>h) rfl ?_
      refine zP hf rfl (pFA kT rfl) fun a hf=>zL hf hc aX m2 rfl fun a w hf hc=>sp 2 hf rfl fun a hf=>zP hf rfl (pFA rK rfl) fun a hf=>zL hf hc aX m2 rfl fun a w hf hc=>sp 1 hf rfl fun a hf=>zN hf hc kQ m0 rfl fun a w hf hc=>zP hf rfl (bJ (cells:=[i6 (W ((((D H).getD (⟨0,0,(⟨0,false⟩:aB)⟩:aA)).cost) + i.1)),i6 (W ((((D H).getD (⟨0,0,(⟨0,false⟩:aB)⟩:aA)).many) + 1)),i6 xv.way,.bool xv.back]) aCn rfl rfl) fun a hf=>zA hf hc nB rfl fun s a w hf hc=>zW hf hc uG u0 rfl fun w hc=>aQ ?_
      refine bm _ _ ?_
      refine sE fun K30 bs=>?_
      obtain ⟨O,a7,hF⟩:=aC hF
      replace hc:=hc.nilRow 0 0
      refine xP (fun _ _ h=>h) rfl (fun θ=>[⟨none,none,3,pq X⟩,⟨none,none,5,pq V⟩,⟨none,none,7,pq Z⟩,⟨none,none,8,pq Y⟩,⟨none,none,9,pq bq⟩,⟨none,none,11,pq n⟩,⟨none,none,13,pq q⟩,⟨none,none,16,pq s⟩,⟨none,none,31,i6 (W (d.ways.outside + 2))⟩,⟨none,none,32,i6 H⟩,⟨some 0,none,68,.map (some mb)⟩,⟨some 1,none,69,pq b_⟩,⟨some 2,none,70,.agg #[i6 xv.way,.bool xv.back]⟩,⟨some 3,none,71,i6 O⟩,⟨some 4,none,72,.tuple #[.agg #[i6 (((B O).getD (⟨0,0,(⟨0,false⟩:aB)⟩:aA)).cost),i6 (((B O).getD (⟨0,0,(⟨0,false⟩:aB)⟩:aA)).many),i6 ((((B O).getD (⟨0,0,(⟨0,false⟩:aB)⟩:aA)).by_).way),.bool ((((B O).getD (⟨0,0,(⟨0,false⟩:aB)⟩:aA)).by_).back)],.bool ((B O).isSome)]⟩,⟨some 5,none,67,.tuple #[.agg #[i6 (((B O).getD (⟨0,0,(⟨0,false⟩:aB)⟩:aA)).cost),i6 (((B O).getD (⟨0,0,(⟨0,false⟩:aB)⟩:aA)).many),i6 ((((B O).getD (⟨0,0,(⟨0,false⟩:aB)⟩:aA)).by_).way),.bool ((((B O).getD (⟨0,0,(⟨0,false⟩:aB)⟩:aA)).by_).back)],.bool ((B O).isSome)]⟩,⟨some 6,none,73,.agg #[i6 (((B O).getD (⟨0,0,(⟨0,false⟩:aB)⟩:aA)).cost),i6 (((B O).getD (⟨0,0,(⟨0,false⟩:aB)⟩:aA)).many),i6 ((((B O).getD (⟨0,0,(⟨0,false⟩:aB)⟩:aA)).by_).way),.bool ((((B O).getD (⟨0,0,(⟨0,false⟩:aB)⟩:aA)).by_).back)]⟩,⟨some 7,none,74,.bool ((B O).isSome)⟩,⟨some 8,none,17,.pointer (some ⟨(θ 64).b,0,none⟩)⟩,⟨some 10,none,18,.bool ((B O).isSome)⟩]) (fun E θ=>(bif E 9 then .box (θ 64).b [i6 (((B O).getD (⟨0,0,(⟨0,false⟩:aB)⟩:aA)).cost),i6 (((B O).getD (⟨0,0,(⟨0,false⟩:aB)⟩:aA)).many),i6 ((((B O).getD (⟨0,0,(⟨0,false⟩:aB)⟩:aA)).by_).way),.bool ((((B O).getD (⟨0,0,(⟨0,false⟩:aB)⟩:aA)).by_).back)] 168 else bif E 8 then .box (θ 64).b [i6 0,i6 0,i6 0,.bool false] 168 else .row none 0 [] 0 0)::.box s [i6 (W ((((D H).getD (⟨0,0,(⟨0,false⟩:aB)⟩:aA)).cost) + i.1)),i6 (W ((((D H).getD (⟨0,0,(⟨0,false⟩:aB)⟩:aA)).many) + 1)),i6 xv.way,.bool xv.back] 168::.box q [i6 xv.way,.bool xv.back] 158::.box b_ [.slice M d.ways.all.length I,i6 d.ways.outside,i6 d.reaches] 78::.box n [i6 (((D H).getD (⟨0,0,(⟨0,false⟩:aB)⟩:aA)).cost),i6 (((D H).getD (⟨0,0,(⟨0,false⟩:aB)⟩:aA)).many),i6 ((((D H).getD (⟨0,0,(⟨0,false⟩:aB)⟩:aA)).by_).way),.bool ((((D H).getD (⟨0,0,(⟨0,false⟩:aB)⟩:aA)).by_).back)] 168::.box bq [.bool k] 4::.box Y [.func (.func 66) #[pq b_] #[]] 160::.box Z [.map (some mb)] 165::.im mb (fun j=>(B j).map (fun xq:aA=>.agg #[i6 xq.cost,i6 xq.many,i6 xq.by_.way,.bool xq.by_.back])) none::.box V [.func (.func 65) #[] #[pq R,pq U]] 163::.box X [pq b_] 71::.box R [pq b_] 71::.box U [i6 r] 3::Lb) [(9,8)] (fun a w=>∃ (t:Nat),Has 108 a [(3,pq X),(5,pq V),(7,pq Z),(8,pq Y),(9,pq bq),(11,pq n),(13,pq q),(16,pq s),(31,i6 (W (d.ways.outside + 2))),(32,i6 H),(17,pq t),(18,.bool ((B O).isSome))]∧Ctx G (.box t [i6 (((B O).getD (⟨0,0,(⟨0,false⟩:aB)⟩:aA)).cost),i6 (((B O).getD (⟨0,0,(⟨0,false⟩:aB)⟩:aA)).many),i6 ((((B O).getD (⟨0,0,(⟨0,false⟩:aB)⟩:aA)).by_).way),.bool ((((B O).getD (⟨0,0,(⟨0,false⟩:aB)⟩:aA)).by_).back)] 168::.box s [i6 (W ((((D H).getD (⟨0,0,(⟨0,false⟩:aB)⟩:aA)).cost) + i.1)),i6 (W ((((D H).getD (⟨0,0,(⟨0,false⟩:aB)⟩:aA)).many) + 1)),i6 xv.way,.bool xv.back] 168::.box q [i6 xv.way,.bool xv.back] 158::.box b_ [.slice M d.ways.all.length I,i6 d.ways.outside,i6 d.reaches] 78::.box n [i6 (((D H).getD (⟨0,0,(⟨0,false⟩:aB)⟩:aA)).cost),i6 (((D H).getD (⟨0,0,(⟨0,false⟩:aB)⟩:aA)).many),i6 ((((D H).getD (⟨0,0,(⟨0,false⟩:aB)⟩:aA)).by_).way),.bool ((((D H).getD (⟨0,0,(⟨0,false⟩:aB)⟩:aA)).by_).back)] 168::.box bq [.bool k] 4::.box Y [.func (.func 66) #[pq b_] #[]] 160::.box Z [.map (some mb)] 165::.im mb (fun j=>(B j).map (fun xq:aA=>.agg #[i6 xq.cost,i6 xq.many,i6 xq.by_.way,.bool xq.by_.back])) none::.box V [.func (.func 65) #[] #[pq R,pq U]] 163::.box X [pq b_] 71::.box R [pq b_] 71::.box U [i6 r] 3::Lb) w) aT (by kernel_rfl) (by kernel_rfl) (dL.of hf ⟨rfl,rfl,rfl,rfl,rfl,rfl,rfl,rfl,rfl,rfl,trivial,trivial,trivial,trivial,trivial,trivial,trivial,trivial,trivial,trivial,trivial⟩) hc ⟨?_,?_,?_,?_,?_,?_,?_,?_,?_,?_,?_,trivial⟩ ?_ ?_
      ·intro E θ a w hD hi hp he hc
       have hf:=he.h0.mT he 2 rfl
       refine zL hf hc wT m7 rfl fun a w hf hc=>zD θ he hi hf 10 rfl rfl rfl hc
      ·intro E θ a w hD hi hp he hc
       have hf:=he.h0.mT he 0 rfl
       refine zL hf hc nT m10 rfl fun a w hf hc=>zD θ he hi hf 11 rfl rfl rfl hc
      ·intro E θ a w hD hi hp he hc
       have hf:=he.h0.mT he 6 rfl
       refine zN hf hc kQ m2 rfl fun a w hf hc=>zD θ he hi hf 12 rfl rfl rfl hc
      ·intro E θ a w hD hi hp he hc
       have e1:=hp.o 1 rfl
       have e2:=hp.o 2 rfl
       have hf:=(he.h0.mP he 11 rfl e1).mP he 12 rfl e2
       refine zQ (v:=i6 O) hf hc aCt rfl (fun w hc=>(gG d xv g (hc.pick k3) a7).mono fun e w h=>⟨h.1,(h.2.unpick k3)⟩) fun a w hf hc=>zD θ he hi hf 13 rfl rfl rfl hc
      ·intro E θ a w hD hi hp he hc
       have e0:=hp.o 0 rfl
       have e3:=hp.o 3 rfl
       have hf:=(he.h0.mP he 10 rfl e0).mP he 13 rfl e3
       refine zE hf hc rfl (aCg (enc:=(fun xq:aA=>.agg #[i6 xq.cost,i6 xq.many,i6 xq.by_.way,.bool xq.by_.back])) (z0:=(⟨0,0,(⟨0,false⟩:aB)⟩:aA)) (m:=B) m8 Tryz.underlying165 Tryz.underlying3 nB rfl rfl) fun a w hf hc=>zD θ he hi hf 14 rfl rfl rfl hc
      ·intro E θ a w hD hi hp he hc
       have e4:=hp.o 4 rfl
       have hf:=he.h0.mP he 14 rfl e4
       refine sp 1 hf rfl fun a hf=>zD θ he hi hf 15 rfl rfl rfl hc
      ·intro E θ a w hD hi hp he hc
       have e5:=hp.o 5 rfl
       have hf:=he.h0.mP he 15 rfl e5
       refine sp 1 hf rfl fun a hf=>zD θ he hi hf 16 rfl rfl rfl hc
      ·intro E θ a w hD hi hp he hc
       have e5:=hp.o 5 rfl
       have hf:=he.h0.mP he 15 rfl e5
       refine sp 1 hf rfl fun a hf=>zD θ he hi hf 17 rfl rfl rfl hc
      ·intro E θ a w hD hi hp he hc
       have e9:=hD.f 0 rfl hi
       try dsimp only at hc
       rw [hi,e9] at hc
       have hf:=he.h0
       refine zA hf hc nB rfl fun a8 a w hf hc=>aQ ?_
       refine bV ?_
       intro ds u aq
       replace hc:=hc.drop k1
       refine ⟨(hZ θ 64 ⟨a8,none,0,(fun _=>(none,0))⟩),he.put hi aq hf rfl [] trivial ⟨qq,qq,qq,qq,qq,qq,qq,qq,qq,qq,qq,qq,qq,qq,qq,qq,qq,qq,qq,qq,trivial⟩,?_⟩
       try dsimp only
       rw [aN E 8,aS 8 e9 rfl]
       exact hc
      ·intro E θ a w hD hi hp he hc
       have e6:=hp.o 6 rfl
       have e8:=hp.o 8 rfl
       try dsimp only at hc
       rw [e8,hi] at hc
       have hf:=(he.h0.mP he 16 rfl e6).mP he 18 rfl e8
       refine zW hf hc uG u0 rfl fun w hc=>zG θ he hi hf rfl ?_
       try dsimp only
       rw [cB 9 e8,aN E 9]
       exact hc
      ·intro E θ a w hD hi hp he hc
       have e7:=hp.o 7 rfl
       have hf:=he.h0.mP he 17 rfl e7
       refine sp 1 hf rfl fun a hf=>zD θ he hi hf 19 rfl rfl rfl hc
      ·intro E θ a w y he hc
       have hf:=he.h0
       have e8:=y 8 rfl
       have e9:=y 9 rfl
       have bu:=y 10 rfl
       replace hf:=hf.more he 19 rfl (onP bu)
       replace hf:=hf.more he 18 rfl (onP e8)
       replace hf:=hf.more he 9 rfl (onT)
       replace hf:=hf.more he 8 rfl (onT)
       replace hf:=hf.more he 7 rfl (onT)
       replace hf:=hf.more he 6 rfl (onT)
       replace hf:=hf.more he 5 rfl (onT)
       replace hf:=hf.more he 4 rfl (onT)
       replace hf:=hf.more he 3 rfl (onT)
       replace hf:=hf.more he 2 rfl (onT)
       replace hf:=hf.more he 1 rfl (onT)
       replace hf:=hf.more he 0 rfl (onT)
       try dsimp only at hc
       rw [e8,e9] at hc
       exact ⟨(θ 64).b,hf.kp rfl,hc⟩
      rintro a w ⟨t,hf,hc⟩
      refine bs _ _ ?_
      refine sE fun K31 bg=>sP (fun _ _ h=>h) rfl ?_
      refine sp 3 hf rfl fun a hf=>fL 6 (fun a=>Has 108 a [(3,pq X),(5,pq V),(7,pq Z),(8,pq Y),(9,pq bq),(11,pq n),(13,pq q),(16,pq s),(31,i6 (W (d.ways.outside + 2))),(32,i6 H),(17,pq t),(18,.bool ((B O).isSome)),(75,.bool ((B O).isSome)),(76,.bool (!((B O).isSome))),(77,.bool (!((B O).isSome))),(83,.bool ((!((B O).isSome)) || (decide ((W ((((D H).getD (⟨0,0,(⟨0,false⟩:aB)⟩:aA)).cost) + i.1)) < (((B O).getD (⟨0,0,(⟨0,false⟩:aB)⟩:aA)).cost)))))]) hc ?_ ?_
      ·cases hb:(!((B O).isSome))
       ·rw [hb] at hf
        refine zP hf rfl (pFA kT rfl) fun a hf=>zL hf hc aX m1 rfl fun a w hf hc=>zP hf rfl (pFA kT rfl) fun a hf=>zL hf hc aX m0 rfl fun a w hf hc=>sp 2 hf rfl fun a hf=>aQ ⟨hf.kp rfl,hc⟩
       ·rw [hb] at hf
        refine stS hf rfl rfl rfl fun a hf=>stS hf rfl rfl rfl fun a hf=>stS hf rfl rfl rfl fun a hf=>stS hf rfl rfl rfl fun a hf=>stS hf rfl rfl rfl fun a hf=>sp 1 hf rfl fun a hf=>aQ ⟨hf.kp rfl,hc⟩
      intro a w ⟨hf,hc⟩
      refine sp 1 hf rfl fun a hf=>fL 13 (fun a=>Has 108 a [(3,pq X),(5,pq V),(7,pq Z),(8,pq Y),(9,pq bq),(11,pq n),(13,pq q),(16,pq s),(31,i6 (W (d.ways.outside + 2))),(32,i6 H),(17,pq t),(18,.bool ((B O).isSome)),(75,.bool ((B O).isSome)),(76,.bool (!((B O).isSome))),(77,.bool (!((B O).isSome))),(83,.bool ((!((B O).isSome)) || (decide ((W ((((D H).getD (⟨0,0,(⟨0,false⟩:aB)⟩:aA)).cost) + i.1)) < (((B O).getD (⟨0,0,(⟨0,false⟩:aB)⟩:aA)).cost))))),(84,.bool ((!((B O).isSome)) || (decide ((W ((((D H).getD (⟨0,0,(⟨0,false⟩:aB)⟩:aA)).cost) + i.1)) < (((B O).getD (⟨0,0,(⟨0,false⟩:aB)⟩:aA)).cost))))),(97,.bool (((!((B O).isSome)) || (decide ((W ((((D H).getD (⟨0,0,(⟨0,false⟩:aB)⟩:aA)).cost) + i.1)) < (((B O).getD (⟨0,0,(⟨0,false⟩:aB)⟩:aA)).cost)))) || (((W ((((D H).getD (⟨0,0,(⟨0,false⟩:aB)⟩:aA)).cost) + i.1)) == (((B O).getD (⟨0,0,(⟨0,false⟩:aB)⟩:aA)).cost)) && (decide ((W ((((D H).getD (⟨0,0,(⟨0,false⟩:aB)⟩:aA)).many) + 1)) < (((B O).getD (⟨0,0,(⟨0,false⟩:aB)⟩:aA)).many))))))]) hc ?_ ?_
      ·cases hb:((!((B O).isSome)) || (decide ((W ((((D H).getD (⟨0,0,(⟨0,false⟩:aB)⟩:aA)).cost) + i.1)) < (((B O).getD (⟨0,0,(⟨0,false⟩:aB)⟩:aA)).cost))))
       ·rw [hb] at hf
        refine zP hf rfl (pFA kT rfl) fun a hf=>zL hf hc aX m1 rfl fun a w hf hc=>zP hf rfl (pFA kT rfl) fun a hf=>zL hf hc aX m0 rfl fun a w hf hc=>sp 2 hf rfl fun a hf=>fL 6 (fun a=>Has 108 a [(3,pq X),(5,pq V),(7,pq Z),(8,pq Y),(9,pq bq),(11,pq n),(13,pq q),(16,pq s),(31,i6 (W (d.ways.outside + 2))),(32,i6 H),(17,pq t),(18,.bool ((B O).isSome)),(75,.bool ((B O).isSome)),(76,.bool (!((B O).isSome))),(77,.bool (!((B O).isSome))),(83,.bool false),(84,.bool false),(85,pq s),(86,i6 (W ((((D H).getD (⟨0,0,(⟨0,false⟩:aB)⟩:aA)).cost) + i.1))),(87,pq t),(88,i6 (((B O).getD (⟨0,0,(⟨0,false⟩:aB)⟩:aA)).cost)),(89,.bool ((W ((((D H).getD (⟨0,0,(⟨0,false⟩:aB)⟩:aA)).cost) + i.1)) == (((B O).getD (⟨0,0,(⟨0,false⟩:aB)⟩:aA)).cost))),(90,.bool ((W ((((D H).getD (⟨0,0,(⟨0,false⟩:aB)⟩:aA)).cost) + i.1)) == (((B O).getD (⟨0,0,(⟨0,false⟩:aB)⟩:aA)).cost))),(96,.bool (((W ((((D H).getD (⟨0,0,(⟨0,false⟩:aB)⟩:aA)).cost) + i.1)) == (((B O).getD (⟨0,0,(⟨0,false⟩:aB)⟩:aA)).cost)) && (decide ((W ((((D H).getD (⟨0,0,(⟨0,false⟩:aB)⟩:aA)).many) + 1)) < (((B O).getD (⟨0,0,(⟨0,false⟩:aB)⟩:aA)).many)))))]) hc ?_ ?_
        ·cases hb:((W ((((D H).getD (⟨0,0,(⟨0,false⟩:aB)⟩:aA)).cost) + i.1)) == (((B O).getD (⟨0,0,(⟨0,false⟩:aB)⟩:aA)).cost))
         ·rw [hb] at hf
          refine stS hf rfl rfl rfl fun a hf=>stS hf rfl rfl rfl fun a hf=>stS hf rfl rfl rfl fun a hf=>stS hf rfl rfl rfl fun a hf=>stS hf rfl rfl rfl fun a hf=>sp 1 hf rfl fun a hf=>aQ ⟨hf.kp rfl,hc⟩
         ·rw [hb] at hf
          refine zP hf rfl (pFA rK rfl) fun a hf=>zL hf hc aX m1 rfl fun a w hf hc=>zP hf rfl (pFA rK rfl) fun a hf=>zL hf hc aX m0 rfl fun a w hf hc=>sp 2 hf rfl fun a hf=>aQ ⟨hf.kp rfl,hc⟩
        intro a w ⟨hf,hc⟩
        refine sp 1 hf rfl fun a hf=>aQ ⟨hf.kp rfl,hc⟩
       ·rw [hb] at hf
        refine stS hf rfl rfl rfl fun a hf=>stS hf rfl rfl rfl fun a hf=>stS hf rfl rfl rfl fun a hf=>stS hf rfl rfl rfl fun a hf=>stS hf rfl rfl rfl fun a hf=>stS hf rfl rfl rfl fun a hf=>stS hf rfl rfl rfl fun a hf=>stS hf rfl rfl rfl fun a hf=>stS hf rfl rfl rfl fun a hf=>stS hf rfl rfl rfl fun a hf=>stS hf rfl rfl rfl fun a hf=>stS hf rfl rfl rfl fun a hf=>sp 1 hf rfl fun a hf=>?_
        exact aQ ⟨hf.kp rfl,hc⟩
      intro a w ⟨hf,hc⟩
      refine aQ ?_
      refine bg _ _ ?_
      refine aDe (b:=(((!((B O).isSome)) || (decide ((W ((((D H).getD (⟨0,0,(⟨0,false⟩:aB)⟩:aA)).cost) + i.1)) < (((B O).getD (⟨0,0,(⟨0,false⟩:aB)⟩:aA)).cost)))) || (((W ((((D H).getD (⟨0,0,(⟨0,false⟩:aB)⟩:aA)).cost) + i.1)) == (((B O).getD (⟨0,0,(⟨0,false⟩:aB)⟩:aA)).cost)) && (decide ((W ((((D H).getD (⟨0,0,(⟨0,false⟩:aB)⟩:aA)).many) + 1)) < (((B O).getD (⟨0,0,(⟨0,false⟩:aB)⟩:aA)).many)))))) hf rfl (fun hb=>?_) (fun hb=>?_)
      ·replace hF:=gI hb hF
       clear hb
       obtain ⟨p,a6,hF⟩:=aC hF
       refine xP (fun _ _ h=>h) rfl (fun θ=>[⟨none,none,3,pq X⟩,⟨none,none,5,pq V⟩,⟨none,none,7,pq Z⟩,⟨none,none,8,pq Y⟩,⟨none,none,9,pq bq⟩,⟨none,none,11,pq n⟩,⟨none,none,13,pq q⟩,⟨none,none,16,pq s⟩,⟨none,none,31,i6 (W (d.ways.outside + 2))⟩,⟨none,none,32,i6 H⟩,⟨some 0,none,98,.map (some mb)⟩,⟨some 1,none,99,pq b_⟩,⟨some 2,none,100,.agg #[i6 xv.way,.bool xv.back]⟩,⟨some 3,none,101,i6 p⟩,⟨some 4,none,102,.agg #[i6 (W ((((D H).getD (⟨0,0,(⟨0,false⟩:aB)⟩:aA)).cost) + i.1)),i6 (W ((((D H).getD (⟨0,0,(⟨0,false⟩:aB)⟩:aA)).many) + 1)),i6 xv.way,.bool xv.back]⟩,⟨some 5,none,103,.tuple #[.agg #[i6 (((B p).getD (⟨0,0,(⟨0,false⟩:aB)⟩:aA)).cost),i6 (((B p).getD (⟨0,0,(⟨0,false⟩:aB)⟩:aA)).many),i6 ((((B p).getD (⟨0,0,(⟨0,false⟩:aB)⟩:aA)).by_).way),.bool ((((B p).getD (⟨0,0,(⟨0,false⟩:aB)⟩:aA)).by_).back)],i6 (((θ 40).c:Nat):Int)]⟩,⟨some 6,none,104,i6 (((θ 40).c:Nat):Int)⟩]) (fun E θ=>.box t [i6 (((B O).getD (⟨0,0,(⟨0,false⟩:aB)⟩:aA)).cost),i6 (((B O).getD (⟨0,0,(⟨0,false⟩:aB)⟩:aA)).many),i6 ((((B O).getD (⟨0,0,(⟨0,false⟩:aB)⟩:aA)).by_).way),.bool ((((B O).getD (⟨0,0,(⟨0,false⟩:aB)⟩:aA)).by_).back)] 168::.box s [i6 (W ((((D H).getD (⟨0,0,(⟨0,false⟩:aB)⟩:aA)).cost) + i.1)),i6 (W ((((D H).getD (⟨0,0,(⟨0,false⟩:aB)⟩:aA)).many) + 1)),i6 xv.way,.bool xv.back] 168::.box q [i6 xv.way,.bool xv.back] 158::.box b_ [.slice M d.ways.all.length I,i6 d.ways.outside,i6 d.reaches] 78::.box n [i6 (((D H).getD (⟨0,0,(⟨0,false⟩:aB)⟩:aA)).cost),i6 (((D H).getD (⟨0,0,(⟨0,false⟩:aB)⟩:aA)).many),i6 ((((D H).getD (⟨0,0,(⟨0,false⟩:aB)⟩:aA)).by_).way),.bool ((((D H).getD (⟨0,0,(⟨0,false⟩:aB)⟩:aA)).by_).back)] 168::(bif E 8 then .box bq [.bool true] 4 else .box bq [.bool k] 4)::.box Y [.func (.func 66) #[pq b_] #[]] 160::.box Z [.map (some mb)] 165::(bif E 7 then .im mb (fun j=>((gQ (gQ B p ((B p).getD (⟨0,0,(⟨0,false⟩:aB)⟩:aA))) p (⟨W ((((D H).getD (⟨0,0,(⟨0,false⟩:aB)⟩:aA)).cost) + i.1),W ((((D H).getD (⟨0,0,(⟨0,false⟩:aB)⟩:aA)).many) + 1),xv⟩:aA)) j).map (fun xq:aA=>.agg #[i6 xq.cost,i6 xq.many,i6 xq.by_.way,.bool xq.by_.back])) none else bif E 5 then .im mb (fun j=>((gQ B p ((B p).getD (⟨0,0,(⟨0,false⟩:aB)⟩:aA))) j).map (fun xq:aA=>.agg #[i6 xq.cost,i6 xq.many,i6 xq.by_.way,.bool xq.by_.back])) (some ((θ 40).c,p)) else .im mb (fun j=>(B j).map (fun xq:aA=>.agg #[i6 xq.cost,i6 xq.many,i6 xq.by_.way,.bool xq.by_.back])) none)::.box V [.func (.func 65) #[] #[pq R,pq U]] 163::.box X [pq b_] 71::.box R [pq b_] 71::.box U [i6 r] 3::Lb) [(7,5),(6,5)] (fun a w=>Has 108 a [(3,pq X),(5,pq V),(7,pq Z),(8,pq Y),(9,pq bq),(11,pq n),(31,i6 (W (d.ways.outside + 2))),(32,i6 H)]∧Ctx G (.box t [i6 (((B O).getD (⟨0,0,(⟨0,false⟩:aB)⟩:aA)).cost),i6 (((B O).getD (⟨0,0,(⟨0,false⟩:aB)⟩:aA)).many),i6 ((((B O).getD (⟨0,0,(⟨0,false⟩:aB)⟩:aA)).by_).way),.bool ((((B O).getD (⟨0,0,(⟨0,false⟩:aB)⟩:aA)).by_).back)] 168::.box s [i6 (W ((((D H).getD (⟨0,0,(⟨0,false⟩:aB)⟩:aA)).cost) + i.1)),i6 (W ((((D H).getD (⟨0,0,(⟨0,false⟩:aB)⟩:aA)).many) + 1)),i6 xv.way,.bool xv.back] 168::.box q [i6 xv.way,.bool xv.back] 158::.box b_ [.slice M d.ways.all.length I,i6 d.ways.outside,i6 d.reaches] 78::.box n [i6 (((D H).getD (⟨0,0,(⟨0,false⟩:aB)⟩:aA)).cost),i6 (((D H).getD (⟨0,0,(⟨0,false⟩:aB)⟩:aA)).many),i6 ((((D H).getD (⟨0,0,(⟨0,false⟩:aB)⟩:aA)).by_).way),.bool ((((D H).getD (⟨0,0,(⟨0,false⟩:aB)⟩:aA)).by_).back)] 168::.box bq [.bool true] 4::.box Y [.func (.func 66) #[pq b_] #[]] 160::.box Z [.map (some mb)] 165::.im mb (fun j=>((gQ (gQ B p ((B p).getD (⟨0,0,(⟨0,false⟩:aB)⟩:aA))) p (⟨W ((((D H).getD (⟨0,0,(⟨0,false⟩:aB)⟩:aA)).cost) + i.1),W ((((D H).getD (⟨0,0,(⟨0,false⟩:aB)⟩:aA)).many) + 1),xv⟩:aA)) j).map (fun xq:aA=>.agg #[i6 xq.cost,i6 xq.many,i6 xq.by_.way,.bool xq.by_.back])) none::.box V [.func (.func 65) #[] #[pq R,pq U]] 163::.box X [pq b_] 71::.box R [pq b_] 71::.box U [i6 r] 3::Lb) w) aT (by kernel_rfl) (by kernel_rfl) (dL.of hf ⟨rfl,rfl,rfl,rfl,rfl,rfl,rfl,rfl,rfl,rfl,trivial,trivial,trivial,trivial,trivial,trivial,trivial,trivial⟩) hc ⟨?_,?_,?_,?_,?_,?_,?_,?_,?_,trivial⟩ ?_ ?_
       ·intro E θ a w hD hi hp he hc
        have hf:=he.h0.mT he 2 rfl
        refine zL hf hc wT m7 rfl fun a w hf hc=>zD θ he hi hf 10 rfl rfl rfl hc
       ·intro E θ a w hD hi hp he hc
        have hf:=he.h0.mT he 0 rfl
        refine zL hf hc nT m10 rfl fun a w hf hc=>zD θ he hi hf 11 rfl rfl rfl hc
       ·intro E θ a w hD hi hp he hc
        have hf:=he.h0.mT he 6 rfl
        refine zN hf hc kQ m2 rfl fun a w hf hc=>zD θ he hi hf 12 rfl rfl rfl hc
       ·intro E θ a w hD hi hp he hc
        have e1:=hp.o 1 rfl
        have e2:=hp.o 2 rfl
        have hf:=(he.h0.mP he 11 rfl e1).mP he 12 rfl e2
        refine zQ (v:=i6 p) hf hc aCt rfl (fun w hc=>(gG d xv g (hc.pick k3) a6).mono fun e w h=>⟨h.1,(h.2.unpick k3)⟩) fun a w hf hc=>zD θ he hi hf 13 rfl rfl rfl hc
       ·intro E θ a w hD hi hp he hc
        have hf:=he.h0.mT he 7 rfl
        refine zN hf hc aId m1 rfl fun a w hf hc=>zD θ he hi hf 14 rfl rfl rfl hc
       ·intro E θ a w hD hi hp he hc
        have e0:=hp.o 0 rfl
        have e3:=hp.o 3 rfl
        have e7:=hD.f 0 rfl hi
        have e6:=hD.f 1 rfl hi
        try dsimp only at hc
        rw [hi,e7] at hc
        have hf:=(he.h0.mP he 10 rfl e0).mP he 13 rfl e3
        refine stME (enc:=(fun xq:aA=>.agg #[i6 xq.cost,i6 xq.many,i6 xq.by_.way,.bool xq.by_.back])) (z0:=(⟨0,0,(⟨0,false⟩:aB)⟩:aA)) (m:=B) hf hc rfl rfl Tryz.underlying165 Tryz.underlying3 nB rfl rfl (fun _=>u8) fun bd a w hf hc=>aQ ?_
        refine bV ?_
        intro ds u aq
        refine ⟨(hZ θ 40 ⟨0,none,bd,(fun _=>(none,0))⟩),he.put hi aq hf rfl [6] ⟨⟨e6,rfl⟩,trivial⟩ ⟨qq,qq,qq,qq,qq,qq,qq,qq,qq,qq,qq,qq,qq,qq,qq,qq,trivial,trivial⟩,?_⟩
        try dsimp only
        rw [aN E 5,aS 5 e7 rfl]
        exact hc
       ·intro E θ a w hD hi hp he hc
        have e5:=hp.o 5 rfl
        have hf:=he.h0.mP he 15 rfl e5
        refine sp 1 hf rfl fun a hf=>zD θ he hi hf 16 rfl rfl rfl hc
       ·intro E θ a w hD hi hp he hc
        have e0:=hp.o 0 rfl
        have e4:=hp.o 4 rfl
        have e6:=hp.o 6 rfl
        have e5:=hp.o 5 rfl
        try dsimp only at hc
        rw [e5,hi] at hc
        have hf:=((he.h0.mP he 10 rfl e0).mP he 14 rfl e4).mP he 16 rfl e6
        refine stES (enc:=(fun xq:aA=>.agg #[i6 xq.cost,i6 xq.many,i6 xq.by_.way,.bool xq.by_.back])) (m:=(gQ B p ((B p).getD (⟨0,0,(⟨0,false⟩:aB)⟩:aA)))) (v:=(⟨W ((((D H).getD (⟨0,0,(⟨0,false⟩:aB)⟩:aA)).cost) + i.1),W ((((D H).getD (⟨0,0,(⟨0,false⟩:aB)⟩:aA)).many) + 1),xv⟩:aA)) hf hc rfl rfl rfl rfl u8 fun w hc=>zG θ he hi hf rfl ?_
        try dsimp only
        rw [cB 7 e5,aN E 7]
        exact hc
       ·intro E θ a w hD hi hp he hc
        try dsimp only at hc
        rw [hi] at hc
        have hf:=he.h0.mT he 4 rfl
        refine zW hf hc aBv u5 rfl fun w hc=>zG θ he hi hf rfl ?_
        try dsimp only
        rw [aN E 8]
        exact hc
       ·intro E θ a w y he hc
        have hf:=he.h0
        have e5:=y 5 rfl
        have e7:=y 7 rfl
        have e8:=y 8 rfl
        replace hf:=hf.more he 9 rfl (onT)
        replace hf:=hf.more he 8 rfl (onT)
        replace hf:=hf.more he 5 rfl (onT)
        replace hf:=hf.more he 4 rfl (onT)
        replace hf:=hf.more he 3 rfl (onT)
        replace hf:=hf.more he 2 rfl (onT)
        replace hf:=hf.more he 1 rfl (onT)
        replace hf:=hf.more he 0 rfl (onT)
        try dsimp only at hc
        rw [e5,e7,e8] at hc
        exact ⟨hf.kp rfl,hc⟩
       rintro a w ⟨hf,hc⟩
       refine ar _ _ ?_
       replace hc:=((hc.drop k2).drop k1).drop k0
       exact ⟨(true,(gQ (gQ B p ((B p).getD (⟨0,0,(⟨0,false⟩:aB)⟩:aA))) p (⟨W ((((D H).getD (⟨0,0,(⟨0,false⟩:aB)⟩:aA)).cost) + i.1),W ((((D H).getD (⟨0,0,(⟨0,false⟩:aB)⟩:aA)).many) + 1),xv⟩:aA))),_,(sj hF).symm,rfl,hc⟩
      ·replace hF:=nU hb hF
       clear hb
       refine aC4 ?_
       refine ar _ _ ?_
       replace hc:=((hc.drop k2).drop k1).drop k0
       exact ⟨(k,B),_,(sj hF).symm,rfl,hc⟩
    ·rintro D_1 ⟨k,B⟩ _ a w au rfl hf hc
     replace hf:Has ⟨108,lK (D_1::Ds_1)⟩ a [(3,pq X),(5,pq V),(7,pq Z),(8,pq Y),(9,pq bq),(11,pq n),(31,i6 (W (d.ways.outside + 2))),(32,i6 H)]:=hf.kp rfl
     replace hc:Ctx G (.box ad [pq b_] 71::.box ac [i6 ab] 3::.box b_ [.slice M d.ways.all.length I,i6 d.ways.outside,i6 d.reaches] 78::.box n [i6 (((D H).getD (⟨0,0,(⟨0,false⟩:aB)⟩:aA)).cost),i6 (((D H).getD (⟨0,0,(⟨0,false⟩:aB)⟩:aA)).many),i6 ((((D H).getD (⟨0,0,(⟨0,false⟩:aB)⟩:aA)).by_).way),.bool ((((D H).getD (⟨0,0,(⟨0,false⟩:aB)⟩:aA)).by_).back)] 168::.box bq [.bool k] 4::.box Y [.func (.func 66) #[pq b_] #[]] 160::.box Z [.map (some mb)] 165::.im mb (fun j=>(B j).map (fun xq:aA=>.agg #[i6 xq.cost,i6 xq.many,i6 xq.by_.way,.bool xq.by_.back])) none::.box V [.func (.func 65) #[] #[pq R,pq U]] 163::.box X [pq b_] 71::.box R [pq b_] 71::.box U [i6 r] 3::(nI (D_1::Ds_1)++Lf)) w:=pK (C:=[.box ad [pq b_] 71,.box ac [i6 ab] 3]) (L:=[.box b_ [.slice M d.ways.all.length I,i6 d.ways.outside,i6 d.reaches] 78,.box n [i6 (((D H).getD (⟨0,0,(⟨0,false⟩:aB)⟩:aA)).cost),i6 (((D H).getD (⟨0,0,(⟨0,false⟩:aB)⟩:aA)).many),i6 ((((D H).getD (⟨0,0,(⟨0,false⟩:aB)⟩:aA)).by_).way),.bool ((((D H).getD (⟨0,0,(⟨0,false⟩:aB)⟩:aA)).by_).back)] 168,.box bq [.bool k] 4,.box Y [.func (.func 66) #[pq b_] #[]] 160,.box Z [.map (some mb)] 165,.im mb (fun j=>(B j).map (fun xq:aA=>.agg #[i6 xq.cost,i6 xq.many,i6 xq.by_.way,.bool xq.by_.back])) none,.box V [.func (.func 65) #[] #[pq R,pq U]] 163,.box X [pq b_] 71,.box R [pq b_] 71,.box U [i6 r] 3]) hc
     replace hF:(fR N H k B)=some aj:=by rcases au with rfl | rfl <;> exact hF
     replace hc:=(((((((((hc.drop k3).drop k1).drop k0).pick k0).pick k6).pick k6).pick k6).pick k6).pick k6).pick k6
     exact an k B (D_1::Ds_1) _ _  (hf.kp rfl) hc hF
    ·rintro D_1 ⟨k,B⟩ _ a w au rfl hf hc
     replace hf:Has ⟨108,lK (D_1::Ds_1)⟩ a [(3,pq X),(5,pq V),(7,pq Z),(8,pq Y),(9,pq bq),(11,pq n),(31,i6 (W (d.ways.outside + 2))),(32,i6 H)]:=hf.kp rfl
     replace hc:Ctx G (.box ad [pq b_] 71::.box ac [i6 ab] 3::.box b_ [.slice M d.ways.all.length I,i6 d.ways.outside,i6 d.reaches] 78::.box n [i6 (((D H).getD (⟨0,0,(⟨0,false⟩:aB)⟩:aA)).cost),i6 (((D H).getD (⟨0,0,(⟨0,false⟩:aB)⟩:aA)).many),i6 ((((D H).getD (⟨0,0,(⟨0,false⟩:aB)⟩:aA)).by_).way),.bool ((((D H).getD (⟨0,0,(⟨0,false⟩:aB)⟩:aA)).by_).back)] 168::.box bq [.bool k] 4::.box Y [.func (.func 66) #[pq b_] #[]] 160::.box Z [.map (some mb)] 165::.im mb (fun j=>(B j).map (fun xq:aA=>.agg #[i6 xq.cost,i6 xq.many,i6 xq.by_.way,.bool xq.by_.back])) none::.box V [.func (.func 65) #[] #[pq R,pq U]] 163::.box X [pq b_] 71::.box R [pq b_] 71::.box U [i6 r] 3::(nI (D_1::Ds_1)++Lf)) w:=pK (C:=[.box ad [pq b_] 71,.box ac [i6 ab] 3]) (L:=[.box b_ [.slice M d.ways.all.length I,i6 d.ways.outside,i6 d.reaches] 78,.box n [i6 (((D H).getD (⟨0,0,(⟨0,false⟩:aB)⟩:aA)).cost),i6 (((D H).getD (⟨0,0,(⟨0,false⟩:aB)⟩:aA)).many),i6 ((((D H).getD (⟨0,0,(⟨0,false⟩:aB)⟩:aA)).by_).way),.bool ((((D H).getD (⟨0,0,(⟨0,false⟩:aB)⟩:aA)).by_).back)] 168,.box bq [.bool k] 4,.box Y [.func (.func 66) #[pq b_] #[]] 160,.box Z [.map (some mb)] 165,.im mb (fun j=>(B j).map (fun xq:aA=>.agg #[i6 xq.cost,i6 xq.many,i6 xq.by_.way,.bool xq.by_.back])) none,.box V [.func (.func 65) #[] #[pq R,pq U]] 163,.box X [pq b_] 71,.box R [pq b_] 71,.box U [i6 r] 3]) hc
     replace hF:(none)=some aj:=by subst au; exact hF
     cases hF
  ·refine wp_exit ?_
   refine bI ?_
   refine bI ?_
   have he:=sj hF
   rw [← he] at ai
   refine fB ?_
   exact a0 _ _ _ ai ⟨Ds_1,hf.kp rfl,hc⟩
 ·refine wp_exit ?_
  refine bI ?_
  refine bI ?_
  have he:=sj hF
  rw [← he] at ak
  refine fB ?_
  exact bn _ _ _ ak ⟨bq,Ds,hf.kp rfl,hc⟩

end Go.Nilo
