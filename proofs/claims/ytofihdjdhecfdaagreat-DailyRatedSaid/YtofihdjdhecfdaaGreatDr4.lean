/-
 What functions of the Go text compute, as plain functions, and that they do, part 4 of 4. Conditions: what each theorem names.
-/
import Derived.Test.YtofihdjdhecfdaaGreatDr3
import Derived.Test.YtofihdjdhecfdaaGreatProg
set_option linter.unusedVariables false
set_option linter.unusedSimpArgs false
set_option maxRecDepth 100000
set_option maxHeartbeats 4000000
namespace Go.Nilo
open Go.Proofs


def dI (N:Nat) (D:List Int) (I:(List aA) × Int) (B:Int):Option (cY (Int) (Bool)) :=
 cond (decide (B < ((D.length:Nat):Int)))
 (Option.bind (bG D B) fun H=>
 Option.bind (bG I.1 B) fun M=>
 Option.bind (cond (decide (H < M.Lo)) (some true) (Option.bind (bG I.1 B) fun O=>
 some (decide (O.Hi < H)))) fun J=>
 cond J
 (some (.ret false))
 (some (.cont (W (B + 1)))))
 (some (.brk B))
def dJ (N:Nat) (H:List Int) (day:Int) (O:List aK) (J:Int × Int × Int) (B:eE × Int) (M:aA × Int) (S:Int) (R:Int):Option (cY ((List Int) × Int × Int × Int × Int × Int × (List aK)) (Bool)) :=
 Option.bind (pG ((H++[W (B.1.N.tdiv B.1.D)])).length) fun V=>
 Option.bind (mM N M.1.Lo M.1.Hi) fun I=>
 Option.bind (pG ((O++[I])).length) fun U=>
 some (.cont ((H++[W (B.1.N.tdiv B.1.D)]),W (day + 1),J.2.1,J.2.2,S,R,(O++[I])))
def cS (N:Nat) (D:aH × (List Int) × Int × Int) (day:Int) (B:Int):Option (cY (Int) (cY ((List Int) × Int × Int × Int × Int × Int × (List aK)) (Bool))) :=
 Option.bind (cond (decide ((W (B + 1)) < ((D.1.Gaugings.length:Nat):Int))) (Option.bind (bG D.1.Gaugings (W (B + 1))) fun H=>
 some (decide (H.Day≤day))) (some false)) fun I=>
 cond I
 (some (.cont (W (B + 1))))
 (some (.brk B))
def cO (N:Nat) (O:List Int) (M:aH × (List Int) × Int × Int) (i:Int × Int) (Z:aI) (H:List Int) (day:Int) (x:Int) (X:Int) (U:Int) (S:Int) (V:List aK):Option (cY ((List Int) × Int × Int × Int × Int × Int × (List aK)) (Bool)) :=
 cond ((decide (day≤Z.Day)) && (decide (((H.length:Nat):Int) < 60)))
 (Option.bind (bE (fun R=>cS N M day R) N 0) fun g=>
 exK g (fun R=>Option.bind (aZ N (⟨O,x,X⟩:bC) (-20) 120) fun J=>
 Option.bind (bG M.2.1 R) fun d=>
 Option.bind (jB N M.1.Rating J.1 d) fun B=>
 Option.bind (kT N M.1 (min i.1 18000) day J.1) fun I=>
 cond (((((B.2 != 0) || (I.2 != 0)) || (decide (B.1.D < 1))) || (decide (B.1.N < (W (I.1.Lo * B.1.D))))) || (decide ((W (I.1.Hi * B.1.D)) < B.1.N)))
 (some (.ret false))
 (Option.bind (nz B.1.D) fun un=>
 cond (decide (0 < ((H.length:Nat):Int)))
 (Option.bind (bG H (W (((H.length:Nat):Int) - 1))) fun Y=>
 Option.bind (bG H (W (((H.length:Nat):Int) - 1))) fun b=>
 dJ N H day V J B I (max U (W ((W (B.1.N.tdiv B.1.D)) - Y))) (max S (W (b - (W (B.1.N.tdiv B.1.D))))))
 (dJ N H day V J B I U S))) some)
 (some (.brk (H,day,x,X,U,S,V)))
def lO (N:Nat) (H:List Int) (I:List Int):Option (Bool) :=
 Option.bind (aAa N H) fun r=>
 Option.bind (lM N (⟨H,r.1,r.2⟩:bC) 5) fun D=>
 Option.bind (aAa N I) fun U=>
 Option.bind (mO N D.1) fun R=>
 Option.bind (mR N D.1 D.2.1) fun O=>
 cond (((R.2.2 != 0) || (O.2 != 0)) || (decide (O.1 < R.2.1)))
 (some false)
 (Option.bind (bG D.1.Gaugings (W (((D.1.Gaugings.length:Nat):Int) - 1))) fun g=>
 Option.bind (bG D.1.Gaugings 0) fun i=>
 Option.bind (bE (fun B=>cO N I D O g B.1 B.2.1 B.2.2.1 B.2.2.2.1 B.2.2.2.2.1 B.2.2.2.2.2.1 B.2.2.2.2.2.2) N (([]:List Int),i.Day,U.1,U.2,0,0,([]:List aK))) fun Z=>
 exK Z (fun B=>Option.bind (nX N (⟨B.2.2.2.2.1,B.2.2.2.2.2.1,B.2.2.2.2.2.2⟩:aF)) fun J=>
 Option.bind (iW N (⟨B.2.2.2.2.1,B.2.2.2.2.2.1,B.2.2.2.2.2.2⟩:aF) 0 (W (((B.1.length:Nat):Int) - 1))) fun M=>
 Option.bind (mL N (⟨B.2.2.2.2.1,B.2.2.2.2.2.1,B.2.2.2.2.2.2⟩:aF) B.1) fun V=>
 cond (((((J.2 != 0) || (M.2 != 0)) || (V.2 != 0)) || (V.1 != (-1))) || (((J.1.length:Nat):Int) != ((B.1.length:Nat):Int)))
 (some false)
 (Option.bind (bE (fun S=>dI N B.1 J S) N 0) fun b=>
 exK b (fun S=>Option.bind (oY N B.1) fun X=>
 Option.bind (cond ((decide (M.1.Lo≤X)) && (decide (X≤M.1.Hi))) (Option.bind (mQ N) fun Y=>
 some Y) (some false)) fun d=>
 some d) some)) some)
theorem vU {N:Nat} {G:aS} {Lf:List Ent} {w:World} (au:List Int) (k:List Int) {bc:Option Addr} {bf:Nat} {V:Option Addr} {U:Nat} (bd:Rd G 1 bc bf (au.map qC)) (bk:Rd G 1 V U (k.map qC)) (hc:Ctx G (Lf) w) {b7:Bool} (hF:lO N au k=some b7):Calls Tryz.prog 3 #[.slice bc au.length bf,.slice V k.length U] w (fun e w=>e=.returned (.bool b7)∧Ctx G (Lf) w):=by
 unfold lO at hF
 refine cB Tryz.func3 rfl Tryz.ntmps3 rfl fun a hf=>zS fun K h=>sp 1 hf rfl fun a hf=>zT h ?_
 refine zS fun K h=>sp 1 hf rfl fun a hf=>?_
 obtain ⟨r,hr,hF⟩:=aB hF
 refine zC hf en_5 rfl (aA6 au bd hc hr) ?_
 rintro _ w ⟨i5,rfl,hc⟩
 refine ⟨_,rfl,fun a hf=>?_⟩
 obtain ⟨I,dk,hF⟩:=aB hF
 refine zC hf en_4 rfl (zZ (⟨au,r.1,r.2⟩:bC) 5 bd (hc.pick k0) dk) ?_
 rintro _ w ⟨aj,ai,ja,ag,ck,cn,rfl,hc⟩
 refine ⟨_,rfl,fun a hf=>?_⟩
 refine sp 3 hf rfl fun a hf=>zA hf hc aJa rfl fun m a w hf hc=>zW hf hc aJb u0 rfl fun w hc=>sp 1 hf rfl fun a hf=>zT h ?_
 refine zS fun K h=>sp 1 hf rfl fun a hf=>?_
 obtain ⟨cz,gk,hF⟩:=aB hF
 refine zC hf en_5 rfl (aA6 k bk hc gk) ?_
 rintro _ w ⟨s,rfl,hc⟩
 refine ⟨_,rfl,fun a hf=>?_⟩
 refine sp 1 hf rfl fun a hf=>zT h ?_
 refine zS fun K h=>zN hf hc vY m1 rfl fun a w hf hc=>?_
 obtain ⟨am,d7,hF⟩:=aB hF
 obtain ⟨G1,a5,ac,hc,ad⟩:=lend hc k2
 obtain ⟨G2,a3,a6,hc,a4⟩:=lend hc k2
 refine zC hf en_6 rfl (aAt I.1 (ac.mono a3) a6 hc d7) ?_
 rintro _ w ⟨i3,i9,rfl,hc⟩
 refine ⟨_,rfl,fun a hf=>?_⟩
 replace hc:=a4 _ _ hc
 replace hc:=ad _ _ hc
 refine sp 7 hf rfl fun a hf=>zT h ?_
 refine zS fun K h=>zN hf hc vY m4 rfl fun a w hf hc=>sp 1 hf rfl fun a hf=>?_
 obtain ⟨n,d4,hF⟩:=aB hF
 refine zQ (v:=.tuple #[i6 n.1,i6 n.2]) hf hc en_7 rfl (fun w hc=>by obtain ⟨G1,a5,ac,hc,ad⟩:=lend hc k0; obtain ⟨G2,a3,a6,hc,a4⟩:=lend hc k0; obtain ⟨G3,ci,gi,hc,c4⟩:=lend hc k3; exact (aA8 I.1 I.2.1 ((ac.mono a3).mono ci) (a6.mono ci) gi hc d4).mono fun e w h=>⟨h.1,((ad _ _ ((a4 _ _ ((c4 _ _ h.2).unpick k3)).unpick k0)).unpick k0)⟩) fun a w hf hc=>sp 5 hf rfl fun a hf=>zT h ?_
 refine wp_seq_k fun K6 h6=>zS fun K h=>sp 3 hf rfl fun a hf=>hY 3 (fun a=>Has 282 a [(5,pq m),(6,.slice ck I.2.1.length cn),(7,pq s),(9,i6 am.2.1),(10,i6 am.2.2),(11,i6 n.1),(12,i6 n.2),(51,i6 am.2.2),(52,.bool (am.2.2 != 0)),(53,.bool (am.2.2 != 0)),(56,.bool ((am.2.2 != 0) || (n.2 != 0)))]) hc ?_ ?_
 ·cases hb:(am.2.2 != 0)
  ·rw [hb] at hf
   refine sp 3 hf rfl fun a hf=>aP ⟨hf.kp rfl,hc⟩
  ·rw [hb] at hf
   refine stS hf rfl rfl rfl fun a hf=>stS hf rfl rfl rfl fun a hf=>sp 1 hf rfl fun a hf=>aP ⟨hf.kp rfl,hc⟩
 intro a w ⟨hf,hc⟩
 refine sp 1 hf rfl fun a hf=>hY 4 (fun a=>Has 282 a [(5,pq m),(6,.slice ck I.2.1.length cn),(7,pq s),(9,i6 am.2.1),(10,i6 am.2.2),(11,i6 n.1),(12,i6 n.2),(51,i6 am.2.2),(52,.bool (am.2.2 != 0)),(53,.bool (am.2.2 != 0)),(56,.bool ((am.2.2 != 0) || (n.2 != 0))),(57,.bool ((am.2.2 != 0) || (n.2 != 0))),(61,.bool (((am.2.2 != 0) || (n.2 != 0)) || (decide (n.1 < am.2.1))))]) hc ?_ ?_
 ·cases hb:((am.2.2 != 0) || (n.2 != 0))
  ·rw [hb] at hf
   refine sp 4 hf rfl fun a hf=>aP ⟨hf.kp rfl,hc⟩
  ·rw [hb] at hf
   refine stS hf rfl rfl rfl fun a hf=>stS hf rfl rfl rfl fun a hf=>stS hf rfl rfl rfl fun a hf=>sp 1 hf rfl fun a hf=>aP ⟨hf.kp rfl,hc⟩
 intro a w ⟨hf,hc⟩
 refine zT h ?_
 refine zI hf rfl hF ?_ ?_ <;> clear hF <;> intro hF
 ·refine zS fun K h=>sp 1 hf rfl fun a hf=>zT h ?_
  refine wp_ret ?_
  refine aO ?_
  obtain rfl:=sj hF
  replace hc:=((((((hc.drop k6).drop k5).drop k4).drop k3).drop k2).drop k1).drop k0
  exact zO1 Tryz.results3 hf rfl ⟨rfl,hc⟩
 ·refine wp_skip ?_
  refine h6 _ _ ?_
  refine zS fun K h=>zA hf hc aKv rfl fun R a w hf hc=>zT h ?_
  refine zS fun K h=>sp 1 hf rfl fun a hf=>zT h ?_
  refine zS fun K h=>zP hf rfl (pFA jQ rfl) fun a hf=>zL hf hc qK m5 rfl fun a w hf hc=>zP hf rfl (pFA jQ rfl) fun a hf=>zL hf hc qK m5 rfl fun a w hf hc=>zP hf rfl (bM Tryz.underlying24 rfl) fun a hf=>sp 1 hf rfl fun a hf=>?_
  obtain ⟨af,gg,hF⟩:=aB hF
  obtain ⟨g,rfl,qa,qr⟩:=gH hc m2 gg
  refine zP hf rfl (pIA Tryz.underlying24 rK rfl rfl qa) fun a hf=>zP hf rfl (pFA oP rfl) fun a hf=>zE hf hc rfl (cE aU rfl (dA (sz:=4) (i:=(W (((I.1.Gaugings.length:Nat):Int) - 1)).toNat) (j:=0) m2 qr rfl)) fun a w hf hc=>sp 1 hf rfl fun a hf=>zT h ?_
  refine wp_seq_k fun K12 gq=>zS fun K h=>zP hf rfl (pFA jQ rfl) fun a hf=>zL hf hc qK m5 rfl fun a w hf hc=>?_
  obtain ⟨g3,c2,hF⟩:=aB hF
  obtain ⟨c9,d0⟩:=kD hc m2 c2
  refine zP hf rfl (pIA Tryz.underlying24 rK rfl rfl c9) fun a hf=>zP hf rfl (pFA oP rfl) fun a hf=>zE hf hc rfl (cE aU rfl (dA (sz:=4) (i:=(0:Int).toNat) (j:=0) m2 d0 rfl)) fun a w hf hc=>sp 1 hf rfl fun a hf=>zT h ?_
  refine wp_block ?_
  obtain ⟨cd,gn,hF⟩:=aB hF
  let S14:((List Int) × Int × Int × Int × Int × Int × (List aK))→Act→World→Prop:=(fun (zz:(List Int) × Int × Int × Int × Int × Int × (List aK)) a w=>∃ (bb:Option Addr) (Z:Nat) (y:Option Addr) (X:Nat) (aa:Option Addr) (z:Nat),Has 282 a [(5,pq m),(6,.slice bb I.2.1.length Z),(7,pq s),(11,i6 n.1),(13,pq R),(14,.slice y zz.1.length X),(15,i6 af.Day),(16,i6 zz.2.1)]∧Ctx G (.row aa z (zz.2.2.2.2.2.2.map aJ) 52 3::.row y X (zz.1.map aD) 3 1::.box R [i6 zz.2.2.2.2.1,i6 zz.2.2.2.2.2.1,.slice aa zz.2.2.2.2.2.2.length z] 39::.row aj ai (I.1.Rating.map aW) 65 2::.row (some ⟨g,0,none⟩) ag (I.1.Gaugings.map aX) 43 4::.box s [.slice V k.length U,i6 zz.2.2.1,i6 zz.2.2.2.1] 68::.box m [.slice aj I.1.Rating.length ai,.slice (some ⟨g,0,none⟩) I.1.Gaugings.length ag] 26::.row bb Z (I.2.1.map aD) 3 1::Lf) w)
  have d9:∀ (zz:(List Int) × Int × Int × Int × Int × Int × (List aK)) a w,cd=.go zz→S14 zz a w→K12 a w:=by
   rintro ⟨H,day,x,cm,aq,ap,d⟩ a w rfl ⟨bb,Z,y,X,aa,z,hf,hc⟩
   replace hF:=bW hF
   refine gq _ _ ?_
   refine wp_seq_k fun K15 g9=>dE ?_
   refine zN hf hc qQ m2 rfl fun a w hf hc=>?_
   obtain ⟨M,dx,hF⟩:=aB hF
   obtain ⟨G1,a5,ac,hc,ad⟩:=lend hc k0
   refine zC hf aJ9 rfl (vW (⟨aq,ap,d⟩:aF) ac hc dx) ?_
   rintro _ w ⟨b1,b4,rfl,hc⟩
   refine ⟨_,rfl,fun a hf=>?_⟩
   replace hc:=ad _ _ hc
   refine sp 5 hf rfl fun a hf=>aP ?_
   replace hc:=((((hc.drop k8).drop k7).drop k6).drop k5).drop k4
   refine g9 _ _ ?_
   refine zS fun K h=>zN hf hc qQ m3 rfl fun a w hf hc=>sp 1 hf rfl fun a hf=>zP hf rfl (bM Tryz.underlying27 rfl) fun a hf=>sp 1 hf rfl fun a hf=>?_
   obtain ⟨O,dc,hF⟩:=aB hF
   refine zQ (v:=.tuple #[.agg #[i6 O.1.Lo,i6 O.1.Hi],i6 O.2]) hf hc aLa rfl (fun w hc=>by obtain ⟨G1,a5,ac,hc,ad⟩:=lend hc k0; exact (tN (⟨aq,ap,d⟩:aF) 0 (W (((H.length:Nat):Int) - 1)) ac hc dc).mono fun e w h=>⟨h.1,((ad _ _ h.2).unpick k0)⟩) fun a w hf hc=>sp 3 hf rfl fun a hf=>zA hf hc kX rfl fun ay a w hf hc=>zW hf hc cA u0 rfl fun w hc=>sp 1 hf rfl fun a hf=>zT h ?_
   refine zS fun K h=>zN hf hc qQ m4 rfl fun a w hf hc=>sp 1 hf rfl fun a hf=>?_
   obtain ⟨q,dq,hF⟩:=aB hF
   refine zQ (v:=.tuple #[i6 q.1,i6 q.2]) hf hc en_14 rfl (fun w hc=>by obtain ⟨G1,a5,ac,hc,ad⟩:=lend hc k1; obtain ⟨G2,a3,a6,hc,a4⟩:=lend hc k2; exact (aA2 (⟨aq,ap,d⟩:aF) H (ac.mono a3) a6 hc dq).mono fun e w h=>⟨h.1,((ad _ _ ((a4 _ _ h.2).unpick k2)).unpick k1)⟩) fun a w hf hc=>sp 5 hf rfl fun a hf=>zT h ?_
   refine wp_seq_k fun K18 gs=>zS fun K h=>sp 3 hf rfl fun a hf=>hY 3 (fun a=>Has 282 a [(14,.slice y H.length X),(25,.slice b1 M.1.length b4),(10,i6 M.2),(26,pq ay),(12,i6 O.2),(27,i6 q.1),(28,i6 q.2),(222,i6 M.2),(223,.bool (M.2 != 0)),(224,.bool (M.2 != 0)),(227,.bool ((M.2 != 0) || (O.2 != 0)))]) hc ?_ ?_
   ·cases hb:(M.2 != 0)
    ·rw [hb] at hf
     refine sp 3 hf rfl fun a hf=>aP ⟨hf.kp rfl,hc⟩
    ·rw [hb] at hf
     refine stS hf rfl rfl rfl fun a hf=>stS hf rfl rfl rfl fun a hf=>sp 1 hf rfl fun a hf=>aP ⟨hf.kp rfl,hc⟩
   intro a w ⟨hf,hc⟩
   refine sp 1 hf rfl fun a hf=>hY 3 (fun a=>Has 282 a [(14,.slice y H.length X),(25,.slice b1 M.1.length b4),(10,i6 M.2),(26,pq ay),(12,i6 O.2),(27,i6 q.1),(28,i6 q.2),(222,i6 M.2),(223,.bool (M.2 != 0)),(224,.bool (M.2 != 0)),(227,.bool ((M.2 != 0) || (O.2 != 0))),(228,.bool ((M.2 != 0) || (O.2 != 0))),(231,.bool (((M.2 != 0) || (O.2 != 0)) || (q.2 != 0)))]) hc ?_ ?_
   ·cases hb:((M.2 != 0) || (O.2 != 0))
    ·rw [hb] at hf
     refine sp 3 hf rfl fun a hf=>aP ⟨hf.kp rfl,hc⟩
    ·rw [hb] at hf
     refine stS hf rfl rfl rfl fun a hf=>stS hf rfl rfl rfl fun a hf=>sp 1 hf rfl fun a hf=>aP ⟨hf.kp rfl,hc⟩
   intro a w ⟨hf,hc⟩
   refine sp 1 hf rfl fun a hf=>hY 3 (fun a=>Has 282 a [(14,.slice y H.length X),(25,.slice b1 M.1.length b4),(10,i6 M.2),(26,pq ay),(12,i6 O.2),(27,i6 q.1),(28,i6 q.2),(222,i6 M.2),(223,.bool (M.2 != 0)),(224,.bool (M.2 != 0)),(227,.bool ((M.2 != 0) || (O.2 != 0))),(228,.bool ((M.2 != 0) || (O.2 != 0))),(231,.bool (((M.2 != 0) || (O.2 != 0)) || (q.2 != 0))),(232,.bool (((M.2 != 0) || (O.2 != 0)) || (q.2 != 0))),(235,.bool ((((M.2 != 0) || (O.2 != 0)) || (q.2 != 0)) || (q.1 != (-1))))]) hc ?_ ?_
   ·cases hb:(((M.2 != 0) || (O.2 != 0)) || (q.2 != 0))
    ·rw [hb] at hf
     refine sp 3 hf rfl fun a hf=>aP ⟨hf.kp rfl,hc⟩
    ·rw [hb] at hf
     refine stS hf rfl rfl rfl fun a hf=>stS hf rfl rfl rfl fun a hf=>sp 1 hf rfl fun a hf=>aP ⟨hf.kp rfl,hc⟩
   intro a w ⟨hf,hc⟩
   refine sp 1 hf rfl fun a hf=>hY 6 (fun a=>Has 282 a [(14,.slice y H.length X),(25,.slice b1 M.1.length b4),(10,i6 M.2),(26,pq ay),(12,i6 O.2),(27,i6 q.1),(28,i6 q.2),(222,i6 M.2),(223,.bool (M.2 != 0)),(224,.bool (M.2 != 0)),(227,.bool ((M.2 != 0) || (O.2 != 0))),(228,.bool ((M.2 != 0) || (O.2 != 0))),(231,.bool (((M.2 != 0) || (O.2 != 0)) || (q.2 != 0))),(232,.bool (((M.2 != 0) || (O.2 != 0)) || (q.2 != 0))),(235,.bool ((((M.2 != 0) || (O.2 != 0)) || (q.2 != 0)) || (q.1 != (-1)))),(236,.bool ((((M.2 != 0) || (O.2 != 0)) || (q.2 != 0)) || (q.1 != (-1)))),(242,.bool (((((M.2 != 0) || (O.2 != 0)) || (q.2 != 0)) || (q.1 != (-1))) || (((M.1.length:Nat):Int) != ((H.length:Nat):Int))))]) hc ?_ ?_
   ·cases hb:((((M.2 != 0) || (O.2 != 0)) || (q.2 != 0)) || (q.1 != (-1)))
    ·rw [hb] at hf
     refine sp 1 hf rfl fun a hf=>zP hf rfl (bM Tryz.underlying54 rfl) fun a hf=>sp 1 hf rfl fun a hf=>zP hf rfl (bM Tryz.underlying27 rfl) fun a hf=>sp 2 hf rfl fun a hf=>aP ⟨hf.kp rfl,hc⟩
    ·rw [hb] at hf
     refine stS hf rfl rfl rfl fun a hf=>stS hf rfl rfl rfl fun a hf=>stS hf rfl rfl rfl fun a hf=>stS hf rfl rfl rfl fun a hf=>stS hf rfl rfl rfl fun a hf=>sp 1 hf rfl fun a hf=>aP ⟨hf.kp rfl,hc⟩
   intro a w ⟨hf,hc⟩
   refine zT h ?_
   refine zI hf rfl hF ?_ ?_ <;> clear hF <;> intro hF
   ·refine zS fun K h=>sp 1 hf rfl fun a hf=>zT h ?_
    refine wp_ret ?_
    refine aO ?_
    obtain rfl:=sj hF
    replace hc:=((((hc.drop k4).drop k3).drop k2).drop k1).drop k0
    exact zO1 Tryz.results3 hf rfl ⟨rfl,hc⟩
   ·refine wp_skip ?_
    refine gs _ _ ?_
    refine wp_seq_k fun K21 iq=>zS fun K h=>sp 1 hf rfl fun a hf=>zP hf rfl (bM Tryz.underlying27 rfl) fun a hf=>sp 1 hf rfl fun a hf=>zT h ?_
    refine wp_block ?_
    obtain ⟨ca,gp,hF⟩:=aB hF
    let S23:Int→Act→World→Prop:=(fun (zz:Int) a w=>∃ (bu:Option Addr) (a9:Nat) (bq:Option Addr) (az:Nat),Has 282 a [(14,.slice bu H.length a9),(25,.slice bq M.1.length az),(26,pq ay),(243,.slice bu H.length a9),(244,i6 ((H.length:Nat):Int)),(245,i6 zz)]∧Ctx G (.box ay [i6 O.1.Lo,i6 O.1.Hi] 41::.row bq az (M.1.map aC) 41 2::.row bu a9 (H.map aD) 3 1::Lf) w)
    have dn:∀ (zz:Int) a w,ca=.go zz→S23 zz a w→K21 a w:=by
     rintro a1 a w rfl ⟨bu,a9,bq,az,hf,hc⟩
     replace hF:=bW hF
     refine iq _ _ ?_
     refine zS fun K h=>sp 1 hf rfl fun a hf=>?_
     obtain ⟨ak,d3,hF⟩:=aB hF
     refine zQ (v:=i6 ak) hf hc en_15 rfl (fun w hc=>by obtain ⟨G1,a5,ac,hc,ad⟩:=lend hc k2; exact (aA0 H ac hc d3).mono fun e w h=>⟨h.1,((ad _ _ h.2).unpick k2)⟩) fun a w hf hc=>sp 1 hf rfl fun a hf=>zT h ?_
     refine zS fun K h=>sp 1 hf rfl fun a hf=>zP hf rfl (pFA dS rfl) fun a hf=>zL hf hc aU m0 rfl fun a w hf hc=>sp 2 hf rfl fun a hf=>hY 5 (fun a=>Has 282 a [(26,pq ay),(11,i6 ak),(269,i6 ak),(270,pq ay),(271,i6 O.1.Lo),(272,.bool (decide (O.1.Lo≤ak))),(273,.bool (decide (O.1.Lo≤ak))),(278,.bool ((decide (O.1.Lo≤ak)) && (decide (ak≤O.1.Hi))))]) hc ?_ ?_
     ·cases hb:(decide (O.1.Lo≤ak))
      ·rw [hb] at hf
       refine stS hf rfl rfl rfl fun a hf=>stS hf rfl rfl rfl fun a hf=>stS hf rfl rfl rfl fun a hf=>stS hf rfl rfl rfl fun a hf=>sp 1 hf rfl fun a hf=>aP ⟨hf.kp rfl,hc⟩
      ·rw [hb] at hf
       refine sp 1 hf rfl fun a hf=>zP hf rfl (pFA dC rfl) fun a hf=>zL hf hc aU m0 rfl fun a w hf hc=>sp 2 hf rfl fun a hf=>aP ⟨hf.kp rfl,hc⟩
     intro a w ⟨hf,hc⟩
     refine sp 1 hf rfl fun a hf=>?_
     obtain ⟨ir,cj,hF⟩:=aB hF
     refine hY 2 (fun a=>Has 282 a [(26,pq ay),(11,i6 ak),(269,i6 ak),(270,pq ay),(271,i6 O.1.Lo),(272,.bool (decide (O.1.Lo≤ak))),(273,.bool (decide (O.1.Lo≤ak))),(278,.bool ((decide (O.1.Lo≤ak)) && (decide (ak≤O.1.Hi)))),(279,.bool ((decide (O.1.Lo≤ak)) && (decide (ak≤O.1.Hi)))),(281,.bool ir)]) hc ?_ ?_
     ·cases hb:((decide (O.1.Lo≤ak)) && (decide (ak≤O.1.Hi)))
      ·rw [hb] at hf
       have hF:=nJ hb cj
       obtain rfl:=sj hF
       refine stS hf rfl rfl rfl fun a hf=>sp 1 hf rfl fun a hf=>aP ⟨hf.kp rfl,hc⟩
      ·rw [hb] at hf
       have hF:=lF hb cj
       obtain ⟨gy,df,hF⟩:=aB hF
       refine zQ (v:=.bool gy) hf hc en_16 rfl (fun w hc=>aBm hc df) fun a w hf hc=>sp 1 hf rfl fun a hf=>?_
       obtain rfl:=sj hF
       exact aP ⟨hf.kp rfl,hc⟩
     intro a w ⟨hf,hc⟩
     refine sp 1 hf rfl fun a hf=>zT h ?_
     refine wp_ret ?_
     obtain rfl:=sj hF
     replace hc:=((hc.drop k2).drop k1).drop k0
     exact zO1 Tryz.results3 hf rfl ⟨rfl,hc⟩
    have c6:∀ r,ca=.out r→r=b7:=by
     rintro r rfl
     exact sj hF
    replace hc:=(hc.drop k4).drop k1
    refine dO N (dH (S:=S23) (x:=ca) ?_ N 0 _ _ ⟨y,X,b1,b4,hf.kp rfl,hc⟩ gp)
    clear hF hf hc
    rintro a1 i1 a w KB23 ⟨bu,a9,bq,az,hf,hc⟩ hF a8 d2
    unfold dI at hF
    refine zS fun K h=>sp 1 hf rfl fun a hf=>zT h ?_
    refine wp_seq_k fun K27 g4=>zI hf rfl hF ?_ ?_ <;> clear hF <;> intro hF
    ·refine wp_skip ?_
     refine g4 _ _ ?_
     refine wp_seq_k fun K28 g1=>wp_block ?_
     refine zS fun K h=>sp 1 hf rfl fun a hf=>?_
     obtain ⟨b0,c7,hF⟩:=aB hF
     obtain ⟨cp,rfl,dv,dr⟩:=gH hc m2 c7
     refine zP hf rfl (pIA Tryz.underlying27 eL rfl rfl dv) fun a hf=>zE hf hc rfl (cE aU rfl (dA (sz:=1) (i:=a1.toNat) (j:=0) m2 dr rfl)) fun a w hf hc=>sp 2 hf rfl fun a hf=>zT h ?_
     refine zS fun K h=>sp 3 hf rfl fun a hf=>?_
     obtain ⟨b8,d1,hF⟩:=aB hF
     obtain ⟨b2,rfl,dt,du⟩:=gH hc m1 d1
     refine zP hf rfl (pIA Tryz.underlying54 cA rfl rfl dt) fun a hf=>zP hf rfl (pFA dS rfl) fun a hf=>zE hf hc rfl (cE aU rfl (dA (sz:=2) (i:=a1.toNat) (j:=0) m1 du rfl)) fun a w hf hc=>sp 2 hf rfl fun a hf=>?_
     obtain ⟨ib,b9,hF⟩:=aB hF
     refine hY 8 (fun a=>Has 282 a [(14,.slice (some ⟨cp,0,none⟩) H.length a9),(25,.slice (some ⟨b2,0,none⟩) M.1.length az),(26,pq ay),(243,.slice (some ⟨cp,0,none⟩) H.length a9),(244,i6 ((H.length:Nat):Int)),(245,i6 a1),(29,i6 a1),(30,i6 b0),(250,i6 b0),(251,.slice (some ⟨b2,0,none⟩) M.1.length az),(252,i6 a1),(253,.pointer (some ⟨b2,a1.toNat * 2,none⟩)),(254,.pointer (some ⟨b2,a1.toNat * 2 + 0,none⟩)),(255,i6 b8.Lo),(256,.bool (decide (b0 < b8.Lo))),(257,.bool (decide (b0 < b8.Lo))),(265,.bool ib)]) hc ?_ ?_
     ·cases hb:(decide (b0 < b8.Lo))
      ·rw [hb] at hf
       have hF:=nJ hb b9
       refine sp 3 hf rfl fun a hf=>?_
       obtain ⟨i7,dp,hF⟩:=aB hF
       obtain ⟨gb,dd⟩:=kD hc m1 dp
       refine zP hf rfl (pIA Tryz.underlying54 cA rfl rfl gb) fun a hf=>zP hf rfl (pFA dC rfl) fun a hf=>zE hf hc rfl (cE aU rfl (dA (sz:=2) (i:=a1.toNat) (j:=1) m1 dd rfl)) fun a w hf hc=>sp 2 hf rfl fun a hf=>?_
       obtain rfl:=sj hF
       exact aP ⟨hf.kp rfl,hc⟩
      ·rw [hb] at hf
       have hF:=lF hb b9
       obtain rfl:=sj hF
       refine stS hf rfl rfl rfl fun a hf=>stS hf rfl rfl rfl fun a hf=>stS hf rfl rfl rfl fun a hf=>stS hf rfl rfl rfl fun a hf=>stS hf rfl rfl rfl fun a hf=>stS hf rfl rfl rfl fun a hf=>stS hf rfl rfl rfl fun a hf=>sp 1 hf rfl fun a hf=>aP ⟨hf.kp rfl,hc⟩
     intro a w ⟨hf,hc⟩
     refine zT h ?_
     refine zI hf rfl hF ?_ ?_ <;> clear hF <;> intro hF
     ·refine zS fun K h=>sp 1 hf rfl fun a hf=>zT h ?_
      refine wp_ret ?_
      refine bU ?_
      refine aO ?_
      refine aO ?_
      have he:=sj hF
      rw [← he] at a8
      replace hF:=c6 _ a8
      refine bU ?_
      refine aO ?_
      obtain rfl:=hF
      replace hc:=((hc.drop k2).drop k1).drop k0
      exact zO1 Tryz.results3 hf rfl ⟨rfl,hc⟩
     ·refine wp_skip ?_
      refine g1 _ _ ?_
      refine dE ?_
      refine sp 2 hf rfl fun a hf=>aP ?_
      exact d2 (W (a1 + 1)) _ _ (sj hF).symm ⟨(some ⟨cp,0,none⟩),a9,(some ⟨b2,0,none⟩),az,hf.kp rfl,hc⟩
    ·refine wp_exit ?_
     refine aV ?_
     refine aV ?_
     have he:=sj hF
     rw [← he] at a8
     refine eW ?_
     exact dn _ _ _ a8 ⟨bu,a9,bq,az,hf.kp rfl,hc⟩
  have dz:∀ r,cd=.out r→r=b7:=by
   rintro r rfl
   exact sj hF
  replace hc:=hc.nilRow 3 1
  replace hc:=hc.nilRow 52 3
  replace hc:=(hc.drop k9).drop k5
  refine dO N (dH (S:=S14) (x:=cd) ?_ N (([]:List Int),g3.Day,cz.1,cz.2,0,0,([]:List aK)) _ _ ⟨ck,cn,none,0,none,0,hf.kp rfl,hc⟩ gn)
  clear hF hf hc
  rintro ⟨H,day,x,cm,aq,ap,d⟩ cc a w KB14 ⟨bb,Z,y,X,aa,z,hf,hc⟩ hF a7 gf
  unfold cO at hF
  refine wp_seq_k fun K32 iu=>zS fun K h=>sp 4 hf rfl fun a hf=>hY 4 (fun a=>Has 282 a [(5,pq m),(6,.slice bb I.2.1.length Z),(7,pq s),(11,i6 n.1),(13,pq R),(14,.slice y H.length X),(15,i6 af.Day),(16,i6 day),(76,i6 day),(77,i6 af.Day),(78,.bool (decide (day≤af.Day))),(79,.bool (decide (day≤af.Day))),(83,.bool ((decide (day≤af.Day)) && (decide (((H.length:Nat):Int) < 60))))]) hc ?_ ?_
  ·cases hb:(decide (day≤af.Day))
   ·rw [hb] at hf
    refine stS hf rfl rfl rfl fun a hf=>stS hf rfl rfl rfl fun a hf=>stS hf rfl rfl rfl fun a hf=>sp 1 hf rfl fun a hf=>aP ⟨hf.kp rfl,hc⟩
   ·rw [hb] at hf
    refine sp 1 hf rfl fun a hf=>zP hf rfl (bM Tryz.underlying27 rfl) fun a hf=>sp 2 hf rfl fun a hf=>aP ⟨hf.kp rfl,hc⟩
  intro a w ⟨hf,hc⟩
  refine zT h ?_
  refine zI hf rfl hF ?_ ?_ <;> clear hF <;> intro hF
  ·refine wp_skip ?_
   refine iu _ _ ?_
   refine wp_seq_k fun K34 ia=>wp_block ?_
   refine zS fun K h=>sp 1 hf rfl fun a hf=>zT h ?_
   refine wp_seq_k fun K36 g6=>wp_block ?_
   obtain ⟨cr,d5,hF⟩:=aB hF
   let S37:Int→Act→World→Prop:=(fun (zz:Int) a w=>Has 282 a [(5,pq m),(6,.slice bb I.2.1.length Z),(7,pq s),(11,i6 n.1),(13,pq R),(14,.slice y H.length X),(15,i6 af.Day),(16,i6 day),(17,i6 zz)]∧Ctx G (.row aa z (d.map aJ) 52 3::.row y X (H.map aD) 3 1::.box R [i6 aq,i6 ap,.slice aa d.length z] 39::.row aj ai (I.1.Rating.map aW) 65 2::.row (some ⟨g,0,none⟩) ag (I.1.Gaugings.map aX) 43 4::.box s [.slice V k.length U,i6 x,i6 cm] 68::.box m [.slice aj I.1.Rating.length ai,.slice (some ⟨g,0,none⟩) I.1.Gaugings.length ag] 26::.row bb Z (I.2.1.map aD) 3 1::Lf) w)
   have gd:∀ (zz:Int) a w,cr=.go zz→S37 zz a w→K36 a w:=by
    rintro av a w rfl ⟨hf,hc⟩
    replace hF:=bW hF
    refine g6 _ _ ?_
    refine zS fun K h=>sp 1 hf rfl fun a hf=>?_
    obtain ⟨Y,cu,hF⟩:=aB hF
    refine zC hf aBz rfl (cD (⟨k,x,cm⟩:bC) (-20) 120 bk (hc.pick k5) cu) ?_
    rintro _ w ⟨rfl,hc⟩
    refine ⟨_,rfl,fun a hf=>?_⟩
    refine sp 1 hf rfl fun a hf=>zT h ?_
    refine wp_seq_k fun K39 it=>?_
    obtain ⟨c0,di,hF⟩:=aB hF
    obtain ⟨ab,rfl,c1,da⟩:=gH hc m7 di
    obtain ⟨B,cx,hF⟩:=aB hF
    replace hc:=hc.nilRow 0 0
    refine fI (fun θ=>[⟨none,none,5,pq m⟩,⟨none,none,6,.slice (some ⟨ab,0,none⟩) I.2.1.length Z⟩,⟨none,none,7,pq s⟩,⟨none,none,11,i6 n.1⟩,⟨none,none,13,pq R⟩,⟨none,none,14,.slice y H.length X⟩,⟨none,none,15,i6 af.Day⟩,⟨none,none,16,i6 day⟩,⟨none,none,17,i6 av⟩,⟨none,none,18,i6 Y.1⟩,⟨some 0,none,108,pq m⟩,⟨some 1,none,109,.slice aj I.1.Rating.length ai⟩,⟨some 2,none,110,i6 Y.1⟩,⟨some 3,none,111,.slice (some ⟨ab,0,none⟩) I.2.1.length Z⟩,⟨some 4,none,112,i6 av⟩,⟨some 5,none,113,.pointer (some ⟨ab,av.toNat * 1,none⟩)⟩,⟨some 6,none,114,i6 c0⟩,⟨some 7,none,115,.tuple #[.agg #[i6 B.1.N,i6 B.1.D],i6 B.2]⟩,⟨some 8,none,107,.tuple #[.agg #[i6 B.1.N,i6 B.1.D],i6 B.2]⟩,⟨some 9,none,116,.agg #[i6 B.1.N,i6 B.1.D]⟩,⟨some 10,none,117,i6 B.2⟩,⟨some 11,none,19,.pointer (some ⟨(θ 88).b,0,none⟩)⟩,⟨some 13,none,20,i6 B.2⟩]) (fun E θ=>(bif E 12 then .box (θ 88).b [i6 B.1.N,i6 B.1.D] 46 else bif E 11 then .box (θ 88).b [i6 0,i6 0] 46 else .row none 0 [] 0 0)::.box s [.slice V k.length U,i6 Y.2.1,i6 Y.2.2] 68::.row aa z (d.map aJ) 52 3::.row y X (H.map aD) 3 1::.box R [i6 aq,i6 ap,.slice aa d.length z] 39::.row aj ai (I.1.Rating.map aW) 65 2::.row (some ⟨g,0,none⟩) ag (I.1.Gaugings.map aX) 43 4::.box m [.slice aj I.1.Rating.length ai,.slice (some ⟨g,0,none⟩) I.1.Gaugings.length ag] 26::.row (some ⟨ab,0,none⟩) Z (I.2.1.map aD) 3 1::Lf) [(12,11)] (fun a w=>∃ (bp:Nat),Has 282 a [(5,pq m),(6,.slice (some ⟨ab,0,none⟩) I.2.1.length Z),(7,pq s),(11,i6 n.1),(13,pq R),(14,.slice y H.length X),(15,i6 af.Day),(16,i6 day),(18,i6 Y.1),(19,pq bp),(20,i6 B.2)]∧Ctx G (.box bp [i6 B.1.N,i6 B.1.D] 46::.box s [.slice V k.length U,i6 Y.2.1,i6 Y.2.2] 68::.row aa z (d.map aJ) 52 3::.row y X (H.map aD) 3 1::.box R [i6 aq,i6 ap,.slice aa d.length z] 39::.row aj ai (I.1.Rating.map aW) 65 2::.row (some ⟨g,0,none⟩) ag (I.1.Gaugings.map aX) 43 4::.box m [.slice aj I.1.Rating.length ai,.slice (some ⟨g,0,none⟩) I.1.Gaugings.length ag] 26::.row (some ⟨ab,0,none⟩) Z (I.2.1.map aD) 3 1::Lf) w) aT (by kernel_rfl) (by kernel_rfl) (eZ.of hf ⟨rfl,rfl,rfl,rfl,rfl,rfl,rfl,rfl,rfl,rfl,trivial,trivial,trivial,trivial,trivial,trivial,trivial,trivial,trivial,trivial,trivial,trivial,trivial,trivial⟩) hc ⟨?_,?_,?_,?_,?_,?_,?_,?_,?_,?_,?_,?_,?_,?_,trivial⟩ ?_ ?_
    ·intro E θ a w hD hi hp he hc
     have hf:=he.h0.mT he 0 rfl
     refine zP hf rfl (pFA oQ rfl) fun a hf=>zD θ he hi hf 10 rfl rfl rfl hc
    ·intro E θ a w hD hi hp he hc
     have e0:=hp.o 0 rfl
     have hf:=he.h0.mP he 10 rfl e0
     refine zL hf hc wC m7 rfl fun a w hf hc=>zD θ he hi hf 11 rfl rfl rfl hc
    ·intro E θ a w hD hi hp he hc
     have hf:=he.h0.mT he 9 rfl
     refine sp 1 hf rfl fun a hf=>zD θ he hi hf 12 rfl rfl rfl hc
    ·intro E θ a w hD hi hp he hc
     have hf:=he.h0.mT he 1 rfl
     refine sp 1 hf rfl fun a hf=>zD θ he hi hf 13 rfl rfl rfl hc
    ·intro E θ a w hD hi hp he hc
     have hf:=he.h0.mT he 8 rfl
     refine sp 1 hf rfl fun a hf=>zD θ he hi hf 14 rfl rfl rfl hc
    ·intro E θ a w hD hi hp he hc
     have e3:=hp.o 3 rfl
     have e4:=hp.o 4 rfl
     have hf:=(he.h0.mP he 13 rfl e3).mP he 14 rfl e4
     refine zP hf rfl (pIA Tryz.underlying27 eL rfl rfl c1) fun a hf=>zD θ he hi hf 15 rfl rfl rfl hc
    ·intro E θ a w hD hi hp he hc
     have e5:=hp.o 5 rfl
     have hf:=he.h0.mP he 15 rfl e5
     refine zE hf hc rfl (cE aU rfl (dA (sz:=1) (i:=av.toNat) (j:=0) m8 da rfl)) fun a w hf hc=>zD θ he hi hf 16 rfl rfl rfl hc
    ·intro E θ a w hD hi hp he hc
     have e1:=hp.o 1 rfl
     have e2:=hp.o 2 rfl
     have e6:=hp.o 6 rfl
     have hf:=((he.h0.mP he 11 rfl e1).mP he 12 rfl e2).mP he 16 rfl e6
     refine zQ (v:=.tuple #[.agg #[i6 B.1.N,i6 B.1.D],i6 B.2]) hf hc en_9 rfl (fun w hc=>by obtain ⟨G1,a5,ac,hc,ad⟩:=lend hc k5; exact (uL I.1.Rating Y.1 c0 ac hc cx).mono fun e w h=>⟨h.1,((ad _ _ h.2).unpick k5)⟩) fun a w hf hc=>zD θ he hi hf 17 rfl rfl rfl hc
    ·intro E θ a w hD hi hp he hc
     have e7:=hp.o 7 rfl
     have hf:=he.h0.mP he 17 rfl e7
     refine sp 1 hf rfl fun a hf=>zD θ he hi hf 18 rfl rfl rfl hc
    ·intro E θ a w hD hi hp he hc
     have e8:=hp.o 8 rfl
     have hf:=he.h0.mP he 18 rfl e8
     refine sp 1 hf rfl fun a hf=>zD θ he hi hf 19 rfl rfl rfl hc
    ·intro E θ a w hD hi hp he hc
     have e8:=hp.o 8 rfl
     have hf:=he.h0.mP he 18 rfl e8
     refine sp 1 hf rfl fun a hf=>zD θ he hi hf 20 rfl rfl rfl hc
    ·intro E θ a w hD hi hp he hc
     have bt:=hD.f 0 rfl hi
     try dsimp only at hc
     rw [hi,bt] at hc
     have hf:=he.h0
     refine zA hf hc xE rfl fun ig a w hf hc=>aP ?_
     refine eY ?_
     intro ds u bz
     replace hc:=hc.drop k1
     refine ⟨(qW θ 88 ⟨ig,none,0,(fun _=>(none,0))⟩),he.put hi bz hf rfl [] trivial ⟨qq,qq,qq,qq,qq,qq,qq,qq,qq,qq,qq,qq,qq,qq,qq,qq,qq,qq,qq,qq,qq,qq,qq,trivial⟩,?_⟩
     try dsimp only
     rw [aR E 11,aQ 11 bt rfl]
     exact hc
    ·intro E θ a w hD hi hp he hc
     have e9:=hp.o 9 rfl
     have bg:=hp.o 11 rfl
     try dsimp only at hc
     rw [bg,hi] at hc
     have hf:=(he.h0.mP he 19 rfl e9).mP he 21 rfl bg
     refine zW hf hc tP u0 rfl fun w hc=>zG θ he hi hf rfl ?_
     try dsimp only
     rw [cV 12 bg,aR E 12]
     exact hc
    ·intro E θ a w hD hi hp he hc
     have ax:=hp.o 10 rfl
     have hf:=he.h0.mP he 20 rfl ax
     refine sp 1 hf rfl fun a hf=>zD θ he hi hf 22 rfl rfl rfl hc
    ·intro E θ a w ar he hc
     have hf:=he.h0
     have bg:=ar 11 rfl
     have bt:=ar 12 rfl
     have cb:=ar 13 rfl
     replace hf:=hf.more he 22 rfl (onP cb)
     replace hf:=hf.more he 21 rfl (onP bg)
     replace hf:=hf.more he 9 rfl (onT)
     replace hf:=hf.more he 7 rfl (onT)
     replace hf:=hf.more he 6 rfl (onT)
     replace hf:=hf.more he 5 rfl (onT)
     replace hf:=hf.more he 4 rfl (onT)
     replace hf:=hf.more he 3 rfl (onT)
     replace hf:=hf.more he 2 rfl (onT)
     replace hf:=hf.more he 1 rfl (onT)
     replace hf:=hf.more he 0 rfl (onT)
     try dsimp only at hc
     rw [bg,bt] at hc
     exact ⟨(θ 88).b,hf.kp rfl,hc⟩
    rintro a w ⟨bp,hf,hc⟩
    refine it _ _ ?_
    refine zS fun K h=>zN hf hc vY m7 rfl fun a w hf hc=>sp 1 hf rfl fun a hf=>zP hf rfl (zO rfl rfl) fun a hf=>sp 2 hf rfl fun a hf=>?_
    obtain ⟨J,cs,hF⟩:=aB hF
    refine zQ (v:=.tuple #[.agg #[i6 J.1.Lo,i6 J.1.Hi],i6 J.2]) hf hc en_10 rfl (fun w hc=>by obtain ⟨G1,a5,ac,hc,ad⟩:=lend hc k5; obtain ⟨G2,a3,a6,hc,a4⟩:=lend hc k5; exact (yD I.1 (min n.1 18000) day Y.1 (ac.mono a3) a6 hc cs).mono fun e w h=>⟨h.1,((ad _ _ ((a4 _ _ h.2).unpick k5)).unpick k5)⟩) fun a w hf hc=>sp 3 hf rfl fun a hf=>zA hf hc kX rfl fun an a w hf hc=>zW hf hc cA u0 rfl fun w hc=>sp 1 hf rfl fun a hf=>zT h ?_
    refine wp_seq_k fun K41 gu=>zS fun K h=>sp 3 hf rfl fun a hf=>hY 3 (fun a=>Has 282 a [(5,pq m),(6,.slice (some ⟨ab,0,none⟩) I.2.1.length Z),(7,pq s),(11,i6 n.1),(13,pq R),(14,.slice y H.length X),(15,i6 af.Day),(16,i6 day),(19,pq bp),(20,i6 B.2),(21,pq an),(22,i6 J.2),(127,i6 B.2),(128,.bool (B.2 != 0)),(129,.bool (B.2 != 0)),(132,.bool ((B.2 != 0) || (J.2 != 0)))]) hc ?_ ?_
    ·cases hb:(B.2 != 0)
     ·rw [hb] at hf
      refine sp 3 hf rfl fun a hf=>aP ⟨hf.kp rfl,hc⟩
     ·rw [hb] at hf
      refine stS hf rfl rfl rfl fun a hf=>stS hf rfl rfl rfl fun a hf=>sp 1 hf rfl fun a hf=>aP ⟨hf.kp rfl,hc⟩
    intro a w ⟨hf,hc⟩
    refine sp 1 hf rfl fun a hf=>hY 4 (fun a=>Has 282 a [(5,pq m),(6,.slice (some ⟨ab,0,none⟩) I.2.1.length Z),(7,pq s),(11,i6 n.1),(13,pq R),(14,.slice y H.length X),(15,i6 af.Day),(16,i6 day),(19,pq bp),(20,i6 B.2),(21,pq an),(22,i6 J.2),(127,i6 B.2),(128,.bool (B.2 != 0)),(129,.bool (B.2 != 0)),(132,.bool ((B.2 != 0) || (J.2 != 0))),(133,.bool ((B.2 != 0) || (J.2 != 0))),(137,.bool (((B.2 != 0) || (J.2 != 0)) || (decide (B.1.D < 1))))]) hc ?_ ?_
    ·cases hb:((B.2 != 0) || (J.2 != 0))
     ·rw [hb] at hf
      refine zP hf rfl (pFA lN rfl) fun a hf=>zL hf hc aU m1 rfl fun a w hf hc=>sp 2 hf rfl fun a hf=>aP ⟨hf.kp rfl,hc⟩
     ·rw [hb] at hf
      refine stS hf rfl rfl rfl fun a hf=>stS hf rfl rfl rfl fun a hf=>stS hf rfl rfl rfl fun a hf=>sp 1 hf rfl fun a hf=>aP ⟨hf.kp rfl,hc⟩
    intro a w ⟨hf,hc⟩
    refine sp 1 hf rfl fun a hf=>hY 9 (fun a=>Has 282 a [(5,pq m),(6,.slice (some ⟨ab,0,none⟩) I.2.1.length Z),(7,pq s),(11,i6 n.1),(13,pq R),(14,.slice y H.length X),(15,i6 af.Day),(16,i6 day),(19,pq bp),(20,i6 B.2),(21,pq an),(22,i6 J.2),(127,i6 B.2),(128,.bool (B.2 != 0)),(129,.bool (B.2 != 0)),(132,.bool ((B.2 != 0) || (J.2 != 0))),(133,.bool ((B.2 != 0) || (J.2 != 0))),(137,.bool (((B.2 != 0) || (J.2 != 0)) || (decide (B.1.D < 1)))),(138,.bool (((B.2 != 0) || (J.2 != 0)) || (decide (B.1.D < 1)))),(147,.bool ((((B.2 != 0) || (J.2 != 0)) || (decide (B.1.D < 1))) || (decide (B.1.N < (W (J.1.Lo * B.1.D))))))]) hc ?_ ?_
    ·cases hb:(((B.2 != 0) || (J.2 != 0)) || (decide (B.1.D < 1)))
     ·rw [hb] at hf
      refine zP hf rfl (pFA qD rfl) fun a hf=>zL hf hc aU m1 rfl fun a w hf hc=>zP hf rfl (pFA dS rfl) fun a hf=>zL hf hc aU m0 rfl fun a w hf hc=>zP hf rfl (pFA lN rfl) fun a hf=>zL hf hc aU m1 rfl fun a w hf hc=>sp 3 hf rfl fun a hf=>aP ⟨hf.kp rfl,hc⟩
     ·rw [hb] at hf
      refine stS hf rfl rfl rfl fun a hf=>stS hf rfl rfl rfl fun a hf=>stS hf rfl rfl rfl fun a hf=>stS hf rfl rfl rfl fun a hf=>stS hf rfl rfl rfl fun a hf=>stS hf rfl rfl rfl fun a hf=>stS hf rfl rfl rfl fun a hf=>stS hf rfl rfl rfl fun a hf=>sp 1 hf rfl fun a hf=>aP ⟨hf.kp rfl,hc⟩
    intro a w ⟨hf,hc⟩
    refine sp 1 hf rfl fun a hf=>hY 9 (fun a=>Has 282 a [(5,pq m),(6,.slice (some ⟨ab,0,none⟩) I.2.1.length Z),(7,pq s),(11,i6 n.1),(13,pq R),(14,.slice y H.length X),(15,i6 af.Day),(16,i6 day),(19,pq bp),(20,i6 B.2),(21,pq an),(22,i6 J.2),(127,i6 B.2),(128,.bool (B.2 != 0)),(129,.bool (B.2 != 0)),(132,.bool ((B.2 != 0) || (J.2 != 0))),(133,.bool ((B.2 != 0) || (J.2 != 0))),(137,.bool (((B.2 != 0) || (J.2 != 0)) || (decide (B.1.D < 1)))),(138,.bool (((B.2 != 0) || (J.2 != 0)) || (decide (B.1.D < 1)))),(147,.bool ((((B.2 != 0) || (J.2 != 0)) || (decide (B.1.D < 1))) || (decide (B.1.N < (W (J.1.Lo * B.1.D)))))),(148,.bool ((((B.2 != 0) || (J.2 != 0)) || (decide (B.1.D < 1))) || (decide (B.1.N < (W (J.1.Lo * B.1.D)))))),(157,.bool (((((B.2 != 0) || (J.2 != 0)) || (decide (B.1.D < 1))) || (decide (B.1.N < (W (J.1.Lo * B.1.D))))) || (decide ((W (J.1.Hi * B.1.D)) < B.1.N))))]) hc ?_ ?_
    ·cases hb:((((B.2 != 0) || (J.2 != 0)) || (decide (B.1.D < 1))) || (decide (B.1.N < (W (J.1.Lo * B.1.D)))))
     ·rw [hb] at hf
      refine zP hf rfl (pFA qD rfl) fun a hf=>zL hf hc aU m1 rfl fun a w hf hc=>zP hf rfl (pFA dC rfl) fun a hf=>zL hf hc aU m0 rfl fun a w hf hc=>zP hf rfl (pFA lN rfl) fun a hf=>zL hf hc aU m1 rfl fun a w hf hc=>sp 3 hf rfl fun a hf=>aP ⟨hf.kp rfl,hc⟩
     ·rw [hb] at hf
      refine stS hf rfl rfl rfl fun a hf=>stS hf rfl rfl rfl fun a hf=>stS hf rfl rfl rfl fun a hf=>stS hf rfl rfl rfl fun a hf=>stS hf rfl rfl rfl fun a hf=>stS hf rfl rfl rfl fun a hf=>stS hf rfl rfl rfl fun a hf=>stS hf rfl rfl rfl fun a hf=>sp 1 hf rfl fun a hf=>aP ⟨hf.kp rfl,hc⟩
    intro a w ⟨hf,hc⟩
    refine zT h ?_
    refine zI hf rfl hF ?_ ?_ <;> clear hF <;> intro hF
    ·refine wp_seq_k fun K43 g2=>dE ?_
     refine sp 1 hf rfl fun a hf=>aP ?_
     replace hc:=(((((((((hc.drop k9).drop k8).drop k7).drop k6).drop k5).drop k4).drop k3).drop k2).drop k1).drop k0
     refine g2 _ _ ?_
     refine wp_ret ?_
     refine aO ?_
     refine bU ?_
     refine aO ?_
     refine aO ?_
     have he:=sj hF
     rw [← he] at a7
     replace hF:=dz _ a7
     refine bU ?_
     refine aO ?_
     obtain rfl:=hF
     exact zO1 Tryz.results3 hf rfl ⟨rfl,hc⟩
    ·refine wp_skip ?_
     refine gu _ _ ?_
     refine wp_seq_k fun K44 g5=>dE ?_
     refine zP hf rfl (pFA qD rfl) fun a hf=>zL hf hc aU m1 rfl fun a w hf hc=>zP hf rfl (pFA lN rfl) fun a hf=>zL hf hc aU m1 rfl fun a w hf hc=>?_
     obtain ⟨un,ic,hF⟩:=aB hF
     refine zP hf rfl (aD5 rfl rfl (nC ic)) fun a hf=>sp 1 hf rfl fun a hf=>aP ?_
     replace hc:=hc.drop k1
     refine g5 _ _ ?_
     refine wp_seq_k fun K45 ik=>?_
     have cf:∀ (bj:Int) (br:Int) (b6:Option Addr) (b5:Nat) a w,Has 282 a [(5,pq m),(6,.slice (some ⟨ab,0,none⟩) I.2.1.length Z),(7,pq s),(11,i6 n.1),(13,pq R),(14,.slice b6 H.length b5),(15,i6 af.Day),(16,i6 day),(21,pq an),(23,i6 (W (B.1.N.tdiv B.1.D)))]→Ctx G (.box an [i6 J.1.Lo,i6 J.1.Hi] 41::.box s [.slice V k.length U,i6 Y.2.1,i6 Y.2.2] 68::.row aa z (d.map aJ) 52 3::.row b6 b5 (H.map aD) 3 1::.box R [i6 bj,i6 br,.slice aa d.length z] 39::.row aj ai (I.1.Rating.map aW) 65 2::.row (some ⟨g,0,none⟩) ag (I.1.Gaugings.map aX) 43 4::.box m [.slice aj I.1.Rating.length ai,.slice (some ⟨g,0,none⟩) I.1.Gaugings.length ag] 26::.row (some ⟨ab,0,none⟩) Z (I.2.1.map aD) 3 1::Lf) w→dJ N H day d Y B J bj br=some cc→K45 a w:=by
      repeat (clear hF)
      repeat (clear hc)
      repeat (clear hf)
      intro bj br b6 b5 a w hf hc hF
      unfold dJ at hF
      refine ik _ _ ?_
      refine wp_seq_k fun K46 iv=>dE ?_
      refine sp 2 hf rfl fun a hf=>mY (rows:=([W (B.1.N.tdiv B.1.D)]:List Int).map aD) (vs:=[(0,i6 (W (B.1.N.tdiv B.1.D)))]) hf hc rfl rfl lD rfl ⟨rfl,rfl,rfl,trivial⟩ rfl rfl fun i4 a w hf hc=>?_
      obtain ⟨iy,cy,hF⟩:=aB hF
      refine nT (xs:=H) (ys:=([W (B.1.N.tdiv B.1.D)]:List Int)) hf hc rfl rfl lD rfl rfl rfl rfl rfl bD (iL hc m0) (fun _ _=>u4) (by simpa using eR cy) fun bi bn a w hf hc=>sp 1 hf rfl fun a hf=>aP ?_
      replace hc:=hc.drop k0
      refine iv _ _ ?_
      obtain ⟨t,cv,hF⟩:=aB hF
      obtain ⟨i0,ct,hF⟩:=aB hF
      replace hc:=hc.nilRow 0 0
      refine fI (fun θ=>[⟨none,none,5,pq m⟩,⟨none,none,6,.slice (some ⟨ab,0,none⟩) I.2.1.length Z⟩,⟨none,none,7,pq s⟩,⟨none,none,11,i6 n.1⟩,⟨none,none,13,pq R⟩,⟨none,none,14,.slice bi ((H++[W (B.1.N.tdiv B.1.D)]).length) bn⟩,⟨none,none,15,i6 af.Day⟩,⟨none,none,16,i6 day⟩,⟨none,none,21,pq an⟩,⟨some 0,none,193,.pointer (some ⟨R,2,none⟩)⟩,⟨some 1,none,194,.slice aa d.length z⟩,⟨some 2,none,195,pq an⟩,⟨some 3,none,196,i6 J.1.Lo⟩,⟨some 4,none,197,.pointer (some ⟨an,1,none⟩)⟩,⟨some 5,none,198,i6 J.1.Hi⟩,⟨some 6,none,199,.agg #[.bool t.Known,i6 t.Flow.Lo,i6 t.Flow.Hi]⟩,⟨some 7,none,200,.slice (some ⟨(θ 56).b,0,none⟩) 1 1⟩,⟨some 8,none,201,.slice ((θ 64).p) ((d++[t]).length) ((θ 64).c)⟩,⟨some 9,none,202,.pointer (some ⟨R,2,none⟩)⟩]) (fun E θ=>(bif E 7 then .row (some ⟨(θ 56).b,0,none⟩) 1 (([t]:List aK).map aJ) 52 3 else .row none 0 [] 0 0)::.box an [i6 J.1.Lo,i6 J.1.Hi] 41::.box s [.slice V k.length U,i6 Y.2.1,i6 Y.2.2] 68::(bif E 8 then .row ((θ 64).p) ((θ 64).c) ((d++[t]).map aJ) 52 3 else .row aa z (d.map aJ) 52 3)::.row bi bn ((H++[W (B.1.N.tdiv B.1.D)]).map aD) 3 1::(bif E 10 then .box R [i6 bj,i6 br,.slice ((θ 64).p) ((d++[t]).length) ((θ 64).c)] 39 else .box R [i6 bj,i6 br,.slice aa d.length z] 39)::.row aj ai (I.1.Rating.map aW) 65 2::.row (some ⟨g,0,none⟩) ag (I.1.Gaugings.map aX) 43 4::.box m [.slice aj I.1.Rating.length ai,.slice (some ⟨g,0,none⟩) I.1.Gaugings.length ag] 26::.row (some ⟨ab,0,none⟩) Z (I.2.1.map aD) 3 1::Lf) [(10,1),(10,8)] (fun a w=>∃ (cq:Nat) (bx:Option Addr) (bv:Nat),Has 282 a [(5,pq m),(6,.slice (some ⟨ab,0,none⟩) I.2.1.length Z),(7,pq s),(11,i6 n.1),(13,pq R),(14,.slice bi ((H++[W (B.1.N.tdiv B.1.D)]).length) bn),(15,i6 af.Day),(16,i6 day)]∧Ctx G (.row (some ⟨cq,0,none⟩) 1 (([t]:List aK).map aJ) 52 3::.box an [i6 J.1.Lo,i6 J.1.Hi] 41::.box s [.slice V k.length U,i6 Y.2.1,i6 Y.2.2] 68::.row bx bv ((d++[t]).map aJ) 52 3::.row bi bn ((H++[W (B.1.N.tdiv B.1.D)]).map aD) 3 1::.box R [i6 bj,i6 br,.slice bx ((d++[t]).length) bv] 39::.row aj ai (I.1.Rating.map aW) 65 2::.row (some ⟨g,0,none⟩) ag (I.1.Gaugings.map aX) 43 4::.box m [.slice aj I.1.Rating.length ai,.slice (some ⟨g,0,none⟩) I.1.Gaugings.length ag] 26::.row (some ⟨ab,0,none⟩) Z (I.2.1.map aD) 3 1::Lf) w) aT (by kernel_rfl) (by kernel_rfl) (eZ.of hf ⟨rfl,rfl,rfl,rfl,rfl,rfl,rfl,rfl,rfl,trivial,trivial,trivial,trivial,trivial,trivial,trivial,trivial,trivial,trivial,trivial⟩) hc ⟨?_,?_,?_,?_,?_,?_,?_,?_,?_,?_,?_,trivial⟩ ?_ ?_
      ·intro E θ a w hD hi hp he hc
       have hf:=he.h0.mT he 4 rfl
       refine zP hf rfl (pFA kZ rfl) fun a hf=>zD θ he hi hf 9 rfl rfl rfl hc
      ·intro E θ a w hD hi hp he hc
       have e0:=hp.o 0 rfl
       have ax:=hD.f 0 rfl hi
       try dsimp only at hc
       rw [ax] at hc
       have hf:=he.h0.mP he 9 rfl e0
       refine zL hf hc sN m5 rfl fun a w hf hc=>zD θ he hi hf 10 rfl rfl rfl ?_
       try dsimp only
       rw [aQ 1 ax rfl]
       exact hc
      ·intro E θ a w hD hi hp he hc
       have hf:=he.h0.mT he 8 rfl
       refine zP hf rfl (pFA dS rfl) fun a hf=>zD θ he hi hf 11 rfl rfl rfl hc
      ·intro E θ a w hD hi hp he hc
       have e2:=hp.o 2 rfl
       have hf:=he.h0.mP he 11 rfl e2
       refine zL hf hc aU m1 rfl fun a w hf hc=>zD θ he hi hf 12 rfl rfl rfl hc
      ·intro E θ a w hD hi hp he hc
       have hf:=he.h0.mT he 8 rfl
       refine zP hf rfl (pFA dC rfl) fun a hf=>zD θ he hi hf 13 rfl rfl rfl hc
      ·intro E θ a w hD hi hp he hc
       have e4:=hp.o 4 rfl
       have hf:=he.h0.mP he 13 rfl e4
       refine zL hf hc aU m1 rfl fun a w hf hc=>zD θ he hi hf 14 rfl rfl rfl hc
      ·intro E θ a w hD hi hp he hc
       have e3:=hp.o 3 rfl
       have e5:=hp.o 5 rfl
       have hf:=(he.h0.mP he 12 rfl e3).mP he 14 rfl e5
       refine zQ (v:=.agg #[.bool t.Known,i6 t.Flow.Lo,i6 t.Flow.Hi]) hf hc aIo rfl (fun w hc=>qU J.1.Lo J.1.Hi hc cv) fun a w hf hc=>zD θ he hi hf 15 rfl rfl rfl hc
      ·intro E θ a w hD hi hp he hc
       have e6:=hp.o 6 rfl
       try dsimp only at hc
       rw [hi] at hc
       have hf:=he.h0.mP he 15 rfl e6
       refine mY (rows:=([t]:List aK).map aJ) (vs:=[(0,.agg #[.bool t.Known,i6 t.Flow.Lo,i6 t.Flow.Hi])]) hf hc rfl rfl aH2 rfl ⟨rfl,rfl,rfl,trivial⟩ rfl rfl fun db a w hf hc=>aP ?_
       refine eY ?_
       intro ds u bz
       replace hc:=hc.drop k1
       refine ⟨(qW θ 56 ⟨db,none,0,(fun _=>(none,0))⟩),he.put hi bz hf rfl [] trivial ⟨qq,qq,qq,qq,qq,qq,qq,qq,qq,qq,qq,qq,qq,qq,qq,qq,qq,qq,qq,trivial⟩,?_⟩
       try dsimp only
       rw [aR E 7]
       exact hc
      ·intro E θ a w hD hi hp he hc
       have e1:=hp.o 1 rfl
       have e7:=hp.o 7 rfl
       have ax:=hD.f 1 rfl hi
       try dsimp only at hc
       rw [e7,hi,ax] at hc
       have hf:=(he.h0.mP he 10 rfl e1).mP he 16 rfl e7
       refine nT (xs:=d) (ys:=([t]:List aK)) hf hc rfl rfl aH2 rfl rfl rfl rfl rfl vS (iL hc m0) (fun _ _=>u3) (by simpa using eR ct) fun dg gj a w hf hc=>aP ?_
       refine eY ?_
       intro ds u bz
       refine ⟨(qW θ 64 ⟨0,dg,gj,(fun _=>(none,0))⟩),he.put hi bz hf rfl [] trivial ⟨qq,qq,qq,qq,qq,qq,qq,qq,qq,qq,qq,qq,qq,qq,qq,qq,qq,qq,qq,trivial⟩,?_⟩
       try dsimp only
       rw [cV 8 e7,aR E 8,aQ 8 ax rfl]
       exact hc
      ·intro E θ a w hD hi hp he hc
       have hf:=he.h0.mT he 4 rfl
       refine zP hf rfl (pFA kZ rfl) fun a hf=>zD θ he hi hf 18 rfl rfl rfl hc
      ·intro E θ a w hD hi hp he hc
       have e8:=hp.o 8 rfl
       have e9:=hp.o 9 rfl
       try dsimp only at hc
       rw [hi] at hc
       have hf:=(he.h0.mP he 17 rfl e8).mP he 18 rfl e9
       refine zW hf hc sz_37 u5 rfl fun w hc=>zG θ he hi hf rfl ?_
       try dsimp only
       rw [aR E 10]
       exact hc
      ·intro E θ a w ar he hc
       have hf:=he.h0
       have e7:=ar 7 rfl
       have e8:=ar 8 rfl
       have ax:=ar 10 rfl
       replace hf:=hf.more he 7 rfl (onT)
       replace hf:=hf.more he 6 rfl (onT)
       replace hf:=hf.more he 5 rfl (onT)
       replace hf:=hf.more he 4 rfl (onT)
       replace hf:=hf.more he 3 rfl (onT)
       replace hf:=hf.more he 2 rfl (onT)
       replace hf:=hf.more he 1 rfl (onT)
       replace hf:=hf.more he 0 rfl (onT)
       try dsimp only at hc
       rw [e7,e8,ax] at hc
       exact ⟨(θ 56).b,(θ 64).p,(θ 64).c,hf.kp rfl,hc⟩
      rintro a w ⟨cq,bx,bv,hf,hc⟩
      replace hc:=(hc.drop k1).drop k0
      refine ia _ _ ?_
      refine dE ?_
      refine sp 3 hf rfl fun a hf=>aP ?_
      replace hc:=(((((hc.pick k0).pick k5).pick k5).pick k5).pick k5).pick k5
      exact gf ((H++[W (B.1.N.tdiv B.1.D)]),W (day + 1),Y.2.1,Y.2.2,bj,br,(d++[t])) _ _ (sj hF).symm ⟨(some ⟨ab,0,none⟩),Z,bi,bn,bx,bv,hf.kp rfl,hc⟩
     refine zS fun K h=>sp 1 hf rfl fun a hf=>zP hf rfl (bM Tryz.underlying27 rfl) fun a hf=>sp 1 hf rfl fun a hf=>zT h ?_
     refine zS fun K h=>sp 2 hf rfl fun a hf=>zT h ?_
     refine zI hf rfl hF ?_ ?_ <;> clear hF <;> intro hF
     ·obtain ⟨bm,dy,hF⟩:=aB hF
      obtain ⟨ba,rfl,c8,d8⟩:=gH hc m3 dy
      obtain ⟨bs,ga,hF⟩:=aB hF
      obtain ⟨dj,c5⟩:=kD hc m3 ga
      refine fI (fun θ=>(⟨none,none,5,pq m⟩::⟨none,none,6,.slice (some ⟨ab,0,none⟩) I.2.1.length Z⟩::⟨none,none,7,pq s⟩::⟨none,none,11,i6 n.1⟩::⟨none,none,13,pq R⟩::⟨none,none,14,.slice (some ⟨ba,0,none⟩) H.length X⟩::⟨none,none,15,i6 af.Day⟩::⟨none,none,16,i6 day⟩::⟨none,none,21,pq an⟩::⟨none,none,23,i6 (W (B.1.N.tdiv B.1.D))⟩::⟨none,none,24,i6 ((H.length:Nat):Int)⟩::⟨some 0,none,167,pq R⟩::⟨some 1,none,168,i6 aq⟩::⟨some 2,none,169,i6 (W (B.1.N.tdiv B.1.D))⟩::⟨some 3,none,170,.slice (some ⟨ba,0,none⟩) H.length X⟩::⟨some 4,none,171,i6 ((H.length:Nat):Int)⟩::⟨some 5,none,172,i6 (W (((H.length:Nat):Int) - 1))⟩::⟨some 6,none,173,.pointer (some ⟨ba,(W (((H.length:Nat):Int) - 1)).toNat * 1,none⟩)⟩::⟨some 7,none,174,i6 bm⟩::⟨some 8,none,175,i6 (W ((W (B.1.N.tdiv B.1.D)) - bm))⟩::⟨some 9,none,176,i6 (max aq (W ((W (B.1.N.tdiv B.1.D)) - bm)))⟩::⟨some 10,none,177,.pointer (some ⟨R,1,none⟩)⟩::⟨some 11,none,178,i6 ap⟩::⟨some 12,none,179,.slice (some ⟨ba,0,none⟩) H.length X⟩::⟨some 13,none,180,i6 ((H.length:Nat):Int)⟩::⟨some 14,none,181,i6 (W (((H.length:Nat):Int) - 1))⟩::⟨some 15,none,182,.pointer (some ⟨ba,(W (((H.length:Nat):Int) - 1)).toNat * 1,none⟩)⟩::⟨some 16,none,183,i6 bs⟩::⟨some 17,none,184,i6 (W (B.1.N.tdiv B.1.D))⟩::⟨some 18,none,185,i6 (W (bs - (W (B.1.N.tdiv B.1.D))))⟩::⟨some 19,none,186,i6 (max ap (W (bs - (W (B.1.N.tdiv B.1.D)))))⟩::⟨some 20,none,187,pq R⟩::⟨some 22,none,188,.pointer (some ⟨R,1,none⟩)⟩::[])) (fun E θ=>.box an [i6 J.1.Lo,i6 J.1.Hi] 41::.box s [.slice V k.length U,i6 Y.2.1,i6 Y.2.2] 68::.row aa z (d.map aJ) 52 3::.row (some ⟨ba,0,none⟩) X (H.map aD) 3 1::(bif E 23 then .box R [i6 (max aq (W ((W (B.1.N.tdiv B.1.D)) - bm))),i6 (max ap (W (bs - (W (B.1.N.tdiv B.1.D))))),.slice aa d.length z] 39 else bif E 21 then .box R [i6 (max aq (W ((W (B.1.N.tdiv B.1.D)) - bm))),i6 ap,.slice aa d.length z] 39 else .box R [i6 aq,i6 ap,.slice aa d.length z] 39)::.row aj ai (I.1.Rating.map aW) 65 2::.row (some ⟨g,0,none⟩) ag (I.1.Gaugings.map aX) 43 4::.box m [.slice aj I.1.Rating.length ai,.slice (some ⟨g,0,none⟩) I.1.Gaugings.length ag] 26::.row (some ⟨ab,0,none⟩) Z (I.2.1.map aD) 3 1::Lf) [(21,1),(23,1),(21,11),(23,11),(23,21)] (fun a w=>Has 282 a [(5,pq m),(6,.slice (some ⟨ab,0,none⟩) I.2.1.length Z),(7,pq s),(11,i6 n.1),(13,pq R),(14,.slice (some ⟨ba,0,none⟩) H.length X),(15,i6 af.Day),(16,i6 day),(21,pq an),(23,i6 (W (B.1.N.tdiv B.1.D)))]∧Ctx G (.box an [i6 J.1.Lo,i6 J.1.Hi] 41::.box s [.slice V k.length U,i6 Y.2.1,i6 Y.2.2] 68::.row aa z (d.map aJ) 52 3::.row (some ⟨ba,0,none⟩) X (H.map aD) 3 1::.box R [i6 (max aq (W ((W (B.1.N.tdiv B.1.D)) - bm))),i6 (max ap (W (bs - (W (B.1.N.tdiv B.1.D))))),.slice aa d.length z] 39::.row aj ai (I.1.Rating.map aW) 65 2::.row (some ⟨g,0,none⟩) ag (I.1.Gaugings.map aX) 43 4::.box m [.slice aj I.1.Rating.length ai,.slice (some ⟨g,0,none⟩) I.1.Gaugings.length ag] 26::.row (some ⟨ab,0,none⟩) Z (I.2.1.map aD) 3 1::Lf) w) aT (by kernel_rfl) (by kernel_rfl) (eZ.of hf ⟨rfl,rfl,rfl,rfl,rfl,rfl,rfl,rfl,rfl,rfl,rfl,trivial,trivial,trivial,trivial,trivial,trivial,trivial,trivial,trivial,trivial,trivial,trivial,trivial,trivial,trivial,trivial,trivial,trivial,trivial,trivial,trivial,trivial,trivial⟩) hc ⟨?_,?_,?_,?_,?_,?_,?_,?_,?_,?_,?_,?_,?_,?_,?_,?_,?_,?_,?_,?_,?_,?_,?_,?_,trivial⟩ ?_ ?_
      ·intro E θ a w hD hi hp he hc
       have hf:=he.h0.mT he 4 rfl
       refine zP hf rfl (pFA sV rfl) fun a hf=>zD θ he hi hf 11 rfl rfl rfl hc
      ·intro E θ a w hD hi hp he hc
       have e0:=hp.o 0 rfl
       have a2:=hD.f 0 rfl hi
       have a0:=hD.f 1 rfl hi
       try dsimp only at hc
       rw [a2,a0] at hc
       have hf:=he.h0.mP he 11 rfl e0
       refine zL hf hc aU m4 rfl fun a w hf hc=>zD θ he hi hf 12 rfl rfl rfl ?_
       try dsimp only
       rw [aQ 1 a2 rfl,aQ 1 a0 rfl]
       exact hc
      ·intro E θ a w hD hi hp he hc
       have hf:=he.h0.mT he 9 rfl
       refine sp 1 hf rfl fun a hf=>zD θ he hi hf 13 rfl rfl rfl hc
      ·intro E θ a w hD hi hp he hc
       have hf:=he.h0.mT he 5 rfl
       refine sp 1 hf rfl fun a hf=>zD θ he hi hf 14 rfl rfl rfl hc
      ·intro E θ a w hD hi hp he hc
       have hf:=he.h0.mT he 10 rfl
       refine sp 1 hf rfl fun a hf=>zD θ he hi hf 15 rfl rfl rfl hc
      ·intro E θ a w hD hi hp he hc
       have e4:=hp.o 4 rfl
       have hf:=he.h0.mP he 15 rfl e4
       refine sp 1 hf rfl fun a hf=>zD θ he hi hf 16 rfl rfl rfl hc
      ·intro E θ a w hD hi hp he hc
       have e3:=hp.o 3 rfl
       have e5:=hp.o 5 rfl
       have hf:=(he.h0.mP he 14 rfl e3).mP he 16 rfl e5
       refine zP hf rfl (pIA Tryz.underlying27 eL rfl rfl c8) fun a hf=>zD θ he hi hf 17 rfl rfl rfl hc
      ·intro E θ a w hD hi hp he hc
       have e6:=hp.o 6 rfl
       have hf:=he.h0.mP he 17 rfl e6
       refine zE hf hc rfl (cE aU rfl (dA (sz:=1) (i:=(W (((H.length:Nat):Int) - 1)).toNat) (j:=0) m3 d8 rfl)) fun a w hf hc=>zD θ he hi hf 18 rfl rfl rfl hc
      ·intro E θ a w hD hi hp he hc
       have e2:=hp.o 2 rfl
       have e7:=hp.o 7 rfl
       have hf:=(he.h0.mP he 13 rfl e2).mP he 18 rfl e7
       refine sp 1 hf rfl fun a hf=>zD θ he hi hf 19 rfl rfl rfl hc
      ·intro E θ a w hD hi hp he hc
       have e1:=hp.o 1 rfl
       have e8:=hp.o 8 rfl
       have hf:=(he.h0.mP he 12 rfl e1).mP he 19 rfl e8
       refine zP hf rfl (xH rfl rfl) fun a hf=>zD θ he hi hf 20 rfl rfl rfl hc
      ·intro E θ a w hD hi hp he hc
       have hf:=he.h0.mT he 4 rfl
       refine zP hf rfl (pFA tF rfl) fun a hf=>zD θ he hi hf 21 rfl rfl rfl hc
      ·intro E θ a w hD hi hp he hc
       have ax:=hp.o 10 rfl
       have a2:=hD.f 2 rfl hi
       have a0:=hD.f 3 rfl hi
       try dsimp only at hc
       rw [a2,a0] at hc
       have hf:=he.h0.mP he 21 rfl ax
       refine zL hf hc aU m4 rfl fun a w hf hc=>zD θ he hi hf 22 rfl rfl rfl ?_
       try dsimp only
       rw [aQ 11 a2 rfl,aQ 11 a0 rfl]
       exact hc
      ·intro E θ a w hD hi hp he hc
       have hf:=he.h0.mT he 5 rfl
       refine sp 1 hf rfl fun a hf=>zD θ he hi hf 23 rfl rfl rfl hc
      ·intro E θ a w hD hi hp he hc
       have hf:=he.h0.mT he 10 rfl
       refine sp 1 hf rfl fun a hf=>zD θ he hi hf 24 rfl rfl rfl hc
      ·intro E θ a w hD hi hp he hc
       have cb:=hp.o 13 rfl
       have hf:=he.h0.mP he 24 rfl cb
       refine sp 1 hf rfl fun a hf=>zD θ he hi hf 25 rfl rfl rfl hc
      ·intro E θ a w hD hi hp he hc
       have bt:=hp.o 12 rfl
       have gv:=hp.o 14 rfl
       have hf:=(he.h0.mP he 23 rfl bt).mP he 25 rfl gv
       refine zP hf rfl (pIA Tryz.underlying27 eL rfl rfl dj) fun a hf=>zD θ he hi hf 26 rfl rfl rfl hc
      ·intro E θ a w hD hi hp he hc
       have ix:=hp.o 15 rfl
       have hf:=he.h0.mP he 26 rfl ix
       refine zE hf hc rfl (cE aU rfl (dA (sz:=1) (i:=(W (((H.length:Nat):Int) - 1)).toNat) (j:=0) m3 c5 rfl)) fun a w hf hc=>zD θ he hi hf 27 rfl rfl rfl hc
      ·intro E θ a w hD hi hp he hc
       have hf:=he.h0.mT he 9 rfl
       refine sp 1 hf rfl fun a hf=>zD θ he hi hf 28 rfl rfl rfl hc
      ·intro E θ a w hD hi hp he hc
       have ii:=hp.o 16 rfl
       have ip:=hp.o 17 rfl
       have hf:=(he.h0.mP he 27 rfl ii).mP he 28 rfl ip
       refine sp 1 hf rfl fun a hf=>zD θ he hi hf 29 rfl rfl rfl hc
      ·intro E θ a w hD hi hp he hc
       have bg:=hp.o 11 rfl
       have gz:=hp.o 18 rfl
       have hf:=(he.h0.mP he 22 rfl bg).mP he 29 rfl gz
       refine zP hf rfl (xH rfl rfl) fun a hf=>zD θ he hi hf 30 rfl rfl rfl hc
      ·intro E θ a w hD hi hp he hc
       have hf:=he.h0.mT he 4 rfl
       refine zP hf rfl (pFA sV rfl) fun a hf=>zD θ he hi hf 31 rfl rfl rfl hc
      ·intro E θ a w hD hi hp he hc
       have e9:=hp.o 9 rfl
       have ij:=hp.o 20 rfl
       have a0:=hD.f 4 rfl hi
       try dsimp only at hc
       rw [hi,a0] at hc
       have hf:=(he.h0.mP he 20 rfl e9).mP he 31 rfl ij
       refine zW hf hc eL u4 rfl fun w hc=>zG θ he hi hf rfl ?_
       try dsimp only
       rw [aR E 21,aQ 21 a0 rfl]
       exact hc
      ·intro E θ a w hD hi hp he hc
       have hf:=he.h0.mT he 4 rfl
       refine zP hf rfl (pFA tF rfl) fun a hf=>zD θ he hi hf 32 rfl rfl rfl hc
      ·intro E θ a w hD hi hp he hc
       have g8:=hp.o 19 rfl
       have g0:=hp.o 22 rfl
       have a2:=hp.o 21 rfl
       try dsimp only at hc
       rw [a2,hi] at hc
       have hf:=(he.h0.mP he 30 rfl g8).mP he 32 rfl g0
       refine zW hf hc eL u4 rfl fun w hc=>zG θ he hi hf rfl ?_
       try dsimp only
       rw [cV 23 a2,aR E 23]
       exact hc
      ·intro E θ a w ar he hc
       have hf:=he.h0
       have a2:=ar 21 rfl
       have a0:=ar 23 rfl
       replace hf:=hf.more he 9 rfl (onT)
       replace hf:=hf.more he 8 rfl (onT)
       replace hf:=hf.more he 7 rfl (onT)
       replace hf:=hf.more he 6 rfl (onT)
       replace hf:=hf.more he 5 rfl (onT)
       replace hf:=hf.more he 4 rfl (onT)
       replace hf:=hf.more he 3 rfl (onT)
       replace hf:=hf.more he 2 rfl (onT)
       replace hf:=hf.more he 1 rfl (onT)
       replace hf:=hf.more he 0 rfl (onT)
       try dsimp only at hc
       rw [a2,a0] at hc
       exact ⟨hf.kp rfl,hc⟩
      rintro a w ⟨hf,hc⟩
      exact cf (max aq (W ((W (B.1.N.tdiv B.1.D)) - bm))) (max ap (W (bs - (W (B.1.N.tdiv B.1.D))))) (some ⟨ba,0,none⟩) X _ _  (hf.kp rfl) hc hF
     ·refine wp_skip ?_
      exact cf aq ap y X _ _  (hf.kp rfl) hc hF
   have i2:∀ r,cr=.out r→r=cc:=by
    rintro r rfl
    exact sj hF
   refine dO N (dH (S:=S37) (x:=cr) ?_ N 0 _ _ ⟨hf.kp rfl,hc⟩ d5)
   clear hF hf hc
   rintro av iz a w KB37 ⟨hf,hc⟩ hF b3 dm
   unfold cS at hF
   refine wp_seq_k fun K49 gx=>zS fun K h=>sp 2 hf rfl fun a hf=>zP hf rfl (pFA jQ rfl) fun a hf=>zL hf hc qK m6 rfl fun a w hf hc=>zP hf rfl (bM Tryz.underlying24 rfl) fun a hf=>sp 2 hf rfl fun a hf=>?_
   obtain ⟨g7,cg,hF⟩:=aB hF
   refine hY 10 (fun a=>Has 282 a [(5,pq m),(6,.slice bb I.2.1.length Z),(7,pq s),(11,i6 n.1),(13,pq R),(14,.slice y H.length X),(15,i6 af.Day),(16,i6 day),(17,i6 av),(86,i6 av),(87,i6 (W (av + 1))),(88,.pointer (some ⟨m,1,none⟩)),(89,.slice (some ⟨g,0,none⟩) I.1.Gaugings.length ag),(90,i6 ((I.1.Gaugings.length:Nat):Int)),(91,.bool (decide ((W (av + 1)) < ((I.1.Gaugings.length:Nat):Int)))),(92,.bool (decide ((W (av + 1)) < ((I.1.Gaugings.length:Nat):Int)))),(102,.bool g7)]) hc ?_ ?_
   ·cases hb:(decide ((W (av + 1)) < ((I.1.Gaugings.length:Nat):Int)))
    ·rw [hb] at hf
     have hF:=nJ hb cg
     obtain rfl:=sj hF
     refine stS hf rfl rfl rfl fun a hf=>stS hf rfl rfl rfl fun a hf=>stS hf rfl rfl rfl fun a hf=>stS hf rfl rfl rfl fun a hf=>stS hf rfl rfl rfl fun a hf=>stS hf rfl rfl rfl fun a hf=>stS hf rfl rfl rfl fun a hf=>stS hf rfl rfl rfl fun a hf=>stS hf rfl rfl rfl fun a hf=>sp 1 hf rfl fun a hf=>aP ⟨hf.kp rfl,hc⟩
    ·rw [hb] at hf
     have hF:=lF hb cg
     refine zP hf rfl (pFA jQ rfl) fun a hf=>zL hf hc qK m6 rfl fun a w hf hc=>sp 2 hf rfl fun a hf=>?_
     obtain ⟨i8,d6,hF⟩:=aB hF
     obtain ⟨c3,gc⟩:=kD hc m4 d6
     refine zP hf rfl (pIA Tryz.underlying24 rK rfl rfl c3) fun a hf=>zP hf rfl (pFA oP rfl) fun a hf=>zE hf hc rfl (cE aU rfl (dA (sz:=4) (i:=(W (av + 1)).toNat) (j:=0) m4 gc rfl)) fun a w hf hc=>sp 3 hf rfl fun a hf=>?_
     obtain rfl:=sj hF
     exact aP ⟨hf.kp rfl,hc⟩
   intro a w ⟨hf,hc⟩
   refine zT h ?_
   refine zI hf rfl hF ?_ ?_ <;> clear hF <;> intro hF
   ·refine wp_skip ?_
    refine gx _ _ ?_
    refine mA fun K51 gr=>wp_block ?_
    refine dE ?_
    refine sp 3 hf rfl fun a hf=>aP ?_
    refine gr _ _ ?_
    exact dm (W (av + 1)) _ _ (sj hF).symm ⟨hf.kp rfl,hc⟩
   ·refine wp_exit ?_
    refine aV ?_
    refine aV ?_
    have he:=sj hF
    rw [← he] at b3
    refine eW ?_
    exact gd _ _ _ b3 ⟨hf.kp rfl,hc⟩
  ·refine wp_exit ?_
   refine aV ?_
   refine aV ?_
   have he:=sj hF
   rw [← he] at a7
   refine eW ?_
   exact d9 _ _ _ a7 ⟨bb,Z,y,X,aa,z,hf.kp rfl,hc⟩

end Go.Nilo
